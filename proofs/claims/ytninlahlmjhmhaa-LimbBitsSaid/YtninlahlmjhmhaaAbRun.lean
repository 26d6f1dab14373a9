import Derived.Test.YtninlahlmjhmhaaAbCall
import Derived.Carry
namespace Go.Ab

/-! ## The abstract run as a relation: code, with enough fuel -/
def Ru (X : Cx) (hc : HOrc) (N : Nat) (c : Code) (s : St) (x : AExit) (s' : St) : Prop := ∃ n, runC X hc N n c s = some (x, s')

section
variable {X : Cx} {hc : HOrc} {N : Nat}

theorem runC_mono : ∀ (n m : Nat) (c : Code) (s : St) (r : AExit × St), n ≤ m → runC X hc N n c s = some r → runC X hc N m c s = some r := by
  intro n
  induction n with
  | zero => intro m c s r _ h; simp [runC] at h
  | succ n ih =>
    intro m c s r hm h
    obtain ⟨m, rfl⟩ : ∃ k, m = k + 1 := ⟨m - 1, by omega⟩
    have hm : n ≤ m := by omega
    cases c with
    | seq c1 c2 =>
      simp only [runC, Option.bind_eq_some_iff, Prod.exists] at h ⊢
      obtain ⟨x1, s1, h1, h2⟩ := h
      refine ⟨x1, s1, ih m c1 s _ hm h1, ?_⟩
      cases x1 with
      | normal => exact ih m c2 s1 r hm h2
      | ret => exact h2
      | exit i => exact h2
    | cond cnd c1 c2 =>
      simp only [runC] at h ⊢
      split at h
      · rename_i t ht
        cases t with
        | true => exact ih m c1 s r hm h
        | false => exact ih m c2 s r hm h
      · cases h
    | block id b =>
      simp only [runC, Option.map_eq_some_iff, Prod.exists] at h ⊢
      obtain ⟨x1, s1, h1, h2⟩ := h
      exact ⟨x1, s1, ih m b s _ hm h1, h2⟩
    | loop b =>
      simp only [runC, Option.bind_eq_some_iff, Prod.exists] at h ⊢
      obtain ⟨x1, s1, h1, h2⟩ := h
      refine ⟨x1, s1, ih m b s _ hm h1, ?_⟩
      cases x1 with
      | normal => exact ih m (.loop b) s1 r hm h2
      | ret => exact h2
      | exit i => exact h2
    | _ => simpa only [runC] using h

theorem Ru.of {n : Nat} {c : Code} {s s' : St} {x : AExit} (h : runC X hc N n c s = some (x, s')) : Ru X hc N c s x s' := ⟨n, h⟩
theorem Ru.skip {s : St} : Ru X hc N .skip s .normal s := ⟨1, rfl⟩
theorem Ru.ret {s : St} : Ru X hc N .ret s .ret s := ⟨1, rfl⟩
theorem Ru.exit {s : St} {i : Nat} : Ru X hc N (.exit i) s (.exit i) s := ⟨1, rfl⟩
theorem Ru.region {id : Nat} {ops : Array Oper} {draw : Bool} {s s' : St} (ho : (!draw || orderOk X.pf ops) = true) (h : runL X hc ops N ops.toList s = some s') : Ru X hc N (.region id ops draw) s .normal s' :=
  ⟨1, by simp only [runC, ho, cond_true, h, Option.map_some]⟩
theorem Ru.seq {a b : Code} {s s1 s2 : St} {x : AExit} (h1 : Ru X hc N a s .normal s1) (h2 : Ru X hc N b s1 x s2) : Ru X hc N (.seq a b) s x s2 := by
  obtain ⟨n, h1⟩ := h1
  obtain ⟨m, h2⟩ := h2
  refine ⟨max n m + 1, ?_⟩
  simp only [runC, runC_mono n (max n m) a s _ (Nat.le_max_left _ _) h1, Option.bind_some]
  exact runC_mono m (max n m) b s1 _ (Nat.le_max_right _ _) h2
theorem Ru.seq_ret {a b : Code} {s s1 : St} (h1 : Ru X hc N a s .ret s1) : Ru X hc N (.seq a b) s .ret s1 := by
  obtain ⟨n, h1⟩ := h1
  exact ⟨n + 1, by simp only [runC, h1, Option.bind_some]⟩
theorem Ru.seq_exit {a b : Code} {s s1 : St} {i : Nat} (h1 : Ru X hc N a s (.exit i) s1) : Ru X hc N (.seq a b) s (.exit i) s1 := by
  obtain ⟨n, h1⟩ := h1
  exact ⟨n + 1, by simp only [runC, h1, Option.bind_some]⟩
theorem Ru.cond_t {c : Operand} {a b : Code} {s s' : St} {x : AExit} {t : Bool} (he : evo s.env c = some (.bool t)) (ht : t = true) (h : Ru X hc N a s x s') : Ru X hc N (.cond c a b) s x s' := by
  obtain ⟨n, h⟩ := h
  subst ht
  exact ⟨n + 1, by simp only [runC, he, cond_true, h]⟩
theorem Ru.cond_f {c : Operand} {a b : Code} {s s' : St} {x : AExit} {t : Bool} (he : evo s.env c = some (.bool t)) (ht : t = false) (h : Ru X hc N b s x s') : Ru X hc N (.cond c a b) s x s' := by
  obtain ⟨n, h⟩ := h
  subst ht
  exact ⟨n + 1, by simp only [runC, he, cond_false, h]⟩
theorem Ru.block {id : Nat} {b : Code} {s s' : St} (h : Ru X hc N b s .normal s') : Ru X hc N (.block id b) s .normal s' := by
  obtain ⟨n, h⟩ := h
  exact ⟨n + 1, by simp only [runC, h, Option.map_some]⟩
theorem Ru.block_ret {id : Nat} {b : Code} {s s' : St} (h : Ru X hc N b s .ret s') : Ru X hc N (.block id b) s .ret s' := by
  obtain ⟨n, h⟩ := h
  exact ⟨n + 1, by simp only [runC, h, Option.map_some]⟩
theorem Ru.block_out {id : Nat} {b : Code} {s s' : St} (h : Ru X hc N b s (.exit id) s') : Ru X hc N (.block id b) s .normal s' := by
  obtain ⟨n, h⟩ := h
  exact ⟨n + 1, by simp only [runC, h, Option.map_some, Nat.beq_refl, cond_true]⟩
theorem Ru.block_exit {id i : Nat} {b : Code} {s s' : St} (h : Ru X hc N b s (.exit i) s') (hne : Nat.beq i id = false) : Ru X hc N (.block id b) s (.exit i) s' := by
  obtain ⟨n, h⟩ := h
  exact ⟨n + 1, by simp only [runC, h, Option.map_some, hne, cond_false]⟩
theorem Ru.loop {b : Code} {s s1 s2 : St} {x : AExit} (h1 : Ru X hc N b s .normal s1) (h2 : Ru X hc N (.loop b) s1 x s2) : Ru X hc N (.loop b) s x s2 := by
  obtain ⟨n, h1⟩ := h1
  obtain ⟨m, h2⟩ := h2
  refine ⟨max n m + 1, ?_⟩
  simp only [runC, runC_mono n (max n m) b s _ (Nat.le_max_left _ _) h1, Option.bind_some]
  exact runC_mono m (max n m) (.loop b) s1 _ (Nat.le_max_right _ _) h2
theorem Ru.loop_exit {b : Code} {s s1 : St} {i : Nat} (h1 : Ru X hc N b s (.exit i) s1) : Ru X hc N (.loop b) s (.exit i) s1 := by
  obtain ⟨n, h1⟩ := h1
  exact ⟨n + 1, by simp only [runC, h1, Option.bind_some]⟩
theorem Ru.loop_ret {b : Code} {s s1 : St} (h1 : Ru X hc N b s .ret s1) : Ru X hc N (.loop b) s .ret s1 := by
  obtain ⟨n, h1⟩ := h1
  exact ⟨n + 1, by simp only [runC, h1, Option.bind_some]⟩

/-- a slot said once more -/
theorem Env.set_self {e : Env} {k : Nat} {v : Option Value} (h : e k = v) : e.set k v = e := by
  funext j
  unfold Env.set
  cases hb : Nat.beq j k with
  | true => have := Nat.eq_of_beq_eq_true hb; subst this; simp [h]
  | false => rfl
theorem Env.set_get {e : Env} {k : Nat} {v : Option Value} : (e.set k v) k = v := by simp [Env.set]
theorem Env.set_ne {e : Env} {k j : Nat} {v : Option Value} (h : j ≠ k) : (e.set k v) j = e j := by
  unfold Env.set
  cases hb : Nat.beq j k with
  | true => exact absurd (Nat.eq_of_beq_eq_true hb) h
  | false => rfl

/-- a state, some of its slots said -/
theorem St.said1 {s : St} {k : Nat} {v : Option Value} (h : s.env k = v) : s = ⟨s.env.set k v, s.heap⟩ := by
  cases s; simp only [Env.set_self h]
theorem St.said2 {s : St} {k0 k1 : Nat} {v0 v1 : Option Value} (h0 : s.env k0 = v0) (h1 : s.env k1 = v1) : s = ⟨(s.env.set k0 v0).set k1 v1, s.heap⟩ := by
  cases s; simp only; rw [Env.set_self h0, Env.set_self h1]
theorem St.said3 {s : St} {k0 k1 k2 : Nat} {v0 v1 v2 : Option Value} (h0 : s.env k0 = v0) (h1 : s.env k1 = v1) (h2 : s.env k2 = v2) : s = ⟨((s.env.set k0 v0).set k1 v1).set k2 v2, s.heap⟩ := by
  cases s; simp only; rw [Env.set_self h0, Env.set_self h1, Env.set_self h2]
theorem St.said4 {s : St} {k0 k1 k2 k3 : Nat} {v0 v1 v2 v3 : Option Value} (h0 : s.env k0 = v0) (h1 : s.env k1 = v1) (h2 : s.env k2 = v2) (h3 : s.env k3 = v3) : s = ⟨(((s.env.set k0 v0).set k1 v1).set k2 v2).set k3 v3, s.heap⟩ := by
  cases s; simp only; rw [Env.set_self h0, Env.set_self h1, Env.set_self h2, Env.set_self h3]
theorem St.said5 {s : St} {k0 k1 k2 k3 k4 : Nat} {v0 v1 v2 v3 v4 : Option Value} (h0 : s.env k0 = v0) (h1 : s.env k1 = v1) (h2 : s.env k2 = v2) (h3 : s.env k3 = v3) (h4 : s.env k4 = v4) : s = ⟨((((s.env.set k0 v0).set k1 v1).set k2 v2).set k3 v3).set k4 v4, s.heap⟩ := by
  cases s; simp only; rw [Env.set_self h0, Env.set_self h1, Env.set_self h2, Env.set_self h3, Env.set_self h4]

/-- A call, out of the run of its body -/
theorem HCall.of_ru (hm : X.P.follows .mixedOrders = true) (horc : OrcOK X) (hhc : HOK X hc) {f : FuncId} {fn : Func} {c : Code} {l : List Value} {H : Heap} {s' : St} {x : AExit} {v : Value} (hf : X.P.funcs[f]? = some fn) (hc0 : fn.body = some c)
    (hname : (fn.name == "runtime.NumGoroutine") = false) (hN : Nat.ble l.length fn.ntmps = true) (h : Ru X hc fn.ntmps c ⟨envOf l, H⟩ x s') (hx : ∀ i, x ≠ .exit i) (hv : aresults X fn s' = some v) : HCall X f l H v s'.heap := by
  obtain ⟨n, hn⟩ := h
  refine runB_sound hm horc hhc (fuel := n) hf hname (Nat.le_of_ble_eq_true hN) ?_
  unfold runB
  simp only [hc0, Option.bind_some, hn]
  cases x with
  | exit i => exact absurd rfl (hx i)
  | normal => simp only [hv, Option.map_some]
  | ret => simp only [hv, Option.map_some]

theorem PCall.of_ru (hm : X.P.follows .mixedOrders = true) (horc : OrcOK X) (hhc : HOK X hc) {f : FuncId} {fn : Func} {c : Code} {l : List Value} {s' : St} {x : AExit} {v : Value} (hf : X.P.funcs[f]? = some fn) (hc0 : fn.body = some c)
    (hname : (fn.name == "runtime.NumGoroutine") = false) (hN : Nat.ble l.length fn.ntmps = true) (h : Ru X hc fn.ntmps c ⟨envOf l, []⟩ x s') (hx : ∀ i, x ≠ .exit i) (hv : aresults X fn s' = some v) (hl : l.all plainT = true) (hpv : plainT v = true) : PCall X f l v :=
  .of_H hl hpv (HCall.of_ru hm horc hhc hf hc0 hname hN h hx hv)

end

/-! ## Runs whose end is not typed out -/
section
variable {X : Cx} {hc : HOrc} {N : Nat}

def St.of (o : Option St) (d : St) : St := o.getD d
theorem Ru.region! {id : Nat} {ops : Array Oper} {draw : Bool} {s : St} (ho : (!draw || orderOk X.pf ops) = true) (h : (runL X hc ops N ops.toList s).isSome = true) : Ru X hc N (.region id ops draw) s .normal (St.of (runL X hc ops N ops.toList s) s) := by
  refine .region ho ?_
  unfold St.of
  cases hr : runL X hc ops N ops.toList s with
  | none => rw [hr] at h; cases h
  | some s1 => rfl

def isNormal : Option (AExit × St) → Bool
  | some (.normal, _) => true
  | _ => false
def isRet : Option (AExit × St) → Bool
  | some (.ret, _) => true
  | _ => false
def St.of2 (o : Option (AExit × St)) (d : St) : St := match o with | some (_, s) => s | none => d
theorem Ru.run! {c : Code} {s : St} (n : Nat) (h : isNormal (runC X hc N n c s) = true) : Ru X hc N c s .normal (St.of2 (runC X hc N n c s) s) := by
  refine ⟨n, ?_⟩
  unfold St.of2
  cases hr : runC X hc N n c s with
  | none => rw [hr] at h; cases h
  | some r => obtain ⟨x, s1⟩ := r; rw [hr] at h; cases x <;> first | rfl | cases h
theorem Ru.run_ret! {c : Code} {s : St} (n : Nat) (h : isRet (runC X hc N n c s) = true) : Ru X hc N c s .ret (St.of2 (runC X hc N n c s) s) := by
  refine ⟨n, ?_⟩
  unfold St.of2
  cases hr : runC X hc N n c s with
  | none => rw [hr] at h; cases h
  | some r => obtain ⟨x, s1⟩ := r; rw [hr] at h; cases x <;> first | rfl | cases h

theorem Ru.run_ex {c : Code} {s : St} (n : Nat) (h : isNormal (runC X hc N n c s) = true) : ∃ s', Ru X hc N c s .normal s' ∧ s' = St.of2 (runC X hc N n c s) s := ⟨_, .run! n h, rfl⟩
theorem Ru.run_ret_ex {c : Code} {s : St} (n : Nat) (h : isRet (runC X hc N n c s) = true) : ∃ s', Ru X hc N c s .ret s' ∧ s' = St.of2 (runC X hc N n c s) s := ⟨_, .run_ret! n h, rfl⟩

/-! the first statements of a piece of code, and what is left -/
def pre : Nat → Code → Code
  | 0, _ => .skip
  | n + 1, .seq a b => .seq a (pre n b)
  | _, c => c
def post : Nat → Code → Code
  | 0, c => c
  | n + 1, .seq _ b => post n b
  | _, _ => .skip
theorem Ru.skip_inv {s s' : St} {x : AExit} (h : Ru X hc N .skip s x s') : x = .normal ∧ s' = s := by
  obtain ⟨n, h⟩ := h
  cases n with
  | zero => simp [runC] at h
  | succ n => simp only [runC, Option.some.injEq, Prod.mk.injEq] at h; exact ⟨h.1.symm, h.2.symm⟩
theorem Ru.seq_inv {a b : Code} {s s' : St} (h : Ru X hc N (.seq a b) s .normal s') : ∃ s1, Ru X hc N a s .normal s1 ∧ Ru X hc N b s1 .normal s' := by
  obtain ⟨n, h⟩ := h
  cases n with
  | zero => simp [runC] at h
  | succ n =>
    simp only [runC, Option.bind_eq_some_iff, Prod.exists] at h
    obtain ⟨x1, s1, h1, h2⟩ := h
    cases x1 with
    | normal => exact ⟨s1, ⟨n, h1⟩, ⟨n, h2⟩⟩
    | ret => simp at h2
    | exit i => simp at h2
theorem Ru.cut : ∀ (k : Nat) {c : Code} {s s1 s2 : St} {x : AExit}, Ru X hc N (pre k c) s .normal s1 → Ru X hc N (post k c) s1 x s2 → Ru X hc N c s x s2 := by
  intro k
  induction k with
  | zero =>
    intro c s s1 s2 x h1 h2
    obtain ⟨_, rfl⟩ := h1.skip_inv
    exact h2
  | succ k ih =>
    intro c s s1 s2 x h1 h2
    cases c with
    | seq a b =>
      obtain ⟨sm, g1, g2⟩ := Ru.seq_inv h1
      exact .seq g1 (ih g2 h2)
    | _ => obtain ⟨rfl, rfl⟩ := h2.skip_inv; exact h1

/-! ## A table of contracts -/
abbrev Tbl := List (FuncId × (List Value → Option Value))
def Tbl.look : Tbl → Orc
  | [], _, _ => none
  | (k, g) :: r, f, l => bif Nat.beq k f then g l else Tbl.look r f l
def Tbl.has : Tbl → FuncId → Bool
  | [], _ => false
  | (k, _) :: r, f => Nat.beq k f || Tbl.has r f
/-- the context over a program, with a table of contracts, no package variable -/
def cx (P : Program) (t : Tbl) : Cx := { P := P, orc := t.look, pf := t.has, glob := fun _ => none }

theorem OrcOK.nil {P : Program} : OrcOK (cx P []) := fun f l v h => by cases h
theorem look_cases : ∀ (t : Tbl) (f : FuncId) (l : List Value) (v : Value), t.look f l = some v → ∃ g, (f, g) ∈ t ∧ g l = some v := by
  intro t
  induction t with
  | nil => intro f l v h; cases h
  | cons p r ih =>
    intro f l v h
    obtain ⟨k, g⟩ := p
    simp only [Tbl.look] at h
    cases hb : Nat.beq k f with
    | true =>
      have := Nat.eq_of_beq_eq_true hb; subst this
      simp only [hb, cond_true] at h
      exact ⟨g, by simp, h⟩
    | false =>
      simp only [hb, cond_false] at h
      obtain ⟨g', h1, h2⟩ := ih f l v h
      exact ⟨g', by simp [h1], h2⟩
/-- what a contract says: it does not hang on the table -/
def Con (P : Program) (f : FuncId) (g : List Value → Option Value) : Prop := ∀ l v, g l = some v → PCall (cx P []) f l v
theorem OrcOK.of_tbl {P : Program} {t : Tbl} (h : ∀ p ∈ t, Con P p.1 p.2) : OrcOK (cx P t) := by
  intro f l v hl
  obtain ⟨g, h1, h2⟩ := look_cases t f l v hl
  exact h (f, g) h1 l v h2
theorem Cons.nil {P : Program} : ∀ p ∈ ([] : Tbl), Con P p.1 p.2 := by simp
theorem Cons.cons {P : Program} {t : Tbl} {f : FuncId} {g : List Value → Option Value} (h : Con P f g) (ht : ∀ p ∈ t, Con P p.1 p.2) : ∀ p ∈ ((f, g) :: t : Tbl), Con P p.1 p.2 := by
  intro p hp
  rcases List.mem_cons.1 hp with rfl | hp
  · exact h
  · exact ht p hp
theorem Con.of_run {P : Program} {t : Tbl} (hm : P.follows .mixedOrders = true) (ht : ∀ p ∈ t, Con P p.1 p.2) {fuel d : Nat} {f : FuncId} {l : List Value} {v : Value} {H' : Heap} (h : runF (cx P t) fuel d f l [] = some (v, H')) (hl : l.all plainT = true) (hv : plainT v = true) : PCall (cx P []) f l v :=
  PCall.of_run (X := cx P t) hm (OrcOK.of_tbl ht) h hl hv

def valOf (o : Option (Value × Heap)) : Option Value := o.map (·.1)
theorem Con.of_val {P : Program} {t : Tbl} (hm : P.follows .mixedOrders = true) (ht : ∀ p ∈ t, Con P p.1 p.2) (fuel d : Nat) {f : FuncId} {l : List Value} {v : Value} (h : valOf (runF (cx P t) fuel d f l []) = some v) (hl : l.all plainT = true) (hv : plainT v = true) : PCall (cx P []) f l v := by
  simp only [valOf, Option.map_eq_some_iff] at h
  obtain ⟨⟨v', H'⟩, h, rfl⟩ := h
  exact Con.of_run hm ht h hl hv
end

end Go.Ab
