import Derived.Test.YtninlahlmjhmhaaAbRun
namespace Go.Ab

/-! ## A run whose tests are taken for decided: which slots, and how; what is owed for it -/
abbrev Owe := List (Value × Value)
def Owe.met (l : Owe) : Prop := ∀ p ∈ l, p.1 = p.2
/-- slots, in the order in which they are written, and what they are taken to hold -/
abbrev Take := List (Nat × Value)

def take1 (tk : Take) (dst : Option Tmp) (s : St) : St × Owe × Take :=
  match dst, tk with
  | some d, (k, v) :: r => bif Nat.beq k d then (match s.env d with
      | some u => bif isTup u then (s, [], tk) else (⟨s.env.set d (some v), s.heap⟩, [(u, v)], r)
      | none => (s, [], tk)) else (s, [], tk)
  | _, _ => (s, [], tk)

section
variable (X : Cx) (hc : HOrc) (ops : Array Oper) (N : Nat)
def runLT : Take → List Oper → St → Option (St × Owe × Take)
  | tk, [], s => some (s, [], tk)
  | tk, o :: r, s => (run1 X hc ops N s o).bind fun s => match take1 tk o.dst s with
    | (s, l, tk) => (runLT tk r s).map fun (s, m, tk) => (s, l ++ m, tk)

def runCT : Nat → Take → Code → St → Option (AExit × St × Owe × Take)
  | 0, _, _, _ => none
  | n + 1, tk, c, s =>
    match c with
    | .skip => some (.normal, s, [], tk)
    | .region _ ops draw => bif !draw || orderOk X.pf ops then (runLT X hc ops N tk ops.toList s).map fun (s, l, tk) => (.normal, s, l, tk) else none
    | .seq a b => (runCT n tk a s).bind fun (x, s, l, tk) => match x with
      | .normal => (runCT n tk b s).map fun (x, s, m, tk) => (x, s, l ++ m, tk)
      | x => some (x, s, l, tk)
    | .cond c a b => match evo s.env c with
      | some (.bool t) => bif t then runCT n tk a s else runCT n tk b s
      | _ => none
    | .block id b => (runCT n tk b s).map fun (x, s, l, tk) => match x with
      | .exit i => (bif Nat.beq i id then .normal else .exit i, s, l, tk)
      | x => (x, s, l, tk)
    | .loop b => (runCT n tk b s).bind fun (x, s, l, tk) => match x with
      | .normal => (runCT n tk (.loop b) s).map fun (x, s, m, tk) => (x, s, l ++ m, tk)
      | x => some (x, s, l, tk)
    | .exit id => some (.exit id, s, [], tk)
    | .label _ => some (.normal, s, [], tk)
    | .ret => some (.ret, s, [], tk)
    | _ => none

def runBT (fuel : Nat) (tk : Take) (fn : Func) (args : List Value) (H : Heap) : Option (Value × Heap × Owe × Take) :=
  fn.body.bind fun c => (runCT X hc fn.ntmps fuel tk c ⟨envOf args, H⟩).bind fun (x, s, l, tk) =>
    match x with
    | .exit _ => none
    | _ => (aresults X fn s).map fun v => (v, s.heap, l, tk)
/-- a call; the values in its own body are taken as told -/
def runFT (fuel d : Nat) (tk : Take) (f : FuncId) (args : List Value) (H : Heap) : Option (Value × Heap × Owe × Take) :=
  (X.P.funcs[f]?).bind fun fn => bif fn.name == "runtime.NumGoroutine" || Nat.blt fn.ntmps args.length then none else runBT X (runF X fuel d) fuel tk fn args H
end

theorem Owe.met_append {l m : Owe} : Owe.met (l ++ m) ↔ l.met ∧ m.met := by
  unfold Owe.met
  constructor
  · intro h; exact ⟨fun p hp => h p (by simp [hp]), fun p hp => h p (by simp [hp])⟩
  · rintro ⟨h1, h2⟩ p hp; rcases List.mem_append.1 hp with h | h; exact h1 p h; exact h2 p h

section
variable {X : Cx} {hc : HOrc} {ops : Array Oper} {N : Nat}

theorem take1_same {tk tk' : Take} {dst : Option Tmp} {s s' : St} {l : Owe} (h : take1 tk dst s = (s', l, tk')) (hm : l.met) : s' = s := by
  unfold take1 at h
  split at h
  · rename_i d k v r
    cases hb : Nat.beq k d with
    | true =>
      simp only [hb, cond_true] at h
      split at h
      · rename_i u hu
        cases ht : isTup u with
        | true => simp only [ht, cond_true, Prod.mk.injEq] at h; exact h.1.symm
        | false =>
          simp only [ht, cond_false, Prod.mk.injEq] at h
          obtain ⟨rfl, rfl, rfl⟩ := h
          have : u = v := hm (u, v) (List.mem_singleton.2 rfl)
          subst this
          cases s; simp only [Env.set_self hu]
      · simp only [Prod.mk.injEq] at h; exact h.1.symm
    | false => simp only [hb, cond_false, Prod.mk.injEq] at h; exact h.1.symm
  · simp only [Prod.mk.injEq] at h; exact h.1.symm

theorem runLT_sound : ∀ (os : List Oper) (tk tk' : Take) (s s' : St) (l : Owe), runLT X hc ops N tk os s = some (s', l, tk') → l.met → runL X hc ops N os s = some s' := by
  intro os
  induction os with
  | nil => intro tk tk' s s' l h _; simp only [runLT, Option.some.injEq, Prod.mk.injEq] at h; obtain ⟨rfl, _⟩ := h; rfl
  | cons o os ih =>
    intro tk tk' s s' l h hm
    simp only [runLT, Option.bind_eq_some_iff] at h
    obtain ⟨s1, h1, h2⟩ := h
    cases ht : take1 tk o.dst s1 with
    | mk s2 q =>
      obtain ⟨l2, tk2⟩ := q
      simp only [ht, Option.map_eq_some_iff, Prod.exists, Prod.mk.injEq] at h2
      obtain ⟨s3, l3, tk3, h3, rfl, rfl, rfl⟩ := h2
      obtain ⟨m1, m2⟩ := Owe.met_append.1 hm
      have := take1_same ht m1
      subst this
      simp only [runL, h1, Option.bind_some]
      exact ih _ _ _ _ _ h3 m2

theorem runCT_sound : ∀ (n : Nat) (tk tk' : Take) (c : Code) (s s' : St) (x : AExit) (l : Owe), runCT X hc N n tk c s = some (x, s', l, tk') → l.met → runC X hc N n c s = some (x, s') := by
  intro n
  induction n with
  | zero => intro tk tk' c s s' x l h; simp [runCT] at h
  | succ n ih =>
    intro tk tk' c s s' x l h hm
    cases c with
    | region id ops draw =>
      simp only [runCT] at h
      simp only [runC]
      cases ho : (!draw || orderOk X.pf ops) with
      | false => simp [ho] at h
      | true =>
        simp only [ho, cond_true, Option.map_eq_some_iff, Prod.exists, Prod.mk.injEq] at h ⊢
        obtain ⟨s1, l1, t1, h1, rfl, rfl, rfl, rfl⟩ := h
        exact ⟨s1, runLT_sound _ _ _ _ _ _ h1 hm, by simp⟩
    | seq a b =>
      simp only [runCT, Option.bind_eq_some_iff, Prod.exists] at h
      obtain ⟨x1, s1, l1, t1, h1, h2⟩ := h
      simp only [runC, Option.bind_eq_some_iff, Prod.exists]
      cases x1 with
      | normal =>
        simp only [Option.map_eq_some_iff, Prod.exists, Prod.mk.injEq] at h2
        obtain ⟨x2, s2, l2, t2, h3, rfl, rfl, rfl, rfl⟩ := h2
        obtain ⟨m1, m2⟩ := Owe.met_append.1 hm
        exact ⟨.normal, s1, ih _ _ _ _ _ _ _ h1 m1, ih _ _ _ _ _ _ _ h3 m2⟩
      | ret => simp only [Option.some.injEq, Prod.mk.injEq] at h2; obtain ⟨rfl, rfl, rfl, rfl⟩ := h2; exact ⟨.ret, s1, ih _ _ _ _ _ _ _ h1 hm, rfl⟩
      | exit i => simp only [Option.some.injEq, Prod.mk.injEq] at h2; obtain ⟨rfl, rfl, rfl, rfl⟩ := h2; exact ⟨.exit i, s1, ih _ _ _ _ _ _ _ h1 hm, rfl⟩
    | cond cnd a b =>
      simp only [runCT] at h
      simp only [runC]
      split at h
      · rename_i t ht
        cases t with
        | true => rw [ht]; exact ih _ _ _ _ _ _ _ h hm
        | false => rw [ht]; exact ih _ _ _ _ _ _ _ h hm
      · cases h
    | block id b =>
      simp only [runCT, Option.map_eq_some_iff, Prod.exists] at h
      obtain ⟨x1, s1, l1, t1, h1, h2⟩ := h
      simp only [runC, Option.map_eq_some_iff, Prod.exists]
      cases x1 with
      | normal => simp only [Prod.mk.injEq] at h2; obtain ⟨rfl, rfl, rfl, rfl⟩ := h2; exact ⟨.normal, s1, ih _ _ _ _ _ _ _ h1 hm, rfl⟩
      | ret => simp only [Prod.mk.injEq] at h2; obtain ⟨rfl, rfl, rfl, rfl⟩ := h2; exact ⟨.ret, s1, ih _ _ _ _ _ _ _ h1 hm, rfl⟩
      | exit i => simp only [Prod.mk.injEq] at h2; obtain ⟨rfl, rfl, rfl, rfl⟩ := h2; exact ⟨.exit i, s1, ih _ _ _ _ _ _ _ h1 hm, rfl⟩
    | loop b =>
      simp only [runCT, Option.bind_eq_some_iff, Prod.exists] at h
      obtain ⟨x1, s1, l1, t1, h1, h2⟩ := h
      simp only [runC, Option.bind_eq_some_iff, Prod.exists]
      cases x1 with
      | normal =>
        simp only [Option.map_eq_some_iff, Prod.exists, Prod.mk.injEq] at h2
        obtain ⟨x2, s2, l2, t2, h3, rfl, rfl, rfl, rfl⟩ := h2
        obtain ⟨m1, m2⟩ := Owe.met_append.1 hm
        exact ⟨.normal, s1, ih _ _ _ _ _ _ _ h1 m1, ih _ _ _ _ _ _ _ h3 m2⟩
      | ret => simp only [Option.some.injEq, Prod.mk.injEq] at h2; obtain ⟨rfl, rfl, rfl, rfl⟩ := h2; exact ⟨.ret, s1, ih _ _ _ _ _ _ _ h1 hm, rfl⟩
      | exit i => simp only [Option.some.injEq, Prod.mk.injEq] at h2; obtain ⟨rfl, rfl, rfl, rfl⟩ := h2; exact ⟨.exit i, s1, ih _ _ _ _ _ _ _ h1 hm, rfl⟩
    | skip => simp only [runCT, Option.some.injEq, Prod.mk.injEq] at h; obtain ⟨rfl, rfl, rfl, rfl⟩ := h; rfl
    | exit i => simp only [runCT, Option.some.injEq, Prod.mk.injEq] at h; obtain ⟨rfl, rfl, rfl, rfl⟩ := h; rfl
    | label i => simp only [runCT, Option.some.injEq, Prod.mk.injEq] at h; obtain ⟨rfl, rfl, rfl, rfl⟩ := h; rfl
    | ret => simp only [runCT, Option.some.injEq, Prod.mk.injEq] at h; obtain ⟨rfl, rfl, rfl, rfl⟩ := h; rfl
    | _ => simp [runCT] at h

theorem runFT_sound {fuel d : Nat} {tk tk' : Take} {f : FuncId} {args : List Value} {H H' : Heap} {v : Value} {l : Owe} (h : runFT X fuel d tk f args H = some (v, H', l, tk')) (hm : l.met) : runF X fuel (d + 1) f args H = some (v, H') := by
  unfold runFT at h
  simp only [Option.bind_eq_some_iff] at h
  obtain ⟨fn, hf, h⟩ := h
  simp only [runF, hf, Option.bind_some]
  cases hn : (fn.name == "runtime.NumGoroutine" || Nat.blt fn.ntmps args.length) with
  | true => simp [hn] at h
  | false =>
    simp only [hn, cond_false] at h ⊢
    unfold runBT at h
    unfold runB
    simp only [Option.bind_eq_some_iff, Prod.exists] at h ⊢
    obtain ⟨c, hc, x, s, l', t', h1, h2⟩ := h
    refine ⟨c, hc, x, s, ?_, ?_⟩
    · refine runCT_sound _ _ _ _ _ _ _ l' h1 ?_
      cases x <;> simp only [Option.map_eq_some_iff, Prod.mk.injEq] at h2 <;> first | (obtain ⟨_, _, _, _, rfl, _⟩ := h2; exact hm) | cases h2
    · cases x <;> simp only [Option.map_eq_some_iff, Prod.mk.injEq] at h2 ⊢ <;> first | (obtain ⟨u, g1, rfl, rfl, _⟩ := h2; exact ⟨u, g1, rfl, rfl⟩) | cases h2

def St.of3 (o : Option (AExit × St × Owe × Take)) (d : St) : St := match o with | some (_, s, _) => s | none => d
def shape3 (o : Option (AExit × St × Owe × Take)) : Option (AExit × Owe) := o.map fun (x, _, l, _) => (x, l)
/-- a run with its values taken; the end is not typed out -/
theorem Ru.taken {c : Code} {s : St} (tk : Take) (n : Nat) {x : AExit} (l : Owe) (h : shape3 (runCT X hc N n tk c s) = some (x, l)) (hm : l.met) : Ru X hc N c s x (St.of3 (runCT X hc N n tk c s) s) := by
  cases hr : runCT X hc N n tk c s with
  | none => rw [hr] at h; cases h
  | some r =>
    obtain ⟨x', s', l', t'⟩ := r
    rw [hr] at h
    simp only [shape3, Option.map_some, Option.some.injEq, Prod.mk.injEq] at h
    obtain ⟨rfl, rfl⟩ := h
    exact ⟨n, runCT_sound n tk t' c s s' x' l' hr hm⟩
theorem Ru.taken_ex {c : Code} {s : St} (tk : Take) (n : Nat) {x : AExit} (l : Owe) (h : shape3 (runCT X hc N n tk c s) = some (x, l)) (hm : l.met) : ∃ s', Ru X hc N c s x s' ∧ s' = St.of3 (runCT X hc N n tk c s) s :=
  ⟨_, .taken tk n l h hm, rfl⟩

def shapeF (o : Option (Value × Heap × Owe × Take)) : Option (Value × Owe) := o.map fun (v, _, l, _) => (v, l)
/-- a call over plain values, its values taken as told -/
theorem Con.of_taken {P : Program} {t : Tbl} (hm : P.follows .mixedOrders = true) (ht : ∀ p ∈ t, Con P p.1 p.2) (tk : Take) (fuel d : Nat) {f : FuncId} {args : List Value} {v : Value} (l : Owe) (h : shapeF (runFT (cx P t) fuel d tk f args []) = some (v, l)) (hl : l.met)
    (hargs : args.all plainT = true) (hv : plainT v = true) : PCall (cx P []) f args v := by
  simp only [shapeF, Option.map_eq_some_iff, Prod.exists, Prod.mk.injEq] at h
  obtain ⟨v', H', l', t', h1, rfl, rfl⟩ := h
  exact Con.of_run hm ht (runFT_sound h1 hl) hargs hv

theorem Owe.met.nil : Owe.met [] := fun p hp => by cases hp
theorem Owe.met.cons {a b : Value} {l : Owe} (h : a = b) (hl : l.met) : Owe.met ((a, b) :: l) := by
  intro p hp
  rcases List.mem_cons.1 hp with rfl | hp
  · exact h
  · exact hl p hp
theorem Owe.met.bool {a b : Bool} {l : Owe} (h : a = b) (hl : l.met) : Owe.met ((.bool a, .bool b) :: l) := .cons (by rw [h]) hl
theorem Owe.met.int {k : IntKind} {a b : Int} {l : Owe} (h : a = b) (hl : l.met) : Owe.met ((.int k a, .int k b) :: l) := .cons (by rw [h]) hl
end

/-- bools, in the order in which they are written: slot, what is tested, how it ends -/
def tkB (l : List (Nat × Bool × Bool)) : Take := l.map fun (k, _, b) => (k, .bool b)
def oweB (l : List (Nat × Bool × Bool)) : Owe := l.map fun (_, a, b) => (.bool a, .bool b)
theorem oweB_met (l : List (Nat × Bool × Bool)) (h : ∀ p ∈ l, p.2.1 = p.2.2) : (oweB l).met := by
  intro p hp
  simp only [oweB, List.mem_map, Prod.exists] at hp
  obtain ⟨k, a, b, h1, rfl⟩ := hp
  have := h _ h1
  simp only at this ⊢
  rw [this]
/-- a call over plain values, its tests decided: each with its slot, in the order in which they are written -/
theorem Con.of_tests {P : Program} {t : Tbl} (hm : P.follows .mixedOrders = true) (ht : ∀ p ∈ t, Con P p.1 p.2) (fuel d : Nat) {f : FuncId} {args : List Value} {v : Value} (l : List (Nat × Bool × Bool)) (h : shapeF (runFT (cx P t) fuel d (tkB l) f args []) = some (v, oweB l)) (hl : ∀ p ∈ l, p.2.1 = p.2.2)
    (hargs : args.all plainT = true) (hv : plainT v = true) : PCall (cx P []) f args v :=
  Con.of_taken hm ht (tkB l) fuel d (oweB l) h (oweB_met l hl) hargs hv
theorem tests_nil : ∀ p ∈ ([] : List (Nat × Bool × Bool)), p.2.1 = p.2.2 := by simp
theorem tests_cons {k : Nat} {a b : Bool} {l : List (Nat × Bool × Bool)} (h : a = b) (hl : ∀ p ∈ l, p.2.1 = p.2.2) : ∀ p ∈ ((k, a, b) :: l : List (Nat × Bool × Bool)), p.2.1 = p.2.2 := by
  intro p hp
  rcases List.mem_cons.1 hp with rfl | hp
  · exact h
  · exact hl p hp
end Go.Ab
