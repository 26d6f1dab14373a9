import Derived.Test.YtbdggonpjndpiaaAbRun
namespace Go.Ab

/-! ## A run whose tests are taken for decided: which slots, and how; what is owed for it -/
abbrev Owe := List (Bool × Bool)
def Owe.met (l : Owe) : Prop := ∀ p ∈ l, p.1 = p.2
abbrev Take := Nat → Option Bool

def take1 (tk : Take) (dst : Option Tmp) (s : St) : Option (St × Owe) :=
  match dst with
  | none => some (s, [])
  | some d => match tk d with
    | none => some (s, [])
    | some t => match s.env d with
      | some (.bool b) => some (⟨s.env.set d (some (.bool t)), s.heap⟩, [(b, t)])
      | none => some (s, [])
      | _ => none

section
variable (X : Cx) (hc : HOrc) (tk : Take) (ops : Array Oper) (N : Nat)
def runLT : List Oper → St → Option (St × Owe)
  | [], s => some (s, [])
  | o :: r, s => (run1 X hc ops N s o).bind fun s => (take1 tk o.dst s).bind fun (s, l) => (runLT r s).map fun (s, m) => (s, l ++ m)

def runCT : Nat → Code → St → Option (AExit × St × Owe)
  | 0, _, _ => none
  | n + 1, c, s =>
    match c with
    | .skip => some (.normal, s, [])
    | .region _ ops draw => bif !draw || orderOk X.pf ops then (runLT X hc tk ops N ops.toList s).map fun (s, l) => (.normal, s, l) else none
    | .seq a b => (runCT n a s).bind fun (x, s, l) => match x with
      | .normal => (runCT n b s).map fun (x, s, m) => (x, s, l ++ m)
      | x => some (x, s, l)
    | .cond c a b => match evo s.env c with
      | some (.bool t) => bif t then runCT n a s else runCT n b s
      | _ => none
    | .block id b => (runCT n b s).map fun (x, s, l) => match x with
      | .exit i => (bif Nat.beq i id then .normal else .exit i, s, l)
      | x => (x, s, l)
    | .loop b => (runCT n b s).bind fun (x, s, l) => match x with
      | .normal => (runCT n (.loop b) s).map fun (x, s, m) => (x, s, l ++ m)
      | x => some (x, s, l)
    | .exit id => some (.exit id, s, [])
    | .label _ => some (.normal, s, [])
    | .ret => some (.ret, s, [])
    | _ => none

def runBT (fuel : Nat) (fn : Func) (args : List Value) (H : Heap) : Option (Value × Heap × Owe) :=
  fn.body.bind fun c => (runCT X hc tk fn.ntmps fuel c ⟨envOf args, H⟩).bind fun (x, s, l) =>
    match x with
    | .exit _ => none
    | _ => (aresults X fn s).map fun v => (v, s.heap, l)
/-- a call; the tests in its own body are taken for decided -/
def runFT (fuel d : Nat) (f : FuncId) (args : List Value) (H : Heap) : Option (Value × Heap × Owe) :=
  (X.P.funcs[f]?).bind fun fn => bif fn.name == "runtime.NumGoroutine" || Nat.blt fn.ntmps args.length then none else runBT X (runF X fuel d) tk fuel fn args H
end

theorem Owe.met_append {l m : Owe} : Owe.met (l ++ m) ↔ l.met ∧ m.met := by
  unfold Owe.met
  constructor
  · intro h; exact ⟨fun p hp => h p (by simp [hp]), fun p hp => h p (by simp [hp])⟩
  · rintro ⟨h1, h2⟩ p hp; rcases List.mem_append.1 hp with h | h; exact h1 p h; exact h2 p h

section
variable {X : Cx} {hc : HOrc} {tk : Take} {ops : Array Oper} {N : Nat}

theorem take1_same {dst : Option Tmp} {s s' : St} {l : Owe} (h : take1 tk dst s = some (s', l)) (hm : l.met) : s' = s := by
  unfold take1 at h
  split at h
  · simp only [Option.some.injEq, Prod.mk.injEq] at h; exact h.1.symm
  · split at h
    · simp only [Option.some.injEq, Prod.mk.injEq] at h; exact h.1.symm
    · rename_i t _
      split at h
      · rename_i b hb
        simp only [Option.some.injEq, Prod.mk.injEq] at h
        obtain ⟨rfl, rfl⟩ := h
        have : b = t := hm (b, t) (List.mem_singleton.2 rfl)
        subst this
        cases s; simp only [Env.set_self hb]
      · simp only [Option.some.injEq, Prod.mk.injEq] at h; exact h.1.symm
      · cases h

theorem runLT_sound : ∀ (os : List Oper) (s s' : St) (l : Owe), runLT X hc tk ops N os s = some (s', l) → l.met → runL X hc ops N os s = some s' := by
  intro os
  induction os with
  | nil => intro s s' l h _; simp only [runLT, Option.some.injEq, Prod.mk.injEq] at h; obtain ⟨rfl, _⟩ := h; rfl
  | cons o os ih =>
    intro s s' l h hm
    simp only [runLT, Option.bind_eq_some_iff, Option.map_eq_some_iff, Prod.exists, Prod.mk.injEq] at h
    obtain ⟨s1, h1, s2, l2, h2, s3, l3, h3, rfl, rfl⟩ := h
    obtain ⟨m1, m2⟩ := Owe.met_append.1 hm
    have := take1_same h2 m1
    subst this
    simp only [runL, h1, Option.bind_some]
    exact ih _ _ _ h3 m2

theorem runCT_sound : ∀ (n : Nat) (c : Code) (s s' : St) (x : AExit) (l : Owe), runCT X hc tk N n c s = some (x, s', l) → l.met → runC X hc N n c s = some (x, s') := by
  intro n
  induction n with
  | zero => intro c s s' x l h; simp [runCT] at h
  | succ n ih =>
    intro c s s' x l h hm
    cases c with
    | region id ops draw =>
      simp only [runCT] at h
      simp only [runC]
      cases ho : (!draw || orderOk X.pf ops) with
      | false => simp [ho] at h
      | true =>
        simp only [ho, cond_true, Option.map_eq_some_iff, Prod.exists, Prod.mk.injEq] at h ⊢
        obtain ⟨s1, l1, h1, rfl, rfl, rfl⟩ := h
        exact ⟨s1, runLT_sound _ _ _ _ h1 hm, by simp⟩
    | seq a b =>
      simp only [runCT, Option.bind_eq_some_iff, Prod.exists] at h
      obtain ⟨x1, s1, l1, h1, h2⟩ := h
      simp only [runC, Option.bind_eq_some_iff, Prod.exists]
      cases x1 with
      | normal =>
        simp only [Option.map_eq_some_iff, Prod.exists, Prod.mk.injEq] at h2
        obtain ⟨x2, s2, l2, h3, rfl, rfl, rfl⟩ := h2
        obtain ⟨m1, m2⟩ := Owe.met_append.1 hm
        exact ⟨.normal, s1, ih _ _ _ _ _ h1 m1, ih _ _ _ _ _ h3 m2⟩
      | ret => simp only [Option.some.injEq, Prod.mk.injEq] at h2; obtain ⟨rfl, rfl, rfl⟩ := h2; exact ⟨.ret, s1, ih _ _ _ _ _ h1 hm, rfl⟩
      | exit i => simp only [Option.some.injEq, Prod.mk.injEq] at h2; obtain ⟨rfl, rfl, rfl⟩ := h2; exact ⟨.exit i, s1, ih _ _ _ _ _ h1 hm, rfl⟩
    | cond cnd a b =>
      simp only [runCT] at h
      simp only [runC]
      split at h
      · rename_i t ht
        cases t with
        | true => rw [ht]; exact ih _ _ _ _ _ h hm
        | false => rw [ht]; exact ih _ _ _ _ _ h hm
      · cases h
    | block id b =>
      simp only [runCT, Option.map_eq_some_iff, Prod.exists] at h
      obtain ⟨x1, s1, l1, h1, h2⟩ := h
      simp only [runC, Option.map_eq_some_iff, Prod.exists]
      cases x1 with
      | normal => simp only [Prod.mk.injEq] at h2; obtain ⟨rfl, rfl, rfl⟩ := h2; exact ⟨.normal, s1, ih _ _ _ _ _ h1 hm, rfl⟩
      | ret => simp only [Prod.mk.injEq] at h2; obtain ⟨rfl, rfl, rfl⟩ := h2; exact ⟨.ret, s1, ih _ _ _ _ _ h1 hm, rfl⟩
      | exit i => simp only [Prod.mk.injEq] at h2; obtain ⟨rfl, rfl, rfl⟩ := h2; exact ⟨.exit i, s1, ih _ _ _ _ _ h1 hm, rfl⟩
    | loop b =>
      simp only [runCT, Option.bind_eq_some_iff, Prod.exists] at h
      obtain ⟨x1, s1, l1, h1, h2⟩ := h
      simp only [runC, Option.bind_eq_some_iff, Prod.exists]
      cases x1 with
      | normal =>
        simp only [Option.map_eq_some_iff, Prod.exists, Prod.mk.injEq] at h2
        obtain ⟨x2, s2, l2, h3, rfl, rfl, rfl⟩ := h2
        obtain ⟨m1, m2⟩ := Owe.met_append.1 hm
        exact ⟨.normal, s1, ih _ _ _ _ _ h1 m1, ih _ _ _ _ _ h3 m2⟩
      | ret => simp only [Option.some.injEq, Prod.mk.injEq] at h2; obtain ⟨rfl, rfl, rfl⟩ := h2; exact ⟨.ret, s1, ih _ _ _ _ _ h1 hm, rfl⟩
      | exit i => simp only [Option.some.injEq, Prod.mk.injEq] at h2; obtain ⟨rfl, rfl, rfl⟩ := h2; exact ⟨.exit i, s1, ih _ _ _ _ _ h1 hm, rfl⟩
    | skip => simp only [runCT, Option.some.injEq, Prod.mk.injEq] at h; obtain ⟨rfl, rfl, rfl⟩ := h; rfl
    | exit i => simp only [runCT, Option.some.injEq, Prod.mk.injEq] at h; obtain ⟨rfl, rfl, rfl⟩ := h; rfl
    | label i => simp only [runCT, Option.some.injEq, Prod.mk.injEq] at h; obtain ⟨rfl, rfl, rfl⟩ := h; rfl
    | ret => simp only [runCT, Option.some.injEq, Prod.mk.injEq] at h; obtain ⟨rfl, rfl, rfl⟩ := h; rfl
    | _ => simp [runCT] at h

theorem runFT_sound {fuel d : Nat} {f : FuncId} {args : List Value} {H H' : Heap} {v : Value} {l : Owe} (h : runFT X tk fuel d f args H = some (v, H', l)) (hm : l.met) : runF X fuel (d + 1) f args H = some (v, H') := by
  unfold runFT at h
  simp only [Option.bind_eq_some_iff] at h
  obtain ⟨fn, hf, h⟩ := h
  simp only [runF, hf, Option.bind_some]
  cases hn : (fn.name == "runtime.NumGoroutine" || Nat.blt fn.ntmps args.length) with
  | true => simp [hn] at h
  | false =>
    simp only [hn, cond_false] at h ⊢
    unfold runBT at h
    unfold runB
    simp only [Option.bind_eq_some_iff, Prod.exists] at h ⊢
    obtain ⟨c, hc, x, s, l', h1, h2⟩ := h
    refine ⟨c, hc, x, s, ?_, ?_⟩
    · refine runCT_sound _ _ _ _ _ l' h1 ?_
      cases x <;> simp only [Option.map_eq_some_iff, Prod.mk.injEq] at h2 <;> first | (obtain ⟨_, _, _, _, rfl⟩ := h2; exact hm) | cases h2
    · cases x <;> simp only [Option.map_eq_some_iff, Prod.mk.injEq] at h2 ⊢ <;> first | (obtain ⟨u, g1, rfl, rfl, _⟩ := h2; exact ⟨u, g1, rfl, rfl⟩) | cases h2

theorem Ru.taken {n : Nat} {c : Code} {s s' : St} {x : AExit} {l : Owe} (h : runCT X hc tk N n c s = some (x, s', l)) (hm : l.met) : Ru X hc N c s x s' := ⟨n, runCT_sound n c s s' x l h hm⟩

def St.of3 (o : Option (AExit × St × Owe)) (d : St) : St := match o with | some (_, s, _) => s | none => d
def shape3 (o : Option (AExit × St × Owe)) : Option (AExit × Owe) := o.map fun (x, _, l) => (x, l)
/-- a run with its tests taken; the end is not typed out -/
theorem Ru.taken_ex {c : Code} {s : St} (tk : Take) (n : Nat) {x : AExit} (l : Owe) (h : shape3 (runCT X hc tk N n c s) = some (x, l)) (hm : l.met) : ∃ s', Ru X hc N c s x s' ∧ s' = St.of3 (runCT X hc tk N n c s) s := by
  cases hr : runCT X hc tk N n c s with
  | none => rw [hr] at h; cases h
  | some r =>
    obtain ⟨x', s', l'⟩ := r
    rw [hr] at h
    simp only [shape3, Option.map_some, Option.some.injEq, Prod.mk.injEq] at h
    obtain ⟨rfl, rfl⟩ := h
    exact ⟨s', ⟨n, runCT_sound n c s s' x' l' hr hm⟩, rfl⟩

def shapeF (o : Option (Value × Heap × Owe)) : Option (Value × Owe) := o.map fun (v, _, l) => (v, l)
/-- a call over plain values, its tests taken -/
theorem Con.of_taken {P : Program} {t : Tbl} (hm : P.follows .mixedOrders = true) (ht : ∀ p ∈ t, Con P p.1 p.2) (tk : Take) (fuel d : Nat) {f : FuncId} {args : List Value} {v : Value} (l : Owe) (h : shapeF (runFT (cx P t) tk fuel d f args []) = some (v, l)) (hl : l.met)
    (hargs : args.all plainT = true) (hv : plainT v = true) : PCall (cx P []) f args v := by
  simp only [shapeF, Option.map_eq_some_iff, Prod.exists, Prod.mk.injEq] at h
  obtain ⟨v', H', l', h1, rfl, rfl⟩ := h
  exact Con.of_run hm ht (runFT_sound h1 hl) hargs hv

theorem Owe.met.nil : Owe.met [] := fun p hp => by cases hp
theorem Owe.met.cons {a b : Bool} {l : Owe} (h : a = b) (hl : l.met) : Owe.met ((a, b) :: l) := by
  intro p hp
  rcases List.mem_cons.1 hp with rfl | hp
  · exact h
  · exact hl p hp
end

def tks : List (Nat × Bool) → Take
  | [], _ => none
  | (k, b) :: r, d => bif Nat.beq k d then some b else tks r d
/-- each of these slots holds true -/
def tksT : List Nat → Take
  | [], _ => none
  | k :: r, d => bif Nat.beq k d then some true else tksT r d
end Go.Ab
