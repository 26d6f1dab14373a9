import Derived.Test.YtninlahlmjhmhaaAbWg
namespace Go.Ab
section
variable {X : Cx}

theorem envOf_wf {l : List Value} (hl : WfA l) : WfE (envOf l) := fun _ v h => hl v (List.mem_of_getElem? h)

theorem aresL_good (hX : OrcWf X) {s : St} (hs : WfS s) : ∀ (rs : List ResultVar) (vs : List Value), aresL X s rs = some vs → (∀ v ∈ vs, WfV v) ∧ aresL X.good s rs = some vs := by
  intro rs
  induction rs with
  | nil => intro vs h; simp only [aresL, Option.some.injEq] at h ⊢; subst h; exact ⟨fun v hv => by simp at hv, rfl⟩
  | cons r rs ih =>
    intro vs h
    simp only [aresL, Option.bind_eq_some_iff, Option.map_eq_some_iff] at h ⊢
    obtain ⟨v, hv, l, hl, rfl⟩ := h
    obtain ⟨k1, k2⟩ := ih l hl
    refine ⟨fun u hu => ?_, v, ?_, l, k2, rfl⟩
    · rcases List.mem_cons.1 hu with rfl | hu
      · cases r with
        | tmp t =>
          simp only [ares1, Option.bind_eq_some_iff] at hv
          obtain ⟨w, hw, hv⟩ := hv
          cases ht : isTup w <;> simp only [ht, cond_true, cond_false] at hv
          · injection hv with hv; subst hv; exact WfV.of_T (hs.1 _ _ hw) ht
          · cases hv
        | cell p t =>
          simp only [ares1, Option.bind_eq_some_iff] at hv
          obtain ⟨w, hw, hv⟩ := hv
          exact ald_wf hX hs.2 hv
      · exact k1 u hu
    · cases r with
      | tmp t => exact hv
      | cell p t => exact hv

theorem aresults_good (hX : OrcWf X) {s : St} (hs : WfS s) {fn : Func} {v : Value} (h : aresults X fn s = some v) : WfT v ∧ aresults X.good fn s = some v := by
  unfold aresults at h ⊢
  obtain ⟨vs, hvs, h⟩ := Option.map_eq_some_iff.1 h
  obtain ⟨k1, k2⟩ := aresL_good hX hs _ _ hvs
  rw [k2]
  refine ⟨?_, by rw [Option.map_some, h]⟩
  match vs, h, k1 with
  | [v'], h, k1 => subst h; exact .of_V (k1 _ (by simp))
  | [], h, k1 => subst h; exact fun x hx => by simp at hx
  | v1 :: v2 :: l, h, k1 => subst h; exact fun x hx => k1 x (by simpa using hx)

theorem runB_good (hX : OrcWf X) {hc hc' : HOrc} (hh : HcWf hc hc') {fuel : Nat} {fn : Func} {l : List Value} {H H' : Heap} {v : Value} (hl : WfA l) (hH : WfH H) (h : runB X hc fuel fn l H = some (v, H')) : WfT v ∧ WfH H' ∧ runB X.good hc' fuel fn l H = some (v, H') := by
  unfold runB at h ⊢
  obtain ⟨c, hc0, h⟩ := Option.bind_eq_some_iff.1 h
  obtain ⟨⟨x, s⟩, hr, h⟩ := Option.bind_eq_some_iff.1 h
  obtain ⟨k1, k2⟩ := runC_good hX hh fuel c _ _ _ ⟨envOf_wf hl, hH⟩ hr
  simp only [hc0, Option.bind_some, k2]
  cases x with
  | exit i => cases h
  | normal =>
    obtain ⟨u, hu, h⟩ := Option.map_eq_some_iff.1 h
    injection h with h1 h2; subst h1 h2
    obtain ⟨k3, k4⟩ := aresults_good hX k1 hu
    exact ⟨k3, k1.2, by simp only [k4, Option.map_some]⟩
  | ret =>
    obtain ⟨u, hu, h⟩ := Option.map_eq_some_iff.1 h
    injection h with h1 h2; subst h1 h2
    obtain ⟨k3, k4⟩ := aresults_good hX k1 hu
    exact ⟨k3, k1.2, by simp only [k4, Option.map_some]⟩

theorem runF_good (hX : OrcWf X) (fuel : Nat) : ∀ d, HcWf (runF X fuel d) (runF X.good fuel d) := by
  intro d
  induction d with
  | zero => intro f l H v H' h; simp [runF] at h
  | succ d ih =>
    intro f l H v H' h hl hH
    simp only [runF] at h ⊢
    obtain ⟨fn, hf, h⟩ := Option.bind_eq_some_iff.1 h
    have hf' : X.good.P.funcs[f]? = some fn := hf
    simp only [hf', Option.bind_some]
    cases hn : (fn.name == "runtime.NumGoroutine" || Nat.blt fn.ntmps l.length) with
    | true => simp [hn] at h
    | false =>
      simp only [hn, cond_false] at h ⊢
      exact runB_good hX ih hl hH h
theorem HcWf.none : HcWf (fun _ _ _ => Option.none) (fun _ _ _ => Option.none) := fun _ _ _ _ _ h => by cases h
end

/-- a call of numbers within their kinds -/
def WCall (P : Program) (f : FuncId) (l : List Value) (v : Value) : Prop := WfA l → PCall (cx P []) f l v ∧ WfT v
def WCon (P : Program) (f : FuncId) (g : List Value → Option Value) : Prop := ∀ l v, g l = some v → WCall P f l v

section
variable {P : Program} {t : Tbl}
theorem WCons.nil : ∀ p ∈ ([] : Tbl), WCon P p.1 p.2 := by simp
theorem WCons.cons {f : FuncId} {g : List Value → Option Value} (h : WCon P f g) (ht : ∀ p ∈ t, WCon P p.1 p.2) : ∀ p ∈ ((f, g) :: t : Tbl), WCon P p.1 p.2 := by
  intro p hp
  rcases List.mem_cons.1 hp with rfl | hp
  · exact h
  · exact ht p hp
theorem WCon.of_con {f : FuncId} {g : List Value → Option Value} (h : Con P f g) (hw : ∀ l v, g l = some v → WfT v) : WCon P f g := fun l v e _ => ⟨h l v e, hw l v e⟩
theorem orcWf_tbl (ht : ∀ p ∈ t, WCon P p.1 p.2) : OrcWf (cx P t) :=
  ⟨fun f l v h hw => by
    obtain ⟨g, h1, h2⟩ := look_cases t f l v h
    exact (ht (f, g) h1 l v h2 hw).2, fun g l h => by cases h⟩
theorem orcOK_good (ht : ∀ p ∈ t, WCon P p.1 p.2) : OrcOK (cx P t).good := by
  intro f l v h
  have h : goodOrc (cx P t).orc f l = some v := h
  unfold goodOrc at h
  split at h
  · rename_i hw
    obtain ⟨g, h1, h2⟩ := look_cases t f l v h
    exact (ht (f, g) h1 l v h2 hw).1
  · cases h

theorem WCall.of_run (hm : P.follows .mixedOrders = true) (ht : ∀ p ∈ t, WCon P p.1 p.2) {fuel d : Nat} {f : FuncId} {l : List Value} {v : Value} {H' : Heap} (h : runF (cx P t) fuel d f l [] = some (v, H')) (hl : l.all plainT = true) (hv : plainT v = true) : WCall P f l v := by
  intro hw
  obtain ⟨k1, _, k3⟩ := runF_good (orcWf_tbl ht) fuel d f l [] v H' h hw (fun i b hb => by simp at hb)
  exact ⟨PCall.of_run (X := (cx P t).good) hm (orcOK_good ht) k3 hl hv, k1⟩
theorem WCall.of_val (hm : P.follows .mixedOrders = true) (ht : ∀ p ∈ t, WCon P p.1 p.2) (fuel d : Nat) {f : FuncId} {l : List Value} {v : Value} (h : valOf (runF (cx P t) fuel d f l []) = some v) (hl : l.all plainT = true) (hv : plainT v = true) : WCall P f l v := by
  unfold valOf at h
  obtain ⟨⟨v', H'⟩, h1, h2⟩ := Option.map_eq_some_iff.1 h
  simp only at h2
  subst h2
  exact .of_run hm ht h1 hl hv
theorem WCall.of_taken (hm : P.follows .mixedOrders = true) (ht : ∀ p ∈ t, WCon P p.1 p.2) (tk : Take) (fuel d : Nat) {f : FuncId} {args : List Value} {v : Value} (l : Owe) (h : shapeF (runFT (cx P t) fuel d tk f args []) = some (v, l)) (hl : l.met)
    (hargs : args.all plainT = true) (hv : plainT v = true) : WCall P f args v := by
  simp only [shapeF, Option.map_eq_some_iff, Prod.exists, Prod.mk.injEq] at h
  obtain ⟨v', H', l', t', h1, rfl, rfl⟩ := h
  exact .of_run hm ht (runFT_sound h1 hl) hargs hv
theorem WCall.of_tests (hm : P.follows .mixedOrders = true) (ht : ∀ p ∈ t, WCon P p.1 p.2) (fuel d : Nat) {f : FuncId} {args : List Value} {v : Value} (l : List (Nat × Bool × Bool)) (h : shapeF (runFT (cx P t) fuel d (tkB l) f args []) = some (v, oweB l)) (hl : ∀ p ∈ l, p.2.1 = p.2.2)
    (hargs : args.all plainT = true) (hv : plainT v = true) : WCall P f args v :=
  .of_taken hm ht (tkB l) fuel d (oweB l) h (oweB_met l hl) hargs hv
theorem WCall.of_ru (hm : P.follows .mixedOrders = true) (ht : ∀ p ∈ t, WCon P p.1 p.2) {f : FuncId} {fn : Func} {c : Code} {l : List Value} {s' : St} {x : AExit} {v : Value} (hf : P.funcs[f]? = some fn) (hc0 : fn.body = some c)
    (hname : (fn.name == "runtime.NumGoroutine") = false) (hN : Nat.ble l.length fn.ntmps = true) (h : Ru (cx P t) (fun _ _ _ => none) fn.ntmps c ⟨envOf l, []⟩ x s') (hx : ∀ i, x ≠ .exit i) (hv : aresults (cx P t) fn s' = some v) (hl : l.all plainT = true) (hpv : plainT v = true) : WCall P f l v := by
  intro hw
  obtain ⟨n, h⟩ := h
  obtain ⟨k1, k2⟩ := runC_good (orcWf_tbl ht) HcWf.none n c _ _ _ ⟨envOf_wf hw, fun i b hb => by simp at hb⟩ h
  obtain ⟨k3, k4⟩ := aresults_good (orcWf_tbl ht) k1 hv
  exact ⟨PCall.of_ru (X := (cx P t).good) (hc := fun _ _ _ => none) hm (orcOK_good ht) HOK.none hf hc0 hname hN ⟨n, k2⟩ hx k4 hl hpv, k3⟩
/-- a function that the model stands in for -/
theorem WCall.of_ext {f : FuncId} {l : List Value} {v : Value} (hl : l.all plainT = true) (hv : plainT v = true) (h : ∀ w, (callFunc f ⟨l⟩).run P w = .ok (.value v) w) (hw : WfT v) : WCall P f l v :=
  fun _ => ⟨⟨hl, hv, .inr h⟩, hw⟩
end
end Go.Ab
