import Derived.Test.YtninlahlmjhmhaaAbSound
namespace Go.Ab
section
variable {X : Cx} {C : Ctx} {hc : HOrc} {N : Nat} {ρ : Nat → Loc} {a : Act} {w : World}

theorem ares1_sound {s : St} (hs : SRel X C N ρ s a w) {r : ResultVar} {v : Value} (h : ares1 X s r = some v) :
    ∃ v', ((match r with | .tmp t => pure (a.tmps.getD t undef) | .cell p t => do loadVar t (← asAddr (a.tmps.getD p undef)) : Sem Value).run X.P w = .ok v' w) ∧ VRel ρ s.heap.length v v' := by
  cases r with
  | tmp t =>
    simp only [ares1, Option.bind_eq_some_iff] at h
    obtain ⟨u, hu, h⟩ := h
    cases ht : isTup u <;> simp only [ht, cond_true, cond_false] at h
    · injection h with h; subst h
      obtain ⟨v', g1, g2⟩ := hs.env t _ hu
      exact ⟨v', by simp [g1], g2.V (by rintro vs rfl; simp [isTup] at ht)⟩
    · cases h
  | cell p t =>
    simp only [ares1, Option.bind_eq_some_iff] at h
    obtain ⟨u, hu, h⟩ := h
    obtain ⟨u', g1, g2⟩ := hs.env p _ hu
    obtain ⟨q, rfl, v', k1, k2⟩ := ald_sound hs.sim h g2
    exact ⟨v', by simp [g1, asAddr, k1], k2⟩

theorem aresL_sound {s : St} (hs : SRel X C N ρ s a w) : ∀ (rs : List ResultVar) (vs : List Value), aresL X s rs = some vs →
    ∃ vs', (rs.mapM (fun | .tmp t => pure (a.tmps.getD t undef) | .cell p t => do loadVar t (← asAddr (a.tmps.getD p undef))) : Sem (List Value)).run X.P w = .ok vs' w ∧ LRel (VRel ρ s.heap.length) vs vs' := by
  intro rs
  induction rs with
  | nil => intro vs h; simp only [aresL, Option.some.injEq] at h; subst h; exact ⟨[], by simp, .nil⟩
  | cons r rs ih =>
    intro vs h
    simp only [aresL, Option.bind_eq_some_iff, Option.map_eq_some_iff] at h
    obtain ⟨v, hv, l, hl, rfl⟩ := h
    obtain ⟨v', g1, g2⟩ := ares1_sound hs hv
    obtain ⟨l', k1, k2⟩ := ih l hl
    refine ⟨v' :: l', ?_, .cons g2 k2⟩
    simp only [List.mapM_cons, Sem.run_bind]
    erw [g1]
    simp only [Result.andThen_ok, k1, Sem.run_pure]

theorem aresults_sound {s : St} (hs : SRel X C N ρ s a w) {fn : Func} {v : Value} (h : aresults X fn s = some v) :
    ∃ v', (results fn a.tmps).run X.P w = .ok v' w ∧ TRel ρ s.heap.length v v' := by
  unfold aresults at h
  simp only [Option.map_eq_some_iff] at h
  obtain ⟨vs, hvs, rfl⟩ := h
  obtain ⟨vs', g1, g2⟩ := aresL_sound hs _ _ hvs
  have hrun : (fn.results.mapM (fun | .tmp t => pure (a.tmps.getD t undef) | .cell p t => do loadVar t (← asAddr (a.tmps.getD p undef))) : Sem (Array Value)).run X.P w = .ok vs'.toArray w := by
    rw [Array.mapM_eq_mapM_toList]
    simp only [Sem.run_map, g1, Result.andThen_ok]
  have hres : (results fn a.tmps).run X.P w = .ok (if h : vs'.toArray.size = 1 then vs'.toArray[0] else .tuple vs'.toArray) w := by
    unfold results
    rw [Sem.run_bind]
    erw [hrun]
    rfl
  refine ⟨_, hres, ?_⟩
  match vs, g2 with
  | [], g2 =>
    have : vs' = [] := List.length_eq_zero_iff.1 g2.1.symm
    subst this
    exact ⟨#[], rfl, .nil⟩
  | [v], g2 =>
    match vs', g2 with
    | [v'], g2 =>
      obtain ⟨u, h1, h2⟩ := g2.2 0 v (by simp)
      simp only [List.getElem?_cons_zero, Option.some.injEq] at h1
      subst h1
      exact .of_V h2
    | [], g2 => exact absurd g2.1 (by simp)
    | _ :: _ :: _, g2 => exact absurd g2.1 (by simp)
  | v1 :: v2 :: l, g2 =>
    have : ¬ vs'.toArray.size = 1 := by have := g2.1; simp at this ⊢; omega
    rw [dif_neg this]
    exact ⟨vs'.toArray, rfl, by simpa using g2⟩

/-- a body's end -/
theorem bodyPost_of {fn : Func} {s s' : St} {x : AExit} {v : Value} (hx : ∀ i, x ≠ .exit i) (hv : aresults X fn s' = some v) {R : Ending → World → Prop}
    (hR : ∀ ρ' v' w', (∀ i, i < s.heap.length → ρ' i = ρ i) → s.heap.length ≤ s'.heap.length → Sim X C ρ' s'.heap w' → TRel ρ' s'.heap.length v v' → R (.returned v') w') {a' : Act} {w' : World} (ht : Then X C N ρ s s' a' w') :
    bodyPost X.P fn R (exitOf x) a' w' := by
  obtain ⟨ρ', g1, g2, g3⟩ := ht
  obtain ⟨v', k1, k2⟩ := aresults_sound g3 hv
  cases x with
  | normal => exact ⟨g3.defers, v', k1, hR ρ' v' w' g1 g2 g3.sim k2⟩
  | ret => exact ⟨g3.defers, v', k1, hR ρ' v' w' g1 g2 g3.sim k2⟩
  | exit i => exact absurd rfl (hx i)

/-- the state at a call's start -/
theorem SRel.start {H : Heap} (hs : Sim X C ρ H w) {l : List Value} {l' : List Value} (hl : LRel (TRel ρ H.length) l l') (hN : l.length ≤ N) :
    SRel X C N ρ ⟨envOf l, H⟩ { tmps := (⟨l'⟩ : Array Value) ++ Array.replicate (N - (⟨l'⟩ : Array Value).size) undef, defers := [] } w := by
  refine ⟨hs, fun k v hk => ?_, ?_, rfl⟩
  · obtain ⟨v', g1, g2⟩ := hl.2 k v hk
    have hlt : k < l'.length := (List.getElem?_eq_some_iff.1 g1).1
    refine ⟨v', ?_, g2⟩
    rw [Array.getElem?_append_left (by simpa using hlt)]
    simpa using g1
  · have := hl.1
    simp only [Array.size_append, Array.size_replicate, List.size_toArray]; omega

theorem runB_sound (hm : X.P.follows .mixedOrders = true) (horc : OrcOK X) (hhc : HOK X hc) {fuel : Nat} {f : FuncId} {fn : Func} {l : List Value} {H H' : Heap} {v : Value} (hf : X.P.funcs[f]? = some fn) (hname : (fn.name == "runtime.NumGoroutine") = false) (hN : l.length ≤ fn.ntmps)
    (h : runB X hc fuel fn l H = some (v, H')) : HCall X f l H v H' := by
  unfold runB at h
  simp only [Option.bind_eq_some_iff, Prod.exists] at h
  obtain ⟨c, hc0, x, s', hrun, h⟩ := h
  refine ⟨⟨fn, hf, hname, by rw [hc0]; rfl⟩, fun C ρ w l' hl hs => ?_⟩
  have hx : (∀ i, x ≠ .exit i) ∧ aresults X fn s' = some v ∧ s'.heap = H' := by
    cases x with
    | exit i => cases h
    | normal => simp only [Option.map_eq_some_iff, Prod.mk.injEq] at h; obtain ⟨u, h1, rfl, h3⟩ := h; exact ⟨by simp, h1, h3⟩
    | ret => simp only [Option.map_eq_some_iff, Prod.mk.injEq] at h; obtain ⟨u, h1, rfl, h3⟩ := h; exact ⟨by simp, h1, h3⟩
  obtain ⟨hx1, hx2, rfl⟩ := hx
  refine calls_of_wp hf hc0 ?_
  refine runC_sound hm horc hhc fuel c ⟨envOf l, H⟩ s' x ρ _ w (SRel.start hs hl hN) hrun _ (fun a' w' ht => ?_)
  exact bodyPost_of hx1 hx2 (fun ρ' v' w' g1 g2 g3 g4 => ⟨v', ρ', rfl, g4, g1, g2, g3⟩) ht

/-- THE ABSTRACT RUN OF A CALL IS THE REAL ONE -/
theorem runF_sound (hm : X.P.follows .mixedOrders = true) (horc : OrcOK X) (fuel : Nat) : ∀ d, HOK X (runF X fuel d) := by
  intro d
  induction d with
  | zero => intro f l H v H' h; simp [runF] at h
  | succ d ih =>
    intro f l H v H' h
    simp only [runF, Option.bind_eq_some_iff] at h
    obtain ⟨fn, hf, h⟩ := h
    cases hn : (fn.name == "runtime.NumGoroutine" || Nat.blt fn.ntmps l.length) with
    | true => simp [hn] at h
    | false =>
      simp only [hn, cond_false] at h
      simp only [Bool.or_eq_false_iff] at hn
      have hle : l.length ≤ fn.ntmps := by
        have := hn.2
        rcases Nat.lt_or_ge fn.ntmps l.length with h1 | h1
        · have : Nat.blt fn.ntmps l.length = true := by simpa using h1
          rw [this] at hn; simp at hn
        · exact h1
      exact runB_sound hm horc ih hf hn.1 hle h

theorem HOK.none : HOK X (fun _ _ _ => Option.none) := fun _ _ _ _ _ h => by cases h

/-- a call over plain values, out of its abstract run -/
theorem PCall.of_H {f : FuncId} {l : List Value} {v : Value} {H' : Heap} (hl : l.all plainT = true) (hv : plainT v = true) (h : HCall X f l [] v H') : PCall X f l v := by
  refine ⟨hl, hv, .inl ⟨h.1, fun w hg => ?_⟩⟩
  have hs : Sim X (ctxOf (fun _ => ⟨0, 0, 0, 0⟩) [] w) (fun _ => ⟨0, 0, 0, 0⟩) [] w :=
    { blk := fun i b hb => by simp at hb, own := fun i b hb => by simp at hb, far := fun i j bi bj hb => by simp at hb, os := rfl, tape := rfl, output := rfl, size := Nat.le_refl _, keep := fun _ _ _ => rfl, agree := fun _ _ => rfl, len := Nat.le_refl _,
      glob := fun g l' hgl => by
        obtain ⟨h1, h2⟩ := hg g l' hgl
        exact ⟨by rintro ⟨i, b, hb, _⟩; simp at hb, h1, h2⟩ }
  refine (h.2 _ _ w l (LRel.refl_of fun u hu => .plain (List.all_eq_true.1 hl u hu)) hs).mono fun e w' ⟨v', ρ', h1, h2, _, _, h5⟩ => ?_
  have := TRel.plain_eq hv h2
  subst this
  exact ⟨h1, h5.os, h5.tape, h5.output, h5.size, fun k hk => h5.keep k hk (by rintro ⟨i, b, hb, _⟩; simp at hb)⟩

theorem PCall.of_run (hm : X.P.follows .mixedOrders = true) (horc : OrcOK X) {fuel d : Nat} {f : FuncId} {l : List Value} {v : Value} {H' : Heap} (h : runF X fuel d f l [] = some (v, H')) (hl : l.all plainT = true) (hv : plainT v = true) : PCall X f l v :=
  .of_H hl hv (runF_sound hm horc fuel d f l [] v H' h)

end
end Go.Ab
