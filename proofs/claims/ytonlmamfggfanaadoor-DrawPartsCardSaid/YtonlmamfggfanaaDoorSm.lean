import Derived.Test.YtonlmamfggfanaaDoorSw
namespace Go.Ty
open Go.Ab (TRel VRel LRel CRel ERel Sim)

/-! ## Methods: the first argument points to own memory of the caller's, which the callee writes -/
section
variable (X : Cx) (N : Nat) (LS : Nat → Option PT)
def FWM (fn : Func) (s : Sh) (x : s.T) (args : List SV) (K : SV → Slot → Prop) : Prop :=
  match fn.body with
  | some c => W X N LS c ⟨envOf (.av (.cell (.ptr 0 (.one s) [])) :: args), fun k => bif Nat.beq k 0 then .live ⟨.one s (.val s x), true⟩ else .fresh, 1000⟩ fun e st => match e with
    | .exit _ => False
    | .normal => resK X st fn.results.toList fun l H => K (one l) (H 0)
    | .ret => resK X st fn.results.toList fun l H => K (one l) (H 0)
  | none => False
end
def PCM (X : Cx) (f : FuncId) (s : Sh) (x y : s.T) (args : List SV) (r : SV) : Prop := noRefS r = true ∧ ∀ (C : Ab.Ctx) (ρ : Nat → Ab.Loc) (H1 : Ab.Heap) (w : World) (i : Nat) (B : Ab.Blk) (l1 l' : List Value),
  H1[i]? = some (some B) → B.own = true → Cells (gl1 X) H1 s x B.cells → ArgsR X (lk0 H1) args l1 → LRel (TRel ρ H1.length) (.pointer (some ⟨i, 0, none⟩) :: l1) l' → Sim (x1 X) C ρ H1 w →
  CallR X f l' w fun v' w' => ∃ v1 ρ' H1' B', SVR (gl1 X) (lk0 H1') r v1 ∧ TRel ρ' H1'.length v1 v' ∧ (∀ j, j < H1.length → ρ' j = ρ j) ∧ Sim (x1 X) C ρ' H1' w' ∧ H1'[i]? = some (some B') ∧ B'.own = true ∧ Cells (gl1 X) H1' s y B'.cells

theorem FWM_pcm {X : Cx} (hX : XOK X) (hcon : ConsOK X) (hm : X.P.follows .mixedOrders = true) {f : FuncId} {fn : Func} {c : Code} {LS : Nat → Option PT} {s : Sh} {x y : s.T} {args : List SV} {r : SV} (hf : X.P.funcs[f]? = some fn) (hc : fn.body = some c)
    (hname : (fn.name == "runtime.NumGoroutine") = false) (hN : Nat.ble (args.length + 1) fn.ntmps = true) (hl : LoopsOK X fn.ntmps LS c) (h : FWM X fn.ntmps LS fn s x args fun r' sl => r' = r ∧ sl = .live ⟨.one s (.val s y), true⟩) (hr : noRefS r = true) : PCM X f s x y args r := by
  refine ⟨hr, fun C ρ H1 w i B l1 l' hB hBo hBc ha hl' hs => .inl ⟨fn, hf, hname, by rw [hc]; rfl, ?_⟩⟩
  have hN := Nat.le_of_ble_eq_true hN
  unfold FWM at h
  rw [hc] at h
  refine calls_of_wp hf hc ?_
  have hilt : i < H1.length := (List.getElem?_eq_some_iff.1 hB).1
  have hst : SR X C fn.ntmps ρ ⟨H1, fun k => if k = 0 then some i else none, fun _ => 0⟩ ⟨envOf (.av (.cell (.ptr 0 (.one s) [])) :: args), fun k => bif Nat.beq k 0 then .live ⟨.one s (.val s x), true⟩ else .fresh, 1000⟩ { tmps := (⟨l'⟩ : Array Value) ++ Array.replicate (fn.ntmps - (⟨l'⟩ : Array Value).size) undef, defers := [] } w := by
    refine ⟨Ab.envOf (.pointer (some ⟨i, 0, none⟩) :: l1), Ab.SRel.start (H := H1) hs hl' (by rw [List.length_cons, ← ha.1]; exact hN), fun k v hk => ?_, ⟨fun k z hk => ?_, fun k k' z z' j hk hk' _ _ _ => ?_, fun k hk => ?_, fun k j hk => ?_⟩⟩
    · cases k with
      | zero =>
        have hk : some (SV.av (.cell (.ptr 0 (.one s) []))) = some v := hk
        injection hk with hk
        subst hk
        exact ⟨_, rfl, VR.mkptr (M := ⟨H1, fun k => if k = 0 then some i else none, fun _ => 0⟩) (i := i) (r := .one s) (p := []) rfl (inP_nil s) (by simp only [offL, offS_nil])⟩
      | succ k =>
        obtain ⟨v1, g1, g2⟩ := ha.2 k v hk
        exact ⟨v1, g1, g2.mono (M := lk0 H1) (M' := ⟨H1, fun k => if k = 0 then some i else none, fun _ => 0⟩) (fun _ _ h _ => h) (fun _ _ h => by cases h)⟩
    · cases k with
      | zero =>
        have hk : Slot.live ⟨.one s (.val s x), true⟩ = .live z := hk
        injection hk with hk
        subst hk
        exact ⟨i, B, rfl, hB, hBo, ⟨rfl, hBc⟩, fun _ _ h => by cases h⟩
      | succ k => cases hk
    · cases k with
      | zero => cases k' with
        | zero => rfl
        | succ k' => cases hk'
      | succ k => cases hk
    · cases k with
      | zero => cases hk
      | succ k => rfl
    · cases k with
      | zero =>
        have hk : some i = some j := hk
        injection hk with hk
        subst hk; exact hilt
      | succ k => cases hk
  refine W_sound hX hcon hm c hl _ _ h C ρ _ _ w _ hst (fun e s' a' w' hk ht => ?_)
  obtain ⟨ρ', M', t1, t2, e1, t3, t4, t5⟩ := ht
  have hk : resK X s' fn.results.toList (fun l H => one l = r ∧ H 0 = .live ⟨.one s (.val s y), true⟩) ∧ ∀ i, e ≠ .exit i := by
    cases e with
    | normal => exact ⟨hk, by simp⟩
    | ret => exact ⟨hk, by simp⟩
    | exit i => cases hk
  obtain ⟨hk, hx⟩ := hk
  obtain ⟨l, Hm, H1m, vs, k1, k2, k3, k4, k5, k6, k7⟩ := resK_sound hX _ hk t4 t5
  have hsr : Ab.SRel (x1 X) C fn.ntmps ρ' ⟨e1, H1m⟩ a' w' := ⟨sim_frz k2 t3.sim, by have := t3.env; rw [show (Ab.St.mk e1 H1m).heap.length = M'.H1.length from k2.1]; exact this, t3.size, t3.defers⟩
  have hres := aresults_one k5
  obtain ⟨v', q1, q2⟩ := Ab.aresults_sound hsr hres
  have hone := SVR.one_ k6
  rw [k1.1] at hone
  obtain ⟨i', B', z1, z2, z3, z4, _⟩ := k3.live 0 _ k1.2
  have ei : M'.mu 0 = some i := (t2.mu 0 i (by decide) rfl).1
  have z1 : M'.mu 0 = some i' := z1
  rw [ei] at z1
  injection z1 with z1
  subst z1
  have z4 : CellsA (gl1 X) ⟨H1m, M'.mu, M'.ln⟩ (.val s y) s B'.cells := z4
  have fin : ∃ v'', Ending.returned v' = .returned v'' ∧ ∃ v1 ρ' H1' B', SVR (gl1 X) (lk0 H1') r v1 ∧ TRel ρ' H1'.length v1 v'' ∧ (∀ j, j < H1.length → ρ' j = ρ j) ∧ Sim (x1 X) C ρ' H1' w' ∧ H1'[i]? = some (some B') ∧ B'.own = true ∧ Cells (gl1 X) H1' s y B'.cells :=
    ⟨v', rfl, _, ρ', H1m, B', noRef_svr (M := ⟨H1m, M'.mu, M'.ln⟩) (M' := lk0 H1m) (fun _ _ h _ => h) hr hone, q2, t1, hsr.sim, z2, z3, z4.2⟩
  cases e with
  | normal => exact ⟨t3.defers, v', q1, fin⟩
  | ret => exact ⟨t3.defers, v', q1, fin⟩
  | exit i => exact absurd rfl (hx i)
def conM (s : Sh) (as : List Ar) (G : s.T → HA as → s.T) (F : s.T → HA as → RT) : ConT := fun args _ => match args with
  | .av (.cell (.ptr b (.one s') [])) :: rest => bif s'.beq s && rest.all noRefS then (match parseA as rest with
      | some xs => .look b fun k => match k with
          | ⟨.one _ (.val s3 x), true⟩ => .ofO (castTo s3 s x) fun x => .put b ⟨.one s (.val s (G x xs)), true⟩ ((F x xs).act)
          | _ => .fail
      | none => .fail) else .fail
  | _ => .fail
theorem castTo_cells2 {G : Nat → Option (List Value)} {A : Ab.Heap} {a b : Sh} {x : a.T} {y : b.T} {cs : List Value} (h : castTo a b x = some y) (hc : Cells G A a x cs) : Cells G A b y cs := by
  unfold castTo at h
  split at h
  · rename_i e
    have e2 := Sh.eq_of_beq e
    subst e2
    injection h with h
    subst h
    exact hc
  · cases h
/-- the heap as a method sees it: one block is its own, the others are frozen -/
def frzBut (A : Ab.Heap) (i : Nat) (B : Ab.Blk) : Ab.Heap := (frzAll A).set i (some B)
theorem frzBut_len (A : Ab.Heap) (i : Nat) (B : Ab.Blk) : (frzBut A i B).length = A.length := by unfold frzBut; rw [List.length_set, frzAll_len]
theorem frzBut_at {A : Ab.Heap} {i : Nat} {B : Ab.Blk} (hB : A[i]? = some (some B)) {j : Nat} {b : Ab.Blk} (h : (frzBut A i B)[j]? = some (some b)) : (j = i ∧ b = B) ∨ (j ≠ i ∧ ∃ b0, A[j]? = some (some b0) ∧ b = { b0 with own := false }) := by
  unfold frzBut at h
  rw [set_at (frzAll_at hB)] at h
  by_cases e : j = i
  · rw [if_pos e] at h
    injection h with h
    injection h with h
    exact .inl ⟨e, h.symm⟩
  · rw [if_neg e] at h
    exact .inr ⟨e, frzAll_of h⟩
theorem conM_ok {P : Program} {gl : Nat → Option ((s : Sh) × s.T)} {f : FuncId} {s : Sh} {as : List Ar} {G : s.T → HA as → s.T} {F : s.T → HA as → RT} (hsf : s.flat = true)
    (h : ∀ (x : s.T) (xs : HA as), s.wfT x → wfHA as xs → (F x xs).cond → PCM (bx P gl) f s x (G x xs) (argsA as xs) (F x xs).val) (hr : ∀ x xs, (F x xs).flat = true) : COK P gl f (conM s as G F) := by
  intro C ρ M H w args l1 l' nid v H' hex ha hl hs hH
  unfold conM at hex
  split at hex
  · rename_i b s' rest
    simp only [Ex_bif, Ex_fail, and_false, or_false, Bool.and_eq_true] at hex
    obtain ⟨⟨hbs, hno⟩, hex⟩ := hex
    cases hg : parseA as rest with
    | none => rw [hg] at hex; simp at hex
    | some xs =>
      rw [hg] at hex
      simp only [Ex_look] at hex
      obtain ⟨k, hk, hex⟩ := hex
      split at hex
      · rename_i s2 s3 x0
        simp only [Ex_ofO, Ex_put] at hex
        obtain ⟨x, hx, y0, _, hex⟩ := hex
        have hex := Ex_pre.1 (RT.act_val hex)
        obtain ⟨hp, hex⟩ := hex
        simp only [Ex_ret] at hex
        obtain ⟨rfl, rfl⟩ := hex
        obtain ⟨u, l2, rfl, hu, har⟩ := ha.inv
        obtain ⟨i, q1, q2, rfl⟩ := VR.cell hu
        obtain ⟨i', B, z1, z2, z3, z4, z5⟩ := hH.live b _ hk
        rw [q1] at z1
        injection z1 with z1
        subst z1
        obtain ⟨rfl, z4⟩ : s3 = s2 ∧ Cells (gl1 (bx P gl)) M.H1 s3 x0 B.cells := z4
        have hc := castTo_cells2 hx z4
        have hc0 : B.cells = cellsOf s x := cellsOf_eq hsf hc
        have hoff : offL (.one s') [] = 0 := by simp only [offL, offS_nil]
        rw [hoff] at hl
        have hro : RoLe M.H1 (frzBut M.H1 i B) := by
          intro j b' hb' ho
          have hne : j ≠ i := by
            rintro rfl
            rw [z2] at hb'
            injection hb' with hb'
            injection hb' with hb'
            subst hb'
            rw [z3] at ho; cases ho
          unfold frzBut
          rw [set_at (frzAll_at z2), if_neg hne, frzAll_at hb']
          cases b'; cases ho; rfl
        have har' : ArgsR (bx P gl) (lk0 (frzBut M.H1 i B)) rest l2 := ⟨har.1, fun j v hv => by
          obtain ⟨u', y1, y2⟩ := har.2 j v hv
          exact ⟨u', y1, noRef_svr (M := M) (M' := lk0 (frzBut M.H1 i B)) hro (List.all_eq_true.1 hno v (List.mem_of_getElem? hv)) y2⟩⟩
        have ha' := argsA_parse hg har'
        have hpc := h x xs hc.wf (argsA_wf ha') hp
        have hblk : C.S (ρ i).block ∨ C.w.heap.size ≤ (ρ i).block := hs.own i B z2 z3
        have hs' : Sim (x1 (bx P gl)) ⟨w, fun b => b = (ρ i).block, 0, ρ⟩ ρ (frzBut M.H1 i B) w := {
          blk := fun j b hb => by
            rw [frzBut_len]
            rcases frzBut_at z2 hb with ⟨rfl, rfl⟩ | ⟨hne, b0, g1, rfl⟩
            · exact hs.blk _ _ z2
            · obtain ⟨cs, t, fr, q1, q2, q3⟩ := hs.blk j b0 g1
              exact ⟨cs, t, fr, q1, (fun h => by cases h), q3⟩
          own := fun j b hb ho => by
            rcases frzBut_at z2 hb with ⟨rfl, rfl⟩ | ⟨hne, b0, g1, rfl⟩
            · exact .inl rfl
            · cases ho
          far := fun j k bj bk hj hk ho hne => by
            rcases frzBut_at z2 hj with ⟨rfl, rfl⟩ | ⟨_, b0, g1, rfl⟩
            · rcases frzBut_at z2 hk with ⟨rfl, rfl⟩ | ⟨_, b1, g2, rfl⟩
              · exact absurd rfl hne
              · exact hs.far _ k _ b1 z2 g2 ho hne
            · cases ho
          os := rfl, tape := rfl, output := rfl, size := Nat.le_refl _, keep := fun _ _ _ => rfl, agree := fun _ _ => rfl, len := Nat.zero_le _
          glob := fun g l hgl => by
            obtain ⟨a1, a2, cs, t, fr, a3, a4⟩ := hs.glob g l hgl
            have hlt : g < C.w.heap.size := (Array.getElem?_eq_some_iff.1 a3).1
            refine ⟨fun e => ?_, a2, cs, t, fr, (hs.keep g hlt a1).trans a3, a4⟩
            have e : g = (ρ i).block := e
            rw [← e] at hblk
            exact hblk.elim a1 (fun h => absurd hlt (Nat.not_lt.2 h)) }
        have key := hpc.2 ⟨w, fun b => b = (ρ i).block, 0, ρ⟩ ρ (frzBut M.H1 i B) w i B l2 l' (by unfold frzBut; rw [set_at (frzAll_at z2), if_pos rfl]) z3 (by rw [hc0]; exact cells_of hsf hc.wf) ha' (by rw [frzBut_len]; exact hl) hs'
        obtain ⟨t0, r0, er, hf⟩ := RT.flat_val (hr x xs)
        have fin : ∀ v' w', (∃ v1 ρ' H1' B', SVR (gl1 (bx P gl)) (lk0 H1') (F x xs).val v1 ∧ TRel ρ' H1'.length v1 v' ∧ (∀ j, j < (frzBut M.H1 i B).length → ρ' j = ρ j) ∧ Sim (x1 (bx P gl)) ⟨w, fun b => b = (ρ i).block, 0, ρ⟩ ρ' H1' w' ∧ H1'[i]? = some (some B') ∧ B'.own = true ∧ Cells (gl1 (bx P gl)) H1' s (G x xs) B'.cells) →
            ∃ u v1 ρ' M', some (F x xs).val = some u ∧ SVR (gl1 (bx P gl)) M' u v1 ∧ TRel ρ' M'.H1.length v1 v' ∧ (∀ i, i < M.H1.length → ρ' i = ρ i) ∧ Sim (x1 (bx P gl)) C ρ' M'.H1 w' ∧ HR (gl1 (bx P gl)) M' (H.put b (.live ⟨.one s (.val s (G x xs)), true⟩)) ∧ Ext M H M' (H.put b (.live ⟨.one s (.val s (G x xs)), true⟩)) := by
          rintro v' w' ⟨v1, ρ', H1', B', q1', q2', q3, q4, q5, q6, q7⟩
          rw [er] at q1' ⊢
          have q1' : VR (gl1 (bx P gl)) (lk0 H1') (.val t0 r0) v1 := q1'
          obtain ⟨cs, y1, y2⟩ := q1'.val
          have ev := VR.flat hf q1'
          subst ev
          have hilt : i < M.H1.length := (List.getElem?_eq_some_iff.1 z2).1
          have hρ : ρ' i = ρ i := q3 i (by rw [frzBut_len]; exact hilt)
          have hw : ∀ b, b < w.heap.size → b ≠ (ρ i).block → w'.heap[b]? = w.heap[b]? := fun b hb hne => q4.keep b hb hne
          have hcells : B'.cells = cellsOf s (G x xs) := cellsOf_eq hsf q7
          have hput := put_step hH hk rfl q1 z2 z3 q6 (c' := .one s (.val s (G x xs))) (B' := B') ⟨rfl, by rw [hcells]; exact cells_of hsf q7.wf⟩ (fun _ _ h => by cases h)
          refine ⟨_, _, ρ, ⟨M.H1.set i (some B'), M.mu, M.ln⟩, rfl, VR.mkflat hf y1.wf, trel_flat hf q2', fun _ _ => rfl, ?_, hput.1, hput.2⟩
          have at_ : ∀ (j : Nat) b, (M.H1.set i (some B'))[j]? = some (some b) → (j = i ∧ b = B') ∨ (j ≠ i ∧ M.H1[j]? = some (some b)) := by
            intro j b hj
            rw [set_at z2] at hj
            by_cases e : j = i
            · rw [if_pos e] at hj
              injection hj with hj
              injection hj with hj
              exact .inl ⟨e, hj.symm⟩
            · rw [if_neg e] at hj
              exact .inr ⟨e, hj⟩
          exact {
            blk := fun j b hj => by
              rcases at_ j b hj with ⟨rfl, rfl⟩ | ⟨hne, g1⟩
              · obtain ⟨cs, t, fr, k1, k2, k3⟩ := q4.blk _ _ q5
                rw [hρ] at k1 k2 k3
                refine ⟨cs, t, fr, k1, k2, fun k v hv => ?_⟩
                obtain ⟨v2, r1, r2⟩ := k3 k v hv
                have hv := plain_cells (x := G x xs) hsf v (by rw [← hcells]; exact List.mem_of_getElem? hv)
                have e := CRel.plain_eq hv r2
                subst e
                exact ⟨_, r1, CRel.plain hv⟩
              · obtain ⟨cs, t, fr, k1, k2, k3⟩ := hs.blk j b g1
                have hd := hs.far i j B b z2 g1 z3 (fun e => hne e.symm)
                exact ⟨cs, t, fr, by rw [hw _ (Array.getElem?_eq_some_iff.1 k1).1 (fun e => hd e.symm)]; exact k1, k2, by rw [List.length_set]; exact k3⟩
            own := fun j b hj ho => by
              rcases at_ j b hj with ⟨rfl, rfl⟩ | ⟨hne, g1⟩
              · exact hblk
              · exact hs.own j b g1 ho
            far := fun j k bj bk hj hk ho hne => by
              rcases at_ j bj hj with ⟨rfl, rfl⟩ | ⟨hn1, g1⟩
              · rcases at_ k bk hk with ⟨rfl, rfl⟩ | ⟨hn2, g2⟩
                · exact absurd rfl hne
                · exact hs.far _ k B bk z2 g2 z3 hne
              · rcases at_ k bk hk with ⟨rfl, rfl⟩ | ⟨hn2, g2⟩
                · exact hs.far j _ bj B g1 z2 ho hne
                · exact hs.far j k bj bk g1 g2 ho hne
            os := q4.os.trans hs.os, tape := q4.tape.trans hs.tape, output := q4.output.trans hs.output
            size := Nat.le_trans hs.size q4.size
            keep := fun b hb hn => by
              have hne : b ≠ (ρ i).block := by
                rintro rfl
                exact hblk.elim hn (fun h => absurd hb (Nat.not_lt.2 h))
              exact (hw b (Nat.lt_of_lt_of_le hb hs.size) hne).trans (hs.keep b hb hn)
            agree := hs.agree, len := by rw [List.length_set]; exact hs.len, glob := hs.glob }
        rcases key with ⟨fn, c1, c2, c3, c4⟩ | ⟨v', w', c1, c2⟩
        · exact .inl ⟨fn, c1, c2, c3, c4.mono fun en w' ⟨v', e1, e2⟩ => ⟨v', e1, fin v' w' e2⟩⟩
        · exact .inr ⟨v', w', c1, fin v' w' c2⟩
      · simp at hex
  · simp at hex
end Go.Ty
