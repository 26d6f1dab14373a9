import Derived.Test.YtlopooohfkgncaaTyD
namespace Go.Ty
open Go.Ab (TRel VRel LRel CRel ERel Sim)

/-! ## Calls that look at own memory, hand back several flat values -/
def flatB : AV → Bool
  | .val s _ => s.flat
  | _ => false
theorem flatB_val {v : AV} (h : flatB v = true) : ∃ s x, v = .val s x ∧ s.flat = true := by
  cases v with
  | val s x => exact ⟨s, x, rfl, h⟩
  | two _ _ => cases h
  | cell _ => cases h
def RT.flatT : RT → Bool
  | .ret (.tup l) => l.all flatB
  | .ret _ => false
  | .alt _ t e => t.flatT && e.flatT
  | .pre _ k => k.flatT
  | .dem _ k => k.flatT
theorem RT.flatT_val {t : RT} (h : t.flatT = true) : ∃ l, t.val = .tup l ∧ ∀ v ∈ l, flatB v = true := by
  induction t with
  | ret v =>
    cases v with
    | av a => cases h
    | tup l => exact ⟨l, rfl, List.all_eq_true.1 h⟩
  | alt c t e ih1 ih2 =>
    have k : (t.flatT && e.flatT) = true := h
    rw [Bool.and_eq_true] at k
    cases c with
    | true => exact ih1 k.1
    | false => exact ih2 k.2
  | pre p k ih => exact ih h
  | dem b k ih => exact ih h
theorem conS_okT {P : Program} {gl : Nat → Option ((s : Sh) × s.T)} {f : FuncId} {as : List Ar} {F : HA as → RT} (h : ∀ xs : HA as, wfHA as xs → (F xs).cond → PC (bx P gl) f (argsA as xs) (F xs).val) (hr : ∀ xs, (F xs).flatT = true) : COK P gl f (conS as F) := by
  intro C ρ M H w args l1 l' nid v H' hex ha hl hs hH
  obtain ⟨l2, k1, k3, k6⟩ := snapL_sound hex ha hH
  cases hg : parseA as l2 with
  | none => rw [hg] at k1; simp at k1
  | some xs =>
    rw [hg] at k1
    have k1 := Ex_pre.1 (RT.act_val k1)
    obtain ⟨hp, k1⟩ := k1
    simp only [Ex_ret] at k1
    obtain ⟨rfl, rfl⟩ := k1
    have ha0 : ArgsR (bx P gl) (lk0 (frzAll M.H1)) l2 l1 := ⟨k3.1, fun j u hu => by
      obtain ⟨u1, q1, q2⟩ := k3.2 j u hu
      exact ⟨u1, q1, noRef_svr (M := ⟨frzAll M.H1, M.mu, M.ln⟩) (M' := lk0 (frzAll M.H1)) (fun _ _ h _ => h) (k6 u (List.mem_of_getElem? hu)) q2⟩⟩
    have ha' := argsA_parse hg ha0
    have hpc := h xs (argsA_wf ha') hp
    obtain ⟨l, er, hf⟩ := RT.flatT_val (hr xs)
    have hs' : Sim (x1 (bx P gl)) ⟨w, fun _ => False, 0, ρ⟩ ρ (frzAll M.H1) w := {
      blk := fun i b hb => by
        obtain ⟨b0, g1, rfl⟩ := frzAll_of hb
        obtain ⟨cs, t, fr, q1, q2, q3⟩ := hs.blk i b0 g1
        exact ⟨cs, t, fr, q1, (fun h => by cases h), fun j v hj => by rw [frzAll_len]; exact q3 j v hj⟩
      own := fun i b hb ho => by obtain ⟨b0, g1, rfl⟩ := frzAll_of hb; cases ho
      far := fun i j bi bj hb _ ho => by obtain ⟨b0, g1, rfl⟩ := frzAll_of hb; cases ho
      os := rfl, tape := rfl, output := rfl, size := Nat.le_refl _, keep := fun _ _ _ => rfl, agree := fun _ _ => rfl, len := Nat.zero_le _
      glob := fun g l hgl => by
        obtain ⟨a1, a2, cs, t, fr, a3, a4⟩ := hs.glob g l hgl
        have hlt : g < C.w.heap.size := (Array.getElem?_eq_some_iff.1 a3).1
        exact ⟨fun h => h, a2, cs, t, fr, (hs.keep g hlt a1).trans a3, a4⟩ }
    have key := hpc.2 ⟨w, fun _ => False, 0, ρ⟩ ρ (frzAll M.H1) w l1 l' ha' (by rw [frzAll_len]; exact hl) hs'
    have fin : ∀ v' w', (∃ v1 ρ' H1', SVR (gl1 (bx P gl)) (lk0 H1') (F xs).val v1 ∧ TRel ρ' H1'.length v1 v' ∧ (∀ i, i < (frzAll M.H1).length → ρ' i = ρ i) ∧ Sim (x1 (bx P gl)) ⟨w, fun _ => False, 0, ρ⟩ ρ' H1' w' ∧ (frzAll M.H1).length ≤ H1'.length ∧ ∀ (i : Nat) b, (frzAll M.H1)[i]? = some (some b) → H1'[i]? = some (some b)) →
        ∃ u v1 ρ' M', some (F xs).val = some u ∧ SVR (gl1 (bx P gl)) M' u v1 ∧ TRel ρ' M'.H1.length v1 v' ∧ (∀ i, i < M.H1.length → ρ' i = ρ i) ∧ Sim (x1 (bx P gl)) C ρ' M'.H1 w' ∧ HR (gl1 (bx P gl)) M' H' ∧ Ext M H' M' H' := by
      rintro v' w' ⟨v1, ρ', H1', q1, q2, q3, q4, q5, q6⟩
      rw [er] at q1 ⊢
      obtain ⟨us, rfl, hlen, hel⟩ := q1
      obtain ⟨vs', e', hl'⟩ := q2
      have el : ∀ (j : Nat) v, l[j]? = some v → ∃ s x, v = .val s x ∧ s.flat = true ∧ s.wfT x ∧ us.toList[j]? = some (flatV s x) := fun j v hj => by
        obtain ⟨u', p1, p2⟩ := hel j v hj
        obtain ⟨s, x, ev, hs⟩ := flatB_val (hf v (List.mem_of_getElem? hj))
        subst ev
        obtain ⟨cs, z1, _⟩ := p2.val
        have e3 := VR.flat hs p2
        exact ⟨s, x, rfl, hs, z1.wf, by rw [← e3]; exact p1⟩
      have hk : ∀ b, b < w.heap.size → w'.heap[b]? = w.heap[b]? := fun b hb => q4.keep b hb (fun h => h)
      have r1 : SVR (gl1 (bx P gl)) M (.tup l) (.tuple us) := ⟨us, rfl, hlen, fun j v hj => by
        obtain ⟨s, x, ev, hs, hw, hu⟩ := el j v hj
        subst ev
        exact ⟨_, hu, VR.mkflat hs hw⟩⟩
      have r2 : TRel ρ M.H1.length (.tuple us) v' := ⟨vs', e', hl'.1, fun j u hj => by
        have hlt : j < l.length := by rw [hlen]; exact (List.getElem?_eq_some_iff.1 hj).1
        obtain ⟨s, x, _, hs, _, hu⟩ := el j _ (List.getElem?_eq_getElem hlt)
        obtain ⟨v2, p1, p2⟩ := hl'.2 j u hj
        rw [hj] at hu
        have hu : u = flatV s x := Option.some.inj hu
        subst hu
        exact ⟨v2, p1, vrel_flat hs p2⟩⟩
      refine ⟨_, _, ρ, M, rfl, r1, r2, fun _ _ => rfl, ?_, hH, .refl⟩
      exact {
        blk := fun i b hb => by
          obtain ⟨cs, t, fr, q1, q2, q3⟩ := hs.blk i b hb
          exact ⟨cs, t, fr, by rw [hk _ (Array.getElem?_eq_some_iff.1 q1).1]; exact q1, q2, q3⟩
        own := hs.own, far := hs.far
        os := q4.os.trans hs.os, tape := q4.tape.trans hs.tape, output := q4.output.trans hs.output
        size := Nat.le_trans hs.size q4.size
        keep := fun b hb hn => (hk b (Nat.lt_of_lt_of_le hb hs.size)).trans (hs.keep b hb hn)
        agree := hs.agree, len := hs.len, glob := hs.glob }
    rcases key with ⟨fn, c1, c2, c3, c4⟩ | ⟨v', w', c1, c2⟩
    · exact .inl ⟨fn, c1, c2, c3, c4.mono fun en w' ⟨v', e1, e2⟩ => ⟨v', e1, fin v' w' e2⟩⟩
    · exact .inr ⟨v', w', c1, fin v' w' c2⟩
end Go.Ty
