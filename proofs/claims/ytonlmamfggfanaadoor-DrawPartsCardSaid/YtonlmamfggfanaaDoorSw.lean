import Derived.Test.YtonlmamfggfanaaDoorSn
namespace Go.Ty
open Go.Ab (TRel VRel LRel CRel ERel Sim)

/-! ## Calls that leave own memory as it is, and give a list of their own -/
theorem allC_flat {G : Nat → Option (List Value)} {A B : Ab.Heap} {e : Sh} (hf : e.flat = true) : ∀ {ys : List e.T} {cs : List Value}, AllC (Cells G A e) ys cs → AllC (Cells G B e) ys cs ∧ ∀ v ∈ cs, Ab.plainC v = true
  | [], cs, h => by
    have h : cs = [] := h
    subst h
    exact ⟨rfl, fun v hv => by cases hv⟩
  | y :: ys, cs, ⟨c, d, e1, h1, h2⟩ => by
    obtain ⟨g1, g2⟩ := allC_flat hf h2
    have ec := cellsOf_eq hf h1
    refine ⟨⟨c, d, e1, by rw [ec]; exact cells_of hf h1.wf, g1⟩, fun v hv => ?_⟩
    rw [e1] at hv
    rcases List.mem_append.1 hv with hv | hv
    · rw [ec] at hv; exact plain_cells hf v hv
    · exact g2 v hv
theorem sim_snap {X : Cx} {C : Ab.Ctx} {ρ : Nat → Ab.Loc} {H1 : Ab.Heap} {w : World} (hs : Sim (x1 X) C ρ H1 w) : Sim (x1 X) ⟨w, fun _ => False, 0, ρ⟩ ρ (frzAll H1) w := {
  blk := fun i b hb => by
    obtain ⟨b0, g1, rfl⟩ := frzAll_of hb
    obtain ⟨cs, t, fr, q1, q2, q3⟩ := hs.blk i b0 g1
    exact ⟨cs, t, fr, q1, (fun h => by cases h), fun j v hj => by rw [frzAll_len]; exact q3 j v hj⟩
  own := fun i b hb ho => by obtain ⟨b0, g1, rfl⟩ := frzAll_of hb; cases ho
  far := fun i j bi bj hb _ ho => by obtain ⟨b0, g1, rfl⟩ := frzAll_of hb; cases ho
  os := rfl, tape := rfl, output := rfl, size := Nat.le_refl _, keep := fun _ _ _ => rfl, agree := fun _ _ => rfl, len := Nat.zero_le _
  glob := fun g l hgl => by
    obtain ⟨a1, a2, cs, t, fr, a3, a4⟩ := hs.glob g l hgl
    have hlt : g < C.w.heap.size := (Array.getElem?_eq_some_iff.1 a3).1
    exact ⟨fun h => h, a2, cs, t, fr, (hs.keep g hlt a1).trans a3, a4⟩ }
theorem sim_adopt {X : Cx} {C : Ab.Ctx} {ρ ρ' : Nat → Ab.Loc} {H1 H1' : Ab.Heap} {w w' : World} (hs : Sim (x1 X) C ρ H1 w) (q4 : Sim (x1 X) ⟨w, fun _ => False, 0, ρ⟩ ρ' H1' w') {i : Nat} {B : Ab.Blk} (b1 : H1'[i]? = some (some B)) (b2 : B.own = true) (hp : ∀ v ∈ B.cells, Ab.plainC v = true) :
    Sim (x1 X) C (Ab.upd ρ H1.length (ρ' i)) (H1 ++ [some B]) w' := by
  have hk : ∀ b, b < w.heap.size → w'.heap[b]? = w.heap[b]? := fun b hb => q4.keep b hb (fun h => h)
  have hnew : w.heap.size ≤ (ρ' i).block := (q4.own i B b1 b2).elim (fun h => h.elim) id
  have at_ : ∀ (j : Nat) b, (H1 ++ [some B])[j]? = some (some b) → (j < H1.length ∧ H1[j]? = some (some b) ∧ Ab.upd ρ H1.length (ρ' i) j = ρ j) ∨ (j = H1.length ∧ b = B ∧ Ab.upd ρ H1.length (ρ' i) j = ρ' i) := by
    intro j b hj
    by_cases c : j < H1.length
    · rw [List.getElem?_append_left c] at hj
      exact .inl ⟨c, hj, Ab.upd_lt j c⟩
    · rw [List.getElem?_append_right (by omega)] at hj
      have e : j - H1.length = 0 := by
        have := (List.getElem?_eq_some_iff.1 hj).1
        simp at this; omega
      rw [e] at hj
      have hj : some (some B) = some (some b) := hj
      injection hj with hj
      injection hj with hj
      have ej : j = H1.length := by omega
      subst ej
      exact .inr ⟨rfl, hj.symm, Ab.upd_same⟩
  have old : ∀ (j : Nat) b, H1[j]? = some (some b) → (ρ j).block < w.heap.size := fun j b hj => by
    obtain ⟨cs, t, fr, k1, _⟩ := hs.blk j b hj
    exact (Array.getElem?_eq_some_iff.1 k1).1
  exact {
    blk := fun j b hj => by
      rcases at_ j b hj with ⟨c, g1, g2⟩ | ⟨c, rfl, g2⟩
      · obtain ⟨cs, t, fr, k1, k2, k3⟩ := hs.blk j b g1
        rw [g2]
        exact ⟨cs, t, fr, by rw [hk _ (old j b g1)]; exact k1, k2, fun k v hv => by
          obtain ⟨v', r1, r2⟩ := k3 k v hv
          exact ⟨v', r1, r2.mono Ab.upd_lt (by rw [List.length_append]; exact Nat.le_succ _)⟩⟩
      · obtain ⟨cs, t, fr, k1, k2, k3⟩ := q4.blk i b b1
        rw [g2]
        exact ⟨cs, t, fr, k1, k2, fun k v hv => by
          obtain ⟨v', r1, r2⟩ := k3 k v hv
          have hv := hp v (List.mem_of_getElem? hv)
          have e := CRel.plain_eq hv r2
          subst e
          exact ⟨_, r1, CRel.plain hv⟩⟩
    own := fun j b hj ho => by
      rcases at_ j b hj with ⟨c, g1, g2⟩ | ⟨c, rfl, g2⟩
      · rw [g2]; exact hs.own j b g1 ho
      · rw [g2]; exact .inr (Nat.le_trans hs.size hnew)
    far := fun j k bj bk hj hk2 ho hne => by
      rcases at_ j bj hj with ⟨c, g1, g2⟩ | ⟨c, rfl, g2⟩
      · rcases at_ k bk hk2 with ⟨c', g1', g2'⟩ | ⟨c', rfl, g2'⟩
        · rw [g2, g2']; exact hs.far j k bj bk g1 g1' ho hne
        · have := old j bj g1
          rw [g2, g2']; omega
      · rcases at_ k bk hk2 with ⟨c', g1', g2'⟩ | ⟨c', rfl, g2'⟩
        · have := old k bk g1'
          rw [g2, g2']; omega
        · exact absurd (c.trans c'.symm) hne
    os := q4.os.trans hs.os, tape := q4.tape.trans hs.tape, output := q4.output.trans hs.output
    size := Nat.le_trans hs.size q4.size
    keep := fun b hb hn => (hk b (Nat.lt_of_lt_of_le hb hs.size)).trans (hs.keep b hb hn)
    agree := fun j hj => (Ab.upd_lt j (Nat.lt_of_lt_of_le hj hs.len)).trans (hs.agree j hj)
    len := Nat.le_trans hs.len (by rw [List.length_append]; exact Nat.le_succ _)
    glob := hs.glob }
theorem PCW_snap {X : Cx} {f : FuncId} {args : List SV} {e : Sh} {ys : List e.T} (h : PCW X f args 0 [] (some ⟨e, ys⟩)) (hf : e.flat = true) {C : Ab.Ctx} {ρ : Nat → Ab.Loc} {H1 : Ab.Heap} {w : World} {l1 l' : List Value}
    (ha : ArgsR X (lk0 (frzAll H1)) args l1) (hl : LRel (TRel ρ H1.length) l1 l') (hs : Sim (x1 X) C ρ H1 w) :
    CallR X f l' w fun v' w' => ∃ us u ρ' H1' i, ListR X (lk0 H1') [] us ∧ OwnR X H1' i (some ⟨e, ys⟩) u ∧ TRel ρ' H1'.length (oneV (insA 0 us u)) v' ∧ (∀ j, j < H1.length → ρ' j = ρ j) ∧ Sim (x1 X) C ρ' H1' w' ∧ H1.length ≤ H1'.length ∧
      ∀ (j : Nat) b, H1[j]? = some (some b) → H1'[j]? = some (some b) ∧ ((some ⟨e, ys⟩ : OwnV).isSome = true → j ≠ i) := by
  have key := h.2 ⟨w, fun _ => False, 0, ρ⟩ ρ (frzAll H1) w l1 l' ha (by rw [frzAll_len]; exact hl) (sim_snap hs)
  have fin : ∀ v' w', (∃ us u ρ' H1' i, ListR X (lk0 H1') [] us ∧ OwnR X H1' i (some ⟨e, ys⟩) u ∧ TRel ρ' H1'.length (oneV (insA 0 us u)) v' ∧ (∀ j, j < (frzAll H1).length → ρ' j = ρ j) ∧ Sim (x1 X) ⟨w, fun _ => False, 0, ρ⟩ ρ' H1' w' ∧ (frzAll H1).length ≤ H1'.length ∧
      ∀ (j : Nat) b, (frzAll H1)[j]? = some (some b) → H1'[j]? = some (some b) ∧ ((some ⟨e, ys⟩ : OwnV).isSome = true → j ≠ i)) →
      ∃ us u ρ' H1' i, ListR X (lk0 H1') [] us ∧ OwnR X H1' i (some ⟨e, ys⟩) u ∧ TRel ρ' H1'.length (oneV (insA 0 us u)) v' ∧ (∀ j, j < H1.length → ρ' j = ρ j) ∧ Sim (x1 X) C ρ' H1' w' ∧ H1.length ≤ H1'.length ∧
      ∀ (j : Nat) b, H1[j]? = some (some b) → H1'[j]? = some (some b) ∧ ((some ⟨e, ys⟩ : OwnV).isSome = true → j ≠ i) := by
    rintro v' w' ⟨us, u, ρ', H1', i, q0, q1, q2, q3, q4, q5, q6⟩
    have eu : us = [] := List.eq_nil_of_length_eq_zero q0.1.symm
    subst eu
    have q2 : TRel ρ' H1'.length u v' := q2
    obtain ⟨B, c, b1, b2, b3, b4, b5, b6, b7⟩ := q1
    obtain ⟨g1, g2⟩ := allC_flat (B := H1 ++ [some B]) hf b3
    subst b6
    refine ⟨[], .slice (some ⟨H1.length, 0, none⟩) (List.length ys) c, Ab.upd ρ H1.length (ρ' i), H1 ++ [some B], H1.length, ⟨rfl, fun j x hj => by simp at hj⟩, ⟨B, c, by rw [List.getElem?_append_right (Nat.le_refl _), Nat.sub_self]; rfl, b2, g1, b4, b5, rfl, b7⟩, ?_, fun j hj => Ab.upd_lt j hj, sim_adopt hs q4 b1 b2 g2, by rw [List.length_append]; exact Nat.le_succ _, fun j b hj => ?_⟩
    · show TRel _ _ (.slice (some ⟨H1.length, 0, none⟩) (List.length ys) c) v'
      obtain ⟨hp, a', c', rfl, hcr⟩ := TRel.slc q2
      refine ⟨fun _ => by rw [List.length_append]; exact Nat.lt_succ_self _, a', c', rfl, ?_⟩
      unfold Ab.capRel at hcr ⊢
      simp only [Ab.locA, Ab.upd_same] at hcr ⊢
      exact hcr
    · have hlt := (List.getElem?_eq_some_iff.1 hj).1
      exact ⟨by rw [List.getElem?_append_left hlt]; exact hj, fun _ => by omega⟩
  rcases key with ⟨fn, c1, c2, c3, c4⟩ | ⟨v', w', c1, c2⟩
  · exact .inl ⟨fn, c1, c2, c3, c4.mono fun en w' ⟨v', e1, e2⟩ => ⟨v', e1, fin v' w' e2⟩⟩
  · exact .inr ⟨v', w', c1, fin v' w' c2⟩
def conV (as : List Ar) (F : HA as → WT) : ConT := fun args nid => snapL args fun args => match parseA as args with
  | some xs => (F xs).act 0 nid
  | none => .fail
theorem conV_ok {P : Program} {gl : Nat → Option ((s : Sh) × s.T)} {f : FuncId} {as : List Ar} {F : HA as → WT} (h : ∀ xs : HA as, wfHA as xs → (F xs).cond → ∃ (e : Sh) (ys : List e.T), (F xs).val = ([], some ⟨e, ys⟩) ∧ e.flat = true ∧ PCW (bx P gl) f (argsA as xs) 0 [] (some ⟨e, ys⟩)) : COK P gl f (conV as F) := by
  intro C ρ M H w args l1 l' nid v H' hex ha hl hs hH
  obtain ⟨l2, k1, k3, k6⟩ := snapL_sound hex ha hH
  cases hg : parseA as l2 with
  | none => rw [hg] at k1; simp at k1
  | some xs =>
    rw [hg] at k1
    have k1 := Ex_pre.1 (WT.act_val k1)
    obtain ⟨hp, k1⟩ := k1
    have ha0 : ArgsR (bx P gl) (lk0 (frzAll M.H1)) l2 l1 := ⟨k3.1, fun j u hu => by
      obtain ⟨u1, q1, q2⟩ := k3.2 j u hu
      exact ⟨u1, q1, noRef_svr (M := ⟨frzAll M.H1, M.mu, M.ln⟩) (M' := lk0 (frzAll M.H1)) (fun _ _ h _ => h) (k6 u (List.mem_of_getElem? hu)) q2⟩⟩
    have ha' := argsA_parse hg ha0
    obtain ⟨e, ys, ev, hfl, hpc⟩ := h xs (argsA_wf ha') hp
    rw [ev] at k1
    have key := PCW_snap hpc hfl ha' hl hs
    have fin : ∀ v' w', (∃ us u ρ' H1' i, ListR (bx P gl) (lk0 H1') [] us ∧ OwnR (bx P gl) H1' i (some ⟨e, ys⟩) u ∧ TRel ρ' H1'.length (oneV (insA 0 us u)) v' ∧ (∀ j, j < M.H1.length → ρ' j = ρ j) ∧ Sim (x1 (bx P gl)) C ρ' H1' w' ∧ M.H1.length ≤ H1'.length ∧
        ∀ (j : Nat) b, M.H1[j]? = some (some b) → H1'[j]? = some (some b) ∧ ((some ⟨e, ys⟩ : OwnV).isSome = true → j ≠ i)) →
        ∃ u v1 ρ' M', v = some u ∧ SVR (gl1 (bx P gl)) M' u v1 ∧ TRel ρ' M'.H1.length v1 v' ∧ (∀ i, i < M.H1.length → ρ' i = ρ i) ∧ Sim (x1 (bx P gl)) C ρ' M'.H1 w' ∧ HR (gl1 (bx P gl)) M' H' ∧ Ext M H M' H' := by
      rintro v' w' ⟨us, u, ρ', H1', i, q0, q1, q2, q3, q4, q5, q6⟩
      obtain ⟨z1, z2⟩ := HR_keep hH (fun j b hb => (q6 j b hb).1) q5
      have eu : us = [] := List.eq_nil_of_length_eq_zero q0.1.symm
      subst eu
      have k1 : Ex (.new nid ⟨.row e ys, true⟩ (.ret (some (one (insA 0 [] (.cell (.ref nid (.row e) [] e 0 (List.length ys) none))))))) H v H' := k1
      rw [Ex_new, Ex_ret] at k1
      obtain ⟨hf, rfl, rfl⟩ := k1
      obtain ⟨B, c, b1, b2, b3, b4, b5, b6, b7⟩ := q1
      have hno : ∀ k x, H k = .live x → M.mu k ≠ some i := by
        intro k x hk hmu
        obtain ⟨j, b, g1, g2, _⟩ := hH.live k x hk
        have g1 : M.mu k = some j := g1
        rw [hmu] at g1
        injection g1 with g1
        subst g1
        exact (q6 i b g2).2 rfl rfl
      have hA := adopt_step (M := ⟨H1', M.mu, M.ln⟩) z1 hf b1 b2 b3 b4 b5 hno
      have hup : ∀ k j, M.mu k = some j → updN M.mu nid (some i) k = some j ∧ updN M.ln nid (List.length ys) k = M.ln k := by
        intro k j hk
        have hnone : M.mu nid = none := hH.fresh nid hf
        have e : k ≠ nid := by rintro rfl; rw [hnone] at hk; cases hk
        exact ⟨by unfold updN; rw [if_neg e]; exact hk, by unfold updN; rw [if_neg e]⟩
      have hE : Ext M H ⟨H1', M.mu, M.ln⟩ H := z2
      refine ⟨_, _, ρ', ⟨H1', updN M.mu nid (some i), updN M.ln nid (List.length ys)⟩, rfl, SVR.one_ (ListR.ins (l := []) (np := 0) (v := .cell (.ref nid (.row e) [] e 0 (List.length ys) none)) (u := u) ⟨rfl, fun j x hj => by simp at hj⟩ ?_), q2, q3, q4, hA, ?_⟩
      · rw [b6]
        refine .mkref (c := c) (o := 0) (i := i) (by simp [updN]) (.inr ⟨rfl, rfl, by simp [updN], fun k hk => by cases hk⟩) rfl (by simp [offL]) (.inl (by simp [offL])) (by show capIs (updN M.ln nid (List.length ys) nid) 0 (List.length ys) none c; simpa [updN] using b7)
      · refine { len := hE.len, mu := fun k j hk => hup k j hk, keep := fun j b hb hfo => ?_, ro := hE.ro }
        obtain ⟨y1, y2⟩ := hE.keep j b hb hfo
        refine ⟨y1, fun k x hk ho hm => ?_⟩
        rw [put_at] at hk
        have hm : updN M.mu nid (some i) k = some j := hm
        by_cases ek : k = nid
        · subst ek
          unfold updN at hm
          rw [if_pos rfl] at hm
          injection hm with hm
          subst hm
          exact (q6 i b hb).2 rfl rfl
        · rw [if_neg ek] at hk
          unfold updN at hm
          rw [if_neg ek] at hm
          exact y2 k x hk ho hm
    rcases key with ⟨fn, c1, c2, c3, c4⟩ | ⟨v', w', c1, c2⟩
    · exact .inl ⟨fn, c1, c2, c3, c4.mono fun en w' ⟨v', e1, e2⟩ => ⟨v', e1, fin v' w' e2⟩⟩
    · exact .inr ⟨v', w', c1, fin v' w' c2⟩
end Go.Ty
