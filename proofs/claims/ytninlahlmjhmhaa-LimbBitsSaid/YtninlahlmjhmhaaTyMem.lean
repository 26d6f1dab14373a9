import Derived.Test.YtninlahlmjhmhaaTySlice
import Derived.Test.YtninlahlmjhmhaaAbMem
namespace Go.Ty
open Go.Ab (vcells plainC capU szOf zeroOf aggT apart splice blkAt)

theorem Lay.eq_of_beq {a b : Lay} (h : a.beq b = true) : a = b := by
  cases a <;> cases b <;> simp only [Lay.beq, Bool.false_eq_true] at h <;> rw [Sh.eq_of_beq h]
theorem put_at {H : Heap} {k j : Nat} {x : Slot} : (H.put k x) j = if j = k then x else H j := by
  unfold Heap.put
  cases h : Nat.beq j k with
  | true => rw [Nat.eq_of_beq_eq_true h]; simp
  | false =>
    have : j ≠ k := by rintro rfl; simp at h
    simp [this]
theorem splice_put {cs : List Value} {off : Nat} {ds : List Value} (h : off + ds.length ≤ cs.length) : splice cs off ds = put cs off ds := Ab.splice_eq cs off ds h
theorem set_at {H1 : Ab.Heap} {i j : Nat} {B B' : Ab.Blk} (hB : H1[i]? = some (some B)) : (H1.set i (some B'))[j]? = if j = i then some (some B') else H1[j]? := by
  have hi : i < H1.length := (List.getElem?_eq_some_iff.1 hB).1
  rw [List.getElem?_set]
  by_cases e : j = i
  · subst e; simp [hi]
  · rw [if_neg (fun h => e h.symm), if_neg e]

section
variable {X : Cx} {G : Nat → Option (List Value)} {M : Lk} {H H' : Heap}

/-! ## A block frozen, written, made -/
def FrzLe (A B : Ab.Heap) : Prop := B.length = A.length ∧ ∀ i : Nat, B[i]? = A[i]? ∨ ∃ b, A[i]? = some (some b) ∧ B[i]? = some (some { b with own := false })
theorem FrzLe.refl (A : Ab.Heap) : FrzLe A A := ⟨rfl, fun _ => .inl rfl⟩
theorem FrzLe.trans {A B C : Ab.Heap} (h : FrzLe A B) (k : FrzLe B C) : FrzLe A C := by
  refine ⟨k.1.trans h.1, fun i => ?_⟩
  rcases k.2 i with e | ⟨b, e1, e2⟩
  · rw [e]; exact h.2 i
  · rcases h.2 i with e | ⟨b', e3, e4⟩
    · rw [e] at e1; exact .inr ⟨b, e1, e2⟩
    · rw [e4] at e1
      simp only [Option.some.injEq] at e1
      subst e1
      exact .inr ⟨b', e3, e2⟩
theorem FrzLe.ro {A B : Ab.Heap} (h : FrzLe A B) : RoLe A B := by
  intro i b hb ho
  rcases h.2 i with e | ⟨b', e1, e2⟩
  · rw [e]; exact hb
  · rw [hb] at e1
    simp only [Option.some.injEq] at e1
    subst e1
    rw [e2]; congr 2
    cases b; simp only at ho; subst ho; rfl

theorem frz_step (hH : HR G M H) {b : Nat} {x : Blk} (hb : H b = .live x) : ∃ H1m, FrzLe M.H1 H1m ∧ HR G ⟨H1m, M.mu, M.ln⟩ (H.put b (.live { x with own := false })) ∧ Ext M H ⟨H1m, M.mu, M.ln⟩ (H.put b (.live { x with own := false })) ∧
    ∃ i B, M.mu b = some i ∧ H1m[i]? = some (some B) ∧ B.own = false ∧ ContR G ⟨H1m, M.mu, M.ln⟩ x.c B ∧ ∀ s xs, x.c = .row s xs → xs.length = M.ln b := by
  obtain ⟨i, B, h1, h2, h3, h4, h5⟩ := hH.live b x hb
  have hfr : FrzLe M.H1 (M.H1.set i (some { B with own := false })) := by
    refine ⟨by simp, fun j => ?_⟩
    rw [set_at h2]
    by_cases e : j = i
    · rw [if_pos e, e]; exact .inr ⟨B, h2, rfl⟩
    · rw [if_neg e]; exact .inl rfl
  have hro := hfr.ro
  refine ⟨_, hfr, ?_, ?_, i, { B with own := false }, h1, by rw [set_at h2, if_pos rfl], rfl, ?_, h5⟩
  · refine { live := fun k y hk => ?_, inj := ?_, fresh := ?_, lt := ?_ }
    · rw [put_at] at hk
      by_cases e : k = b
      · rw [if_pos e] at hk
        injection hk with hk
        subst hk; subst e
        refine ⟨i, { B with own := false }, h1, by rw [set_at h2, if_pos rfl], rfl, ?_, h5⟩
        have := h4.mono (M' := ⟨M.H1.set i (some { B with own := false }), M.mu, M.ln⟩) hro (fun _ _ h => ⟨h, rfl⟩)
        cases hc : x.c <;> rw [hc] at this <;> exact this
      · rw [if_neg e] at hk
        obtain ⟨j, B2, g1, g2, g3, g4, g5⟩ := hH.live k y hk
        by_cases ej : j = i
        · subst ej
          rw [h2] at g2
          simp only [Option.some.injEq] at g2
          subst g2
          have hxo : x.own = false := by
            cases hx : x.own with
            | false => rfl
            | true => exact absurd (hH.inj b k x y j hb hk hx h1 g1) (fun h => e h.symm)
          have hBo : B.own = false := by rw [h3, hxo]
          refine ⟨j, { B with own := false }, g1, by rw [set_at h2, if_pos rfl], ?_, ?_, g5⟩
          · rw [← g3, hBo]
          · have := g4.mono (M' := ⟨M.H1.set j (some { B with own := false }), M.mu, M.ln⟩) hro (fun _ _ h => ⟨h, rfl⟩)
            cases hc : y.c <;> rw [hc] at this <;> exact this
        · exact ⟨j, B2, g1, by rw [set_at h2, if_neg ej]; exact g2, g3, g4.mono (M' := ⟨_, M.mu, M.ln⟩) hro (fun _ _ h => ⟨h, rfl⟩), g5⟩
    · intro k k' y y' j hk hk' ho hm hm'
      rw [put_at] at hk hk'
      by_cases e : k = b
      · rw [if_pos e] at hk; injection hk with hk; subst hk; cases ho
      · rw [if_neg e] at hk
        by_cases e' : k' = b
        · subst e'
          exact absurd (hH.inj k k' y x j hk hb ho hm hm') e
        · rw [if_neg e'] at hk'
          exact hH.inj k k' y y' j hk hk' ho hm hm'
    · intro k hk
      rw [put_at] at hk
      by_cases e : k = b
      · rw [if_pos e] at hk; cases hk
      · rw [if_neg e] at hk; exact hH.fresh k hk
    · intro k j hk
      have := hH.lt k j hk
      simpa using this
  · refine { len := by simp, mu := fun _ _ h => ⟨h, rfl⟩, keep := fun j b' hb' hf => ?_, ro := hro }
    have hf' : Foreign ⟨M.H1.set i (some { B with own := false }), M.mu, M.ln⟩ (H.put b (.live { x with own := false })) j := by
      intro k y hk ho
      rw [put_at] at hk
      by_cases e : k = b
      · rw [if_pos e] at hk; injection hk with hk; subst hk; cases ho
      · rw [if_neg e] at hk; exact hf k y hk ho
    refine ⟨?_, hf'⟩
    show (M.H1.set i (some { B with own := false }))[j]? = _
    rw [set_at h2]
    by_cases ej : j = i
    · subst ej
      rw [if_pos rfl]
      rw [h2] at hb'
      simp only [Option.some.injEq] at hb'
      subst hb'
      have : x.own = false := by
        cases hx : x.own with
        | false => rfl
        | true => exact absurd h1 (hf b x hb hx)
      have hBo : B.own = false := by rw [h3, this]
      congr 2; cases B; simp only at hBo; subst hBo; rfl
    · rw [if_neg ej]; exact hb'
  · have := h4.mono (M' := ⟨M.H1.set i (some { B with own := false }), M.mu, M.ln⟩) hro (fun _ _ h => ⟨h, rfl⟩)
    cases hc : x.c <;> rw [hc] at this <;> exact this

theorem put_step (hH : HR G M H) {b : Nat} {x : Blk} (hb : H b = .live x) (ho : x.own = true) {i : Nat} {B B' : Ab.Blk} (hi : M.mu b = some i) (hB : M.H1[i]? = some (some B)) (hBo : B.own = true) (hB' : B'.own = true) {c' : Cont} (hc : ContR G M c' B')
    (hl : ∀ s xs, c' = .row s xs → xs.length = M.ln b) :
    HR G ⟨M.H1.set i (some B'), M.mu, M.ln⟩ (H.put b (.live { x with c := c' })) ∧ Ext M H ⟨M.H1.set i (some B'), M.mu, M.ln⟩ (H.put b (.live { x with c := c' })) := by
  have hro : RoLe M.H1 (M.H1.set i (some B')) := by
    intro j b' hb' ho'
    rw [set_at hB]
    by_cases e : j = i
    · subst e; rw [hB] at hb'; simp only [Option.some.injEq] at hb'; subst hb'; rw [hBo] at ho'; cases ho'
    · rw [if_neg e]; exact hb'
  constructor
  · refine { live := fun k y hk => ?_, inj := ?_, fresh := ?_, lt := ?_ }
    · rw [put_at] at hk
      by_cases e : k = b
      · rw [if_pos e] at hk
        injection hk with hk
        subst hk; subst e
        exact ⟨i, B', hi, by rw [set_at hB, if_pos rfl], by rw [hB', ho], hc.mono (M' := ⟨_, M.mu, M.ln⟩) hro (fun _ _ h => ⟨h, rfl⟩), hl⟩
      · rw [if_neg e] at hk
        obtain ⟨j, B2, g1, g2, g3, g4, g5⟩ := hH.live k y hk
        have ej : j ≠ i := by
          rintro rfl
          exact e (hH.inj b k x y j hb hk ho hi g1).symm
        exact ⟨j, B2, g1, by rw [set_at hB, if_neg ej]; exact g2, g3, g4.mono (M' := ⟨_, M.mu, M.ln⟩) hro (fun _ _ h => ⟨h, rfl⟩), g5⟩
    · intro k k' y y' j hk hk' hoy hm hm'
      rw [put_at] at hk hk'
      by_cases e : k = b <;> by_cases e' : k' = b
      · rw [e, e']
      · rw [if_neg e'] at hk'
        subst e
        exact hH.inj k k' x y' j hb hk' ho hm hm'
      · rw [if_neg e] at hk
        subst e'
        exact hH.inj k k' y x j hk hb hoy hm hm'
      · rw [if_neg e] at hk; rw [if_neg e'] at hk'
        exact hH.inj k k' y y' j hk hk' hoy hm hm'
    · intro k hk
      rw [put_at] at hk
      by_cases e : k = b
      · rw [if_pos e] at hk; cases hk
      · rw [if_neg e] at hk; exact hH.fresh k hk
    · intro k j hk
      have := hH.lt k j hk
      simpa using this
  · refine { len := by simp, mu := fun _ _ h => ⟨h, rfl⟩, keep := fun j b' hb' hf => ?_, ro := hro }
    have ej : j ≠ i := by rintro rfl; exact hf b x hb ho hi
    refine ⟨by show (M.H1.set i (some B'))[j]? = _; rw [set_at hB, if_neg ej]; exact hb', fun k y hk hoy => ?_⟩
    rw [put_at] at hk
    by_cases e : k = b
    · subst e; exact hf k x hb ho
    · rw [if_neg e] at hk; exact hf k y hk hoy

def updN {α : Type} (f : Nat → α) (k : Nat) (v : α) : Nat → α := fun j => if j = k then v else f j
theorem snoc_at {A : Ab.Heap} {o : Option Ab.Blk} {j : Nat} : (A ++ [o])[j]? = if j = A.length then some o else A[j]? := by
  by_cases h : j < A.length
  · rw [List.getElem?_append_left h, if_neg (by omega)]
  · rw [List.getElem?_append_right (by omega)]
    by_cases e : j = A.length
    · subst e; simp
    · rw [if_neg e, List.getElem?_eq_none (by simp; omega), List.getElem?_eq_none (by omega)]
theorem RoLe.snoc (A : Ab.Heap) (o : Option Ab.Blk) : RoLe A (A ++ [o]) := by
  intro j b hb _
  have hj := (List.getElem?_eq_some_iff.1 hb).1
  rw [snoc_at, if_neg (by omega)]; exact hb

theorem new_step (hH : HR G M H) {b : Nat} (hb : H b = .fresh) {x : Blk} {B : Ab.Blk} {L : Nat} (ho : B.own = x.own) (hc : ContR G M x.c B) (hl : ∀ s xs, x.c = .row s xs → xs.length = L) :
    HR G ⟨M.H1 ++ [some B], updN M.mu b (some M.H1.length), updN M.ln b L⟩ (H.put b (.live x)) ∧ Ext M H ⟨M.H1 ++ [some B], updN M.mu b (some M.H1.length), updN M.ln b L⟩ (H.put b (.live x)) ∧ (updN M.mu b (some M.H1.length)) b = some M.H1.length ∧ (updN M.ln b L) b = L := by
  have hnone := hH.fresh b hb
  have hm : ∀ k i, M.mu k = some i → updN M.mu b (some M.H1.length) k = some i ∧ updN M.ln b L k = M.ln k := by
    intro k i hk
    have e : k ≠ b := by rintro rfl; rw [hnone] at hk; cases hk
    exact ⟨by unfold updN; rw [if_neg e]; exact hk, by unfold updN; rw [if_neg e]⟩
  have hro := RoLe.snoc M.H1 (some B)
  refine ⟨{ live := fun k y hk => ?_, inj := ?_, fresh := ?_, lt := ?_ }, { len := by simp, mu := hm, keep := fun j b' hb' hf => ?_, ro := hro }, by simp [updN], by simp [updN]⟩
  · rw [put_at] at hk
    by_cases e : k = b
    · rw [if_pos e] at hk; injection hk with hk; subst hk; subst e
      exact ⟨M.H1.length, B, by simp [updN], by rw [snoc_at, if_pos rfl], ho, hc.mono hro hm, fun s xs h => by rw [hl s xs h]; simp [updN]⟩
    · rw [if_neg e] at hk
      obtain ⟨j, B2, g1, g2, g3, g4, g5⟩ := hH.live k y hk
      have hj := (List.getElem?_eq_some_iff.1 g2).1
      exact ⟨j, B2, (hm k j g1).1, by rw [snoc_at, if_neg (by omega)]; exact g2, g3, g4.mono hro hm, fun s xs h => by rw [g5 s xs h]; exact (hm k j g1).2.symm⟩
  · intro k k' y y' j hk hk' hoy hmk hmk'
    rw [put_at] at hk hk'
    have at_ : ∀ k, (updN M.mu b (some M.H1.length) k = some j) → (k = b ∧ j = M.H1.length) ∨ (k ≠ b ∧ M.mu k = some j) := by
      intro k h
      unfold updN at h
      by_cases e : k = b
      · rw [if_pos e] at h; injection h with h; exact .inl ⟨e, h.symm⟩
      · rw [if_neg e] at h; exact .inr ⟨e, h⟩
    rcases at_ k hmk with ⟨e1, e2⟩ | ⟨e1, e2⟩ <;> rcases at_ k' hmk' with ⟨e3, e4⟩ | ⟨e3, e4⟩
    · rw [e1, e3]
    · have := hH.lt k' j e4; omega
    · have := hH.lt k j e2; omega
    · rw [if_neg e1] at hk; rw [if_neg e3] at hk'
      exact hH.inj k k' y y' j hk hk' hoy e2 e4
  · intro k hk
    rw [put_at] at hk
    by_cases e : k = b
    · rw [if_pos e] at hk; cases hk
    · rw [if_neg e] at hk
      show updN M.mu b (some M.H1.length) k = none
      unfold updN; rw [if_neg e]; exact hH.fresh k hk
  · intro k j hk
    show j < (M.H1 ++ [some B]).length
    rw [List.length_append, List.length_singleton]
    have hk : updN M.mu b (some M.H1.length) k = some j := hk
    unfold updN at hk
    by_cases e : k = b
    · rw [if_pos e] at hk; injection hk with hk; omega
    · rw [if_neg e] at hk; have := hH.lt k j hk; omega
  · have hj := (List.getElem?_eq_some_iff.1 hb').1
    refine ⟨by show (M.H1 ++ [some B])[j]? = _; rw [snoc_at, if_neg (by omega)]; exact hb', fun k y hk hoy => ?_⟩
    rw [put_at] at hk
    show updN M.mu b (some M.H1.length) k ≠ some j
    unfold updN
    by_cases e : k = b
    · rw [if_pos e]; intro h; injection h with h; omega
    · rw [if_neg e] at hk ⊢; exact hf k y hk hoy

/-- a block dropped -/
theorem kill_step (hH : HR G M H) {b : Nat} {x : Blk} (hb : H b = .live x) (ho : x.own = true) {i : Nat} {B : Ab.Blk} (hi : M.mu b = some i) (hB : M.H1[i]? = some (some B)) (hBo : B.own = true) :
    HR G ⟨M.H1.set i none, M.mu, M.ln⟩ (H.put b .dead) ∧ Ext M H ⟨M.H1.set i none, M.mu, M.ln⟩ (H.put b .dead) := by
  have hi' : i < M.H1.length := (List.getElem?_eq_some_iff.1 hB).1
  have at_ : ∀ j : Nat, (M.H1.set i none)[j]? = if j = i then some none else M.H1[j]? := by
    intro j
    rw [List.getElem?_set]
    by_cases e : j = i
    · subst e; simp [hi']
    · rw [if_neg (fun h => e h.symm), if_neg e]
  have hro : RoLe M.H1 (M.H1.set i none) := by
    intro j b' hb' ho'
    rw [at_]
    by_cases e : j = i
    · subst e; rw [hB] at hb'; simp only [Option.some.injEq] at hb'; subst hb'; rw [hBo] at ho'; cases ho'
    · rw [if_neg e]; exact hb'
  constructor
  · refine { live := fun k y hk => ?_, inj := ?_, fresh := ?_, lt := ?_ }
    · rw [put_at] at hk
      by_cases e : k = b
      · rw [if_pos e] at hk; cases hk
      · rw [if_neg e] at hk
        obtain ⟨j, B2, g1, g2, g3, g4, g5⟩ := hH.live k y hk
        have ej : j ≠ i := by
          rintro rfl
          exact e (hH.inj b k x y j hb hk ho hi g1).symm
        exact ⟨j, B2, g1, by rw [at_, if_neg ej]; exact g2, g3, g4.mono (M' := ⟨_, M.mu, M.ln⟩) hro (fun _ _ h => ⟨h, rfl⟩), g5⟩
    · intro k k' y y' j hk hk' hoy hm hm'
      rw [put_at] at hk hk'
      by_cases e : k = b
      · rw [if_pos e] at hk; cases hk
      · by_cases e' : k' = b
        · rw [if_pos e'] at hk'; cases hk'
        · rw [if_neg e] at hk; rw [if_neg e'] at hk'
          exact hH.inj k k' y y' j hk hk' hoy hm hm'
    · intro k hk
      rw [put_at] at hk
      by_cases e : k = b
      · rw [if_pos e] at hk; cases hk
      · rw [if_neg e] at hk; exact hH.fresh k hk
    · intro k j hk
      have := hH.lt k j hk
      simpa using this
  · refine { len := by simp, mu := fun _ _ h => ⟨h, rfl⟩, keep := fun j b' hb' hf => ?_, ro := hro }
    have ej : j ≠ i := by rintro rfl; exact hf b x hb ho hi
    refine ⟨by show (M.H1.set i none)[j]? = _; rw [at_, if_neg ej]; exact hb', fun k y hk hoy => ?_⟩
    rw [put_at] at hk
    by_cases e : k = b
    · rw [if_pos e] at hk; cases hk
    · rw [if_neg e] at hk; exact hf k y hk hoy

theorem castSl_eq {a b : Sh} {xs : List a.T} {ys : List b.T} (h : castTo (.sl a) (.sl b) xs = some ys) : a = b := by
  obtain ⟨e, _⟩ := castTo_some h
  injection e
theorem castSl_same {a : Sh} {xs ys : List a.T} (h : castTo (.sl a) (.sl a) xs = some ys) : ys = xs := by
  obtain ⟨e, h⟩ := castTo_some h
  exact h

/-! ## What stands in a block -/
theorem getC_cells {c : Cont} {B : Ab.Blk} {p : Path} {v : AV} {r : Lay} {ln : Nat} (hC : ContR G M c B) (hlay : c.lay = r) (hin : inL ln r p) (hl : ∀ s xs, c = .row s xs → xs.length = ln) (hg : getC c p = some v) :
    ∃ t, subL r p = some t ∧ offL r p + t.size ≤ B.cells.length ∧ CellsA G M v t ((B.cells.drop (offL r p)).take t.size) := by
  cases c with
  | one s u =>
    simp only [Cont.lay] at hlay; subst hlay
    exact getA_cells p hC hin hg
  | row s xs =>
    simp only [Cont.lay] at hlay; subst hlay
    cases p with
    | nil => simp [getC] at hg
    | cons st p =>
      cases st with
      | i k =>
        simp only [getC] at hg
        have hk : k < xs.length := by rw [hl s xs rfl]; exact hin.1
        obtain ⟨g1, g2⟩ := hC.1.nth (fun _ _ h => h.length) (rd_of hk)
        obtain ⟨t, y, e1, e2, e3, e4⟩ := getP_cells p g1 hin.2 hg
        have hlen : (List.take s.size (List.drop (k * s.size) B.cells)).length = s.size := by rw [List.length_take, List.length_drop]; omega
        rw [hlen] at e3
        refine ⟨t, e2, by simp only [offL]; omega, ?_⟩
        rw [e1]
        refine ⟨rfl, ?_⟩
        simp only [offL]
        rw [List.drop_take, List.drop_drop, List.take_take, Nat.min_eq_left (by omega)] at e4
        exact e4
      | l => simp [getC] at hg
      | r => simp [getC] at hg

theorem rowC_cells {c : Cont} {B : Ab.Blk} {p : Path} {e : Sh} {xs : List e.T} {r : Lay} {ln : Nat} (hC : ContR G M c B) (hlay : c.lay = r) (hl : ∀ s xs, c = .row s xs → xs.length = ln) {off len : Nat} {cap : Option Nat} (hin : refIn ln r p e off len cap) (hg : rowC c p e = some xs) :
    offL r p + xs.length * e.size ≤ B.cells.length ∧ AllC (Cells G M.H1 e) xs ((B.cells.drop (offL r p)).take (xs.length * e.size)) ∧ off + len ≤ xs.length ∧ (∀ c, cap = some c → off + c ≤ xs.length) ∧ (r = .row e → p = [] → xs.length = ln ∧ B.cells.length = xs.length * e.size) := by
  cases c with
  | one s u =>
    simp only [Cont.lay] at hlay; subst hlay
    rcases hin with ⟨n, c', k1, k2, k3, k4, k5⟩ | ⟨k1, k2, k3, k4⟩
    · simp only [rowC] at hg
      split at hg
      · rename_i n' s' xs' hga
        obtain ⟨t, g1, g2, g3⟩ := getA_cells p hC k2 hga
        have k1 : subS s p = some (.arr n e) := k1
        rw [k1] at g1; cases g1
        obtain ⟨he, g3⟩ := g3
        injection he with he1 he2
        subst he1; subst he2
        have hx := castSl_same hg
        subst hx
        obtain ⟨h1, h2⟩ := g3
        have g2 : offL (.one s) p + n' * s'.size ≤ B.cells.length := g2
        refine ⟨by rw [h1]; exact g2, by rw [h1]; exact h2, by rw [h1]; omega, fun c hc => by rw [h1]; rw [k3] at hc; injection hc with hc; omega, fun h => by cases h⟩
      · cases hg
    · cases k2
  | row s ys =>
    simp only [Cont.lay] at hlay; subst hlay
    rcases hin with ⟨n, c', k1, k2, k3, k4, k5⟩ | ⟨k1, k2, k3, k4⟩
    · cases p with
      | nil => simp [subL] at k1
      | cons st p => simp [rowC] at hg
    · subst k1
      injection k2 with k2; subst k2
      simp only [rowC] at hg
      have hx := castSl_same hg
      subst hx
      have h1 := hl s _ rfl
      have h2 := hC.1.length fun _ _ h => h.length
      refine ⟨by simp only [offL]; omega, ?_, by omega, fun c hc => by have := k4 c hc; omega, fun _ _ => ⟨h1, h2⟩⟩
      simp only [offL, List.drop_zero]
      rw [List.take_of_length_le (by omega)]
      exact hC.1

theorem setC_cells {c c' : Cont} {B : Ab.Blk} {p : Path} {u : AV} {r : Lay} {ln : Nat} {s' : Sh} {ds : List Value} (hC : ContR G M c B) (hlay : c.lay = r) (hin : inL ln r p) (hl : ∀ s xs, c = .row s xs → xs.length = ln) (hsub : subL r p = some s') (hg : setC c p u = some c') (hu : CellsA G M u s' ds) :
    ContR G M c' { B with cells := put B.cells (offL r p) ds } ∧ offL r p + ds.length ≤ B.cells.length ∧ ∀ s xs, c' = .row s xs → xs.length = ln := by
  cases c with
  | one s v =>
    simp only [Cont.lay] at hlay; subst hlay
    simp only [setC, Option.map_eq_some_iff] at hg
    obtain ⟨w, hw, rfl⟩ := hg
    obtain ⟨k1, k2⟩ := setA_cells p hC hin hsub hw hu
    exact ⟨k1, by rw [hu.length]; exact k2, fun s xs h => by cases h⟩
  | row s xs =>
    simp only [Cont.lay] at hlay; subst hlay
    cases p with
    | nil => simp [setC] at hg
    | cons st p =>
      cases st with
      | i k =>
        simp only [setC, Option.map_eq_some_iff] at hg
        obtain ⟨y, hy, rfl⟩ := hg
        have hk : k < xs.length := by rw [hl s xs rfl]; exact hin.1
        obtain ⟨g1, g2⟩ := hC.1.nth (fun _ _ h => h.length) (rd_of hk)
        have hsub : subS s p = some s' := hsub
        obtain ⟨k1, k2, k3⟩ := setP_cells (M := M) p g1 hin.2 hsub hy hu
        have hlen : (List.take s.size (List.drop (k * s.size) B.cells)).length = s.size := by rw [List.length_take, List.length_drop]; omega
        rw [hlen] at k3
        have := hC.1.set (k := k) (fun _ _ h => h.length) k2 hk
        refine ⟨⟨?_, hC.2⟩, by simp only [offL]; omega, fun s2 xs2 h => ?_⟩
        · simp only [offL]
          rw [put_mid g2 (by omega)]
          exact this
        · injection h with h1 h2; subst h1
          have h2 := eq_of_heq h2
          subst h2
          rw [List.length_set]; exact hl s xs rfl
      | l => simp [setC] at hg
      | r => simp [setC] at hg

theorem setRowC_cells {c c' : Cont} {B : Ab.Blk} {p : Path} {e : Sh} {ys : List e.T} {r : Lay} {ln off0 len : Nat} {cap : Option Nat} {ds : List Value} {off : Nat} (hC : ContR G M c B) (hlay : c.lay = r) (hl : ∀ s xs, c = .row s xs → xs.length = ln) (hin : refIn ln r p e off0 len cap)
    (hg : setRowC c p e off ys = some c') (hu : AllC (Cells G M.H1 e) ys ds) (hfit : ∀ n, (∃ q, subL r p = some (.arr q e) ∧ n = q) ∨ (r = .row e ∧ p = [] ∧ n = ln) → off + ys.length ≤ n) :
    ContR G M c' { B with cells := put B.cells (offL r p + off * e.size) ds } ∧ offL r p + off * e.size + ds.length ≤ B.cells.length ∧ ∀ s xs, c' = .row s xs → xs.length = ln := by
  have hds := hu.length fun _ _ h => Cells.length h
  cases c with
  | one s v =>
    simp only [Cont.lay] at hlay; subst hlay
    rcases hin with ⟨n, c0, k1, k2, k3, k4, k5⟩ | ⟨k1, k2, k3, k4⟩
    · simp only [setRowC] at hg
      split at hg
      · rename_i n' s' xs' hga
        simp only [Option.bind_eq_some_iff, Option.map_eq_some_iff] at hg
        obtain ⟨ys', hys, w, hw, rfl⟩ := hg
        have ee := castSl_eq hys
        subst ee
        have hx := (castSl_same hys).symm
        subst hx
        obtain ⟨t, g1, g2, g3⟩ := getA_cells p hC k2 hga
        have k1' : subS s p = some (.arr n e) := k1
        rw [k1'] at g1; cases g1
        obtain ⟨he, h1, h2⟩ := g3
        injection he with he1 he2
        subst he1
        have hf := hfit n' (.inl ⟨n', k1, rfl⟩)
        have g2 : offS s p + n' * e.size ≤ B.cells.length := g2
        have hmul : (off + ys.length) * e.size ≤ n' * e.size := Nat.mul_le_mul_right _ hf
        rw [Nat.add_mul] at hmul
        have hov := h2.over (off := off) (fun _ _ h => h.length) hu
        have hlen : ((B.cells.drop (offS s p)).take (n' * e.size)).length = n' * e.size := by rw [List.length_take, List.length_drop]; omega
        have hov' : CellsA G M (.val (.arr n' e) (over xs' off ys)) (.arr n' e) (put ((B.cells.drop (offS s p)).take (n' * e.size)) (off * e.size) ds) := by
          refine ⟨rfl, ?_, hov⟩
          unfold over
          rw [List.length_append, List.length_append, List.length_take, List.length_drop, h1]; omega
        obtain ⟨q1, q2⟩ := setA_cells p hC k2 k1' hw hov'
        refine ⟨?_, by simp only [offL]; omega, fun s xs h => by cases h⟩
        show CellsA G M w s (put B.cells (offL (.one s) p + off * e.size) ds)
        simp only [offL]
        have e1 : put B.cells (offS s p + off * e.size) ds = put B.cells (offS s p) (put ((B.cells.drop (offS s p)).take (n' * e.size)) (off * e.size) ds) := by
          rw [put_mid g2 (by omega)]
          have : (put (List.take (n' * e.size) (List.drop (offS s p) B.cells)) (off * e.size) ds).length = n' * e.size := by rw [put_len (by omega), hlen]
          unfold put
          unfold put at this
          rw [this]
        rw [e1]; exact q1
      · cases hg
    · cases k2
  | row s xs =>
    simp only [Cont.lay] at hlay; subst hlay
    rcases hin with ⟨n, c0, k1, k2, k3, k4, k5⟩ | ⟨k1, k2, k3, k4⟩
    · cases p with
      | nil => simp [subL] at k1
      | cons st p => simp [setRowC] at hg
    · subst k1
      injection k2 with k2; subst k2
      simp only [setRowC, Option.map_eq_some_iff] at hg
      obtain ⟨ys', hys, rfl⟩ := hg
      have hx := (castSl_same hys).symm
      subst hx
      have hlx := hl s xs rfl
      have hf := hfit ln (.inr ⟨rfl, rfl, rfl⟩)
      have hlen := hC.1.length fun _ _ h => h.length
      have hmul : (off + ys.length) * s.size ≤ xs.length * s.size := Nat.mul_le_mul_right _ (by omega)
      rw [Nat.add_mul] at hmul
      refine ⟨⟨?_, hC.2⟩, by simp only [offL]; omega, fun s2 xs2 h => ?_⟩
      · simp only [offL, Nat.zero_add]
        exact hC.1.over (fun _ _ h => h.length) hu
      · injection h with h1 h2; subst h1
        have h2 := eq_of_heq h2
        subst h2
        show (over xs off ys).length = ln
        unfold over
        rw [List.length_append, List.length_append, List.length_take, List.length_drop]; omega
end
end Go.Ty
