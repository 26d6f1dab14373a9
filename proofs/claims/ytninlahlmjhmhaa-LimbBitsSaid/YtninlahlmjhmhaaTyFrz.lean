import Derived.Test.YtninlahlmjhmhaaTyMem
namespace Go.Ty
open Go.Ab (vcells plainC capU szOf zeroOf aggT apart splice blkAt)
section
variable {X : Cx} {M : Lk} {H H' : Heap} {v : Option SV} {e : Env} {e1 : Ab.Env}

/-! ## As it is told of a shape -/
theorem norm_cells : ∀ {a : AV} {s : Sh}, (a.norm s).conf s = true → a.conf s = true ∧ ∀ cs, CellsA (gl1 X) M a s cs → CellsA (gl1 X) M (a.norm s) s cs
  | .val t x, s, h => by
    have e : (AV.val t x).norm s = .val t x := by cases s <;> rfl
    rw [e] at h ⊢
    exact ⟨h, fun _ h => h⟩
  | .cell q, s, h => by
    cases q with
    | nilS =>
      cases s with
      | sl s =>
        refine ⟨rfl, fun cs hc => ?_⟩
        obtain ⟨_, u, rfl, hu⟩ := hc
        have hu : u = .slice none 0 0 := hu
        subst hu
        exact ⟨rfl, .inl ⟨rfl, rfl⟩⟩
      | _ => exact ⟨h, fun _ h => h⟩
    | ptr _ _ _ => cases s <;> exact ⟨h, fun _ h => h⟩
    | fptr _ _ => cases s <;> exact ⟨h, fun _ h => h⟩
    | ref _ _ _ _ _ _ _ => cases s <;> exact ⟨h, fun _ h => h⟩
    | fn _ => cases s <;> exact ⟨h, fun _ h => h⟩
  | .two a b, s, h => by
    cases s with
    | pair s t =>
      simp only [AV.norm] at h ⊢
      split at h
      · rename_i x y hx hy
        obtain ⟨a1, a2⟩ := norm_cells (a := a) (s := s) (AV.as_conf hx)
        obtain ⟨b1, b2⟩ := norm_cells (a := b) (s := t) (AV.as_conf hy)
        refine ⟨by simp only [AV.conf, a1, b1, Bool.and_self], fun cs hc => ?_⟩
        obtain ⟨s1, s2, e0, c, d, e, h1, h2⟩ := hc
        injection e0 with e1 e2; subst e1; subst e2
        exact ⟨rfl, c, d, e, (a2 c h1).as hx, (b2 d h2).as hy⟩
      · rename_i hn
        simp only [AV.conf, Bool.and_eq_true] at h
        obtain ⟨a1, a2⟩ := norm_cells (a := a) (s := s) h.1
        obtain ⟨b1, b2⟩ := norm_cells (a := b) (s := t) h.2
        refine ⟨by simp only [AV.conf, a1, b1, Bool.and_self], fun cs hc => ?_⟩
        obtain ⟨s1, s2, e0, c, d, e, h1, h2⟩ := hc
        injection e0 with e1 e2; subst e1; subst e2
        exact ⟨s, t, rfl, c, d, e, a2 c h1, b2 d h2⟩
    | _ => simp [AV.norm, AV.conf] at h
theorem norm_as_cells {a : AV} {s : Sh} {y : s.T} (h : (a.norm s).as s = some y) {u : Value} (hv : VR (gl1 X) M a u) : ∃ cs, Cells (gl1 X) M.H1 s y cs ∧ u = mkV s.isAgg cs := by
  obtain ⟨h1, h2⟩ := norm_cells (X := X) (M := M) (AV.as_conf h)
  obtain ⟨cs, k1, k2⟩ := hv.conf h1
  exact ⟨cs, (h2 cs k1).as h, k2⟩
theorem norm_conf_cells {a : AV} {s : Sh} (h : (a.norm s).conf s = true) {u : Value} (hv : VR (gl1 X) M a u) : ∃ cs, CellsA (gl1 X) M (a.norm s) s cs ∧ u = mkV s.isAgg cs := by
  obtain ⟨h1, h2⟩ := norm_cells (X := X) (M := M) h
  obtain ⟨cs, k1, k2⟩ := hv.conf h1
  exact ⟨cs, h2 cs k1, k2⟩

/-- nothing that may be written is reached from it -/
def noRef : AV → Bool
  | .val _ _ => true
  | .two a b => noRef a && noRef b
  | .cell (.ptr _ _ _) => false
  | .cell (.ref _ _ _ _ _ _ _) => false
  | .cell _ => true
theorem noRef_cells {M' : Lk} (hr : RoLe M.H1 M'.H1) : ∀ {a : AV} {s : Sh} {cs : List Value}, noRef a = true → CellsA (gl1 X) M a s cs → CellsA (gl1 X) M' a s cs
  | .val _ _, _, _, _, h => ⟨h.1, h.2.mono hr⟩
  | .two a b, _, _, hn, ⟨s1, s2, e0, c, d, e, h1, h2⟩ => by
    simp only [noRef, Bool.and_eq_true] at hn
    exact ⟨s1, s2, e0, c, d, e, noRef_cells hr hn.1 h1, noRef_cells hr hn.2 h2⟩
  | .cell q, _, _, hn, ⟨h1, v, e, h2⟩ => by
    cases q with
    | ptr _ _ _ => simp [noRef] at hn
    | ref _ _ _ _ _ _ _ => simp [noRef] at hn
    | fptr s x => obtain ⟨a, ds, k1, k2, k3⟩ := h2; exact ⟨h1, v, e, a, ds, k1, k2.mono hr, k3.mono hr⟩
    | nilS => exact ⟨h1, v, e, h2⟩
    | fn f => exact ⟨h1, v, e, h2⟩
theorem noRef_vr {M' : Lk} (hr : RoLe M.H1 M'.H1) {a : AV} {u : Value} (hn : noRef a = true) (h : VR (gl1 X) M a u) : VR (gl1 X) M' a u := by
  obtain ⟨s, cs, h1, h2⟩ := h
  exact ⟨s, cs, noRef_cells hr hn h1, h2⟩
def noRefS : SV → Bool
  | .av v => noRef v
  | .tup l => l.all noRef
theorem noRef_svr {M' : Lk} (hr : RoLe M.H1 M'.H1) {a : SV} {u : Value} (hn : noRefS a = true) (h : SVR (gl1 X) M a u) : SVR (gl1 X) M' a u := by
  cases a with
  | av v => exact noRef_vr hr hn h
  | tup l =>
    obtain ⟨us, e, h1, h2⟩ := h
    refine ⟨us, e, h1, fun j v hj => ?_⟩
    obtain ⟨u', k1, k2⟩ := h2 j v hj
    simp only [noRefS, List.all_eq_true] at hn
    exact ⟨u', k1, noRef_vr hr (hn v (List.mem_of_getElem? hj)) k2⟩

/-! ## Values frozen -/
theorem row_of {i : Nat} {B : Ab.Blk} (hB : M.H1[i]? = some (some B)) (ho : B.own = false) {o n : Nat} (h : o + n ≤ B.cells.length) : Row (gl1 X) M.H1 ⟨i, o, none⟩ ((B.cells.drop o).take n) := by
  have hl : ((B.cells.drop o).take n).length = n := by rw [List.length_take, List.length_drop]; omega
  refine ⟨B.cells, by simp [cellsRO, hB, ho], by rw [hl]; exact h, by rw [hl]⟩

theorem frzA_sound : ∀ {a : AV} {k : AV → HAct} {M : Lk} {H : Heap} {u : Value}, Ex (frzA a k) H v H' → VR (gl1 X) M a u → HR (gl1 X) M H →
    ∃ a' Hm H1m, Ex (k a') Hm v H' ∧ FrzLe M.H1 H1m ∧ VR (gl1 X) ⟨H1m, M.mu, M.ln⟩ a' u ∧ HR (gl1 X) ⟨H1m, M.mu, M.ln⟩ Hm ∧ Ext M H ⟨H1m, M.mu, M.ln⟩ Hm ∧ noRef a' = true := by
  intro a
  induction a with
  | val s x => intro k M H u h hv hH; exact ⟨_, H, M.H1, h, .refl _, hv, hH, .refl, rfl⟩
  | two a b iha ihb =>
    intro k M H u h hv hH
    simp only [frzA] at h
    obtain ⟨s0, cs, ⟨s1, s2, rfl, c, d, rfl, h1, h2⟩, rfl⟩ := hv
    obtain ⟨a', Hm, H1m, g1, g2, g3, g4, g5, g6⟩ := iha h (.of h1) hH
    have hb2 : VR (gl1 X) ⟨H1m, M.mu, M.ln⟩ b (mkV s2.isAgg d) := (VR.of h2).mono (M' := ⟨H1m, M.mu, M.ln⟩) g2.ro (fun _ _ h => ⟨h, rfl⟩)
    obtain ⟨b', Hn, H1n, k1, k2, k3, k4, k5, k6⟩ := ihb (M := ⟨H1m, M.mu, M.ln⟩) g1 hb2 g4
    have e1 := (CellsA.vcells h1)
    have e2 := (CellsA.vcells h2)
    refine ⟨_, Hn, H1n, k1, g2.trans k2, ?_, k4, g5.trans k5, by simp only [noRef, g6, k6, Bool.and_self]⟩
    have g3' := g3.mono (M' := ⟨H1n, M.mu, M.ln⟩) k2.ro (fun _ _ h => ⟨h, rfl⟩)
    obtain ⟨t1, c1, q1, q2⟩ := g3'
    obtain ⟨t2, c2, q3, q4⟩ := k3
    have w1 : c = c1 := by rw [← e1, q2]; exact q1.vcells
    have w2 : d = c2 := by rw [← e2, q4]; exact q3.vcells
    exact ⟨.pair t1 t2, c1 ++ c2, ⟨t1, t2, rfl, c1, c2, rfl, q1, q3⟩, by rw [← w1, ← w2]; rfl⟩
  | cell q =>
    intro k M H u h hv hH
    cases q with
    | ref b r p el off len cap =>
      simp only [frzA, Ex_look, Ex_bif, Ex_ofO, Ex_put, Ex_fail, and_false, or_false] at h
      obtain ⟨x, hb, hlay, xs, hxs, y, hy, h⟩ := h
      have hlay := Lay.eq_of_beq hlay
      obtain ⟨i, c, o, q1, q2, rfl, q3, q4, q5⟩ := hv.cell
      obtain ⟨H1m, f1, f2, f3, j, B, f4, f5, f6, f7, f8⟩ := frz_step hH hb
      rw [q1] at f4; cases f4
      refine ⟨_, _, H1m, h, f1, ?_, f2, f3, rfl⟩
      obtain ⟨r1, r2, r3, r4, _⟩ := rowC_cells (G := gl1 X) f7 hlay f8 q2 hxs
      have hl : ((xs.drop off).take len).length = len := by rw [List.length_take, List.length_drop]; omega
      refine VR.mkval (s := .sl el) (cs := [.slice (some ⟨i, o, none⟩) len c]) (.inr ⟨⟨i, o, none⟩, c, by rw [hl], ?_, ?_⟩)
      · rw [hl]
        cases cap with
        | none => exact q5.imp id (fun h => ⟨h.2.1, h.1⟩)
        | some k =>
          obtain ⟨q5, q6⟩ := q5
          subst q5
          refine .inr ⟨?_, q6⟩
          rcases q2 with ⟨n, c', k1, k2, k3, k4, k5⟩ | ⟨k1, k2, k3, k4⟩
          · cases k3; exact k4
          · exact (k4 c rfl).1
      · by_cases h0 : len = 0
        · left
          rw [← List.length_eq_zero_iff, hl, h0]
        · right
          have ho : o = offL r p + off * el.size := by
            rcases q4 with q4 | q4
            · exact q4
            · exfalso
              cases cap with
              | none =>
                rcases q5 with q5 | q5
                · rw [q5] at q4; simp [capU] at q4
                · omega
              | some k =>
                obtain ⟨q5, q6⟩ := q5
                rcases q2 with ⟨n, c', k1, k2, k3, k4, k5⟩ | ⟨k1, k2, k3, k4⟩
                · cases k3; omega
                · have := k4 k rfl; omega
          have hmul : (off + len) * el.size ≤ xs.length * el.size := Nat.mul_le_mul_right _ r3
          rw [Nat.add_mul] at hmul
          refine ⟨_, row_of (M := ⟨H1m, M.mu, M.ln⟩) f5 f6 (o := o) (n := len * el.size) (by rw [ho]; omega), ?_⟩
          have := (r2.drop (fun _ _ h => h.length) off).take (fun _ _ h => h.length) len
          rw [ho, ← List.drop_drop]
          have e2 : ((B.cells.drop (offL r p)).take (xs.length * el.size)).drop (off * el.size) = ((B.cells.drop (offL r p)).drop (off * el.size)).take (xs.length * el.size - off * el.size) := List.drop_take
          rw [e2, List.take_take, Nat.min_eq_left (by omega)] at this
          exact this
    | ptr b r p =>
      simp only [frzA, Ex_look, Ex_bif, Ex_ofO, Ex_fail, and_false, or_false] at h
      obtain ⟨x, hb, hlay, w, hw, h⟩ := h
      have hlay := Lay.eq_of_beq hlay
      obtain ⟨i, q1, q2, rfl⟩ := hv.cell
      cases w with
      | val s y =>
        simp only [Ex_put] at h
        obtain ⟨y', hy, h⟩ := h
        obtain ⟨H1m, f1, f2, f3, j, B, f4, f5, f6, f7, f8⟩ := frz_step hH hb
        rw [q1] at f4; cases f4
        refine ⟨_, _, H1m, h, f1, ?_, f2, f3, rfl⟩
        obtain ⟨t, r1, r2, r3⟩ := getC_cells (G := gl1 X) f7 hlay q2 f8 hw
        obtain ⟨rfl, r3⟩ := r3
        exact .mkfptr (row_of (M := ⟨H1m, M.mu, M.ln⟩) f5 f6 r2) r3
      | two _ _ => simp at h
      | cell _ => simp at h
    | fptr s x => exact ⟨_, H, M.H1, h, .refl _, hv, hH, .refl, rfl⟩
    | nilS => exact ⟨_, H, M.H1, h, .refl _, hv, hH, .refl, rfl⟩
    | fn f => exact ⟨_, H, M.H1, h, .refl _, hv, hH, .refl, rfl⟩

/-- parts and their values -/
def PartsR (X : Cx) (M : Lk) (ps : List (Nat × AV)) (l : List (Nat × Value)) : Prop := ps.length = l.length ∧ ∀ (j : Nat) i a, ps[j]? = some (i, a) → ∃ u, l[j]? = some (i, u) ∧ VR (gl1 X) M a u
theorem PartsR.nil : PartsR X M [] [] := ⟨rfl, by simp⟩
theorem PartsR.cons {i : Nat} {a : AV} {u : Value} {ps : List (Nat × AV)} {l : List (Nat × Value)} (h : VR (gl1 X) M a u) (t : PartsR X M ps l) : PartsR X M ((i, a) :: ps) ((i, u) :: l) := by
  refine ⟨by simp [t.1], fun j i' a' hj => ?_⟩
  cases j with
  | zero => simp at hj; obtain ⟨rfl, rfl⟩ := hj; exact ⟨u, by simp, h⟩
  | succ j => simpa using t.2 j i' a' (by simpa using hj)
theorem PartsR.inv {i : Nat} {a : AV} {ps : List (Nat × AV)} {l : List (Nat × Value)} (h : PartsR X M ((i, a) :: ps) l) : ∃ u l', l = (i, u) :: l' ∧ VR (gl1 X) M a u ∧ PartsR X M ps l' := by
  obtain ⟨u, h1, h2⟩ := h.2 0 i a rfl
  match l, h1, h.1, h.2 with
  | p :: l', h1, hl, hr =>
    simp at h1; subst h1
    exact ⟨u, l', rfl, h2, by simpa using hl, fun j i' a' hj => by simpa using hr (j + 1) i' a' (by simpa using hj)⟩
theorem PartsR.mono {M' : Lk} {ps : List (Nat × AV)} {l : List (Nat × Value)} (h : PartsR X M ps l) (hr : RoLe M.H1 M'.H1) (hm : ∀ k i, M.mu k = some i → M'.mu k = some i ∧ M'.ln k = M.ln k) : PartsR X M' ps l := ⟨h.1, fun j i a hj => by
  obtain ⟨u, h1, h2⟩ := h.2 j i a hj
  exact ⟨u, h1, h2.mono hr hm⟩⟩
theorem partsA_sound (hX : XOK X) (he : ER X M e e1) : ∀ {xs : List (Nat × Operand)} {ps : List (Nat × AV)}, partsA X e xs = some ps → ∃ l, Ab.evParts e1 xs = some l ∧ PartsR X M ps l
  | [], ps, h => by simp only [partsA, Option.some.injEq] at h; subst h; exact ⟨[], rfl, .nil⟩
  | (i, x) :: r, ps, h => by
    simp only [partsA, Option.bind_eq_some_iff, Option.map_eq_some_iff] at h
    obtain ⟨a, ha, l', hl, rfl⟩ := h
    obtain ⟨u, g1, g2⟩ := evA_sound hX he ha
    obtain ⟨l, k1, k2⟩ := partsA_sound hX he hl
    exact ⟨(i, u) :: l, by simp [Ab.evParts, g1, k1], .cons g2 k2⟩
theorem frzP_sound : ∀ {ps : List (Nat × AV)} {k : List (Nat × AV) → HAct} {M : Lk} {H : Heap} {l : List (Nat × Value)}, Ex (frzP ps k) H v H' → PartsR X M ps l → HR (gl1 X) M H →
    ∃ ps' Hm H1m, Ex (k ps') Hm v H' ∧ FrzLe M.H1 H1m ∧ PartsR X ⟨H1m, M.mu, M.ln⟩ ps' l ∧ HR (gl1 X) ⟨H1m, M.mu, M.ln⟩ Hm ∧ Ext M H ⟨H1m, M.mu, M.ln⟩ Hm
  | [], k, M, H, l, h, hp, hH => by
    obtain ⟨h1, h2⟩ := hp
    exact ⟨[], H, M.H1, h, .refl _, ⟨h1, h2⟩, hH, .refl⟩
  | (i, a) :: ps, k, M, H, l, h, hp, hH => by
    simp only [frzP] at h
    obtain ⟨u, l', rfl, hv, hp⟩ := hp.inv
    obtain ⟨a', Hm, H1m, g1, g2, g3, g4, g5, _⟩ := frzA_sound h hv hH
    have hp' := hp.mono (M' := ⟨H1m, M.mu, M.ln⟩) g2.ro (fun _ _ h => ⟨h, rfl⟩)
    obtain ⟨ps', Hn, H1n, k1, k2, k3, k4, k5⟩ := frzP_sound (M := ⟨H1m, M.mu, M.ln⟩) g1 hp' g4
    exact ⟨_, Hn, H1n, k1, g2.trans k2, .cons (g3.mono (M' := ⟨H1n, M.mu, M.ln⟩) k2.ro (fun _ _ h => ⟨h, rfl⟩)) k3, k4, g5.trans k5⟩

/-! ## Literals filled -/
theorem elems_fill {s : Sh} : ∀ {ps : List (Nat × AV)} {z xs : List s.T} {cells : List Value} {l : List (Nat × Value)}, elemsA s z ps = some xs → PartsR X M ps l → AllC (Cells (gl1 X) M.H1 s) z cells →
    ∃ cells', Ab.afill (fun i => some (i * s.size, s.size)) cells l = some cells' ∧ AllC (Cells (gl1 X) M.H1 s) xs cells' ∧ xs.length = z.length
  | [], z, xs, cells, l, h, hp, hz => by
    simp only [elemsA, Option.some.injEq] at h; subst h
    have : l = [] := List.length_eq_zero_iff.1 hp.1.symm
    subst this
    exact ⟨cells, rfl, hz, rfl⟩
  | (i, a) :: ps, z, xs, cells, l, h, hp, hz => by
    simp only [elemsA] at h
    cases hb : Nat.blt i z.length with
    | false => rw [hb] at h; cases h
    | true =>
      rw [hb] at h
      simp only [cond_true, Option.bind_eq_some_iff] at h
      obtain ⟨y, hy, h⟩ := h
      have hb : i < z.length := by simpa using hb
      obtain ⟨u, l', rfl, hv, hp⟩ := hp.inv
      obtain ⟨cs, k1, k2⟩ := norm_as_cells hy hv
      have hvc : vcells u = cs := by rw [k2]; exact (CellsA.vcells (M := M) (v := .val s y) ⟨rfl, k1⟩)
      have hlen := hz.length fun _ _ h => Cells.length h
      have hmul : (i + 1) * s.size ≤ z.length * s.size := Nat.mul_le_mul_right _ hb
      rw [Nat.succ_mul] at hmul
      have hset := hz.set (k := i) (fun _ _ h => h.length) k1 hb
      obtain ⟨cells', g1, g2, g3⟩ := elems_fill h hp hset
      refine ⟨cells', ?_, g2, by rw [g3, List.length_set]⟩
      simp only [Ab.afill, Option.bind_some]
      rw [if_pos ⟨hv.nottup, by rw [hvc]; exact k1.length, by omega⟩, hvc, splice_put (by rw [k1.length]; omega)]
      unfold put
      rw [k1.length]; exact g1

theorem struct_fill {s0 : Sh} {place : Nat → Option (Nat × Nat)} (hplace : ∀ i s, subS s0 (fieldP i) = some s → place i = some (offS s0 (fieldP i), s.size)) : ∀ {ps : List (Nat × AV)} {z w : AV} {cells : List Value} {l : List (Nat × Value)},
    fillA fieldP (fun i => subS s0 (fieldP i)) z ps = some w → PartsR X M ps l → CellsA (gl1 X) M z s0 cells → ∃ cells', Ab.afill place cells l = some cells' ∧ CellsA (gl1 X) M w s0 cells'
  | [], z, w, cells, l, h, hp, hz => by
    simp only [fillA, Option.some.injEq] at h; subst h
    have : l = [] := List.length_eq_zero_iff.1 hp.1.symm
    subst this
    exact ⟨cells, rfl, hz⟩
  | (i, a) :: ps, z, w, cells, l, h, hp, hz => by
    simp only [fillA, Option.bind_eq_some_iff] at h
    obtain ⟨s, hs, h⟩ := h
    cases hb : (a.norm s).conf s with
    | false => rw [hb] at h; cases h
    | true =>
      rw [hb] at h
      simp only [cond_true, Option.bind_eq_some_iff] at h
      obtain ⟨z', hz', h⟩ := h
      obtain ⟨u, l', rfl, hv, hp⟩ := hp.inv
      obtain ⟨cs, k1, k2⟩ := norm_conf_cells hb hv
      have hvc : vcells u = cs := by rw [k2]; exact k1.vcells
      obtain ⟨q1, q2⟩ := setA_cells (fieldP i) hz (inP_field hs) hs hz' k1
      obtain ⟨cells', g1, g2⟩ := struct_fill hplace h hp q1
      refine ⟨cells', ?_, g2⟩
      simp only [Ab.afill, hplace i s hs, Option.bind_some]
      rw [if_pos ⟨hv.nottup, by rw [hvc]; exact k1.length, q2⟩, hvc, splice_put (by rw [k1.length]; exact q2)]
      exact g1
end
end Go.Ty
