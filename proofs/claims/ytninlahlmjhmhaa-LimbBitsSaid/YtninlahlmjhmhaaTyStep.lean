import Derived.Test.YtninlahlmjhmhaaTyFrz
namespace Go.Ty
open Go.Ab (vcells plainC capU szOf zeroOf aggT apart splice blkAt cellsAt)

def hc0 : Ab.HOrc := fun _ _ _ => none

section
variable {X : Cx} {M : Lk} {H H' : Heap} {v : Option SV} {e : Env} {e1 : Ab.Env}

/-- an operation of the typed machine is one of the machine below -/
def OpR (X : Cx) (M : Lk) (H : Heap) (e1 : Ab.Env) (op : Op) (v : Option SV) (H' : Heap) : Prop :=
  ∃ H1f r1 H1' mu' ln', FrzLe M.H1 H1f ∧ Ab.aop (x1 X) hc0 e1 H1f op = some (r1, H1') ∧ (∀ u, v = some u → ∃ v1, r1 = some v1 ∧ SVR (gl1 X) ⟨H1', mu', ln'⟩ u v1) ∧ HR (gl1 X) ⟨H1', mu', ln'⟩ H' ∧ Ext M H ⟨H1', mu', ln'⟩ H'

theorem OpR.pure {op : Op} (hp : Ab.isPure (x1 X).pf op = true) (h : PureOk X M H v H' (Ab.pv (x1 X) e1 op)) (hH : HR (gl1 X) M H) : OpR X M H e1 op v H' := by
  obtain ⟨rfl, u, v1, rfl, h1, h2⟩ := h
  refine ⟨M.H1, some v1, M.H1, M.mu, M.ln, .refl _, ?_, fun u' hu => ?_, hH, .refl⟩
  · unfold Ab.aop; rw [hp, h1]; rfl
  · injection hu with hu; subst hu; exact ⟨v1, rfl, h2⟩
/-- one that looks at memory, or writes it -/
theorem OpR.mem {op : Op} (hp : Ab.isPure (x1 X).pf op = false) {H1f : Ab.Heap} {r1 : Option Value} {H1' : Ab.Heap} {mu' : Nat → Option Nat} {ln' : Nat → Nat} (hf : FrzLe M.H1 H1f) (h : Ab.av (x1 X) hc0 e1 H1f op = some (r1, H1'))
    (hv : ∀ u, v = some u → ∃ v1, r1 = some v1 ∧ SVR (gl1 X) ⟨H1', mu', ln'⟩ u v1) (hH : HR (gl1 X) ⟨H1', mu', ln'⟩ H') (hx : Ext M H ⟨H1', mu', ln'⟩ H') : OpR X M H e1 op v H' :=
  ⟨H1f, r1, H1', mu', ln', hf, by unfold Ab.aop; rw [hp]; exact h, hv, hH, hx⟩

theorem cellsAt_row {a : Addr} {ds : List Value} (h : Row (gl1 X) M.H1 a ds) : ∃ B, cellsAt (x1 X) M.H1 a = some B ∧ a.off + ds.length ≤ B.length ∧ (B.drop a.off).take ds.length = ds := by
  obtain ⟨B, h1, h2, h3⟩ := h
  refine ⟨B, ?_, h2, h3⟩
  unfold cellsRO at h1
  unfold cellsAt blkAt
  cases hs : a.spot with
  | some _ => simpa [hs, x1] using h1
  | none =>
    simp only [hs] at h1 ⊢
    cases hb : M.H1[a.block]? with
    | none => simp [hb] at h1
    | some o =>
      cases o with
      | none => simp [hb] at h1
      | some b =>
        simp only [hb] at h1
        split at h1
        · cases h1
        · simpa using h1
theorem cellsAt_blk {i o : Nat} {B : Ab.Blk} (hB : M.H1[i]? = some (some B)) : cellsAt (x1 X) M.H1 ⟨i, o, none⟩ = some B.cells := by
  simp [cellsAt, blkAt, hB]

theorem loadA_sound (hX : XOK X) {t : TypeId} {a : AV} {u : Value} (h : Ex (loadA X t a) H v H') (ha : VR (gl1 X) M a u) (hH : HR (gl1 X) M H) : PureOk X M H v H' (Ab.ald (x1 X) M.H1 t u) := by
  unfold loadA at h
  simp only [Ex_ofO] at h
  obtain ⟨s, hs, h⟩ := h
  have hse := hX.sh _ _ hs
  split at h
  · rename_i b r p
    simp only [Ex_look, Ex_bif, Ex_ofO, Ex_pure, Ex_fail, and_false, or_false] at h
    obtain ⟨x, hb, hlay, w, hw, hconf, rfl, rfl⟩ := h
    have hlay := Lay.eq_of_beq hlay
    obtain ⟨i, q1, q2, rfl⟩ := ha.cell
    obtain ⟨i', B, g1, g2, g3, g4, g5⟩ := hH.live b x hb
    rw [q1] at g1; cases g1
    obtain ⟨t', r1, r2, r3⟩ := getC_cells g4 hlay q2 g5 hw
    have r4 := r3.conf hconf
    have hsz : t'.size = s.size := by rw [← r3.length, r4.length]
    rw [hsz] at r2 r4
    refine .to (VR.of r4) ?_
    simp only [Ab.ald, cellsAt_blk (X := X) (M := M) g2, Option.bind_some]
    exact apart_mk (X := X) hse r2
  · rename_i s' x
    simp only [Ex_bif, Ex_pure, Ex_fail, and_false, or_false] at h
    obtain ⟨hb, rfl, rfl⟩ := h
    have hb := Sh.eq_of_beq hb; subst hb
    obtain ⟨a, ds, rfl, hr, hds⟩ := ha.cell
    obtain ⟨B, k1, k2, k3⟩ := cellsAt_row hr
    have hl := hds.length
    rw [hl] at k2 k3
    rw [← k3] at hds
    refine .to (.mkval hds) ?_
    simp only [Ab.ald, k1, Option.bind_some]
    exact apart_mk (X := X) hse k2
  · simp at h

theorem storeA_sound (hX : XOK X) {t : TypeId} {a x : AV} {ua ux : Value} (h : Ex (storeA X t a x) H v H') (ha : VR (gl1 X) M a ua) (hx : VR (gl1 X) M x ux) (hH : HR (gl1 X) M H) :
    v = none ∧ ∃ H1', Ab.ast X.P M.H1 t ua ux = some H1' ∧ HR (gl1 X) ⟨H1', M.mu, M.ln⟩ H' ∧ Ext M H ⟨H1', M.mu, M.ln⟩ H' := by
  unfold storeA at h
  simp only [Ex_ofO] at h
  obtain ⟨s, hs, h⟩ := h
  have hse := hX.sh _ _ hs
  split at h
  · rename_i b r p
    simp only [Ex_look, Ex_bif, Ex_ofO, Ex_put, Ex_ret, Ex_fail, and_false, or_false, Bool.and_eq_true] at h
    obtain ⟨y, hb, ⟨⟨⟨hlay, ho⟩, hsub⟩, hconf⟩, c, hc, y', hy', rfl, rfl⟩ := h
    have hlay := Lay.eq_of_beq hlay
    have hsub : subL r p = some s := by
      split at hsub
      · rename_i s' hs'; rw [hs', Sh.eq_of_beq hsub]
      · cases hsub
    obtain ⟨i, q1, q2, rfl⟩ := ha.cell
    obtain ⟨i', B, g1, g2, g3, g4, g5⟩ := hH.live b y hb
    rw [q1] at g1; cases g1
    obtain ⟨ds, k1, rfl⟩ := norm_conf_cells hconf hx
    obtain ⟨w1, w2, w3⟩ := setC_cells g4 hlay q2 g5 hsub hc k1
    have hBo : B.own = true := by rw [g3, ho]
    obtain ⟨z1, z2⟩ := put_step hH hb ho q1 g2 hBo (B' := { B with cells := put B.cells (offL r p) ds }) hBo w1 w3
    refine ⟨rfl, _, ?_, z1, z2⟩
    have hvc := k1.vcells
    unfold Ab.ast
    have hnt := (VR.of k1).nottup
    simp only [blkAt, g2, Option.bind_some, id, shChk_sz hse, hBo, hvc, hnt]
    rw [show Nat.beq ds.length s.size = true from by rw [k1.length]; exact Nat.beq_refl _, show Nat.ble (offL r p + s.size) B.cells.length = true from by rw [← k1.length]; simpa using w2]
    rw [splice_put w2]; rfl
  · simp at h

theorem bytes_cells (G : Nat → Option (List Value)) (H1 : Ab.Heap) : ∀ (xs : List (BitVec 8)), AllC (Cells G H1 (.int .u8)) xs ((xs.map UInt8.ofBitVec).map fun b => Value.int .u8 b.toNat)
  | [] => rfl
  | x :: xs => ⟨[.int .u8 (toI .u8 x)], _, rfl, rfl, bytes_cells G H1 xs⟩

theorem rowA_sound {a : AV} {s : Sh} {k : List s.T → HAct} {u : Value} (h : Ex (rowA a s k) H v H') (ha : VR (gl1 X) M a u) (hH : HR (gl1 X) M H) :
    ∃ ys cs, Ex (k ys) H v H' ∧ AllC (Cells (gl1 X) M.H1 s) ys cs ∧ Ab.lenV u = some ys.length ∧ (∀ n, n ≤ ys.length → Ab.rowOf (x1 X) M.H1 s.size n u = some (cs.take (n * s.size))) ∧ Ab.strOne s.size u = true := by
  unfold rowA at h
  split at h
  · rename_i s' xs
    simp only [Ex_ofO] at h
    obtain ⟨ys, hys, h⟩ := h
    have := castSl_eq hys; subst this
    have := (castSl_same hys).symm; subst this
    obtain ⟨c0, hc, rfl⟩ := ha.val
    rcases hc with ⟨rfl, rfl⟩ | ⟨a, c, rfl, _, hr⟩
    · refine ⟨[], [], h, rfl, rfl, fun n hn => ?_, rfl⟩
      have : n = 0 := by simpa using hn
      subst this
      simp [mkV, Sh.isAgg, Ab.rowOf]
    · rcases hr with rfl | ⟨ds, hr, hds⟩
      · refine ⟨[], [], h, rfl, rfl, fun n hn => ?_, rfl⟩
        have : n = 0 := by simpa using hn
        subst this
        simp [mkV, Sh.isAgg, Ab.rowOf]
      · refine ⟨_, ds, h, hds, rfl, fun n hn => ?_, rfl⟩
        obtain ⟨B, k1, k2, k3⟩ := cellsAt_row hr
        have hl := hds.length fun _ _ h => Cells.length h
        have hmul : n * s'.size ≤ List.length xs * s'.size := Nat.mul_le_mul_right _ hn
        simp only [mkV, Sh.isAgg, cond_false, List.headD_cons, Ab.rowOf]
        cases hn0 : Nat.beq n 0 with
        | true => have := Nat.eq_of_beq_eq_true hn0; subst this; simp
        | false =>
          simp only [cond_false, k1, Option.bind_some]
          rw [if_pos (by omega), ← k3, List.take_take, Nat.min_eq_left (by omega)]
  · rename_i xs
    simp only [Ex_ofO] at h
    obtain ⟨ys, hys, h⟩ := h
    have := castSl_eq hys; subst this
    have := (castSl_same hys).symm; subst this
    have ha := ha.str; subst ha
    refine ⟨xs, _, h, bytes_cells _ _ xs, by simp only [Ab.lenV, strOf_size], fun n hn => ?_, rfl⟩
    simp only [Ab.rowOf, strOf_list, Sh.size, Nat.mul_one, List.map_take]
  · have ha := ha.cell
    have ha : u = .slice none 0 0 := ha
    subst ha
    refine ⟨[], [], h, rfl, rfl, fun n hn => ?_, rfl⟩
    have : n = 0 := by simpa using hn
    subst this; simp [Ab.rowOf]
  · rename_i b r p s' off len cap
    simp only [Ex_look, Ex_bif, Ex_ofO, Ex_fail, and_false, or_false, Bool.and_eq_true] at h
    obtain ⟨x, hb, ⟨hlay, hs⟩, xs, hxs, h⟩ := h
    have hlay := Lay.eq_of_beq hlay
    have hs := Sh.eq_of_beq hs; subst hs
    obtain ⟨i, c, o, q1, q2, rfl, q3, q4, q5⟩ := ha.cell
    obtain ⟨i', B, g1, g2, g3, g4, g5⟩ := hH.live b x hb
    rw [q1] at g1; cases g1
    obtain ⟨r1, r2, r3, r4, _⟩ := rowC_cells g4 hlay g5 q2 hxs
    have hl : ((xs.drop off).take len).length = len := by rw [List.length_take, List.length_drop]; omega
    have hall := (r2.drop (fun _ _ h => h.length) off).take (fun _ _ h => h.length) len
    refine ⟨_, _, h, hall, by rw [hl]; rfl, fun n hn => ?_, rfl⟩
    rw [hl] at hn
    have hmul : (off + len) * s'.size ≤ xs.length * s'.size := Nat.mul_le_mul_right _ r3
    have hmul2 : n * s'.size ≤ len * s'.size := Nat.mul_le_mul_right _ hn
    rw [Nat.add_mul] at hmul
    simp only [Ab.rowOf]
    cases hn0 : Nat.beq n 0 with
    | true => have := Nat.eq_of_beq_eq_true hn0; subst this; simp
    | false =>
      have hn1 : n ≠ 0 := by rintro rfl; simp at hn0
      have ho : o = offL r p + off * s'.size := by
        rcases q4 with q4 | q4
        · exact q4
        · exfalso
          cases cap with
          | none =>
            rcases q5 with q5 | q5
            · rw [q5] at q4; simp [capU] at q4
            · omega
          | some k =>
            obtain ⟨q5, q6⟩ := q5
            rcases q2 with ⟨n, c', k1, k2, k3, k4, k5⟩ | ⟨k1, k2, k3, k4⟩
            · cases k3; omega
            · have := k4 k rfl; omega
      simp only [cond_false, cellsAt_blk (X := X) (M := M) g2, Option.bind_some]
      rw [if_pos (by omega), List.take_take, Nat.min_eq_left hmul2, ho, List.drop_take, List.drop_drop, List.take_take, Nat.min_eq_left (by omega)]
  · simp at h

theorem copyA_sound (hX : XOK X) {t : TypeId} {d a : AV} {ud ua : Value} (h : Ex (copyA X t d a) H v H') (hd : VR (gl1 X) M d ud) (ha : VR (gl1 X) M a ua) (hH : HR (gl1 X) M H) :
    ∃ y v1 H1', v = some (.av y) ∧ Ab.acopy (x1 X) M.H1 t ud ua = some (v1, H1') ∧ VR (gl1 X) ⟨H1', M.mu, M.ln⟩ y v1 ∧ HR (gl1 X) ⟨H1', M.mu, M.ln⟩ H' ∧ Ext M H ⟨H1', M.mu, M.ln⟩ H' := by
  unfold copyA at h
  simp only [Ex_ofO, Ex_bif, Ex_fail, and_false, false_or] at h
  obtain ⟨⟨isA, n0, s⟩, het, hA, h⟩ := h
  rcases elemT_arr het with ⟨rfl, hs⟩ | ⟨rfl, hs⟩
  · cases hA
  obtain ⟨el, hu, hse⟩ := shChk_sl (hX.sh _ _ hs)
  split at h
  · rename_i b r p e' off len cap
    simp only [Ex_bif, Ex_fail, and_false, or_false] at h
    obtain ⟨he, h⟩ := h
    have he := Sh.eq_of_beq he; subst he
    obtain ⟨ys, cs, h, hys, hlen, hrow, _⟩ := rowA_sound h ha hH
    simp only [Ex_look, Ex_bif, Ex_ofO, Ex_put, Ex_pure, Ex_fail, and_false, or_false, Bool.and_eq_true] at h
    obtain ⟨x, hb, ⟨hlay, ho⟩, c, hc, y', hy', rfl, rfl⟩ := h
    have hlay := Lay.eq_of_beq hlay
    obtain ⟨i, cc, o, q1, q2, rfl, q3, q4, q5⟩ := hd.cell
    obtain ⟨i', B, g1, g2, g3, g4, g5⟩ := hH.live b x hb
    rw [q1] at g1; cases g1
    have hn : Nat.min ys.length len = (ys.take len).length := by rw [List.length_take, Nat.min_comm]
    have hds := hys.take (fun _ _ h => h.length) (Nat.min ys.length len)
    have htk : ys.take (Nat.min ys.length len) = ys.take len := by
      rcases Nat.le_total ys.length len with hle | hle
      · rw [show Nat.min ys.length len = ys.length from Nat.min_eq_left hle, List.take_length, List.take_of_length_le hle]
      · rw [show Nat.min ys.length len = len from Nat.min_eq_right hle]
    rw [htk] at hds
    have hmin : Nat.min ys.length len ≤ ys.length := Nat.min_le_left _ _
    have hmin2 : Nat.min ys.length len ≤ len := Nat.min_le_right _ _
    obtain ⟨w1, w2, w3⟩ := setRowC_cells g4 hlay g5 q2 hc hds (fun n hn' => by
      rcases hn' with ⟨q, k1, rfl⟩ | ⟨k1, k2, rfl⟩
      · rcases q2 with ⟨n, c', z1, z2, z3, z4, z5⟩ | ⟨z1, z2, z3, z4⟩
        · rw [k1] at z1; cases z1; omega
        · subst z1; subst z2; simp [subL] at k1
      · rcases q2 with ⟨n, c', z1, z2, z3, z4, z5⟩ | ⟨z1, z2, z3, z4⟩
        · subst k1; subst k2; simp [subL] at z1
        · omega)
    have hBo : B.own = true := by rw [g3, ho]
    obtain ⟨z1, z2⟩ := put_step hH hb ho q1 g2 hBo (B' := { B with cells := put B.cells (offL r p + off * e'.size) (cs.take (Nat.min ys.length len * e'.size)) }) hBo w1 w3
    have hrow' := hrow _ hmin
    unfold Ab.acopy
    simp only [x1, hu, shChk_sz hse, Option.bind_some, hlen]
    have hrow2 : Ab.rowOf { P := X.P, orc := fun _ _ => none, pf := fun _ => false, glob := gl1 X } M.H1 e'.size (Nat.min ys.length len) ua = some (cs.take (Nat.min ys.length len * e'.size)) := hrow'
    rw [hrow2]
    simp only [Option.bind_some, blkAt, g2, id]
    by_cases hz : o = offL r p + off * e'.size
    · refine ⟨_, .int .i64 ((Nat.min ys.length len : Nat) : Int), _, rfl, ?_, .ofint (k := .i64), z1, z2⟩
      rw [if_pos ⟨hBo, by rw [hz]; exact w2⟩, hz, splice_put w2]
    · -- nothing is written
      have hc0 : cc = 0 := q4.resolve_left hz
      have hlen0 : len = 0 := by
        cases cap with
        | none =>
          rcases q5 with q5 | q5
          · rw [q5] at hc0; simp [capU] at hc0
          · omega
        | some k =>
          obtain ⟨q5, q6⟩ := q5
          rcases q2 with ⟨n, c', k1, k2, k3, k4, k5⟩ | ⟨k1, k2, k3, k4⟩
          · cases k3; omega
          · have := k4 k rfl; omega
      subst hlen0
      have hm0 : Nat.min ys.length 0 = 0 := Nat.min_zero _
      have e0 : cs.take (Nat.min ys.length 0 * e'.size) = [] := by rw [hm0]; simp
      have e1 : put B.cells (offL r p + off * e'.size) (cs.take (Nat.min ys.length 0 * e'.size)) = B.cells := by rw [e0]; unfold put; simp
      have e2 : splice B.cells o (cs.take (Nat.min ys.length 0 * e'.size)) = B.cells := by rw [e0]; unfold splice; simp
      rw [e1] at z1 z2
      refine ⟨_, .int .i64 ((Nat.min ys.length 0 : Nat) : Int), _, rfl, ?_, .ofint (k := .i64), z1, z2⟩
      rw [if_pos ⟨hBo, by rw [e0]; simp only [List.length_nil]; omega⟩, e2]
  · simp at h
end
end Go.Ty
