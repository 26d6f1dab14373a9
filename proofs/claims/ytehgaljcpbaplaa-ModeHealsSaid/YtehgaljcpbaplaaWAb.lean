import Derived.Test.YtehgaljcpbaplaaWAa
namespace Go.Proofs.Ytehgaljcpbaplaa
open Go.Ty

/-! ## Blocks -/
noncomputable def xr (a b : List (BitVec 8)) : List (BitVec 8) := (List.range 16).map fun i => rd u8S a i ^^^ rd u8S b i
def blkA (x : List (BitVec 8)) (at_ : Nat) : List (BitVec 8) := (x.drop at_).take 16
theorem xr_len (a b : List (BitVec 8)) : (xr a b).length = 16 := by unfold xr; rw [List.length_map]; rfl
theorem blk_len {x : List (BitVec 8)} {at_ : Nat} (h : at_ + 16 ≤ x.length) : (blkA x at_).length = 16 := by unfold blkA; rw [List.length_take, List.length_drop]; omega
theorem rd_xr (a b : List (BitVec 8)) {i : Nat} (h : i < 16) : rd u8S (xr a b) i = rd u8S a i ^^^ rd u8S b i := by
  rw [rd_at (by rw [xr_len]; exact h)]
  simp [xr]
theorem rd_drop (x : List (BitVec 8)) (n i : Nat) : rd u8S (x.drop n) i = rd u8S x (n + i) := by
  unfold rd
  rw [List.getD_eq_getElem?_getD, List.getD_eq_getElem?_getD, List.getElem?_drop]
theorem rd_take (x : List (BitVec 8)) {n i : Nat} (h : i < n) : rd u8S (x.take n) i = rd u8S x i := by
  unfold rd
  rw [List.getD_eq_getElem?_getD, List.getD_eq_getElem?_getD, List.getElem?_take_of_lt h]
theorem rd_blk (at_ : Nat) (x : List (BitVec 8)) {i : Nat} (h : i < 16) : rd u8S (blkA x at_) i = rd u8S x (at_ + i) := by
  unfold blkA
  rw [rd_take _ h, rd_drop]
theorem l16_ext {x y : List (BitVec 8)} (hx : x.length = 16) (hy : y.length = 16) (e : ∀ i, i < 16 → rd u8S x i = rd u8S y i) : x = y := rd8_ext (hx.trans hy.symm) fun i hi => e i (by omega)
theorem xr_back (a b : List (BitVec 8)) (hb : b.length = 16) : xr (xr a b) a = b := by
  refine l16_ext (xr_len _ _) hb fun i hi => ?_
  rw [rd_xr _ _ hi, rd_xr _ _ hi, BitVec.xor_comm (rd u8S a i), BitVec.xor_assoc, BitVec.xor_self, BitVec.xor_zero]
theorem xr_back2 (a b : List (BitVec 8)) (hb : b.length = 16) : xr a (xr b a) = b := by
  refine l16_ext (xr_len _ _) hb fun i hi => ?_
  rw [rd_xr _ _ hi, rd_xr _ _ hi, BitVec.xor_comm (rd u8S b i), ← BitVec.xor_assoc, BitVec.xor_self, BitVec.zero_xor]
theorem take_blk (x : List (BitVec 8)) (n : Nat) : x.take n ++ blkA x n = x.take (n + 16) := (List.take_add).symm
/-- so many bytes, each put in its place -/
def setsL : List (BitVec 8) → Nat → Nat → List (BitVec 8) → List (BitVec 8)
  | out, _, _, [] => out
  | out, a, i, x :: l => setsL (out.set (a + i) x) a (i + 1) l
theorem setsL_over (a : Nat) : ∀ (l : List (BitVec 8)) (i : Nat) (out : List (BitVec 8)), a + i + l.length ≤ out.length → setsL out a i l = over out (a + i) l
  | [], i, out, _ => by
    unfold setsL over
    rw [List.append_nil]; exact (List.take_append_drop _ _).symm
  | x :: l, i, out, h => by
    rw [List.length_cons] at h
    unfold setsL
    rw [setsL_over a l (i + 1) _ (by rw [List.length_set]; omega)]
    unfold over
    have h1 : (out.set (a + i) x).take (a + (i + 1)) = out.take (a + i) ++ [x] := by
      refine List.ext_getElem? fun j => ?_
      rw [List.getElem?_take, List.getElem?_set, List.getElem?_append, List.getElem?_take, List.length_take, Nat.min_eq_left (by omega)]
      by_cases c1 : j < a + i
      · rw [if_pos (by omega), if_neg (by omega), if_pos c1, if_pos c1]
      · by_cases c2 : j = a + i
        · subst c2
          rw [if_pos (by omega), if_pos rfl, if_pos (by omega), if_neg c1]
          simp
        · rw [if_neg (by omega), if_neg c1, List.getElem?_eq_none (by simp; omega)]
    have h2 : (out.set (a + i) x).drop (a + (i + 1) + l.length) = out.drop (a + i + (x :: l).length) := by
      rw [List.drop_set_of_lt (by omega), List.length_cons]
      congr 1; omega
    rw [h1, h2]
    simp only [List.append_assoc, List.singleton_append]
/-! ## The chain -/
noncomputable def chn (w : WW) (R : Int) (iv x : List (BitVec 8)) : Nat → List (BitVec 8)
  | 0 => iv
  | q + 1 => encW w R (xr (chn w R iv x q) (blkA x (16 * q)))
noncomputable def sealC (w : WW) (R : Int) (iv x : List (BitVec 8)) : Nat → List (BitVec 8)
  | 0 => []
  | k + 1 => sealC w R iv x k ++ chn w R iv x (k + 1)
theorem chn_len (w : WW) (R : Int) {iv x : List (BitVec 8)} (h : iv.length = 16) : ∀ k, (chn w R iv x k).length = 16
  | 0 => h
  | _k + 1 => encW_len (xr_len _ _)
theorem sealC_len (w : WW) (R : Int) {iv x : List (BitVec 8)} (h : iv.length = 16) : ∀ k, (sealC w R iv x k).length = 16 * k
  | 0 => rfl
  | k + 1 => by
    show (sealC w R iv x k ++ chn w R iv x (k + 1)).length = _
    rw [List.length_append, sealC_len w R h k, chn_len w R h]; omega
theorem sealC_split (w : WW) (R : Int) (iv x : List (BitVec 8)) (q : Nat) : ∀ m, q < m → ∃ r, sealC w R iv x m = sealC w R iv x q ++ (chn w R iv x (q + 1) ++ r)
  | m + 1, h => by
    by_cases e : q = m
    · subst e
      exact ⟨[], by rw [List.append_nil]; rfl⟩
    · obtain ⟨r, hr⟩ := sealC_split w R iv x q m (by omega)
      refine ⟨r ++ chn w R iv x (m + 1), ?_⟩
      show sealC w R iv x m ++ chn w R iv x (m + 1) = _
      rw [hr]; simp only [List.append_assoc]
theorem blk_seal (w : WW) (R : Int) {iv x : List (BitVec 8)} (h : iv.length = 16) {q m : Nat} (hq : q < m) : blkA (sealC w R iv x m) (16 * q) = chn w R iv x (q + 1) := by
  obtain ⟨r, hr⟩ := sealC_split w R iv x q m hq
  unfold blkA
  rw [hr, List.drop_left' (sealC_len w R h q), List.take_left' (chn_len w R h _)]
noncomputable def prv (iv c : List (BitVec 8)) : Nat → List (BitVec 8)
  | 0 => iv
  | k + 1 => blkA c (16 * k)
noncomputable def opnC (w : WW) (R : Int) (iv c : List (BitVec 8)) : Nat → List (BitVec 8)
  | 0 => []
  | k + 1 => opnC w R iv c k ++ xr (decW w R (blkA c (16 * k))) (prv iv c k)
theorem opnC_len (w : WW) (R : Int) (iv c : List (BitVec 8)) : ∀ k, (opnC w R iv c k).length = 16 * k
  | 0 => rfl
  | k + 1 => by
    show (opnC w R iv c k ++ xr (decW w R (blkA c (16 * k))) (prv iv c k)).length = _
    rw [List.length_append, opnC_len w R iv c k, xr_len]; omega
theorem opnC_split (w : WW) (R : Int) (iv c : List (BitVec 8)) (q : Nat) : ∀ m, q < m → ∃ r, opnC w R iv c m = opnC w R iv c q ++ (xr (decW w R (blkA c (16 * q))) (prv iv c q) ++ r)
  | m + 1, h => by
    by_cases e : q = m
    · subst e
      exact ⟨[], by rw [List.append_nil]; rfl⟩
    · obtain ⟨r, hr⟩ := opnC_split w R iv c q m (by omega)
      refine ⟨r ++ xr (decW w R (blkA c (16 * m))) (prv iv c m), ?_⟩
      show opnC w R iv c m ++ xr (decW w R (blkA c (16 * m))) (prv iv c m) = _
      rw [hr]; simp only [List.append_assoc]
theorem blk_open (w : WW) (R : Int) (iv c : List (BitVec 8)) {q m : Nat} (hq : q < m) : blkA (opnC w R iv c m) (16 * q) = xr (decW w R (blkA c (16 * q))) (prv iv c q) := by
  obtain ⟨r, hr⟩ := opnC_split w R iv c q m hq
  show List.take 16 (List.drop (16 * q) (opnC w R iv c m)) = _
  rw [hr, List.drop_left' (opnC_len w R iv c q), List.take_left' (xr_len _ _)]
/-- what was sealed is opened -/
theorem open_seal (w : WW) (R : Int) {iv x : List (BitVec 8)} (h : iv.length = 16) {m : Nat} (hx : x.length = 16 * m) : opnC w R iv (sealC w R iv x m) m = x := by
  have hp : ∀ k, k < m → prv iv (sealC w R iv x m) k = chn w R iv x k := by
    intro k hk
    cases k with
    | zero => rfl
    | succ k => exact blk_seal w R h (by omega)
  have key : ∀ k, k ≤ m → opnC w R iv (sealC w R iv x m) k = x.take (16 * k) := by
    intro k
    induction k with
    | zero => intro _; rfl
    | succ k ih =>
      intro hk
      show opnC w R iv (sealC w R iv x m) k ++ xr (decW w R (blkA (sealC w R iv x m) (16 * k))) (prv iv (sealC w R iv x m) k) = _
      rw [ih (by omega), hp k (by omega), blk_seal w R h (by omega)]
      show x.take (16 * k) ++ xr (decW w R (encW w R (xr (chn w R iv x k) (blkA x (16 * k))))) (chn w R iv x k) = _
      rw [dec_encW (xr_len _ _), xr_back _ _ (blk_len (by omega)), take_blk]
      congr 1
  rw [key m (Nat.le_refl _), ← hx, List.take_length]
/-- what was opened is sealed -/
theorem seal_open (w : WW) (R : Int) {iv c : List (BitVec 8)} {m : Nat} (hc : c.length = 16 * m) : sealC w R iv (opnC w R iv c m) m = c := by
  have hp : ∀ k, k ≤ m → chn w R iv (opnC w R iv c m) k = prv iv c k := by
    intro k
    induction k with
    | zero => intro _; rfl
    | succ k ih =>
      intro hk
      show encW w R (xr (chn w R iv (opnC w R iv c m) k) (blkA (opnC w R iv c m) (16 * k))) = blkA c (16 * k)
      have hb : (blkA c (16 * k)).length = 16 := blk_len (by omega)
      rw [ih (by omega), blk_open w R iv c (by omega), xr_back2 _ _ (decW_len hb), enc_decW hb]
  have key : ∀ k, k ≤ m → sealC w R iv (opnC w R iv c m) k = c.take (16 * k) := by
    intro k
    induction k with
    | zero => intro _; rfl
    | succ k ih =>
      intro hk
      show sealC w R iv (opnC w R iv c m) k ++ chn w R iv (opnC w R iv c m) (k + 1) = _
      rw [ih (by omega), hp (k + 1) hk]
      show c.take (16 * k) ++ blkA c (16 * k) = _
      rw [take_blk]
      congr 1
  rw [key m (Nat.le_refl _), ← hc, List.take_length]
/-! ## The code's rounds -/
def padN (l : Nat) : Nat := 16 - l % 16
def padW (p : List (BitVec 8)) : List (BitVec 8) := p ++ List.replicate (padN p.length) (BitVec.ofNat 8 (padN p.length))
noncomputable def sealW (w : WW) (R : Int) (iv p : List (BitVec 8)) : List (BitVec 8) := sealC w R iv (padW p) (p.length / 16 + 1)
theorem pad_len (p : List (BitVec 8)) : (padW p).length = 16 * (p.length / 16 + 1) := by
  unfold padW padN
  rw [List.length_append, List.length_replicate]; omega
noncomputable abbrev Is5 : List It := [.p 3 2000 keyS, .p 4 2001 b16S, .v 7 i64S, .w 8 2002 u8S, .v 23 i64S, .v 24 i64S]
noncomputable abbrev os5 : List (Nat × List It) := [(0, [.p 3 2000 keyS, .p 4 2001 b16S, .w 8 2002 u8S])]
noncomputable abbrev Is9 : List It := [.p 3 2000 keyS, .p 4 2001 b16S, .r 8 2002 u8S, .v 9 i64S]
noncomputable abbrev os9 : List (Nat × List It) := [(2, [.r 8 2002 u8S])]
noncomputable def bsl : Code := Try.f28.body.getD .skip
/-- the bytes behind: all that is there is p, and n more, of which i are written -/
noncomputable def Qs5 : LQ Is5 [] os5 := fun x _ Kx => (∃ (p : List (BitVec 8)) (n : Nat), n ≤ 16 ∧ p.length ≤ 140737488355328 ∧ x.2.2.1 = (n : Int) ∧ x.2.2.2.1 = (p ++ List.replicate n 0#8, p.length) ∧ x.2.2.2.2.1 = (n : Int) ∧ x.2.2.2.2.2.1 = 0 ∧
  Kx.1 (x.1, x.2.1, (p ++ List.replicate n (BitVec.ofNat 8 n), p.length + n), ()))
noncomputable def Qs9 : LQ Is9 [] os9 := fun x _ Kx => ((1 ≤ x.1.2.1 ∧ x.1.2.1 < 15) ∧ List.length x.2.1 = 16 ∧ List.length x.2.2.1 ≤ 140737488355328 ∧ (∃ m : Nat, List.length x.2.2.1 = 16 * m) ∧ x.2.2.2.1 = 0) ∧
  Kx.1 (sealC x.1.1 x.1.2.1 x.2.1 x.2.2.1 (List.length x.2.2.1 / 16), ())
noncomputable abbrev Lsl : LTab := [(5, ptL Is5 [] os5 Qs5), (9, ptL Is9 [] os9 Qs9)]
noncomputable abbrev Io5 : List It := [.p 3 2000 keyS, .p 4 2001 b16S, .v 2 (.sl u8S), .r 8 2002 u8S, .v 9 i64S]
noncomputable abbrev oo5 : List (Nat × List It) := [(0, [.r 8 2002 u8S])]
noncomputable abbrev Io20 : List It := [.v 8 (.sl u8S), .v 77 (.sl u8S), .v 13 i64S, .v 78 i64S, .v 79 i64S]
noncomputable abbrev oo20 : List (Nat × List It) := [(4, [.v 8 (.sl u8S), .v 13 i64S])]
noncomputable abbrev lo20 : List It := [.v 6 (.sl u8S), .v 7 i64S]
noncomputable def bop : Code := Try.f29.body.getD .skip
noncomputable def Qo5 : LQ Io5 [] oo5 := fun x _ Kx => ((1 ≤ x.1.2.1 ∧ x.1.2.1 < 15) ∧ List.length x.2.1 = 16 ∧ List.length x.2.2.1 ≤ 140737488355328 ∧ (∃ m : Nat, List.length x.2.2.1 = 16 * m) ∧ x.2.2.2.1 = List.replicate (List.length x.2.2.1) 0#8 ∧ x.2.2.2.2.1 = 0) ∧
  Kx.1 (opnC x.1.1 x.1.2.1 x.2.1 x.2.2.1 (List.length x.2.2.1 / 16), ())
noncomputable def allN (x : List (BitVec 8)) (n : Int) : Bool := x.all fun b => decide (((b.toNat : Nat) : Int) = n)
noncomputable def Qo20 : LQ Io20 lo20 oo20 := fun x Kr Kx => (List.length x.2.1 ≤ 140737488355328 ∧ x.2.2.2.1 = ((List.length x.2.1 : Nat) : Int) ∧ x.2.2.2.2.1 = 0) ∧ ifB (allN x.2.1 x.2.2.1) (Kx.1 (x.1, x.2.2.1, ())) (Kr ([], 4, ()))
noncomputable abbrev Lop : LTab := [(5, ptL Io5 [] oo5 Qo5), (20, ptZ [8, 77] (ptL Io20 lo20 oo20 Qo20))]
theorem rounds5 (k : Sh.T keyS) (iv : List (BitVec 8)) (n : Int) (out : List (BitVec 8)) (len : Nat) (m i : Int) (Kn : HI Is5 → Prop) (Kr : HI [] → Prop) (Kx : HP os5) : roundT (W A13 Try.f28.ntmps (LTab.look Lsl) (bodyAt bsl 5)) Is5 [] os5 (k, iv, n, (out, len), m, i, ()) Kn Kr Kx =
 (  ifB (decide (i < m))
    (dmd ((len + (List.take 1 (List.drop 0 ((List.replicate 1 0#8).set 0 (BitVec.ofInt 8 n)))).length).ble out.length)
      ((0 = 0 ∧
          out.length =
            (over out (0 + len) (List.take 1 (List.drop 0 ((List.replicate 1 0#8).set 0 (BitVec.ofInt 8 n))))).length) ∧
        Kn
          (k, iv, n,
            (over out (0 + len) (List.take 1 (List.drop 0 ((List.replicate 1 0#8).set 0 (BitVec.ofInt 8 n)))),
              len + (List.take 1 (List.drop 0 ((List.replicate 1 0#8).set 0 (BitVec.ofInt 8 n)))).length),
            m, IntKind.i64.wrap (i + 1), PUnit.unit)))
    ((0 = 0 ∧ out.length = out.length) ∧ Kx.1 (k, iv, (out, len), PUnit.unit))) := by kernel_rfl
theorem rounds9 (k : Sh.T keyS) (b0 b1 b2 b3 b4 b5 b6 b7 b8 b9 b10 b11 b12 b13 b14 b15 : BitVec 8) (out : List (BitVec 8)) (a : Int) (Kn : HI Is9 → Prop) (Kr : HI [] → Prop) (Kx : HP os9) : roundT (W A13 Try.f28.ntmps (LTab.look Lsl) (bodyAt bsl 9)) Is9 [] os9 (k, [b0, b1, b2, b3, b4, b5, b6, b7, b8, b9, b10, b11, b12, b13, b14, b15], out, a, ()) Kn Kr Kx =
 (  ifB (decide (a < ((out.length : Nat) : Int)))
    (dmd (decide (0 ≤ IntKind.i64.wrap (a + 0)) && decide (IntKind.i64.wrap (a + 0) < ((out.length : Nat) : Int)))
      (dmd (decide (0 ≤ IntKind.i64.wrap (a + 1)) && decide (IntKind.i64.wrap (a + 1) < ((out.length : Nat) : Int)))
        (dmd (decide (0 ≤ IntKind.i64.wrap (a + 2)) && decide (IntKind.i64.wrap (a + 2) < ((out.length : Nat) : Int)))
          (dmd (decide (0 ≤ IntKind.i64.wrap (a + 3)) && decide (IntKind.i64.wrap (a + 3) < ((out.length : Nat) : Int)))
            (dmd (decide (0 ≤ IntKind.i64.wrap (a + 4)) && decide (IntKind.i64.wrap (a + 4) < ((out.length : Nat) : Int)))
              (dmd (decide (0 ≤ IntKind.i64.wrap (a + 5)) && decide (IntKind.i64.wrap (a + 5) < ((out.length : Nat) : Int)))
                (dmd (decide (0 ≤ IntKind.i64.wrap (a + 6)) && decide (IntKind.i64.wrap (a + 6) < ((out.length : Nat) : Int)))
                  (dmd (decide (0 ≤ IntKind.i64.wrap (a + 7)) && decide (IntKind.i64.wrap (a + 7) < ((out.length : Nat) : Int)))
                    (dmd (decide (0 ≤ IntKind.i64.wrap (a + 8)) && decide (IntKind.i64.wrap (a + 8) < ((out.length : Nat) : Int)))
                      (dmd (decide (0 ≤ IntKind.i64.wrap (a + 9)) && decide (IntKind.i64.wrap (a + 9) < ((out.length : Nat) : Int)))
                        (dmd (decide (0 ≤ IntKind.i64.wrap (a + 10)) && decide (IntKind.i64.wrap (a + 10) < ((out.length : Nat) : Int)))
                          (dmd
                            (decide (0 ≤ IntKind.i64.wrap (a + 11)) && decide (IntKind.i64.wrap (a + 11) < ((out.length : Nat) : Int)))
                            (dmd
                              (decide (0 ≤ IntKind.i64.wrap (a + 12)) && decide (IntKind.i64.wrap (a + 12) < ((out.length : Nat) : Int)))
                              (dmd
                                (decide (0 ≤ IntKind.i64.wrap (a + 13)) &&
                                  decide (IntKind.i64.wrap (a + 13) < ((out.length : Nat) : Int)))
                                (dmd
                                  (decide (0 ≤ IntKind.i64.wrap (a + 14)) &&
                                    decide (IntKind.i64.wrap (a + 14) < ((out.length : Nat) : Int)))
                                  (dmd
                                    (decide (0 ≤ IntKind.i64.wrap (a + 15)) &&
                                      decide (IntKind.i64.wrap (a + 15) < ((out.length : Nat) : Int)))
                                    (dmd (decide (1 ≤ k.2.1) && decide (k.2.1 < 15))
                                      (dmd (decide (0 ≤ a))
                                        (dmd (a.toNat.ble out.length && out.length.ble out.length)
                                          ((0 = 0 ∧
                                              out.length =
                                                (over out (0 + a.toNat)
                                                    (List.take (out.length - a.toNat)
                                                      (List.take 16
                                                        (List.drop 0
                                                          (encW k.1 k.2.1
                                                            [b0 ^^^
                                                                rd (Sh.int IntKind.u8) out
                                                                  (0 + (IntKind.i64.wrap (a + 0)).toNat),
                                                              b1 ^^^
                                                                rd (Sh.int IntKind.u8) out
                                                                  (0 + (IntKind.i64.wrap (a + 1)).toNat),
                                                              b2 ^^^
                                                                rd (Sh.int IntKind.u8) out
                                                                  (0 + (IntKind.i64.wrap (a + 2)).toNat),
                                                              b3 ^^^
                                                                rd (Sh.int IntKind.u8) out
                                                                  (0 + (IntKind.i64.wrap (a + 3)).toNat),
                                                              b4 ^^^
                                                                rd (Sh.int IntKind.u8) out
                                                                  (0 + (IntKind.i64.wrap (a + 4)).toNat),
                                                              b5 ^^^
                                                                rd (Sh.int IntKind.u8) out
                                                                  (0 + (IntKind.i64.wrap (a + 5)).toNat),
                                                              b6 ^^^
                                                                rd (Sh.int IntKind.u8) out
                                                                  (0 + (IntKind.i64.wrap (a + 6)).toNat),
                                                              b7 ^^^
                                                                rd (Sh.int IntKind.u8) out
                                                                  (0 + (IntKind.i64.wrap (a + 7)).toNat),
                                                              b8 ^^^
                                                                rd (Sh.int IntKind.u8) out
                                                                  (0 + (IntKind.i64.wrap (a + 8)).toNat),
                                                              b9 ^^^
                                                                rd (Sh.int IntKind.u8) out
                                                                  (0 + (IntKind.i64.wrap (a + 9)).toNat),
                                                              b10 ^^^
                                                                rd (Sh.int IntKind.u8) out
                                                                  (0 + (IntKind.i64.wrap (a + 10)).toNat),
                                                              b11 ^^^
                                                                rd (Sh.int IntKind.u8) out
                                                                  (0 + (IntKind.i64.wrap (a + 11)).toNat),
                                                              b12 ^^^
                                                                rd (Sh.int IntKind.u8) out
                                                                  (0 + (IntKind.i64.wrap (a + 12)).toNat),
                                                              b13 ^^^
                                                                rd (Sh.int IntKind.u8) out
                                                                  (0 + (IntKind.i64.wrap (a + 13)).toNat),
                                                              b14 ^^^
                                                                rd (Sh.int IntKind.u8) out
                                                                  (0 + (IntKind.i64.wrap (a + 14)).toNat),
                                                              b15 ^^^
                                                                rd (Sh.int IntKind.u8) out
                                                                  (0 + (IntKind.i64.wrap (a + 15)).toNat)]))))).length) ∧
                                            Kn
                                              (k,
                                                encW k.1 k.2.1
                                                  [b0 ^^^
                                                      rd (Sh.int IntKind.u8) out (0 + (IntKind.i64.wrap (a + 0)).toNat),
                                                    b1 ^^^
                                                      rd (Sh.int IntKind.u8) out (0 + (IntKind.i64.wrap (a + 1)).toNat),
                                                    b2 ^^^
                                                      rd (Sh.int IntKind.u8) out (0 + (IntKind.i64.wrap (a + 2)).toNat),
                                                    b3 ^^^
                                                      rd (Sh.int IntKind.u8) out (0 + (IntKind.i64.wrap (a + 3)).toNat),
                                                    b4 ^^^
                                                      rd (Sh.int IntKind.u8) out (0 + (IntKind.i64.wrap (a + 4)).toNat),
                                                    b5 ^^^
                                                      rd (Sh.int IntKind.u8) out (0 + (IntKind.i64.wrap (a + 5)).toNat),
                                                    b6 ^^^
                                                      rd (Sh.int IntKind.u8) out (0 + (IntKind.i64.wrap (a + 6)).toNat),
                                                    b7 ^^^
                                                      rd (Sh.int IntKind.u8) out (0 + (IntKind.i64.wrap (a + 7)).toNat),
                                                    b8 ^^^
                                                      rd (Sh.int IntKind.u8) out (0 + (IntKind.i64.wrap (a + 8)).toNat),
                                                    b9 ^^^
                                                      rd (Sh.int IntKind.u8) out (0 + (IntKind.i64.wrap (a + 9)).toNat),
                                                    b10 ^^^
                                                      rd (Sh.int IntKind.u8) out (0 + (IntKind.i64.wrap (a + 10)).toNat),
                                                    b11 ^^^
                                                      rd (Sh.int IntKind.u8) out (0 + (IntKind.i64.wrap (a + 11)).toNat),
                                                    b12 ^^^
                                                      rd (Sh.int IntKind.u8) out (0 + (IntKind.i64.wrap (a + 12)).toNat),
                                                    b13 ^^^
                                                      rd (Sh.int IntKind.u8) out (0 + (IntKind.i64.wrap (a + 13)).toNat),
                                                    b14 ^^^
                                                      rd (Sh.int IntKind.u8) out (0 + (IntKind.i64.wrap (a + 14)).toNat),
                                                    b15 ^^^
                                                      rd (Sh.int IntKind.u8) out (0 + (IntKind.i64.wrap (a + 15)).toNat)],
                                                over out (0 + a.toNat)
                                                  (List.take (out.length - a.toNat)
                                                    (List.take 16
                                                      (List.drop 0
                                                        (encW k.1 k.2.1
                                                          [b0 ^^^
                                                              rd (Sh.int IntKind.u8) out
                                                                (0 + (IntKind.i64.wrap (a + 0)).toNat),
                                                            b1 ^^^
                                                              rd (Sh.int IntKind.u8) out
                                                                (0 + (IntKind.i64.wrap (a + 1)).toNat),
                                                            b2 ^^^
                                                              rd (Sh.int IntKind.u8) out
                                                                (0 + (IntKind.i64.wrap (a + 2)).toNat),
                                                            b3 ^^^
                                                              rd (Sh.int IntKind.u8) out
                                                                (0 + (IntKind.i64.wrap (a + 3)).toNat),
                                                            b4 ^^^
                                                              rd (Sh.int IntKind.u8) out
                                                                (0 + (IntKind.i64.wrap (a + 4)).toNat),
                                                            b5 ^^^
                                                              rd (Sh.int IntKind.u8) out
                                                                (0 + (IntKind.i64.wrap (a + 5)).toNat),
                                                            b6 ^^^
                                                              rd (Sh.int IntKind.u8) out
                                                                (0 + (IntKind.i64.wrap (a + 6)).toNat),
                                                            b7 ^^^
                                                              rd (Sh.int IntKind.u8) out
                                                                (0 + (IntKind.i64.wrap (a + 7)).toNat),
                                                            b8 ^^^
                                                              rd (Sh.int IntKind.u8) out
                                                                (0 + (IntKind.i64.wrap (a + 8)).toNat),
                                                            b9 ^^^
                                                              rd (Sh.int IntKind.u8) out
                                                                (0 + (IntKind.i64.wrap (a + 9)).toNat),
                                                            b10 ^^^
                                                              rd (Sh.int IntKind.u8) out
                                                                (0 + (IntKind.i64.wrap (a + 10)).toNat),
                                                            b11 ^^^
                                                              rd (Sh.int IntKind.u8) out
                                                                (0 + (IntKind.i64.wrap (a + 11)).toNat),
                                                            b12 ^^^
                                                              rd (Sh.int IntKind.u8) out
                                                                (0 + (IntKind.i64.wrap (a + 12)).toNat),
                                                            b13 ^^^
                                                              rd (Sh.int IntKind.u8) out
                                                                (0 + (IntKind.i64.wrap (a + 13)).toNat),
                                                            b14 ^^^
                                                              rd (Sh.int IntKind.u8) out
                                                                (0 + (IntKind.i64.wrap (a + 14)).toNat),
                                                            b15 ^^^
                                                              rd (Sh.int IntKind.u8) out
                                                                (0 + (IntKind.i64.wrap (a + 15)).toNat)])))),
                                                IntKind.i64.wrap (a + 16), PUnit.unit)))))))))))))))))))))
    ((0 = 0 ∧ out.length = out.length) ∧ Kx.1 (out, PUnit.unit))) := by kernel_rfl
theorem fwSeal (k : Sh.T (keyS)) (iv : Sh.T (b16S)) (p : Sh.T (.sl u8S)) (P : SV → Prop) : FW A13 Try.f28.ntmps (LTab.look Lsl) Try.f28 (argsOf [keyS, b16S, .sl u8S] (k, iv, p, ())) P =
 (  dmd
    (decide (0 ≤ IntKind.i64.wrap ((((List.length p) : Nat) : Int) + IntKind.i64.wrap (16 - ((((List.length p) : Nat) : Int)).tmod 16))) &&
      (decide
          (IntKind.i64.wrap ((((List.length p) : Nat) : Int) + IntKind.i64.wrap (16 - ((((List.length p) : Nat) : Int)).tmod 16)) * 1 ≤
            140737488355328) &&
        decide
          (IntKind.i64.wrap ((((List.length p) : Nat) : Int) + IntKind.i64.wrap (16 - ((((List.length p) : Nat) : Int)).tmod 16)) <
            9223372036854775808)))
    (dmd
      ((0 + List.length p).ble
        (IntKind.i64.wrap ((((List.length p) : Nat) : Int) + IntKind.i64.wrap (16 - ((((List.length p) : Nat) : Int)).tmod 16))).toNat)
      ((0 = 0 ∧
          (IntKind.i64.wrap ((((List.length p) : Nat) : Int) + IntKind.i64.wrap (16 - ((((List.length p) : Nat) : Int)).tmod 16))).toNat =
            (over
                (List.replicate
                  (IntKind.i64.wrap ((((List.length p) : Nat) : Int) + IntKind.i64.wrap (16 - ((((List.length p) : Nat) : Int)).tmod 16))).toNat 0#8)
                0 p).length) ∧
        Qs5
          (k, iv, IntKind.i64.wrap (16 - ((((List.length p) : Nat) : Int)).tmod 16),
            (over
                (List.replicate
                  (IntKind.i64.wrap ((((List.length p) : Nat) : Int) + IntKind.i64.wrap (16 - ((((List.length p) : Nat) : Int)).tmod 16))).toNat 0#8)
                0 p,
              0 + List.length p),
            IntKind.i64.wrap (16 - ((((List.length p) : Nat) : Int)).tmod 16), 0, PUnit.unit)
          (fun _ => False)
          (fun y =>
            (0 = 0 ∧ y.2.2.1.2 = y.2.2.1.1.length) ∧
              Qs9 (y.1, y.2.1, y.2.2.1.1, 0, PUnit.unit) (fun _ => False)
                (fun y => P (SV.av (AV.val (Sh.int IntKind.u8).sl (List.take (List.length y.1) (List.drop 0 y.1)))),
                  PUnit.unit),
            PUnit.unit)))) := by kernel_rfl
theorem roundo5 (k : Sh.T keyS) (b0 b1 b2 b3 b4 b5 b6 b7 b8 b9 b10 b11 b12 b13 b14 b15 : BitVec 8) (c out : List (BitVec 8)) (a : Int) (Kn : HI Io5 → Prop) (Kr : HI [] → Prop) (Kx : HP oo5) : roundT (W A13 Try.f29.ntmps (LTab.look Lop) (bodyAt bop 5)) Io5 [] oo5 (k, [b0, b1, b2, b3, b4, b5, b6, b7, b8, b9, b10, b11, b12, b13, b14, b15], c, out, a, ()) Kn Kr Kx =
 (  ifB (decide (a < ((c.length : Nat) : Int)))
    (dmd (decide (0 ≤ a))
      (dmd (a.toNat.ble c.length && c.length.ble c.length)
        (dmd (decide (1 ≤ k.2.1) && decide (k.2.1 < 15))
          (dmd (decide (0 ≤ IntKind.i64.wrap (a + 0)) && decide (IntKind.i64.wrap (a + 0) < ((out.length : Nat) : Int)))
            (dmd (decide (0 ≤ IntKind.i64.wrap (a + 1)) && decide (IntKind.i64.wrap (a + 1) < ((out.length : Nat) : Int)))
              (dmd (decide (0 ≤ IntKind.i64.wrap (a + 2)) && decide (IntKind.i64.wrap (a + 2) < ((out.length : Nat) : Int)))
                (dmd (decide (0 ≤ IntKind.i64.wrap (a + 3)) && decide (IntKind.i64.wrap (a + 3) < ((out.length : Nat) : Int)))
                  (dmd (decide (0 ≤ IntKind.i64.wrap (a + 4)) && decide (IntKind.i64.wrap (a + 4) < ((out.length : Nat) : Int)))
                    (dmd (decide (0 ≤ IntKind.i64.wrap (a + 5)) && decide (IntKind.i64.wrap (a + 5) < ((out.length : Nat) : Int)))
                      (dmd (decide (0 ≤ IntKind.i64.wrap (a + 6)) && decide (IntKind.i64.wrap (a + 6) < ((out.length : Nat) : Int)))
                        (dmd (decide (0 ≤ IntKind.i64.wrap (a + 7)) && decide (IntKind.i64.wrap (a + 7) < ((out.length : Nat) : Int)))
                          (dmd (decide (0 ≤ IntKind.i64.wrap (a + 8)) && decide (IntKind.i64.wrap (a + 8) < ((out.length : Nat) : Int)))
                            (dmd
                              (decide (0 ≤ IntKind.i64.wrap (a + 9)) && decide (IntKind.i64.wrap (a + 9) < ((out.length : Nat) : Int)))
                              (dmd
                                (decide (0 ≤ IntKind.i64.wrap (a + 10)) &&
                                  decide (IntKind.i64.wrap (a + 10) < ((out.length : Nat) : Int)))
                                (dmd
                                  (decide (0 ≤ IntKind.i64.wrap (a + 11)) &&
                                    decide (IntKind.i64.wrap (a + 11) < ((out.length : Nat) : Int)))
                                  (dmd
                                    (decide (0 ≤ IntKind.i64.wrap (a + 12)) &&
                                      decide (IntKind.i64.wrap (a + 12) < ((out.length : Nat) : Int)))
                                    (dmd
                                      (decide (0 ≤ IntKind.i64.wrap (a + 13)) &&
                                        decide (IntKind.i64.wrap (a + 13) < ((out.length : Nat) : Int)))
                                      (dmd
                                        (decide (0 ≤ IntKind.i64.wrap (a + 14)) &&
                                          decide (IntKind.i64.wrap (a + 14) < ((out.length : Nat) : Int)))
                                        (dmd
                                          (decide (0 ≤ IntKind.i64.wrap (a + 15)) &&
                                            decide (IntKind.i64.wrap (a + 15) < ((out.length : Nat) : Int)))
                                          ((0 = 0 ∧
                                              out.length =
                                                ((((((((((((((((out.set (0 + (IntKind.i64.wrap (a + 0)).toNat)
                                                                                                                (rd
                                                                                                                    (Sh.int
                                                                                                                      IntKind.u8)
                                                                                                                    (decW
                                                                                                                      k.1
                                                                                                                      k.2.1
                                                                                                                      (over
                                                                                                                        (List.replicate
                                                                                                                          16
                                                                                                                          0#8)
                                                                                                                        0
                                                                                                                        (List.take
                                                                                                                          16
                                                                                                                          (List.drop
                                                                                                                            a.toNat
                                                                                                                            (List.take
                                                                                                                              c.length
                                                                                                                              c)))))
                                                                                                                    0 ^^^
                                                                                                                  b0)).set
                                                                                                            (0 +
                                                                                                              (IntKind.i64.wrap
                                                                                                                  (a +
                                                                                                                    1)).toNat)
                                                                                                            (rd
                                                                                                                (Sh.int
                                                                                                                  IntKind.u8)
                                                                                                                (decW k.1
                                                                                                                  k.2.1
                                                                                                                  (over
                                                                                                                    (List.replicate
                                                                                                                      16
                                                                                                                      0#8)
                                                                                                                    0
                                                                                                                    (List.take
                                                                                                                      16
                                                                                                                      (List.drop
                                                                                                                        a.toNat
                                                                                                                        (List.take
                                                                                                                          c.length
                                                                                                                          c)))))
                                                                                                                1 ^^^
                                                                                                              b1)).set
                                                                                                        (0 +
                                                                                                          (IntKind.i64.wrap
                                                                                                              (a +
                                                                                                                2)).toNat)
                                                                                                        (rd
                                                                                                            (Sh.int
                                                                                                              IntKind.u8)
                                                                                                            (decW k.1
                                                                                                              k.2.1
                                                                                                              (over
                                                                                                                (List.replicate
                                                                                                                  16 0#8)
                                                                                                                0
                                                                                                                (List.take
                                                                                                                  16
                                                                                                                  (List.drop
                                                                                                                    a.toNat
                                                                                                                    (List.take
                                                                                                                      c.length
                                                                                                                      c)))))
                                                                                                            2 ^^^
                                                                                                          b2)).set
                                                                                                    (0 +
                                                                                                      (IntKind.i64.wrap
                                                                                                          (a + 3)).toNat)
                                                                                                    (rd
                                                                                                        (Sh.int
                                                                                                          IntKind.u8)
                                                                                                        (decW k.1 k.2.1
                                                                                                          (over
                                                                                                            (List.replicate
                                                                                                              16 0#8)
                                                                                                            0
                                                                                                            (List.take 16
                                                                                                              (List.drop
                                                                                                                a.toNat
                                                                                                                (List.take
                                                                                                                  c.length
                                                                                                                  c)))))
                                                                                                        3 ^^^
                                                                                                      b3)).set
                                                                                                (0 +
                                                                                                  (IntKind.i64.wrap
                                                                                                      (a + 4)).toNat)
                                                                                                (rd (Sh.int IntKind.u8)
                                                                                                    (decW k.1 k.2.1
                                                                                                      (over
                                                                                                        (List.replicate 16
                                                                                                          0#8)
                                                                                                        0
                                                                                                        (List.take 16
                                                                                                          (List.drop
                                                                                                            a.toNat
                                                                                                            (List.take
                                                                                                              c.length
                                                                                                              c)))))
                                                                                                    4 ^^^
                                                                                                  b4)).set
                                                                                            (0 +
                                                                                              (IntKind.i64.wrap
                                                                                                  (a + 5)).toNat)
                                                                                            (rd (Sh.int IntKind.u8)
                                                                                                (decW k.1 k.2.1
                                                                                                  (over
                                                                                                    (List.replicate 16
                                                                                                      0#8)
                                                                                                    0
                                                                                                    (List.take 16
                                                                                                      (List.drop a.toNat
                                                                                                        (List.take
                                                                                                          c.length c)))))
                                                                                                5 ^^^
                                                                                              b5)).set
                                                                                        (0 +
                                                                                          (IntKind.i64.wrap
                                                                                              (a + 6)).toNat)
                                                                                        (rd (Sh.int IntKind.u8)
                                                                                            (decW k.1 k.2.1
                                                                                              (over
                                                                                                (List.replicate 16 0#8) 0
                                                                                                (List.take 16
                                                                                                  (List.drop a.toNat
                                                                                                    (List.take c.length
                                                                                                      c)))))
                                                                                            6 ^^^
                                                                                          b6)).set
                                                                                    (0 + (IntKind.i64.wrap (a + 7)).toNat)
                                                                                    (rd (Sh.int IntKind.u8)
                                                                                        (decW k.1 k.2.1
                                                                                          (over (List.replicate 16 0#8) 0
                                                                                            (List.take 16
                                                                                              (List.drop a.toNat
                                                                                                (List.take c.length c)))))
                                                                                        7 ^^^
                                                                                      b7)).set
                                                                                (0 + (IntKind.i64.wrap (a + 8)).toNat)
                                                                                (rd (Sh.int IntKind.u8)
                                                                                    (decW k.1 k.2.1
                                                                                      (over (List.replicate 16 0#8) 0
                                                                                        (List.take 16
                                                                                          (List.drop a.toNat
                                                                                            (List.take c.length c)))))
                                                                                    8 ^^^
                                                                                  b8)).set
                                                                            (0 + (IntKind.i64.wrap (a + 9)).toNat)
                                                                            (rd (Sh.int IntKind.u8)
                                                                                (decW k.1 k.2.1
                                                                                  (over (List.replicate 16 0#8) 0
                                                                                    (List.take 16
                                                                                      (List.drop a.toNat
                                                                                        (List.take c.length c)))))
                                                                                9 ^^^
                                                                              b9)).set
                                                                        (0 + (IntKind.i64.wrap (a + 10)).toNat)
                                                                        (rd (Sh.int IntKind.u8)
                                                                            (decW k.1 k.2.1
                                                                              (over (List.replicate 16 0#8) 0
                                                                                (List.take 16
                                                                                  (List.drop a.toNat
                                                                                    (List.take c.length c)))))
                                                                            10 ^^^
                                                                          b10)).set
                                                                    (0 + (IntKind.i64.wrap (a + 11)).toNat)
                                                                    (rd (Sh.int IntKind.u8)
                                                                        (decW k.1 k.2.1
                                                                          (over (List.replicate 16 0#8) 0
                                                                            (List.take 16
                                                                              (List.drop a.toNat
                                                                                (List.take c.length c)))))
                                                                        11 ^^^
                                                                      b11)).set
                                                                (0 + (IntKind.i64.wrap (a + 12)).toNat)
                                                                (rd (Sh.int IntKind.u8)
                                                                    (decW k.1 k.2.1
                                                                      (over (List.replicate 16 0#8) 0
                                                                        (List.take 16
                                                                          (List.drop a.toNat (List.take c.length c)))))
                                                                    12 ^^^
                                                                  b12)).set
                                                            (0 + (IntKind.i64.wrap (a + 13)).toNat)
                                                            (rd (Sh.int IntKind.u8)
                                                                (decW k.1 k.2.1
                                                                  (over (List.replicate 16 0#8) 0
                                                                    (List.take 16
                                                                      (List.drop a.toNat (List.take c.length c)))))
                                                                13 ^^^
                                                              b13)).set
                                                        (0 + (IntKind.i64.wrap (a + 14)).toNat)
                                                        (rd (Sh.int IntKind.u8)
                                                            (decW k.1 k.2.1
                                                              (over (List.replicate 16 0#8) 0
                                                                (List.take 16
                                                                  (List.drop a.toNat (List.take c.length c)))))
                                                            14 ^^^
                                                          b14)).set
                                                    (0 + (IntKind.i64.wrap (a + 15)).toNat)
                                                    (rd (Sh.int IntKind.u8)
                                                        (decW k.1 k.2.1
                                                          (over (List.replicate 16 0#8) 0
                                                            (List.take 16 (List.drop a.toNat (List.take c.length c)))))
                                                        15 ^^^
                                                      b15)).length) ∧
                                            Kn
                                              (k,
                                                over (List.replicate 16 0#8) 0
                                                  (List.take 16 (List.drop a.toNat (List.take c.length c))),
                                                c,
                                                (((((((((((((((out.set (0 + (IntKind.i64.wrap (a + 0)).toNat)
                                                                                                              (rd
                                                                                                                  (Sh.int
                                                                                                                    IntKind.u8)
                                                                                                                  (decW
                                                                                                                    k.1
                                                                                                                    k.2.1
                                                                                                                    (over
                                                                                                                      (List.replicate
                                                                                                                        16
                                                                                                                        0#8)
                                                                                                                      0
                                                                                                                      (List.take
                                                                                                                        16
                                                                                                                        (List.drop
                                                                                                                          a.toNat
                                                                                                                          (List.take
                                                                                                                            c.length
                                                                                                                            c)))))
                                                                                                                  0 ^^^
                                                                                                                b0)).set
                                                                                                          (0 +
                                                                                                            (IntKind.i64.wrap
                                                                                                                (a +
                                                                                                                  1)).toNat)
                                                                                                          (rd
                                                                                                              (Sh.int
                                                                                                                IntKind.u8)
                                                                                                              (decW k.1
                                                                                                                k.2.1
                                                                                                                (over
                                                                                                                  (List.replicate
                                                                                                                    16
                                                                                                                    0#8)
                                                                                                                  0
                                                                                                                  (List.take
                                                                                                                    16
                                                                                                                    (List.drop
                                                                                                                      a.toNat
                                                                                                                      (List.take
                                                                                                                        c.length
                                                                                                                        c)))))
                                                                                                              1 ^^^
                                                                                                            b1)).set
                                                                                                      (0 +
                                                                                                        (IntKind.i64.wrap
                                                                                                            (a +
                                                                                                              2)).toNat)
                                                                                                      (rd
                                                                                                          (Sh.int
                                                                                                            IntKind.u8)
                                                                                                          (decW k.1 k.2.1
                                                                                                            (over
                                                                                                              (List.replicate
                                                                                                                16 0#8)
                                                                                                              0
                                                                                                              (List.take
                                                                                                                16
                                                                                                                (List.drop
                                                                                                                  a.toNat
                                                                                                                  (List.take
                                                                                                                    c.length
                                                                                                                    c)))))
                                                                                                          2 ^^^
                                                                                                        b2)).set
                                                                                                  (0 +
                                                                                                    (IntKind.i64.wrap
                                                                                                        (a + 3)).toNat)
                                                                                                  (rd (Sh.int IntKind.u8)
                                                                                                      (decW k.1 k.2.1
                                                                                                        (over
                                                                                                          (List.replicate
                                                                                                            16 0#8)
                                                                                                          0
                                                                                                          (List.take 16
                                                                                                            (List.drop
                                                                                                              a.toNat
                                                                                                              (List.take
                                                                                                                c.length
                                                                                                                c)))))
                                                                                                      3 ^^^
                                                                                                    b3)).set
                                                                                              (0 +
                                                                                                (IntKind.i64.wrap
                                                                                                    (a + 4)).toNat)
                                                                                              (rd (Sh.int IntKind.u8)
                                                                                                  (decW k.1 k.2.1
                                                                                                    (over
                                                                                                      (List.replicate 16
                                                                                                        0#8)
                                                                                                      0
                                                                                                      (List.take 16
                                                                                                        (List.drop a.toNat
                                                                                                          (List.take
                                                                                                            c.length
                                                                                                            c)))))
                                                                                                  4 ^^^
                                                                                                b4)).set
                                                                                          (0 +
                                                                                            (IntKind.i64.wrap
                                                                                                (a + 5)).toNat)
                                                                                          (rd (Sh.int IntKind.u8)
                                                                                              (decW k.1 k.2.1
                                                                                                (over
                                                                                                  (List.replicate 16 0#8)
                                                                                                  0
                                                                                                  (List.take 16
                                                                                                    (List.drop a.toNat
                                                                                                      (List.take c.length
                                                                                                        c)))))
                                                                                              5 ^^^
                                                                                            b5)).set
                                                                                      (0 +
                                                                                        (IntKind.i64.wrap (a + 6)).toNat)
                                                                                      (rd (Sh.int IntKind.u8)
                                                                                          (decW k.1 k.2.1
                                                                                            (over (List.replicate 16 0#8)
                                                                                              0
                                                                                              (List.take 16
                                                                                                (List.drop a.toNat
                                                                                                  (List.take c.length
                                                                                                    c)))))
                                                                                          6 ^^^
                                                                                        b6)).set
                                                                                  (0 + (IntKind.i64.wrap (a + 7)).toNat)
                                                                                  (rd (Sh.int IntKind.u8)
                                                                                      (decW k.1 k.2.1
                                                                                        (over (List.replicate 16 0#8) 0
                                                                                          (List.take 16
                                                                                            (List.drop a.toNat
                                                                                              (List.take c.length c)))))
                                                                                      7 ^^^
                                                                                    b7)).set
                                                                              (0 + (IntKind.i64.wrap (a + 8)).toNat)
                                                                              (rd (Sh.int IntKind.u8)
                                                                                  (decW k.1 k.2.1
                                                                                    (over (List.replicate 16 0#8) 0
                                                                                      (List.take 16
                                                                                        (List.drop a.toNat
                                                                                          (List.take c.length c)))))
                                                                                  8 ^^^
                                                                                b8)).set
                                                                          (0 + (IntKind.i64.wrap (a + 9)).toNat)
                                                                          (rd (Sh.int IntKind.u8)
                                                                              (decW k.1 k.2.1
                                                                                (over (List.replicate 16 0#8) 0
                                                                                  (List.take 16
                                                                                    (List.drop a.toNat
                                                                                      (List.take c.length c)))))
                                                                              9 ^^^
                                                                            b9)).set
                                                                      (0 + (IntKind.i64.wrap (a + 10)).toNat)
                                                                      (rd (Sh.int IntKind.u8)
                                                                          (decW k.1 k.2.1
                                                                            (over (List.replicate 16 0#8) 0
                                                                              (List.take 16
                                                                                (List.drop a.toNat
                                                                                  (List.take c.length c)))))
                                                                          10 ^^^
                                                                        b10)).set
                                                                  (0 + (IntKind.i64.wrap (a + 11)).toNat)
                                                                  (rd (Sh.int IntKind.u8)
                                                                      (decW k.1 k.2.1
                                                                        (over (List.replicate 16 0#8) 0
                                                                          (List.take 16
                                                                            (List.drop a.toNat (List.take c.length c)))))
                                                                      11 ^^^
                                                                    b11)).set
                                                              (0 + (IntKind.i64.wrap (a + 12)).toNat)
                                                              (rd (Sh.int IntKind.u8)
                                                                  (decW k.1 k.2.1
                                                                    (over (List.replicate 16 0#8) 0
                                                                      (List.take 16
                                                                        (List.drop a.toNat (List.take c.length c)))))
                                                                  12 ^^^
                                                                b12)).set
                                                          (0 + (IntKind.i64.wrap (a + 13)).toNat)
                                                          (rd (Sh.int IntKind.u8)
                                                              (decW k.1 k.2.1
                                                                (over (List.replicate 16 0#8) 0
                                                                  (List.take 16
                                                                    (List.drop a.toNat (List.take c.length c)))))
                                                              13 ^^^
                                                            b13)).set
                                                      (0 + (IntKind.i64.wrap (a + 14)).toNat)
                                                      (rd (Sh.int IntKind.u8)
                                                          (decW k.1 k.2.1
                                                            (over (List.replicate 16 0#8) 0
                                                              (List.take 16 (List.drop a.toNat (List.take c.length c)))))
                                                          14 ^^^
                                                        b14)).set
                                                  (0 + (IntKind.i64.wrap (a + 15)).toNat)
                                                  (rd (Sh.int IntKind.u8)
                                                      (decW k.1 k.2.1
                                                        (over (List.replicate 16 0#8) 0
                                                          (List.take 16 (List.drop a.toNat (List.take c.length c)))))
                                                      15 ^^^
                                                    b15),
                                                IntKind.i64.wrap (a + 16), PUnit.unit)))))))))))))))))))))
    ((0 = 0 ∧ out.length = out.length) ∧ Kx.1 (out, PUnit.unit))) := by kernel_rfl
theorem roundo20 (out x : List (BitVec 8)) (n m i : Int) (Kn : HI Io20 → Prop) (Kr : HI lo20 → Prop) (Kx : HP oo20) : roundT (W A13 Try.f29.ntmps (LTab.look Lop) (bodyAt bop 20)) Io20 lo20 oo20 (out, x, n, m, i, ()) Kn Kr Kx =
 (  ifB (decide (i < m))
    (dmd (decide (0 ≤ i) && decide (i < ((x.length : Nat) : Int)))
      (ifB (!decide ((((BitVec.toNat (rd (Sh.int IntKind.u8) x i.toNat)) : Nat) : Int) = n)) (Kr ([], 4, PUnit.unit))
        (Kn (out, x, n, m, IntKind.i64.wrap (i + 1), PUnit.unit))))
    (Kx.1 (out, n, PUnit.unit))) := by kernel_rfl
theorem fwOpen (k : Sh.T (keyS)) (iv : Sh.T (b16S)) (c : Sh.T (.sl u8S)) (P : SV → Prop) : FW A13 Try.f29.ntmps (LTab.look Lop) Try.f29 (argsOf [keyS, b16S, .sl u8S] (k, iv, c, ())) P =
 (  ifB (decide ((((List.length c) : Nat) : Int) = 0)) (P (SV.tup [AV.cell Cel.nilS, AV.val (Sh.int IntKind.i64) 1]))
    (ifB (!decide (((((List.length c) : Nat) : Int)).tmod 16 = 0)) (P (SV.tup [AV.cell Cel.nilS, AV.val (Sh.int IntKind.i64) 1]))
      (dmd
        (decide (0 ≤ (((List.length c) : Nat) : Int)) &&
          (decide ((((List.length c) : Nat) : Int) ≤ (((List.length c) : Nat) : Int)) &&
            (decide ((((List.length c) : Nat) : Int) * 1 ≤ 140737488355328) && decide ((((List.length c) : Nat) : Int) < 9223372036854775808))))
        ((0 = 0 ∧ ((((List.length c) : Nat) : Int)).toNat = (List.replicate ((((List.length c) : Nat) : Int)).toNat 0#8).length) ∧
          Qo5 (k, iv, c, List.replicate ((((List.length c) : Nat) : Int)).toNat 0#8, 0, PUnit.unit) (fun _ => False)
            (fun y =>
              dmd
                (decide (0 ≤ IntKind.i64.wrap ((((List.length y.1) : Nat) : Int) - 1)) &&
                  decide (IntKind.i64.wrap ((((List.length y.1) : Nat) : Int) - 1) < (((List.length y.1) : Nat) : Int)))
                (ifB
                  (decide
                    ((((BitVec.toNat
                          (rd (Sh.int IntKind.u8) y.1 (0 + (IntKind.i64.wrap ((((List.length y.1) : Nat) : Int) - 1)).toNat))) : Nat) : Int) <
                      1))
                  (P (SV.tup [AV.cell Cel.nilS, AV.val (Sh.int IntKind.i64) 4]))
                  (ifB
                    (decide
                      (16 <
                        (((BitVec.toNat
                            (rd (Sh.int IntKind.u8) y.1 (0 + (IntKind.i64.wrap ((((List.length y.1) : Nat) : Int) - 1)).toNat))) : Nat) : Int)))
                    (P (SV.tup [AV.cell Cel.nilS, AV.val (Sh.int IntKind.i64) 4]))
                    (dmd
                      (decide
                        (0 ≤
                          IntKind.i64.wrap
                            ((((List.length y.1) : Nat) : Int) -
                              (((BitVec.toNat
                                  (rd (Sh.int IntKind.u8) y.1 (0 + (IntKind.i64.wrap ((((List.length y.1) : Nat) : Int) - 1)).toNat))) : Nat) : Int))))
                      (dmd
                        ((IntKind.i64.wrap
                                  ((((List.length y.1) : Nat) : Int) -
                                    (((BitVec.toNat
                                        (rd (Sh.int IntKind.u8) y.1
                                          (0 + (IntKind.i64.wrap ((((List.length y.1) : Nat) : Int) - 1)).toNat))) : Nat) : Int))).toNat.ble
                            (List.length y.1) &&
                          (List.length y.1).ble (List.length y.1))
                        (Qo20
                          (List.take (List.length y.1) (List.drop 0 y.1),
                            List.take
                              (List.length y.1 -
                                (IntKind.i64.wrap
                                    ((((List.length y.1) : Nat) : Int) -
                                      (((BitVec.toNat
                                          (rd (Sh.int IntKind.u8) y.1
                                            (0 + (IntKind.i64.wrap ((((List.length y.1) : Nat) : Int) - 1)).toNat))) : Nat) : Int))).toNat)
                              (List.drop
                                (0 +
                                  (IntKind.i64.wrap
                                      ((((List.length y.1) : Nat) : Int) -
                                        (((BitVec.toNat
                                            (rd (Sh.int IntKind.u8) y.1
                                              (0 + (IntKind.i64.wrap ((((List.length y.1) : Nat) : Int) - 1)).toNat))) : Nat) : Int))).toNat)
                                y.1),
                            (((BitVec.toNat
                                (rd (Sh.int IntKind.u8) y.1 (0 + (IntKind.i64.wrap ((((List.length y.1) : Nat) : Int) - 1)).toNat))) : Nat) : Int),
                            (((List.length y.1 -
                                (IntKind.i64.wrap
                                    ((((List.length y.1) : Nat) : Int) -
                                      (((BitVec.toNat
                                          (rd (Sh.int IntKind.u8) y.1
                                            (0 + (IntKind.i64.wrap ((((List.length y.1) : Nat) : Int) - 1)).toNat))) : Nat) : Int))).toNat) : Nat) : Int),
                            0, PUnit.unit)
                          (fun y => P (SV.tup [AV.val (Sh.int IntKind.u8).sl y.1, AV.val (Sh.int IntKind.i64) y.2.1]))
                          (fun y =>
                            dmd (decide (0 ≤ IntKind.i64.wrap ((((List.length y.1) : Nat) : Int) - y.2.1)))
                              (dmd (decide (0 ≤ IntKind.i64.wrap ((((List.length y.1) : Nat) : Int) - y.2.1)))
                                (dmd
                                  (Nat.ble 0 (IntKind.i64.wrap ((((List.length y.1) : Nat) : Int) - y.2.1)).toNat &&
                                    ((IntKind.i64.wrap ((((List.length y.1) : Nat) : Int) - y.2.1)).toNat.ble
                                        (IntKind.i64.wrap ((((List.length y.1) : Nat) : Int) - y.2.1)).toNat &&
                                      ((IntKind.i64.wrap ((((List.length y.1) : Nat) : Int) - y.2.1)).toNat.ble (List.length y.1) &&
                                        (Nat.blt 0 (List.length y.1) &&
                                          (IntKind.i64.wrap ((((List.length y.1) : Nat) : Int) - y.2.1)).toNat.blt
                                            (2 ^ 64)))))
                                  (P
                                    (SV.tup
                                      [AV.val (Sh.int IntKind.u8).sl
                                          (List.drop 0
                                            (List.take (IntKind.i64.wrap ((((List.length y.1) : Nat) : Int) - y.2.1)).toNat y.1)),
                                        AV.val (Sh.int IntKind.i64) 0])))),
                            PUnit.unit)))))),
              PUnit.unit))))) := by kernel_rfl
theorem over_mid (a b c d : List (BitVec 8)) (h : b.length = c.length) : over (a ++ (b ++ d)) a.length c = a ++ (c ++ d) := by
  unfold over
  rw [List.take_left, ← h, ← List.drop_drop, List.drop_left, List.drop_left, List.append_assoc]
theorem loopss5 : ∀ x Kr Kx, Qs5 x Kr Kx → ∃ n, untl (W A13 Try.f28.ntmps (LTab.look Lsl) (bodyAt bsl 5)) Is5 [] os5 n x Kr Kx := by
  rintro ⟨k, iv, n0, ⟨o0, l0⟩, m0, i0, v⟩ Kr Kx ⟨p, n, hn, hp, h1, h2, h3, h4, hK⟩
  have h1 : n0 = (n : Int) := h1
  have h2 : (o0, l0) = (p ++ List.replicate n 0#8, p.length) := h2
  have h3 : m0 = (n : Int) := h3
  have h4 : i0 = ((0 : Nat) : Int) := h4
  have hK : Kx.1 (k, iv, (p ++ List.replicate n (BitVec.ofNat 8 n), p.length + n), ()) := hK
  injection h2 with h2 h2'
  have key : ∀ (j i : Nat), i + j = n →
      untl (W A13 Try.f28.ntmps (LTab.look Lsl) (bodyAt bsl 5)) Is5 [] os5 (j + 1) (k, iv, (n : Int), (p ++ (List.replicate i (BitVec.ofNat 8 n) ++ List.replicate j 0#8), p.length + i), (n : Int), (i : Int), ()) Kr Kx := by
    intro j
    induction j with
    | zero =>
      intro i hi
      have hi : i = n := by omega
      subst hi
      rw [untl_succ, rounds5]
      refine ifB_of (fun h => absurd (of_decide_eq_true h) (by omega)) (fun _ => ⟨⟨rfl, rfl⟩, ?_⟩)
      rw [List.replicate_zero, List.append_nil]; exact hK
    | succ j ih =>
      intro i hi
      rw [untl_succ, rounds5]
      have e1 : IntKind.i64.wrap ((i : Int) + 1) = ((i + 1 : Nat) : Int) := by rw [IntWalk.i64_in _ (by omega)]; omega
      have e2 : List.take 1 (List.drop 0 ((List.replicate 1 0#8).set 0 (BitVec.ofInt 8 ((n : Nat) : Int)))) = [BitVec.ofNat 8 n] := by
        rw [BitVec.ofInt_natCast]; rfl
      have e3 : over (p ++ (List.replicate i (BitVec.ofNat 8 n) ++ List.replicate (j + 1) 0#8)) (0 + (p.length + i)) [BitVec.ofNat 8 n] = p ++ (List.replicate (i + 1) (BitVec.ofNat 8 n) ++ List.replicate j 0#8) := by
        have := over_mid (p ++ List.replicate i (BitVec.ofNat 8 n)) [0#8] [BitVec.ofNat 8 n] (List.replicate j 0#8) rfl
        rw [List.length_append, List.length_replicate] at this
        rw [Nat.zero_add, List.replicate_succ, List.replicate_succ']
        simpa only [List.append_assoc, List.singleton_append, List.cons_append, List.nil_append] using this
      rw [e1, e2, e3]
      refine ifB_of (fun _ => dmd_of ?_ ⟨⟨rfl, ?_⟩, ?_⟩) (fun h => absurd (of_decide_eq_false h) (by omega))
      · simp only [List.length_append, List.length_replicate, List.length_singleton]
        exact Nat.ble_eq_true_of_le (by omega)
      · simp only [List.length_append, List.length_replicate]; omega
      · exact ih (i + 1) (by omega)
  have := key n 0 (by omega)
  rw [h1, h2, h2', h3, h4]
  exact ⟨_, this⟩
theorem hxr (at_ : Nat) (out : List (BitVec 8)) (b0 b1 b2 b3 b4 b5 b6 b7 b8 b9 b10 b11 b12 b13 b14 b15 : BitVec 8) : [b0 ^^^ rd (Sh.int IntKind.u8) out (at_ + 0), b1 ^^^ rd (Sh.int IntKind.u8) out (at_ + 1), b2 ^^^ rd (Sh.int IntKind.u8) out (at_ + 2), b3 ^^^ rd (Sh.int IntKind.u8) out (at_ + 3), b4 ^^^ rd (Sh.int IntKind.u8) out (at_ + 4), b5 ^^^ rd (Sh.int IntKind.u8) out (at_ + 5), b6 ^^^ rd (Sh.int IntKind.u8) out (at_ + 6), b7 ^^^ rd (Sh.int IntKind.u8) out (at_ + 7), b8 ^^^ rd (Sh.int IntKind.u8) out (at_ + 8), b9 ^^^ rd (Sh.int IntKind.u8) out (at_ + 9), b10 ^^^ rd (Sh.int IntKind.u8) out (at_ + 10), b11 ^^^ rd (Sh.int IntKind.u8) out (at_ + 11), b12 ^^^ rd (Sh.int IntKind.u8) out (at_ + 12), b13 ^^^ rd (Sh.int IntKind.u8) out (at_ + 13), b14 ^^^ rd (Sh.int IntKind.u8) out (at_ + 14), b15 ^^^ rd (Sh.int IntKind.u8) out (at_ + 15)] = xr [b0, b1, b2, b3, b4, b5, b6, b7, b8, b9, b10, b11, b12, b13, b14, b15] (blkA out at_) := by
  have : xr [b0, b1, b2, b3, b4, b5, b6, b7, b8, b9, b10, b11, b12, b13, b14, b15] (blkA out at_) = [b0 ^^^ rd u8S (blkA out at_) 0, b1 ^^^ rd u8S (blkA out at_) 1, b2 ^^^ rd u8S (blkA out at_) 2, b3 ^^^ rd u8S (blkA out at_) 3, b4 ^^^ rd u8S (blkA out at_) 4, b5 ^^^ rd u8S (blkA out at_) 5, b6 ^^^ rd u8S (blkA out at_) 6, b7 ^^^ rd u8S (blkA out at_) 7, b8 ^^^ rd u8S (blkA out at_) 8, b9 ^^^ rd u8S (blkA out at_) 9, b10 ^^^ rd u8S (blkA out at_) 10, b11 ^^^ rd u8S (blkA out at_) 11, b12 ^^^ rd u8S (blkA out at_) 12, b13 ^^^ rd u8S (blkA out at_) 13, b14 ^^^ rd u8S (blkA out at_) 14, b15 ^^^ rd u8S (blkA out at_) 15] := rfl
  rw [this, rd_blk at_ out (show 0 < 16 by decide), rd_blk at_ out (show 1 < 16 by decide), rd_blk at_ out (show 2 < 16 by decide), rd_blk at_ out (show 3 < 16 by decide), rd_blk at_ out (show 4 < 16 by decide), rd_blk at_ out (show 5 < 16 by decide), rd_blk at_ out (show 6 < 16 by decide), rd_blk at_ out (show 7 < 16 by decide), rd_blk at_ out (show 8 < 16 by decide), rd_blk at_ out (show 9 < 16 by decide), rd_blk at_ out (show 10 < 16 by decide), rd_blk at_ out (show 11 < 16 by decide), rd_blk at_ out (show 12 < 16 by decide), rd_blk at_ out (show 13 < 16 by decide), rd_blk at_ out (show 14 < 16 by decide), rd_blk at_ out (show 15 < 16 by decide)]
theorem over_len {out E : List (BitVec 8)} {a : Nat} (hE : E.length = 16) (h : a + 16 ≤ out.length) : (over out a E).length = out.length := by
  unfold over
  simp only [List.length_append, List.length_take, List.length_drop, hE]
  omega
theorem eW (a i : Nat) (h : a + i ≤ 140737488355328) : IntKind.i64.wrap (((a : Nat) : Int) + ((i : Nat) : Int)) = ((a + i : Nat) : Int) := by rw [IntWalk.i64_in _ (by omega)]; omega
set_option maxHeartbeats 1000000 in
theorem roundS (w : WW) (R : Int) {iv out : List (BitVec 8)} {at_ : Nat} (hi : iv.length = 16) (ha : at_ + 16 ≤ out.length) (ho : out.length ≤ 140737488355328) (hk : (decide ((1 : Int) ≤ R) && decide (R < (15 : Int))) = true) (Kn : HI Is9 → Prop) (Kr : HI [] → Prop) (Kx : HP os9)
    (h : Kn ((w, R, ()), encW w R (xr iv (blkA out at_)), over out at_ (encW w R (xr iv (blkA out at_))), ((at_ + 16 : Nat) : Int), ())) :
    roundT (W A13 Try.f28.ntmps (LTab.look Lsl) (bodyAt bsl 9)) Is9 [] os9 ((w, R, ()), iv, out, ((at_ : Nat) : Int), ()) Kn Kr Kx := by
  have hB : at_ + 16 ≤ 140737488355328 := Nat.le_trans ha ho
  have hlt : ((at_ : Nat) : Int) < ((out.length : Nat) : Int) := by omega
  have hle : at_ ≤ out.length := by omega
  have h16 : out.length - at_ ≥ 16 := by omega
  obtain ⟨b0, b1, b2, b3, b4, b5, b6, b7, b8, b9, b10, b11, b12, b13, b14, b15, hb⟩ := Go.Gfn.of16 hi
  subst hb
  have e0 : IntKind.i64.wrap (((at_ : Nat) : Int) + 0) = ((at_ + 0 : Nat) : Int) := eW at_ 0 (Nat.le_trans (Nat.add_le_add_left (show 0 ≤ 16 by decide) at_) hB)
  have e1 : IntKind.i64.wrap (((at_ : Nat) : Int) + 1) = ((at_ + 1 : Nat) : Int) := eW at_ 1 (Nat.le_trans (Nat.add_le_add_left (show 1 ≤ 16 by decide) at_) hB)
  have e2 : IntKind.i64.wrap (((at_ : Nat) : Int) + 2) = ((at_ + 2 : Nat) : Int) := eW at_ 2 (Nat.le_trans (Nat.add_le_add_left (show 2 ≤ 16 by decide) at_) hB)
  have e3 : IntKind.i64.wrap (((at_ : Nat) : Int) + 3) = ((at_ + 3 : Nat) : Int) := eW at_ 3 (Nat.le_trans (Nat.add_le_add_left (show 3 ≤ 16 by decide) at_) hB)
  have e4 : IntKind.i64.wrap (((at_ : Nat) : Int) + 4) = ((at_ + 4 : Nat) : Int) := eW at_ 4 (Nat.le_trans (Nat.add_le_add_left (show 4 ≤ 16 by decide) at_) hB)
  have e5 : IntKind.i64.wrap (((at_ : Nat) : Int) + 5) = ((at_ + 5 : Nat) : Int) := eW at_ 5 (Nat.le_trans (Nat.add_le_add_left (show 5 ≤ 16 by decide) at_) hB)
  have e6 : IntKind.i64.wrap (((at_ : Nat) : Int) + 6) = ((at_ + 6 : Nat) : Int) := eW at_ 6 (Nat.le_trans (Nat.add_le_add_left (show 6 ≤ 16 by decide) at_) hB)
  have e7 : IntKind.i64.wrap (((at_ : Nat) : Int) + 7) = ((at_ + 7 : Nat) : Int) := eW at_ 7 (Nat.le_trans (Nat.add_le_add_left (show 7 ≤ 16 by decide) at_) hB)
  have e8 : IntKind.i64.wrap (((at_ : Nat) : Int) + 8) = ((at_ + 8 : Nat) : Int) := eW at_ 8 (Nat.le_trans (Nat.add_le_add_left (show 8 ≤ 16 by decide) at_) hB)
  have e9 : IntKind.i64.wrap (((at_ : Nat) : Int) + 9) = ((at_ + 9 : Nat) : Int) := eW at_ 9 (Nat.le_trans (Nat.add_le_add_left (show 9 ≤ 16 by decide) at_) hB)
  have e10 : IntKind.i64.wrap (((at_ : Nat) : Int) + 10) = ((at_ + 10 : Nat) : Int) := eW at_ 10 (Nat.le_trans (Nat.add_le_add_left (show 10 ≤ 16 by decide) at_) hB)
  have e11 : IntKind.i64.wrap (((at_ : Nat) : Int) + 11) = ((at_ + 11 : Nat) : Int) := eW at_ 11 (Nat.le_trans (Nat.add_le_add_left (show 11 ≤ 16 by decide) at_) hB)
  have e12 : IntKind.i64.wrap (((at_ : Nat) : Int) + 12) = ((at_ + 12 : Nat) : Int) := eW at_ 12 (Nat.le_trans (Nat.add_le_add_left (show 12 ≤ 16 by decide) at_) hB)
  have e13 : IntKind.i64.wrap (((at_ : Nat) : Int) + 13) = ((at_ + 13 : Nat) : Int) := eW at_ 13 (Nat.le_trans (Nat.add_le_add_left (show 13 ≤ 16 by decide) at_) hB)
  have e14 : IntKind.i64.wrap (((at_ : Nat) : Int) + 14) = ((at_ + 14 : Nat) : Int) := eW at_ 14 (Nat.le_trans (Nat.add_le_add_left (show 14 ≤ 16 by decide) at_) hB)
  have e15 : IntKind.i64.wrap (((at_ : Nat) : Int) + 15) = ((at_ + 15 : Nat) : Int) := eW at_ 15 (Nat.le_trans (Nat.add_le_add_left (show 15 ≤ 16 by decide) at_) hB)
  have e16 : IntKind.i64.wrap (((at_ : Nat) : Int) + 16) = ((at_ + 16 : Nat) : Int) := eW at_ 16 (Nat.le_trans (Nat.add_le_add_left (show 16 ≤ 16 by decide) at_) hB)
  have hE : List.length (encW w R (xr [b0, b1, b2, b3, b4, b5, b6, b7, b8, b9, b10, b11, b12, b13, b14, b15] (blkA out at_))) = 16 := encW_len (xr_len _ _)
  have hX := hxr at_ out b0 b1 b2 b3 b4 b5 b6 b7 b8 b9 b10 b11 b12 b13 b14 b15
  have ev : List.take (out.length - at_) (List.take 16 (List.drop 0 (encW w R (xr [b0, b1, b2, b3, b4, b5, b6, b7, b8, b9, b10, b11, b12, b13, b14, b15] (blkA out at_))))) = encW w R (xr [b0, b1, b2, b3, b4, b5, b6, b7, b8, b9, b10, b11, b12, b13, b14, b15] (blkA out at_)) := by
    rw [List.drop_zero, List.take_of_length_le (l := encW w R _) (Nat.le_of_eq hE), List.take_of_length_le (by rw [hE]; exact h16)]
  rw [rounds9, e0, e1, e2, e3, e4, e5, e6, e7, e8, e9, e10, e11, e12, e13, e14, e15, e16]
  simp only [Int.toNat_natCast, Nat.zero_add]
  rw [show [b0 ^^^ rd (Sh.int IntKind.u8) out (at_ + 0), b1 ^^^ rd (Sh.int IntKind.u8) out (at_ + 1), b2 ^^^ rd (Sh.int IntKind.u8) out (at_ + 2), b3 ^^^ rd (Sh.int IntKind.u8) out (at_ + 3), b4 ^^^ rd (Sh.int IntKind.u8) out (at_ + 4), b5 ^^^ rd (Sh.int IntKind.u8) out (at_ + 5), b6 ^^^ rd (Sh.int IntKind.u8) out (at_ + 6), b7 ^^^ rd (Sh.int IntKind.u8) out (at_ + 7), b8 ^^^ rd (Sh.int IntKind.u8) out (at_ + 8), b9 ^^^ rd (Sh.int IntKind.u8) out (at_ + 9), b10 ^^^ rd (Sh.int IntKind.u8) out (at_ + 10), b11 ^^^ rd (Sh.int IntKind.u8) out (at_ + 11), b12 ^^^ rd (Sh.int IntKind.u8) out (at_ + 12), b13 ^^^ rd (Sh.int IntKind.u8) out (at_ + 13), b14 ^^^ rd (Sh.int IntKind.u8) out (at_ + 14), b15 ^^^ rd (Sh.int IntKind.u8) out (at_ + 15)] = xr [b0, b1, b2, b3, b4, b5, b6, b7, b8, b9, b10, b11, b12, b13, b14, b15] (blkA out at_) from hX]
  rw [ev]
  refine ifB_of (fun _ => (dmd_of (inB (Nat.lt_of_lt_of_le (Nat.add_lt_add_left (show 0 < 16 by decide) at_) ha)) (dmd_of (inB (Nat.lt_of_lt_of_le (Nat.add_lt_add_left (show 1 < 16 by decide) at_) ha)) (dmd_of (inB (Nat.lt_of_lt_of_le (Nat.add_lt_add_left (show 2 < 16 by decide) at_) ha)) (dmd_of (inB (Nat.lt_of_lt_of_le (Nat.add_lt_add_left (show 3 < 16 by decide) at_) ha)) (dmd_of (inB (Nat.lt_of_lt_of_le (Nat.add_lt_add_left (show 4 < 16 by decide) at_) ha)) (dmd_of (inB (Nat.lt_of_lt_of_le (Nat.add_lt_add_left (show 5 < 16 by decide) at_) ha)) (dmd_of (inB (Nat.lt_of_lt_of_le (Nat.add_lt_add_left (show 6 < 16 by decide) at_) ha)) (dmd_of (inB (Nat.lt_of_lt_of_le (Nat.add_lt_add_left (show 7 < 16 by decide) at_) ha)) (dmd_of (inB (Nat.lt_of_lt_of_le (Nat.add_lt_add_left (show 8 < 16 by decide) at_) ha)) (dmd_of (inB (Nat.lt_of_lt_of_le (Nat.add_lt_add_left (show 9 < 16 by decide) at_) ha)) (dmd_of (inB (Nat.lt_of_lt_of_le (Nat.add_lt_add_left (show 10 < 16 by decide) at_) ha)) (dmd_of (inB (Nat.lt_of_lt_of_le (Nat.add_lt_add_left (show 11 < 16 by decide) at_) ha)) (dmd_of (inB (Nat.lt_of_lt_of_le (Nat.add_lt_add_left (show 12 < 16 by decide) at_) ha)) (dmd_of (inB (Nat.lt_of_lt_of_le (Nat.add_lt_add_left (show 13 < 16 by decide) at_) ha)) (dmd_of (inB (Nat.lt_of_lt_of_le (Nat.add_lt_add_left (show 14 < 16 by decide) at_) ha)) (dmd_of (inB (Nat.lt_of_lt_of_le (Nat.add_lt_add_left (show 15 < 16 by decide) at_) ha)) (dmd_of hk (dmd_of (decide_eq_true (Int.natCast_nonneg _)) (dmd_of (leB hle) ⟨⟨trivial, ?_⟩, h⟩)))))))))))))))))))) (fun h => absurd hlt (of_decide_eq_false h))
  exact (over_len hE ha).symm
theorem loopss9 : ∀ x Kr Kx, Qs9 x Kr Kx → ∃ n, untl (W A13 Try.f28.ntmps (LTab.look Lsl) (bodyAt bsl 9)) Is9 [] os9 n x Kr Kx := by
  rintro ⟨⟨w, R0, ⟨⟩⟩, iv, x, a0, v⟩ Kr Kx ⟨⟨hR, h1, h2, ⟨m, h3⟩, h4⟩, hK⟩
  obtain ⟨R, eR⟩ : ∃ R : Int, R = R0 := ⟨R0, rfl⟩
  subst eR
  have hR : (1 : Int) ≤ R ∧ R < (15 : Int) := hR
  have hk : (decide ((1 : Int) ≤ R) && decide (R < (15 : Int))) = true := by
    rw [decide_eq_true hR.1, decide_eq_true hR.2]; rfl
  have h1 : List.length iv = 16 := h1
  have h2 : List.length x ≤ 140737488355328 := h2
  have h3 : List.length x = 16 * m := h3
  have h4 : a0 = ((16 * 0 : Nat) : Int) := h4
  have hK : Kx.1 (sealC w R iv x (List.length x / 16), ()) := hK
  rw [h3, Nat.mul_div_cancel_left _ (by decide)] at hK
  have key : ∀ (j i : Nat), i + j = m →
      untl (W A13 Try.f28.ntmps (LTab.look Lsl) (bodyAt bsl 9)) Is9 [] os9 (j + 1) ((w, R, ()), chn w R iv x i, sealC w R iv x i ++ x.drop (16 * i), ((16 * i : Nat) : Int), ()) Kr Kx := by
    intro j
    induction j with
    | zero =>
      intro i hi
      have hi : i = m := by omega
      subst hi
      have e : sealC w R iv x i ++ x.drop (16 * i) = sealC w R iv x i := by rw [List.drop_of_length_le (Nat.le_of_eq h3), List.append_nil]
      rw [e, untl_succ]
      obtain ⟨b0, b1, b2, b3, b4, b5, b6, b7, b8, b9, b10, b11, b12, b13, b14, b15, hb⟩ := Go.Gfn.of16 (chn_len w R h1 i (x := x))
      rw [hb, rounds9]
      refine ifB_of (fun h => absurd (of_decide_eq_true h) (by rw [sealC_len w R h1]; omega)) (fun _ => ⟨⟨rfl, rfl⟩, hK⟩)
    | succ j ih =>
      intro i hi
      have hl : (sealC w R iv x i ++ x.drop (16 * i)).length = 16 * m := by rw [List.length_append, sealC_len w R h1, List.length_drop]; omega
      have hbk : blkA (sealC w R iv x i ++ x.drop (16 * i)) (16 * i) = blkA x (16 * i) := by
        unfold blkA
        rw [List.drop_left' (sealC_len w R h1 i)]
      have hov : over (sealC w R iv x i ++ x.drop (16 * i)) (16 * i) (encW w R (xr (chn w R iv x i) (blkA x (16 * i)))) = sealC w R iv x (i + 1) ++ x.drop (16 * (i + 1)) := by
        unfold over
        have hE : List.length (encW w R (xr (chn w R iv x i) (blkA x (16 * i)))) = 16 := encW_len (xr_len _ _)
        rw [hE, ← List.drop_drop, List.take_left' (sealC_len w R h1 i), List.drop_left' (sealC_len w R h1 i), List.drop_drop]
        rfl
      rw [untl_succ]
      refine roundS w R (chn_len w R h1 i) (by rw [hl]; omega) (by rw [hl, ← h3]; exact h2) hk _ _ _ ?_
      rw [hbk, hov, show 16 * i + 16 = 16 * (i + 1) by omega]
      exact ih (i + 1) (by omega)
  have := key m 0 (by omega)
  rw [h4]
  exact ⟨_, this⟩
end Go.Proofs.Ytehgaljcpbaplaa
