import Derived.Test.YtehgaljcpbaplaaWA7
import Derived.Test.YtehgaljcpbaplaaWAE
namespace Go.Proofs.Ytehgaljcpbaplaa
open Go.Ty

noncomputable def a11 : CTab := (21, conT [.sl u8S, .sl u8S] equalF) :: a10
theorem a11_ok : ∀ p ∈ a11, COK Try.prog GL p.1 p.2 := CCons equal_ok a10_ok
noncomputable abbrev A11 : Go.Ty.Cx := mkX Try.prog GL shA a11
/-! ## The stream is one xor -/
noncomputable def strK (w : WW) (n : Int) (iv : List (BitVec 8)) (at_ : BitVec 64) (j : Nat) : BitVec 8 :=
  rd u8S (encW w n (plusW iv ((at_ + BitVec.ofNat 64 j) / 16#64))) ((at_ + BitVec.ofNat 64 j) % 16#64).toNat
theorem strB_eq (w : WW) (n : Int) (iv : List (BitVec 8)) (at_ : BitVec 64) (p : List (BitVec 8)) (j : Nat) : strB w n iv at_ p j = rd u8S p j ^^^ strK w n iv at_ j := rfl
theorem rd_strW (w : WW) (n : Int) (iv : List (BitVec 8)) (at_ : BitVec 64) (p : List (BitVec 8)) (j : Nat) (h : j < p.length) : rd u8S (strW w n iv at_ p) j = rd u8S p j ^^^ strK w n iv at_ j := by
  rw [← strB_eq]
  have h1 : j < (strW w n iv at_ p).length := by rw [strW_len]; exact h
  rw [rd_at h1, strW_get]
theorem rd_rep8 (n j : Nat) : rd u8S (List.replicate n 0#8) j = 0#8 := by
  by_cases h : j < n
  · rw [rd_at (by rw [List.length_replicate]; exact h), List.getElem_replicate]
  · unfold rd
    rw [List.getD_eq_getElem?_getD, List.getElem?_eq_none (by rw [List.length_replicate]; omega)]; rfl
theorem strW_twice (w : WW) (n : Int) (iv : List (BitVec 8)) (at_ : BitVec 64) (p : List (BitVec 8)) : strW w n iv at_ (strW w n iv at_ p) = p := by
  refine rd8_ext (by rw [strW_len, strW_len]) fun j hj => ?_
  rw [rd_strW _ _ _ _ _ _ (by rw [strW_len]; exact hj), rd_strW _ _ _ _ _ _ hj, BitVec.xor_assoc, BitVec.xor_self, BitVec.xor_zero]
theorem take_rep (n : Nat) : List.take (((n : Nat) : Int).toNat) (List.drop 0 (List.replicate (((n : Nat) : Int).toNat) 0#8)) = List.replicate n 0#8 := by
  rw [Int.toNat_natCast, List.drop_zero, List.take_of_length_le (by rw [List.length_replicate]; exact Nat.le_refl _)]
abbrev It9 : List It := [.p 9 2000 keyS, .p 5 2001 b16S, .v 2 u64S, .v 3 (.sl u8S), .v 11 (.sl u8S), .v 12 (.sl u8S), .v 46 i64S, .v 47 i64S]
abbrev ot9 : List (Nat × List It) := [(0, [.p 9 2000 keyS, .p 5 2001 b16S, .v 2 u64S, .v 3 (.sl u8S), .v 11 (.sl u8S)])]
abbrev lr9 : List It := [.v 8 .bool]
noncomputable def b9 : Code := Try.f8.body.getD .skip
noncomputable def Qt : LQ It9 lr9 ot9 := fun x _ Kx => (List.length x.2.2.2.2.2.1 ≤ 140737488355328 ∧ x.2.2.2.2.2.2.1 = ((List.length x.2.2.2.2.2.1 : Nat) : Int) ∧ x.2.2.2.2.2.2.2.1 = 0 ∧ List.length x.2.2.2.1 = List.length x.2.2.2.2.2.1 ∧ List.length x.2.2.2.2.1 = List.length x.2.2.2.2.2.1 ∧
  ∀ j, j < List.length x.2.2.2.2.2.1 → rd u8S x.2.2.2.2.2.1 j ^^^ rd u8S x.2.2.2.1 j = rd u8S x.2.2.2.2.1 j) ∧ Kx.1 (x.1, x.2.1, x.2.2.1, x.2.2.2.1, x.2.2.2.2.1, ())
noncomputable abbrev Lt9 : LTab := [(9, ptL It9 lr9 ot9 Qt)]
theorem round9 (k : Sh.T keyS) (iv : List (BitVec 8)) (at_ : BitVec 64) (p c pad : List (BitVec 8)) (m i : Int) (Kn : HI It9 → Prop) (Kr : HI lr9 → Prop) (Kx : HP ot9) : roundT (W A11 Try.f8.ntmps (LTab.look Lt9) (bodyAt b9 9)) It9 lr9 ot9 (k, iv, at_, p, c, pad, m, i, ()) Kn Kr Kx =
 (  ifB (decide (i < m))
    (dmd (decide (0 ≤ i) && decide (i < ((pad.length : Nat) : Int)))
      (dmd (decide (0 ≤ i) && decide (i < ((p.length : Nat) : Int)))
        (dmd (decide (0 ≤ i) && decide (i < ((c.length : Nat) : Int)))
          (ifB
            (!decide
                (rd (Sh.int IntKind.u8) pad i.toNat ^^^ rd (Sh.int IntKind.u8) p i.toNat =
                  rd (Sh.int IntKind.u8) c i.toNat))
            (Kr (false, PUnit.unit)) (Kn (k, iv, at_, p, c, pad, m, IntKind.i64.wrap (i + 1), PUnit.unit))))))
    (Kx.1 (k, iv, at_, p, c, PUnit.unit))) := by kernel_rfl
theorem fwTwice (key : Sh.T (.sl u8S)) (iv : Sh.T (b16S)) (a : Sh.T (u64S)) (p : Sh.T (.sl u8S)) (P : SV → Prop) : FW A11 Try.f8.ntmps (LTab.look Lt9) Try.f8 (argsOf [.sl u8S, b16S, u64S, .sl u8S] (key, iv, a, p, ())) P =
 (  ifB (!decide (keyE key = 0)) (P (SV.av (AV.val Sh.bool true)))
    (dmd (decide (1 ≤ keyR key) && decide (keyR key < 15))
      (dmd ((List.length p).ble 140737488355328)
        (dmd
          (decide (0 ≤ (((List.length p) : Nat) : Int)) &&
            (decide ((((List.length p) : Nat) : Int) ≤ (((List.length p) : Nat) : Int)) &&
              (decide ((((List.length p) : Nat) : Int) * 1 ≤ 140737488355328) && decide ((((List.length p) : Nat) : Int) < 9223372036854775808))))
          (dmd (decide (1 ≤ keyR key) && decide (keyR key < 15))
            (dmd
              ((List.take ((((List.length p) : Nat) : Int)).toNat (List.drop 0 (List.replicate ((((List.length p) : Nat) : Int)).toNat 0#8))).length.ble
                140737488355328)
              (ifB (!decide ((((strW (keyW key) (keyR key) iv a p).length : Nat) : Int) = (((List.length p) : Nat) : Int)))
                (P (SV.av (AV.val Sh.bool false)))
                (ifB
                  (!decide
                      ((((strW (keyW key) (keyR key) iv a
                              (List.take ((((List.length p) : Nat) : Int)).toNat
                                (List.drop 0 (List.replicate ((((List.length p) : Nat) : Int)).toNat 0#8)))).length : Nat) : Int) =
                        (((List.length p) : Nat) : Int)))
                  (P (SV.av (AV.val Sh.bool false)))
                  (Qt
                    ((keyW key, keyR key, PUnit.unit), iv, a, p, strW (keyW key) (keyR key) iv a p,
                      strW (keyW key) (keyR key) iv a
                        (List.take ((((List.length p) : Nat) : Int)).toNat (List.drop 0 (List.replicate ((((List.length p) : Nat) : Int)).toNat 0#8))),
                      (((strW (keyW key) (keyR key) iv a
                            (List.take ((((List.length p) : Nat) : Int)).toNat
                              (List.drop 0 (List.replicate ((((List.length p) : Nat) : Int)).toNat 0#8)))).length : Nat) : Int),
                      0, PUnit.unit)
                    (fun y => P (SV.av (AV.val Sh.bool y.1)))
                    (fun y =>
                      dmd (decide (1 ≤ y.1.2.1) && decide (y.1.2.1 < 15))
                        (dmd ((List.length y.2.2.2.2.1).ble 140737488355328)
                          (P
                            (SV.av
                              (AV.val Sh.bool
                                (teq (Sh.int IntKind.u8).sl (strW y.1.1 y.1.2.1 y.2.1 y.2.2.1 y.2.2.2.2.1) y.2.2.2.1))))),
                      PUnit.unit)))))))))) := by kernel_rfl
theorem fwBlocks (key : Sh.T (.sl u8S)) (iv : Sh.T (b16S)) (n : Sh.T (u8S)) (P : SV → Prop) : FW A11 Try.f9.ntmps (LTab.look []) Try.f9 (argsOf [.sl u8S, b16S, u8S] (key, iv, n, ())) P =
 (  ifB (!decide (keyE key = 0)) (P (SV.av (AV.val Sh.bool true)))
    (dmd (decide (1 ≤ keyR key) && decide (keyR key < 15))
      (dmd (decide (1 ≤ keyR key) && decide (keyR key < 15))
        (P
          (SV.av
            (AV.val Sh.bool
              (teq (Sh.int IntKind.u8).sl
                (strW (keyW key) (keyR key) (List.set iv 15 0#8) (16#64 * BitVec.setWidth 64 n)
                  (List.take 16 (List.drop 0 (List.replicate 16 0#8))))
                (List.take 16 (List.drop 0 (encW (keyW key) (keyR key) ((List.set iv 15 0#8).set 15 n))))))))))) := by kernel_rfl
theorem makeB {n : Nat} (h : n ≤ 140737488355328) : (decide (0 ≤ ((n : Nat) : Int)) && (decide (((n : Nat) : Int) ≤ ((n : Nat) : Int)) && (decide (((n : Nat) : Int) * 1 ≤ 140737488355328) && decide (((n : Nat) : Int) < 9223372036854775808)))) = true := by
  rw [decide_eq_true (show (0 : Int) ≤ ((n : Nat) : Int) by omega), decide_eq_true (show ((n : Nat) : Int) ≤ ((n : Nat) : Int) by omega), decide_eq_true (show ((n : Nat) : Int) * 1 ≤ 140737488355328 by omega), decide_eq_true (show ((n : Nat) : Int) < 9223372036854775808 by omega)]; rfl
theorem bleB {n : Nat} (h : n ≤ 140737488355328) : Nat.ble n 140737488355328 = true := Nat.ble_eq_true_of_le h
set_option maxRecDepth 100000 in
theorem loops9 : ∀ x Kr Kx, Qt x Kr Kx → ∃ n, untl (W A11 Try.f8.ntmps (LTab.look Lt9) (bodyAt b9 9)) It9 lr9 ot9 n x Kr Kx := by
  rintro ⟨k, iv, a, p, c, pad, m0, i0, v⟩ Kr Kx ⟨⟨hp, h1, h2, h3, h4, h5⟩, hK⟩
  have hp : List.length pad ≤ 140737488355328 := hp
  have h1 : m0 = ((List.length pad : Nat) : Int) := h1
  have h2 : i0 = ((0 : Nat) : Int) := h2
  have h3 : List.length p = List.length pad := h3
  have h4 : List.length c = List.length pad := h4
  have h5 : ∀ j, j < List.length pad → rd u8S pad j ^^^ rd u8S p j = rd u8S c j := h5
  have hK : Kx.1 (k, iv, a, p, c, ()) := hK
  have key : ∀ (n i : Nat), i + n = List.length pad →
      untl (W A11 Try.f8.ntmps (LTab.look Lt9) (bodyAt b9 9)) It9 lr9 ot9 (n + 1) (k, iv, a, p, c, pad, ((List.length pad : Nat) : Int), (i : Int), ()) Kr Kx := by
    intro n
    induction n with
    | zero =>
      intro i hi
      rw [untl_succ, round9]
      exact ifB_of (fun h => absurd (of_decide_eq_true h) (by omega)) (fun _ => hK)
    | succ n ih =>
      intro i hi
      rw [untl_succ, round9]
      have e1 : IntKind.i64.wrap ((i : Int) + 1) = ((i + 1 : Nat) : Int) := by rw [IntWalk.i64_in _ (by omega)]; omega
      rw [e1, Int.toNat_natCast]
      refine ifB_of (fun _ => dmd_of (inB (by omega)) (dmd_of (inB (by omega)) (dmd_of (inB (by omega)) (ifB_of (fun h => ?_) (fun _ => ih (i + 1) (by omega)))))) (fun h => absurd (of_decide_eq_false h) (by omega))
      rw [decide_eq_true (show rd (Sh.int IntKind.u8) pad i ^^^ rd (Sh.int IntKind.u8) p i = rd (Sh.int IntKind.u8) c i from h5 i (by omega))] at h
      cases h
  have := key (List.length pad) 0 (by omega)
  rw [h1, h2]
  exact ⟨_, this⟩
theorem walkTwice (xs : HL [.sl u8S, b16S, u64S, .sl u8S]) (h : okHL [.sl u8S, b16S, u64S, .sl u8S] xs) : PC (bx Try.prog GL) 8 (argsOf [.sl u8S, b16S, u64S, .sl u8S] xs) (.av (.val .bool true)) := by
  obtain ⟨key, iv, a, p, ⟨⟩⟩ := xs
  have hp : List.length p * 1 ≤ 140737488351232 := h.2.2.2.1.1
  refine PC_of_fw (t := Lt9) shA_ok a11_ok mixed Try.func8 (c := b9) rfl (by kernel_rfl) (by kernel_rfl) (loopsOK (by kernel_rfl) (LTCons (loop_of shA_ok a11_ok mixed (loopsOK (by kernel_rfl) (LTCons (noLoop (by kernel_rfl)) LTNil)) (by kernel_rfl) loops9) LTNil)) rfl ?_
  rw [show (PUnit.unit : HL []) = () from rfl, fwTwice]
  cases hk : okL (List.length key) with
  | false => rw [keyE_no hk]; exact ifB_of (fun _ => rfl) (fun h => absurd h (by decide))
  | true =>
    obtain ⟨k1, k2, k3⟩ := keyE_ok hk
    rw [k1, take_rep, strW_len, strW_len, List.length_replicate]
    refine ifB_of (fun h => absurd h (by decide)) (fun _ => dmd_of k3 (dmd_of (bleB (by omega)) (dmd_of (makeB (by omega)) (dmd_of k3 (dmd_of (bleB (by omega)) (ifB_of (fun h => ?_) (fun _ => ifB_of (fun h => ?_) (fun _ => ?_))))))))
    · rw [decide_eq_true rfl] at h; cases h
    · rw [decide_eq_true rfl] at h; cases h
    · have e1 : List.length (strW (keyW key) (keyR key) iv a (List.replicate (List.length p) 0#8)) = List.length p := by rw [strW_len, List.length_replicate]
      refine ⟨⟨?_, ?_, rfl, ?_, ?_, fun j hj => ?_⟩, dmd_of k3 (dmd_of (bleB ?_) (pbool (teq_of (s := .sl u8S) (strW_twice _ _ _ _ _))))⟩
      · exact Nat.le_trans (Nat.le_of_eq e1) (by omega)
      · exact congrArg (fun n : Nat => (n : Int)) e1.symm
      · exact e1.symm
      · exact (strW_len _ _ _ _ _).trans e1.symm
      · have hj : j < List.length (strW (keyW key) (keyR key) iv a (List.replicate (List.length p) 0#8)) := hj
        rw [e1] at hj
        show rd u8S (strW (keyW key) (keyR key) iv a (List.replicate (List.length p) 0#8)) j ^^^ rd u8S p j = rd u8S (strW (keyW key) (keyR key) iv a p) j
        rw [rd_strW _ _ _ _ _ _ (by rw [List.length_replicate]; exact hj), rd_strW _ _ _ _ _ _ hj, rd_rep8, BitVec.zero_xor, BitVec.xor_comm]
      · show List.length (strW (keyW key) (keyR key) iv a p) ≤ _
        rw [strW_len]; omega
/-! ## A block of the stream -/
theorem step0 : ∀ x : BitVec 8, BitVec.setWidth 8 (0#64 + (BitVec.setWidth 64 x + (0#64 &&& 255#64))) = x ∧ (0#64 + (BitVec.setWidth 64 x + (0#64 &&& 255#64))) >>> 8 = 0#64 := by decide
theorem stepn : ∀ n : BitVec 8, BitVec.setWidth 8 (0#64 + (BitVec.setWidth 64 0#8 + (BitVec.setWidth 64 n &&& 255#64))) = n ∧ (0#64 + (BitVec.setWidth 64 0#8 + (BitVec.setWidth 64 n &&& 255#64))) >>> 8 = 0#64 ∧ BitVec.setWidth 64 n >>> 8 = 0#64 := by decide
theorem plusR_zero : ∀ l : List (BitVec 8), plusR l 0#64 0#64 = l
  | [] => rfl
  | x :: l => by
    unfold plusR
    rw [(step0 x).1, (step0 x).2, show (0#64 >>> 8 : BitVec 64) = 0#64 from rfl, plusR_zero l]
theorem plusW_last (l : List (BitVec 8)) (n : BitVec 8) : plusW (l ++ [0#8]) (BitVec.setWidth 64 n) = l ++ [n] := by
  unfold plusW
  rw [List.reverse_append, List.reverse_singleton, List.singleton_append]
  unfold plusR
  obtain ⟨h1, h2, h3⟩ := stepn n
  rw [h1, h2, h3, plusR_zero, List.reverse_cons, List.reverse_reverse]
theorem off_div (n : BitVec 8) (j : Nat) (h : j < 16) : (16#64 * BitVec.setWidth 64 n + BitVec.ofNat 64 j) / 16#64 = BitVec.setWidth 64 n ∧ ((16#64 * BitVec.setWidth 64 n + BitVec.ofNat 64 j) % 16#64).toNat = j := by
  have hn := n.isLt
  have e : (16#64 * BitVec.setWidth 64 n + BitVec.ofNat 64 j).toNat = 16 * n.toNat + j := by
    rw [BitVec.toNat_add, BitVec.toNat_mul, BitVec.toNat_setWidth, BitVec.toNat_ofNat, BitVec.toNat_ofNat]
    omega
  refine ⟨BitVec.eq_of_toNat_eq ?_, ?_⟩
  · rw [BitVec.toNat_udiv, e, BitVec.toNat_setWidth, show (16#64).toNat = 16 from rfl]; omega
  · rw [BitVec.toNat_umod, e, show (16#64).toNat = 16 from rfl]; omega
theorem strK_block (w : WW) (r : Int) (l : List (BitVec 8)) (n : BitVec 8) (j : Nat) (h : j < 16) : strK w r (l ++ [0#8]) (16#64 * BitVec.setWidth 64 n) j = rd u8S (encW w r (l ++ [n])) j := by
  unfold strK
  obtain ⟨h1, h2⟩ := off_div n j h
  rw [h1, h2, plusW_last]
theorem strW_block (w : WW) (r : Int) (l : List (BitVec 8)) (hl : l.length = 15) (n : BitVec 8) : strW w r (l ++ [0#8]) (16#64 * BitVec.setWidth 64 n) (List.replicate 16 0#8) = encW w r (l ++ [n]) := by
  have h16 : (encW w r (l ++ [n])).length = 16 := encW_len (by rw [List.length_append, hl]; rfl)
  refine rd8_ext (by rw [strW_len, h16, List.length_replicate]) fun j hj => ?_
  rw [h16] at hj
  rw [rd_strW _ _ _ _ _ _ (by rw [List.length_replicate]; exact hj), rd_rep8, BitVec.zero_xor, strK_block _ _ _ _ _ hj]
theorem set_last {iv : List (BitVec 8)} (h : iv.length = 16) : ∃ l : List (BitVec 8), l.length = 15 ∧ List.set iv 15 0#8 = l ++ [0#8] ∧ ∀ n : BitVec 8, (List.set iv 15 0#8).set 15 n = l ++ [n] := by
  obtain ⟨b0, b1, b2, b3, b4, b5, b6, b7, b8, b9, b10, b11, b12, b13, b14, b15, hb⟩ := Go.Gfn.of16 h
  subst hb
  exact ⟨[b0, b1, b2, b3, b4, b5, b6, b7, b8, b9, b10, b11, b12, b13, b14], rfl, rfl, fun n => rfl⟩
theorem walkBlocks (xs : HL [.sl u8S, b16S, u8S]) (h : okHL [.sl u8S, b16S, u8S] xs) : PC (bx Try.prog GL) 9 (argsOf [.sl u8S, b16S, u8S] xs) (.av (.val .bool true)) := by
  obtain ⟨key, iv, n, ⟨⟩⟩ := xs
  have hb : List.length iv = 16 := h.2.1.1
  refine PC_of_fw (t := []) shA_ok a11_ok mixed Try.func9 (c := Try.f9.body.getD .skip) rfl (by kernel_rfl) (by kernel_rfl) loopsNil rfl ?_
  rw [show (PUnit.unit : HL []) = () from rfl, fwBlocks]
  cases hk : okL (List.length key) with
  | false => rw [keyE_no hk]; exact ifB_of (fun _ => rfl) (fun h => absurd h (by decide))
  | true =>
    obtain ⟨k1, k2, k3⟩ := keyE_ok hk
    rw [k1]
    refine ifB_of (fun h => absurd h (by decide)) (fun _ => dmd_of k3 (dmd_of k3 (pbool (teq_of (s := .sl u8S) ?_))))
    obtain ⟨l, hl, e1, e2⟩ := set_last hb
    have e1 : List.set iv 15 0#8 = l ++ [0#8] := e1
    have e2 : (List.set iv 15 0#8).set 15 n = l ++ [n] := e2 n
    have h16 : (encW (keyW key) (keyR key) (l ++ [n])).length = 16 := encW_len (by rw [List.length_append, hl]; rfl)
    rw [e2, e1]
    rw [show List.take 16 (List.drop 0 (List.replicate 16 0#8)) = List.replicate 16 0#8 from rfl, List.drop_zero, List.take_of_length_le (Nat.le_of_eq h16)]
    exact strW_block _ _ l hl n
end Go.Proofs.Ytehgaljcpbaplaa
