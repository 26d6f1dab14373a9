import Derived.Test.YtmekcdapbpioaaaGb
namespace Go.Proofs.Ytmekcdapbpioaaa
open Go.Ty

/-! ## Bytes, the highest apart -/
theorem bytesB_append : ∀ m n N, bytesB (m + n) N = bytesB m N ++ bytesB n (N / 256 ^ m)
  | 0, n, N => by rw [Nat.zero_add, Nat.pow_zero, Nat.div_one]; rfl
  | m + 1, n, N => by
    rw [show m + 1 + n = (m + n) + 1 by omega, Nat.pow_succ, Nat.mul_comm (256 ^ m) 256, ← Nat.div_div_eq_div_mul]
    show _ :: bytesB (m + n) (N / 256) = _
    rw [bytesB_append m n (N / 256)]; rfl
theorem bytesB_more : ∀ m N k, bytesB m (N + 256 ^ m * k) = bytesB m N
  | 0, _, _ => rfl
  | m + 1, N, k => by
    have e : N + 256 ^ (m + 1) * k = N + 256 * (256 ^ m * k) := by rw [Nat.pow_succ, Nat.mul_comm (256 ^ m) 256, Nat.mul_assoc]
    unfold bytesB
    rw [e, show (N + 256 * (256 ^ m * k)) / 256 = N / 256 + 256 ^ m * k by omega, bytesB_more m]
    congr 1
    refine BitVec.eq_of_toNat_eq ?_
    rw [BitVec.toNat_ofNat, BitVec.toNat_ofNat]; omega
theorem valB_append : ∀ l r : List (BitVec 8), valB (l ++ r) = valB l + 256 ^ l.length * valB r
  | [], r => by
    show valB r = 0 + 256 ^ 0 * valB r
    omega
  | x :: l, r => by
    show x.toNat + 256 * valB (l ++ r) = x.toNat + 256 * valB l + _
    rw [valB_append l r, List.length_cons, Nat.pow_succ, Nat.mul_comm (256 ^ l.length) 256, Nat.mul_assoc]; omega
theorem bytes_top (N : Nat) : bytesB 32 N = bytesB 31 N ++ [BitVec.ofNat 8 (N / 256 ^ 31)] := bytesB_append 31 1 N
theorem set_top {α : Type} (l : List α) (x y : α) (h : l.length = 31) : (l ++ [x]).set 31 y = l ++ [y] := by
  rw [List.set_append_right _ _ (by omega), h]; rfl
theorem rd_top (l : List (BitVec 8)) (x : BitVec 8) (h : l.length = 31) : rd (Sh.int IntKind.u8) (l ++ [x]) 31 = x := by
  unfold rd
  rw [List.getD_eq_getElem?_getD, List.getElem?_append_right (by omega), h]; rfl
noncomputable def B255 : Nat := Classical.choose (⟨2 ^ 255, rfl⟩ : ∃ n : Nat, n = 2 ^ 255)
theorem B255_eq : B255 = 2 ^ 255 := Classical.choose_spec (⟨2 ^ 255, rfl⟩ : ∃ n : Nat, n = 2 ^ 255)
theorem or_top : ∀ t : BitVec 8, t.toNat < 128 → t ||| 128#8 = BitVec.ofNat 8 (t.toNat + 128) := by decide
theorem and_top : ∀ t : BitVec 8, (t &&& 127#8).toNat = t.toNat % 128 := by decide
theorem shrTop : ∀ t : BitVec 8, decide (t >>> 7 = 1#8) = decide (128 ≤ t.toNat) := by decide
/-- the highest bit set, or not -/
theorem pack_top {y : Nat} (hy : y < B255) (x : List (BitVec 64)) : (bytesB 32 y).set 31 (rd (Sh.int IntKind.u8) (bytesB 32 y) 31 ||| BitVec.setWidth 8 (rd (Sh.int IntKind.u64) x 0 &&& 1#64) <<< 7) = bytesB 32 (y + B255 * (valN x % 2)) := by
  rw [B255_eq] at *
  have hb : rd (Sh.int IntKind.u64) x 0 &&& 1#64 = BitVec.ofNat 64 (valN x % 2) := by
    have h := valN_bit x 0 0 (by omega)
    rw [show 64 * 0 + 0 = 0 from rfl, Nat.pow_zero, Nat.div_one, Nat.div_one] at h
    have h1 := and_one (rd u64S x 0) 0
    rw [BitVec.ushiftRight_zero, Nat.pow_zero, Nat.div_one, ← h] at h1
    exact h1
  have ht : (BitVec.ofNat 8 (y / 256 ^ 31)).toNat = y / 256 ^ 31 := by rw [BitVec.toNat_ofNat]; omega
  rw [hb, bytes_top, bytes_top, rd_top _ _ (bytesB_len 31 _), set_top _ _ _ (bytesB_len 31 _)]
  rcases Nat.mod_two_eq_zero_or_one (valN x) with c | c <;> rw [c]
  · rw [Nat.mul_zero, Nat.add_zero, show BitVec.setWidth 8 (BitVec.ofNat 64 0) <<< 7 = 0#8 from by decide, BitVec.or_zero]
  · rw [show BitVec.setWidth 8 (BitVec.ofNat 64 1) <<< 7 = 128#8 from by decide, or_top _ (by rw [ht]; omega), ht, show (y + 2 ^ 255 * 1) / 256 ^ 31 = y / 256 ^ 31 + 128 by omega,
      show y + 2 ^ 255 * 1 = y + 256 ^ 31 * 128 by omega, bytesB_more]
/-- the highest bit taken off -/
theorem unpack_top {b : List (BitVec 8)} (h : b.length = 32) : valB (b.set 31 (rd (Sh.int IntKind.u8) b 31 &&& 127#8)) = valB b % B255 ∧ decide (rd (Sh.int IntKind.u8) b 31 >>> 7 = 1#8) = decide (B255 ≤ valB b) := by
  have hl := valB_lt b
  rw [h] at hl
  have e := bytes_valB b
  rw [h, bytes_top] at e
  rw [← e]
  generalize valB b = M at *
  have ht : (BitVec.ofNat 8 (M / 256 ^ 31)).toNat = M / 256 ^ 31 := by rw [BitVec.toNat_ofNat]; omega
  have e1 : valB (bytesB 31 M) = M % 256 ^ 31 := by
    have := bytesB_more 31 (M % 256 ^ 31) (M / 256 ^ 31)
    rw [Nat.mod_add_div] at this
    rw [this, valB_bytes 31 _ (Nat.mod_lt _ (by decide))]
  rw [rd_top _ _ (bytesB_len 31 _), set_top _ _ _ (bytesB_len 31 _), valB_append, valB_append, bytesB_len, e1, shrTop]
  simp only [valB, and_top, ht, B255_eq]
  refine ⟨by omega, decide_eq_decide.2 (by omega)⟩

/-! ## Neg, Pack -/
noncomputable def errB (b : Bool) (e : Int) : Int := bif b then 0 else e
noncomputable def negF : HL [ptS] → SV := fun xs => .tup [.val ptS (wordsN 4 (bif onN (valN xs.1.1) (valN xs.1.2.1) then (PP - valN xs.1.1) % PP else 0), wordsN 4 (bif onN (valN xs.1.1) (valN xs.1.2.1) then valN xs.1.2.1 else 0), ()), .val i64S (errB (onN (valN xs.1.1) (valN xs.1.2.1)) 1)]
noncomputable def packN (x y : Nat) : Nat := bif onN x y then y + B255 * (x % 2) else 0
noncomputable def packF : HL [ptS] → SV := fun xs => .tup [.val b32S (bytesB 32 (packN (valN xs.1.1) (valN xs.1.2.1))), .val i64S (errB (onN (valN xs.1.1) (valN xs.1.2.1)) 1)]
/-- the ladder's one number of y -/
noncomputable def uN (y : Nat) : Nat := (1 + y) % PP * powP ((PP + 1 - y) % PP) (PP - 2) % PP
noncomputable def ladOfF : HL [ptS] → SV := fun xs => .tup [.val numS (wordsN 4 (bif onN (valN xs.1.1) (valN xs.1.2.1) then uN (valN xs.1.2.1) else 0)), .val i64S (errB (onN (valN xs.1.1) (valN xs.1.2.1)) 1)]
theorem onN_lt {x y : Nat} (h : onN x y = true) : x < PP ∧ y < PP ∧ y * y % PP = (x * x + (1 + DD * (x * x * (y * y)))) % PP := by
  unfold onN at h
  rw [Bool.and_eq_true, Bool.and_eq_true] at h
  exact ⟨of_decide_eq_true h.1, of_decide_eq_true h.2.1, of_decide_eq_true h.2.2⟩
theorem PP_255 : PP < B255 := by rw [B255_eq]; exact PP_lt
theorem fw53 (p : Sh.T (ptS)) (P : SV → Prop) : FW G3 Try.f28.ntmps (LTab.look []) Try.f28 (argsOf [ptS] (p, ())) P =
 (  ifB (!onN (valN p.1) (valN p.2.1))
    (P
      (SV.tup
        [AV.val (Sh.arr 32 (Sh.int IntKind.u8))
            [0#8, 0#8, 0#8, 0#8, 0#8, 0#8, 0#8, 0#8, 0#8, 0#8, 0#8, 0#8, 0#8, 0#8, 0#8, 0#8, 0#8, 0#8, 0#8, 0#8, 0#8, 0#8,
              0#8, 0#8, 0#8, 0#8, 0#8, 0#8, 0#8, 0#8, 0#8, 0#8],
          AV.val (Sh.int IntKind.i64) 1]))
    (P
      (SV.tup
        [AV.val (Sh.arr 32 (Sh.int IntKind.u8))
            ((bytesB 32 (valN p.2.1)).set 31
              (rd (Sh.int IntKind.u8) (bytesB 32 (valN p.2.1)) 31 |||
                BitVec.setWidth 8 (rd (Sh.int IntKind.u64) p.1 0 &&& 1#64) <<< 7)),
          AV.val (Sh.int IntKind.i64) 0]))) := by kernel_rfl
theorem pack_ok : COK Try.prog noGl 28 (conT [ptS] packF) := by
  refine conT_ok (fun xs hw => ?_) (fun xs => rfl)
  obtain ⟨⟨x, y, ⟨⟩⟩, ⟨⟩⟩ := xs
  refine PC_of_fw (t := []) shV_ok g3_ok mixed Try.func28 (c := Try.f28.body.getD .skip) rfl (by kernel_rfl) (by kernel_rfl) loopsNil rfl ?_
  rw [show (PUnit.unit : HL []) = () from rfl, fw53]
  show ifB (!onN (valN x) (valN y)) (SV.tup [.val b32S (bytesB 32 0), .val i64S 1] = SV.tup [.val b32S (bytesB 32 (packN (valN x) (valN y))), .val i64S (errB (onN (valN x) (valN y)) 1)]) (SV.tup [.val b32S ((bytesB 32 (valN y)).set 31 (rd (Sh.int IntKind.u8) (bytesB 32 (valN y)) 31 ||| BitVec.setWidth 8 (rd (Sh.int IntKind.u64) x 0 &&& 1#64) <<< 7)), .val i64S 0] = SV.tup [.val b32S (bytesB 32 (packN (valN x) (valN y))), .val i64S (errB (onN (valN x) (valN y)) 1)])
  unfold packN errB
  cases hon : onN (valN x) (valN y)
  · refine ifB_of (fun _ => ?_) (fun h => absurd h (by decide))
    rfl
  · refine ifB_of (fun h => absurd h (by decide)) (fun _ => ?_)
    rw [pack_top (Nat.lt_trans (onN_lt hon).2.1 PP_255), cond_true]; rfl
theorem fw91 (p : Sh.T (ptS)) (P : SV → Prop) : FW G3 Try.f70.ntmps (LTab.look []) Try.f70 (argsOf [ptS] (p, ())) P =
 (  ifB (!onN (valN p.1) (valN p.2.1))
    (P (SV.tup [AV.val (Sh.arr 4 (Sh.int IntKind.u64)) [0#64, 0#64, 0#64, 0#64], AV.val (Sh.int IntKind.i64) 1]))
    (P
      (SV.tup
        [AV.val (Sh.arr 4 (Sh.int IntKind.u64))
            (wordsN 4
              (valN (wordsN 4 ((valN [1#64, 0#64, 0#64, 0#64] + valN p.2.1) % PP)) *
                  valN
                    (wordsN 4
                      (powP (valN (wordsN 4 ((valN [1#64, 0#64, 0#64, 0#64] % PP + PP - valN p.2.1 % PP) % PP)))
                        (PP - 2))) %
                PP)),
          AV.val (Sh.int IntKind.i64) 0]))) := by kernel_rfl
theorem ladOf_ok : COK Try.prog noGl 70 (conT [ptS] ladOfF) := by
  refine conT_ok (fun xs hw => ?_) (fun xs => rfl)
  obtain ⟨⟨x, y, ⟨⟩⟩, ⟨⟩⟩ := xs
  refine PC_of_fw (t := []) shV_ok g3_ok mixed Try.func70 (c := Try.f70.body.getD .skip) rfl (by kernel_rfl) (by kernel_rfl) loopsNil rfl ?_
  rw [show (PUnit.unit : HL []) = () from rfl, fw91]
  have z1 : valN [1#64, 0#64, 0#64, 0#64] = 1 := rfl
  simp only [vp, vpw, z1]
  show ifB (!onN (valN x) (valN y)) (SV.tup [.val numS [0#64, 0#64, 0#64, 0#64], .val i64S 1] = SV.tup [.val numS (wordsN 4 (bif onN (valN x) (valN y) then uN (valN y) else 0)), .val i64S (errB (onN (valN x) (valN y)) 1)]) (SV.tup [.val numS (wordsN 4 ((1 + valN y) % PP * powP ((1 % PP + PP - valN y % PP) % PP) (PP - 2) % PP)), .val i64S 0] = SV.tup [.val numS (wordsN 4 (bif onN (valN x) (valN y) then uN (valN y) else 0)), .val i64S (errB (onN (valN x) (valN y)) 1)])
  unfold errB uN
  cases hon : onN (valN x) (valN y)
  · refine ifB_of (fun _ => ?_) (fun h => absurd h (by decide))
    rw [cond_false, w0_eq]; rfl
  · refine ifB_of (fun h => absurd h (by decide)) (fun _ => ?_)
    rw [cond_true, Nat.mod_eq_of_lt (show 1 < PP by have := PP_3; omega), Nat.mod_eq_of_lt (onN_lt hon).2.1, Nat.add_comm 1 PP]; rfl
theorem base_on : onN BX BY = true := by
  unfold onN; rw [BX_eq, BY_eq, DD_eq, PP_eq]; decide
theorem BX_val : valN (wordsN 4 BX) = BX := v4 (by have := (onN_lt base_on).1; have := PP_lt; omega)
theorem BY_val : valN (wordsN 4 BY) = BY := v4 (by have := (onN_lt base_on).2.1; have := PP_lt; omega)
theorem fw41  (P : SV → Prop) : FW G3 Try.f31.ntmps (LTab.look []) Try.f31 (argsOf [] (())) P =
 (  P (SV.av (AV.val Sh.bool (onN (valN (wordsN 4 BX)) (valN (wordsN 4 BY)))))) := by kernel_rfl
theorem curves_ok : COK Try.prog noGl 31 (conT [] fun _ => .av (.val .bool true)) := by
  refine conT_ok (fun xs hw => ?_) (fun xs => rfl)
  obtain ⟨⟩ := xs
  refine PC_of_fw (t := []) shV_ok g3_ok mixed Try.func31 (c := Try.f31.body.getD .skip) rfl (by kernel_rfl) (by kernel_rfl) loopsNil rfl ?_
  rw [show (PUnit.unit : HL []) = () from rfl, fw41, BX_val, BY_val, base_on]
noncomputable def g4 : CTab := (28, conT [ptS] packF) :: (70, conT [ptS] ladOfF) :: (31, conT [] fun _ => .av (.val .bool true)) :: g3
theorem g4_ok : ∀ p ∈ g4, COK Try.prog noGl p.1 p.2 := CCons pack_ok (CCons ladOf_ok (CCons curves_ok g3_ok))
noncomputable abbrev G4 : Go.Ty.Cx := mkX Try.prog noGl shV g4
end Go.Proofs.Ytmekcdapbpioaaa
