import Derived.Test.YtonlmamfggfanaaDoorDs
import Derived.Test.YtonlmamfggfanaaDoorEq
namespace Go.Proofs.YtonlmamfggfanaaDoor
open Go.Ty

/-! ## Sources of long seeds -/
noncomputable def R3c : CTab := (38, conNew [.v (.sl u8S)] srcS (fun xs => Nat.ble (List.length xs.1) 140737488355328) fun xs => srcN xs.1 0#64) :: (39, conMW srcS [.v i64S] (fun x xs => bytG x xs.1) bytF) :: (40, conM srcS [] (fun x _ => x) fun x _ => .ret (.av (.val u64S x.2.1))) :: (21, conA [.v (.sl u8S)] sumF) :: (41, conT [.sl u8S, .sl u8S] equalF) :: []
noncomputable abbrev R3 : Go.Ty.Cx := mkX Tryd.prog GL shA R3c
theorem R3_ok : ∀ p ∈ R3c, COK Tryd.prog GL p.1 p.2 := CCons dnew_ok (CCons dbytes_ok (CCons place_ok (CCons sum_ok (CCons equal_ok CNil))))
theorem fwDKeys (k : Sh.T (.sl u8S)) (n : Sh.T (i64S)) (P : SV → Prop) : FW R3 Tryd.f11.ntmps (LTab.look []) Tryd.f11 (argsOf [.sl u8S, i64S] (k, n, ())) P =
 (  dmd ((List.length k).ble 140737488355328)
    (ifB (decide (fitsE n = 0))
      (ifB (decide ((((List.length k) : Nat) : Int) ≤ 64))
        (P (SV.av (AV.val Sh.bool (decide ((((outB (srcN k 0#64) (Int.toNat n) (Int.toNat n)).length : Nat) : Int) = n)))))
        (dmd ((List.length k).ble 140737488355328)
          (dmd ((List.take 32 (List.drop 0 (digW k))).length.ble 140737488355328)
            (ifB (decide (fitsE n = 0))
              (P
                (SV.av
                  (AV.val Sh.bool
                    (teq (Sh.int IntKind.u8).sl
                      (List.take (outB (srcN k 0#64) (Int.toNat n) (Int.toNat n)).length
                        (List.drop 0 (outB (srcN k 0#64) (Int.toNat n) (Int.toNat n))))
                      (List.take
                        (outB (srcN (List.take 32 (List.drop 0 (digW k))) 0#64) (Int.toNat n) (Int.toNat n)).length
                        (List.drop 0
                          (outB (srcN (List.take 32 (List.drop 0 (digW k))) 0#64) (Int.toNat n) (Int.toNat n))))))))
              (ifB (decide (fitsE n = 0))
                (P
                  (SV.av
                    (AV.val Sh.bool
                      (teq (Sh.int IntKind.u8).sl
                        (List.take (outB (srcN k 0#64) (Int.toNat n) (Int.toNat n)).length
                          (List.drop 0 (outB (srcN k 0#64) (Int.toNat n) (Int.toNat n))))
                        []))))
                (P (SV.av (AV.val Sh.bool false))))))))
      (ifB (!decide (fitsE n = 0))
        (ifB (decide ((bytG (srcN k 0#64) n).2.1 = 0#64))
          (ifB (decide (n < 0)) (P (SV.av (AV.val Sh.bool true))) (P (SV.av (AV.val Sh.bool (decide (4096 < n))))))
          (P (SV.av (AV.val Sh.bool false))))
        (ifB (decide ((((List.length k) : Nat) : Int) ≤ 64)) (P (SV.av (AV.val Sh.bool (decide (0 = n)))))
          (dmd ((List.length k).ble 140737488355328)
            (dmd ((List.take 32 (List.drop 0 (digW k))).length.ble 140737488355328)
              (ifB (decide (fitsE n = 0))
                (P
                  (SV.av
                    (AV.val Sh.bool
                      (teq (Sh.int IntKind.u8).sl []
                        (List.take
                          (outB (srcN (List.take 32 (List.drop 0 (digW k))) 0#64) (Int.toNat n) (Int.toNat n)).length
                          (List.drop 0
                            (outB (srcN (List.take 32 (List.drop 0 (digW k))) 0#64) (Int.toNat n) (Int.toNat n))))))))
                (ifB (decide (fitsE n = 0)) (P (SV.av (AV.val Sh.bool true))) (P (SV.av (AV.val Sh.bool false))))))))))) := by kernel_rfl
theorem src_long {k : List (BitVec 8)} (h : 64 < k.length) : srcN (digW k) 0#64 = srcN k 0#64 := by
  have e1 : keyK k = digW k := by unfold keyK; exact cond_pos (decTr h)
  have e2 : keyK (digW k) = digW k := by unfold keyK; exact cond_neg (decFa (by rw [digW_len]; decide))
  unfold srcN newM
  rw [e1, e2]
theorem fits_no {n : Int} (h : fitsE n ≠ 0) : n < 0 ∨ 4096 < n := by
  by_cases a : n < 0
  · exact .inl a
  · by_cases b : 4096 < n
    · exact .inr b
    · exact absurd (by unfold fitsE; rw [cond_neg (decFa a), cond_neg (decFa b)]) h
theorem dkeys_fw (k : List (BitVec 8)) (n : Int) (hk : k.length ≤ 140737488355328) : FW R3 Tryd.f11.ntmps (LTab.look []) Tryd.f11 (argsOf [.sl u8S, i64S] (k, n, ())) (fun r => r = .av (.val .bool true)) := by
  have hk := bleT hk
  have e32 : List.take 32 (List.drop 0 (digW k)) = digW k := take_all (digW_len k).symm
  rw [fwDKeys, e32, digW_len]
  refine dmd_of hk (ifB_dec (fun a => ?_) (fun a => ?_))
  · obtain ⟨h1, h2⟩ := fits_0 a
    refine ifB_dec (fun _ => pbool (decTr ?_)) (fun b => dmd_of hk (dmd_of rfl (ifB_dec (fun _ => pbool (teq_of ?_)) (fun c => absurd a c))))
    · rw [outB_len]
      exact Int.toNat_of_nonneg h1
    · have b : 64 < k.length := by omega
      rw [src_long b]
  · refine ifB_neg (fun _ => ?_) (fun c => absurd c a)
    have e : bytG (srcN k 0#64) n = srcN k 0#64 := by unfold bytG; exact cond_neg (decFa a)
    rw [e]
    refine ifB_dec (fun _ => ifB_dec (fun _ => rfl) (fun c => pbool (decTr ?_))) (fun c => absurd (show (srcN k 0#64).2.1 = 0#64 from rfl) c)
    have c : ¬ n < (0 : Int) := c
    rcases fits_no a with h | h
    · exact absurd h c
    · exact h
theorem walkDrawKeys (xs : HL [.sl u8S, i64S]) (h : okHL [.sl u8S, i64S] xs) : PC (bx Tryd.prog GL) 11 (argsOf [.sl u8S, i64S] xs) (.av (.val .bool true)) := by
  have h1 : List.length xs.1 * 1 ≤ 140737488351232 := h.1.1
  exact PC_of_fw (t := []) shA_ok R3_ok mixed Tryd.func11 (c := Tryd.f11.body.getD .skip) rfl (by kernel_rfl) (by kernel_rfl) loopsNil rfl (dkeys_fw xs.1 xs.2.1 (by omega))
end Go.Proofs.YtonlmamfggfanaaDoor
