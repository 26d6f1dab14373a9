import Derived.Test.YtndijgjdmookmaaDoorHn
namespace Go.Proofs.YtndijgjdmookmaaDoor
open Go.Ty

/-! ## Keys that are one -/
noncomputable def MKc : CTab := (30, conT [] fun _ => .av (.val .bool true)) :: M2c
noncomputable abbrev MK : Go.Ty.Cx := mkX Tryd.prog GL shA MKc
theorem MK_ok : ∀ p ∈ MKc, COK Tryd.prog GL p.1 p.2 := CCons macs_ok M2_ok
theorem fwMacKeys (k : Sh.T (.sl u8S)) (p : Sh.T (.sl u8S)) (n : Sh.T (i64S)) (P : SV → Prop) : FW MK Tryd.f7.ntmps (LTab.look []) Tryd.f7 (argsOf [.sl u8S, .sl u8S, i64S] (k, p, n, ())) P =
 (  ifB (decide (64 < (((List.length k) : Nat) : Int)))
    (dmd ((List.length k).ble 140737488355328)
      (dmd ((List.length k).ble 140737488355328)
        (dmd ((List.length p).ble 140737488355328)
          (dmd ((List.take 32 (List.drop 0 (digW k))).length.ble 140737488355328)
            (dmd ((List.length p).ble 140737488355328)
              (P
                (SV.av
                  (AV.val Sh.bool
                    (teq (Sh.arr 32 (Sh.int IntKind.u8)) (macW k p)
                      (macW (List.take 32 (List.drop 0 (digW k))) p))))))))))
    (ifB (decide (n < 0)) (P (SV.av (AV.val Sh.bool true)))
      (ifB (decide (IntKind.i64.wrap (64 - (((List.length k) : Nat) : Int)) < n)) (P (SV.av (AV.val Sh.bool true)))
        (ifB ((List.length k).beq 0)
          (dmd (decide (0 ≤ n) && (decide (n * 1 ≤ 140737488355328) && decide (n < 9223372036854775808)))
            (ifB ((List.replicate (Int.toNat n) 0#8).length.beq 0)
              (dmd ((List.length k).ble 140737488355328)
                (dmd ((List.length p).ble 140737488355328)
                  (dmd ((List.length p).ble 140737488355328)
                    (P (SV.av (AV.val Sh.bool (teq (Sh.arr 32 (Sh.int IntKind.u8)) (macW k p) (macW [] p))))))))
              (dmd (((List.replicate (Int.toNat n) 0#8).length * 1).ble 140737488355328)
                (dmd ((List.length k).ble 140737488355328)
                  (dmd ((List.length p).ble 140737488355328)
                    (dmd
                      ((List.take (List.replicate (Int.toNat n) 0#8).length
                              (List.drop 0 (List.replicate (Int.toNat n) 0#8))).length.ble
                        140737488355328)
                      (dmd ((List.length p).ble 140737488355328)
                        (P
                          (SV.av
                            (AV.val Sh.bool
                              (teq (Sh.arr 32 (Sh.int IntKind.u8)) (macW k p)
                                (macW
                                  (List.take (List.replicate (Int.toNat n) 0#8).length
                                    (List.drop 0 (List.replicate (Int.toNat n) 0#8)))
                                  p))))))))))))
          (dmd ((List.length k * 1).ble 140737488355328)
            (dmd (decide (0 ≤ n) && (decide (n * 1 ≤ 140737488355328) && decide (n < 9223372036854775808)))
              (dmd
                ((List.length k).beq (List.length k) &&
                  ((List.length k + (List.replicate (Int.toNat n) 0#8).length) * 1).ble 140737488355328)
                (dmd ((List.length k).ble 140737488355328)
                  (dmd ((List.length p).ble 140737488355328)
                    (dmd
                      ((List.take (List.length k + (List.replicate (Int.toNat n) 0#8).length)
                              (List.drop 0 (List.append k (List.replicate (Int.toNat n) 0#8)))).length.ble
                        140737488355328)
                      (dmd ((List.length p).ble 140737488355328)
                        (P
                          (SV.av
                            (AV.val Sh.bool
                              (teq (Sh.arr 32 (Sh.int IntKind.u8)) (macW k p)
                                (macW
                                  (List.take (List.length k + (List.replicate (Int.toNat n) 0#8).length)
                                    (List.drop 0 (List.append k (List.replicate (Int.toNat n) 0#8))))
                                  p)))))))))))))))) := by kernel_rfl
theorem mac_dig {k : List (BitVec 8)} (h : 64 < k.length) (p : List (BitVec 8)) : macW (digW k) p = macW k p := by
  have e1 : keyK k = digW k := by unfold keyK; rw [decTr h]; rfl
  have e2 : keyK (digW k) = digW k := by unfold keyK; rw [decFa (by rw [digW_len]; decide)]; rfl
  unfold macW newM
  rw [e1, e2]
theorem mac_zero {k : List (BitVec 8)} {n : Nat} (h : k.length + n ≤ 64) (p : List (BitVec 8)) : macW (k ++ List.replicate n 0#8) p = macW k p := by
  have e1 : keyK k = k := by unfold keyK; rw [decFa (by omega)]; rfl
  have e2 : keyK (k ++ List.replicate n 0#8) = k ++ List.replicate n 0#8 := by unfold keyK; rw [decFa (by rw [List.length_append, List.length_replicate]; omega)]; rfl
  have e3 : blkM (k ++ List.replicate n 0#8) = blkM k := by
    unfold blkM
    rw [List.length_append, List.length_replicate, List.append_assoc, List.replicate_append_replicate, show n + (64 - (k.length + n)) = 64 - k.length by omega]
  unfold macW newM
  rw [e1, e2, e3]
theorem macK_fw (k p : List (BitVec 8)) (n : Int) (hk : k.length ≤ 140737488355328) (hp : p.length ≤ 140737488355328) : FW MK Tryd.f7.ntmps (LTab.look []) Tryd.f7 (argsOf [.sl u8S, .sl u8S, i64S] (k, p, n, ())) (fun r => r = .av (.val .bool true)) := by
  rw [fwMacKeys]
  have bk := bleT hk
  have bp := bleT hp
  refine ifB_dec (fun a => ?_) (fun a => ifB_dec (fun _ => rfl) (fun b => ifB_dec (fun _ => rfl) (fun c => ?_)))
  · have e : List.take 32 (List.drop 0 (digW k)) = digW k := drop0_take _ _ (digW_len k).symm
    rw [e]
    exact dmd_of bk (dmd_of bk (dmd_of bp (dmd_of (bleT (by rw [digW_len]; decide)) (dmd_of bp (pbool (teq_of (mac_dig (by omega) p).symm))))))
  have a : ¬ (64 : Int) < ((k.length : Nat) : Int) := a
  have b : ¬ n < (0 : Int) := b
  have c : ¬ IntKind.i64.wrap (64 - ((k.length : Nat) : Int)) < n := c
  rw [IntWalk.i64_in _ (by omega)] at c
  obtain ⟨m, rfl⟩ := Int.eq_ofNat_of_zero_le (show 0 ≤ n by omega)
  have hm : k.length + m ≤ 64 := by omega
  have hz := mac_zero hm p
  rw [Int.toNat_natCast]
  have hd : (decide ((0 : Int) ≤ ((m : Nat) : Int)) && (decide (((m : Nat) : Int) * 1 ≤ 140737488355328) && decide (((m : Nat) : Int) < 9223372036854775808))) = true := andT (decTr (by omega)) (andT (decTr (by omega)) (decTr (by omega)))
  have e1 : List.take (List.replicate m 0#8).length (List.drop 0 (List.replicate m 0#8)) = List.replicate m 0#8 := drop0_take _ _ rfl
  have e2 : List.take (k.length + (List.replicate m 0#8).length) (List.drop 0 (List.append k (List.replicate m 0#8))) = k ++ List.replicate m 0#8 := drop0_take (k ++ List.replicate m 0#8) _ List.length_append.symm
  rw [e1, e2]
  refine ifB_of (fun d => dmd_of hd (ifB_of (fun f => dmd_of bk (dmd_of bp (dmd_of bp ?_))) (fun _ => ?_))) (fun _ => ?_)
  · have hk0 : k = [] := List.length_eq_zero_iff.1 (Nat.eq_of_beq_eq_true d)
    subst hk0
    exact pbool teq_self
  · have hk0 : k = [] := List.length_eq_zero_iff.1 (Nat.eq_of_beq_eq_true d)
    subst hk0
    have hz : macW (List.replicate m 0#8) p = macW [] p := hz
    exact dmd_of (bleT (by rw [List.length_replicate]; omega)) (dmd_of bk (dmd_of bp (dmd_of (bleT (by rw [List.length_replicate]; omega)) (dmd_of bp (pbool (teq_of hz.symm))))))
  · exact dmd_of (bleT (by omega)) (dmd_of hd (dmd_of (andT (Nat.beq_refl _) (bleT (by rw [List.length_replicate]; omega))) (dmd_of bk (dmd_of bp (dmd_of (bleT (by rw [List.length_append, List.length_replicate]; omega)) (dmd_of bp (pbool (teq_of hz.symm))))))))
theorem walkMacKeys (xs : HL [.sl u8S, .sl u8S, i64S]) (h : okHL [.sl u8S, .sl u8S, i64S] xs) : PC (bx Tryd.prog GL) 7 (argsOf [.sl u8S, .sl u8S, i64S] xs) (.av (.val .bool true)) := by
  obtain ⟨k, p, n, ⟨⟩⟩ := xs
  have h1 : List.length k * 1 ≤ 140737488351232 := h.1.1
  have h2 : List.length p * 1 ≤ 140737488351232 := h.2.1.1
  exact PC_of_fw (t := []) shA_ok MK_ok mixed Tryd.func7 (c := Tryd.f7.body.getD .skip) rfl (by kernel_rfl) (by kernel_rfl) loopsNil rfl (macK_fw k p n (by omega) (by omega))
end Go.Proofs.YtndijgjdmookmaaDoor
