import Derived.Test.YtehgaljcpbaplaaWA5
namespace Go.Proofs.Ytehgaljcpbaplaa
open Go.Ty

theorem keyE_ok {key : List (BitVec 8)} (h : okL key.length = true) : keyE key = 0 ∧ keyR key = ((key.length / 4 + 6 : Nat) : Int) ∧ (decide (1 ≤ keyR key) && decide (keyR key < 15)) = true := by
  have hl : key.length < 33 := by
    unfold okL at h
    rw [Bool.or_eq_true, Bool.or_eq_true, decide_eq_true_eq, decide_eq_true_eq, decide_eq_true_eq] at h
    omega
  have e1 : keyE key = 0 := by unfold keyE; rw [h]; rfl
  have e2 : keyR key = ((key.length / 4 + 6 : Nat) : Int) := by unfold keyR; rw [h]; rfl
  refine ⟨e1, e2, ?_⟩
  rw [e2, decide_eq_true (show (1 : Int) ≤ ((key.length / 4 + 6 : Nat) : Int) by omega), decide_eq_true (show ((key.length / 4 + 6 : Nat) : Int) < 15 by omega)]; rfl
theorem keyE_no {key : List (BitVec 8)} (h : okL key.length = false) : keyE key = 1 := by unfold keyE; rw [h]; rfl
theorem dec_encW {w : WW} {n : Int} {b : List (BitVec 8)} (h : b.length = 16) : decW w n (encW w n b) = b := Go.Gfn.dec_enc h
theorem enc_decW {w : WW} {n : Int} {b : List (BitVec 8)} (h : b.length = 16) : encW w n (decW w n b) = b := Go.Gfn.enc_dec h
theorem encW_len {w : WW} {n : Int} {b : List (BitVec 8)} (h : b.length = 16) : (encW w n b).length = 16 := Go.Gfn.enc_len h
theorem decW_len {w : WW} {n : Int} {b : List (BitVec 8)} (h : b.length = 16) : (decW w n b).length = 16 := Go.Gfn.dec_len h
theorem fwApart (key : Sh.T (.sl u8S)) (a : Sh.T (b16S)) (b : Sh.T (b16S)) (P : SV → Prop) : FW A8 Try.f5.ntmps (LTab.look []) Try.f5 (argsOf [.sl u8S, b16S, b16S] (key, a, b, ())) P =
 (  ifB (!decide (keyE key = 0)) (P (SV.av (AV.val Sh.bool true)))
    (dmd (decide (1 ≤ keyR key) && decide (keyR key < 15))
      (dmd (decide (1 ≤ keyR key) && decide (keyR key < 15))
        (P
          (SV.av
            (AV.val Sh.bool
              (teq Sh.bool
                (teq (Sh.arr 16 (Sh.int IntKind.u8)) (encW (keyW key) (keyR key) a) (encW (keyW key) (keyR key) b))
                (teq (Sh.arr 16 (Sh.int IntKind.u8)) a b)))))))) := by kernel_rfl
theorem walkApart (xs : HL [.sl u8S, b16S, b16S]) (h : okHL [.sl u8S, b16S, b16S] xs) : PC (bx Try.prog GL) 5 (argsOf [.sl u8S, b16S, b16S] xs) (.av (.val .bool true)) := by
  obtain ⟨key, a, b, ⟨⟩⟩ := xs
  have ha : List.length a = 16 := h.2.1.1
  have hb : List.length b = 16 := h.2.2.1.1
  refine PC_of_fw (t := []) shA_ok a8_ok mixed Try.func5 (c := Try.f5.body.getD .skip) rfl (by kernel_rfl) (by kernel_rfl) loopsNil rfl ?_
  rw [show (PUnit.unit : HL []) = () from rfl, fwApart]
  cases hk : okL (List.length key) with
  | false => rw [keyE_no hk]; exact ifB_of (fun _ => rfl) (fun h => absurd h (by decide))
  | true =>
    obtain ⟨k1, k2, k3⟩ := keyE_ok hk
    rw [k1]
    refine ifB_of (fun h => absurd h (by decide)) (fun _ => dmd_of k3 (dmd_of k3 (pbool (teq_of (s := .bool) ?_))))
    by_cases e : (a : List (BitVec 8)) = b
    · have e1 : teq b16S a b = true := teq_of e
      have e2 : teq b16S (encW (keyW key) (keyR key) a) (encW (keyW key) (keyR key) b) = true := teq_of (by rw [e])
      exact e2.trans e1.symm
    · have e1 : teq b16S a b = false := Bool.eq_false_iff.2 fun c => e (teq_iff.1 c)
      have e2 : teq b16S (encW (keyW key) (keyR key) a) (encW (keyW key) (keyR key) b) = false := Bool.eq_false_iff.2 fun c => e (by
        have c : encW (keyW key) (keyR key) a = encW (keyW key) (keyR key) b := teq_iff.1 c
        rw [← dec_encW (w := keyW key) (n := keyR key) ha, c, dec_encW hb])
      exact e2.trans e1.symm
theorem fwBack (key : Sh.T (.sl u8S)) (b : Sh.T (b16S)) (P : SV → Prop) : FW A8 Try.f6.ntmps (LTab.look []) Try.f6 (argsOf [.sl u8S, b16S] (key, b, ())) P =
 (  ifB (!decide (keyE key = 0))
    (ifB (!decide ((List.length key : Int) = 16))
      (ifB (!decide ((List.length key : Int) = 24)) (P (SV.av (AV.val Sh.bool !decide ((List.length key : Int) = 32))))
        (P (SV.av (AV.val Sh.bool false))))
      (P (SV.av (AV.val Sh.bool false))))
    (dmd (decide (1 ≤ keyR key) && decide (keyR key < 15))
      (dmd (decide (1 ≤ keyR key) && decide (keyR key < 15))
        (ifB (teq (Sh.arr 16 (Sh.int IntKind.u8)) (decW (keyW key) (keyR key) (encW (keyW key) (keyR key) b)) b)
          (dmd (decide (1 ≤ keyR key) && decide (keyR key < 15))
            (dmd (decide (1 ≤ keyR key) && decide (keyR key < 15))
              (P
                (SV.av
                  (AV.val Sh.bool
                    (teq (Sh.arr 16 (Sh.int IntKind.u8)) (encW (keyW key) (keyR key) (decW (keyW key) (keyR key) b))
                      b))))))
          (P (SV.av (AV.val Sh.bool false))))))) := by kernel_rfl
theorem walkBack (xs : HL [.sl u8S, b16S]) (h : okHL [.sl u8S, b16S] xs) : PC (bx Try.prog GL) 6 (argsOf [.sl u8S, b16S] xs) (.av (.val .bool true)) := by
  obtain ⟨key, b, ⟨⟩⟩ := xs
  have hb : List.length b = 16 := h.2.1.1
  refine PC_of_fw (t := []) shA_ok a8_ok mixed Try.func6 (c := Try.f6.body.getD .skip) rfl (by kernel_rfl) (by kernel_rfl) loopsNil rfl ?_
  rw [show (PUnit.unit : HL []) = () from rfl, fwBack]
  cases hk : okL (List.length key) with
  | false =>
    rw [keyE_no hk]
    unfold okL at hk
    rw [Bool.or_eq_false_iff, Bool.or_eq_false_iff, decide_eq_false_iff_not, decide_eq_false_iff_not, decide_eq_false_iff_not] at hk
    have n1 : decide ((List.length key : Int) = 16) = false := decide_eq_false (by omega)
    have n2 : decide ((List.length key : Int) = 24) = false := decide_eq_false (by omega)
    have n3 : decide ((List.length key : Int) = 32) = false := decide_eq_false (by omega)
    rw [n1, n2, n3]
    exact ifB_of (fun _ => ifB_of (fun _ => ifB_of (fun _ => rfl) (fun h => absurd h (by decide))) (fun h => absurd h (by decide))) (fun h => absurd h (by decide))
  | true =>
    obtain ⟨k1, k2, k3⟩ := keyE_ok hk
    rw [k1]
    refine ifB_of (fun h => absurd h (by decide)) (fun _ => dmd_of k3 (dmd_of k3 (step_t (s := b16S) (dec_encW hb) (dmd_of k3 (dmd_of k3 (pbool (teq_of (s := b16S) (enc_decW hb))))))))
end Go.Proofs.Ytehgaljcpbaplaa
