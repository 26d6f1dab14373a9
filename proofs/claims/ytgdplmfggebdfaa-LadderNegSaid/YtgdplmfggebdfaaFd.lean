import Derived.Test.YtgdplmfggebdfaaFc
import Derived.Test.YtgdplmfggebdfaaFerP
namespace Go.Proofs.Ytgdplmfggebdfaa
open Go.Ty

theorem ferPP : Go.Fer.Fer PP := by rw [PP_eq]; exact Go.Fer.ferP
theorem fw3 (a : Sh.T (numS)) (b : Sh.T (numS)) (c : Sh.T (numS)) (P : SV → Prop) : FW F5 Try.f3.ntmps (LTab.look []) Try.f3 (argsOf [numS, numS, numS] (a, b, c, ())) P =
 (  ifB (decide (cmpI (valN (wordsN 4 (valN a % PP))) (valN (wordsN 4 PP)) < 0))
    (ifB (teq (Sh.arr 4 (Sh.int IntKind.u64)) (wordsN 4 ((valN a + valN b) % PP)) (wordsN 4 ((valN b + valN a) % PP)))
      (ifB
        (teq (Sh.arr 4 (Sh.int IntKind.u64)) (wordsN 4 ((valN (wordsN 4 ((valN a + valN b) % PP)) + valN c) % PP))
          (wordsN 4 ((valN a + valN (wordsN 4 ((valN b + valN c) % PP))) % PP)))
        (ifB (teq (Sh.arr 4 (Sh.int IntKind.u64)) (wordsN 4 (valN a * valN b % PP)) (wordsN 4 (valN b * valN a % PP)))
          (ifB
            (teq (Sh.arr 4 (Sh.int IntKind.u64)) (wordsN 4 (valN (wordsN 4 (valN a * valN b % PP)) * valN c % PP))
              (wordsN 4 (valN a * valN (wordsN 4 (valN b * valN c % PP)) % PP)))
            (ifB
              (teq (Sh.arr 4 (Sh.int IntKind.u64)) (wordsN 4 (valN a * valN (wordsN 4 ((valN b + valN c) % PP)) % PP))
                (wordsN 4 ((valN (wordsN 4 (valN a * valN b % PP)) + valN (wordsN 4 (valN a * valN c % PP))) % PP)))
              (ifB
                (teq (Sh.arr 4 (Sh.int IntKind.u64)) (wordsN 4 (valN a * valN [1#64, 0#64, 0#64, 0#64] % PP))
                  (wordsN 4 (valN a % PP)))
                (ifB
                  (teq (Sh.arr 4 (Sh.int IntKind.u64))
                    (wordsN 4 ((valN (wordsN 4 ((valN a % PP + PP - valN b % PP) % PP)) + valN b) % PP))
                    (wordsN 4 (valN a % PP)))
                  (P
                    (SV.av
                      (AV.val Sh.bool
                        (teq (Sh.arr 4 (Sh.int IntKind.u64)) (wordsN 4 ((valN a % PP + PP - valN a % PP) % PP))
                          [0#64, 0#64, 0#64, 0#64]))))
                  (P (SV.av (AV.val Sh.bool false))))
                (P (SV.av (AV.val Sh.bool false))))
              (P (SV.av (AV.val Sh.bool false))))
            (P (SV.av (AV.val Sh.bool false))))
          (P (SV.av (AV.val Sh.bool false))))
        (P (SV.av (AV.val Sh.bool false))))
      (P (SV.av (AV.val Sh.bool false))))
    (P (SV.av (AV.val Sh.bool false)))) := by kernel_rfl
theorem fw4 (a : Sh.T (numS)) (b : Sh.T (numS)) (P : SV → Prop) : FW F5 Try.f4.ntmps (LTab.look []) Try.f4 (argsOf [numS, numS] (a, b, ())) P =
 (  ifB (teq (Sh.arr 4 (Sh.int IntKind.u64)) (wordsN 4 (valN a % PP)) [0#64, 0#64, 0#64, 0#64])
    (P
      (SV.av
        (AV.val Sh.bool
          (teq (Sh.arr 4 (Sh.int IntKind.u64)) (wordsN 4 (powP (valN a) (PP - 2))) [0#64, 0#64, 0#64, 0#64]))))
    (ifB
      (teq (Sh.arr 4 (Sh.int IntKind.u64)) (wordsN 4 (valN a * valN (wordsN 4 (powP (valN a) (PP - 2))) % PP))
        [1#64, 0#64, 0#64, 0#64])
      (ifB
        (teq (Sh.arr 4 (Sh.int IntKind.u64)) (wordsN 4 (powP (valN (wordsN 4 (powP (valN a) (PP - 2)))) (PP - 2)))
          (wordsN 4 (valN a % PP)))
        (P
          (SV.av
            (AV.val Sh.bool
              (teq (Sh.arr 4 (Sh.int IntKind.u64)) (wordsN 4 (powP (valN (wordsN 4 (valN a * valN b % PP))) (PP - 2)))
                (wordsN 4 (valN (wordsN 4 (powP (valN a) (PP - 2))) * valN (wordsN 4 (powP (valN b) (PP - 2))) % PP))))))
        (P (SV.av (AV.val Sh.bool false))))
      (P (SV.av (AV.val Sh.bool false))))) := by kernel_rfl
theorem fw5 (a : Sh.T (numS)) (b : Sh.T (numS)) (P : SV → Prop) : FW F5 Try.f5.ntmps (LTab.look []) Try.f5 (argsOf [numS, numS] (a, b, ())) P =
 (  ifB (teq (Sh.arr 4 (Sh.int IntKind.u64)) (wordsN 4 (valN a % PP)) [0#64, 0#64, 0#64, 0#64])
    (P
      (SV.av
        (AV.val Sh.bool
          (teq Sh.bool (teq (Sh.arr 4 (Sh.int IntKind.u64)) (wordsN 4 (valN a * valN b % PP)) [0#64, 0#64, 0#64, 0#64])
            true))))
    (P
      (SV.av
        (AV.val Sh.bool
          (teq Sh.bool (teq (Sh.arr 4 (Sh.int IntKind.u64)) (wordsN 4 (valN a * valN b % PP)) [0#64, 0#64, 0#64, 0#64])
            (teq (Sh.arr 4 (Sh.int IntKind.u64)) (wordsN 4 (valN b % PP)) [0#64, 0#64, 0#64, 0#64])))))) := by kernel_rfl

theorem vlt (X : Nat) : X % PP < 2 ^ 256 := by have := PP_lt; have := Nat.mod_lt X PP_pos; omega
theorem vpw (A n : Nat) : valN (wordsN 4 (powP A n)) = powP A n := vp _
theorem powP_lt (A n : Nat) : powP A n < 2 ^ 256 := vlt _
theorem walk3 (xs : HL [numS, numS, numS]) (h : okHL [numS, numS, numS] xs) : PC (bx Try.prog noGl) 3 (argsOf [numS, numS, numS] xs) (.av (.val .bool true)) := by
  obtain ⟨a, b, c, ⟨⟩⟩ := xs
  refine PC_of_fw (t := []) shU_ok f5_ok mixed Try.func3 (c := Try.f3.body.getD .skip) rfl (by kernel_rfl) (by kernel_rfl) loopsNil rfl ?_
  have z1 : valN [1#64, 0#64, 0#64, 0#64] = 1 := rfl
  rw [show (PUnit.unit : HL []) = () from rfl, fw3]
  simp only [vp, PP_val, z1]
  have hz : (valN a % PP + PP - valN a % PP) % PP = 0 := by rw [Nat.add_sub_cancel_left, Nat.mod_self]
  rw [hz, teq_z (by omega)]
  refine ifB_of (fun _ => step_t (by rw [Nat.add_comm]) (step_t ?_ (step_t (by rw [Nat.mul_comm]) (step_t ?_ (step_t ?_ (step_t (by rw [Nat.mul_one]) (step_t ?_ rfl))))))) (fun h => ?_)
  · rw [Nat.mod_add_mod, Nat.add_mod_mod, Nat.add_assoc]
  · rw [Nat.mod_mul_mod, Nat.mul_mod_mod, Nat.mul_assoc]
  · rw [Nat.mul_mod_mod, Nat.mul_add, ← Nat.add_mod]
  · rw [sub_add_mod PP_pos]
  · rw [cmpI_lt (Nat.mod_lt _ PP_pos)] at h; exact absurd h (by decide)
theorem inv_mul {A : Nat} (h : A % PP ≠ 0) : A * powP A (PP - 2) % PP = 1 := by
  have hp := PP_1
  have h3 : 3 ≤ PP := by rw [PP_eq] <;> decide
  unfold powP
  rw [Nat.mul_mod_mod, Nat.mul_comm, ← Nat.pow_succ, show (PP - 2).succ = PP - 1 by omega]
  exact ferPP.2 A h
theorem walk4 (xs : HL [numS, numS]) (h : okHL [numS, numS] xs) : PC (bx Try.prog noGl) 4 (argsOf [numS, numS] xs) (.av (.val .bool true)) := by
  obtain ⟨a, b, ⟨⟩⟩ := xs
  refine PC_of_fw (t := []) shU_ok f5_ok mixed Try.func4 (c := Try.f4.body.getD .skip) rfl (by kernel_rfl) (by kernel_rfl) loopsNil rfl ?_
  rw [show (PUnit.unit : HL []) = () from rfl, fw4, vpw, vpw, vp, teq_z (vlt _), teq_z (powP_lt _ _), teq_one (vlt _)]
  have h3 : 3 ≤ PP := by rw [PP_eq] <;> decide
  refine ifB_of (fun h => ?_) (fun h => ?_)
  · have h := of_decide_eq_true h
    refine pbool (decide_eq_true ?_)
    unfold powP
    rw [Nat.pow_mod, h, Nat.zero_pow (by omega), Nat.zero_mod]
  · have h := of_decide_eq_false h
    have e := inv_mul h
    rw [e]
    refine ifB_of (fun _ => step_t ?_ (pbool (teq_of ?_))) (fun h => absurd h (by decide))
    · -- the inverse of the inverse
      have hx : powP (valN a) (PP - 2) % PP ≠ 0 := fun c => by
        rw [Nat.mul_mod, c, Nat.mul_zero, Nat.zero_mod] at e; cases e
      have e2 := inv_mul hx
      generalize powP (valN a) (PP - 2) = x at *
      have e3 : x * powP x (PP - 2) * valN a % PP = valN a % PP := by rw [Nat.mul_mod, e2, Nat.one_mul, Nat.mod_mod]
      have e4 : x * powP x (PP - 2) * valN a = powP x (PP - 2) * (valN a * x) := by grind
      rw [e4, Nat.mul_mod, e, Nat.mul_one, Nat.mod_mod] at e3
      rw [← e3]
      unfold powP
      rw [Nat.mod_mod]
    · unfold powP
      rw [← Nat.pow_mod, Nat.mul_pow, ← Nat.mul_mod]
theorem walk5 (xs : HL [numS, numS]) (h : okHL [numS, numS] xs) : PC (bx Try.prog noGl) 5 (argsOf [numS, numS] xs) (.av (.val .bool true)) := by
  obtain ⟨a, b, ⟨⟩⟩ := xs
  refine PC_of_fw (t := []) shU_ok f5_ok mixed Try.func5 (c := Try.f5.body.getD .skip) rfl (by kernel_rfl) (by kernel_rfl) loopsNil rfl ?_
  rw [show (PUnit.unit : HL []) = () from rfl, fw5, teq_z (vlt _), teq_z (vlt _), teq_z (vlt _)]
  refine ifB_of (fun h => ?_) (fun h => ?_)
  · have h := of_decide_eq_true h
    refine pbool (teq_of (s := .bool) (decide_eq_true ?_))
    rw [Nat.mul_mod, h, Nat.zero_mul, Nat.zero_mod]
  · have h := of_decide_eq_false h
    refine pbool (teq_of (s := .bool) ?_)
    by_cases hb : valN b % PP = 0
    · rw [decide_eq_true hb]
      exact decide_eq_true (by rw [Nat.mul_mod, hb, Nat.mul_zero, Nat.zero_mod])
    · rw [decide_eq_false hb]
      refine decide_eq_false fun e => ?_
      rcases ferPP.dvd_mul (Nat.dvd_of_mod_eq_zero e) with c | c
      · exact h (Nat.mod_eq_zero_of_dvd c)
      · exact hb (Nat.mod_eq_zero_of_dvd c)
end Go.Proofs.Ytgdplmfggebdfaa
