import Derived.Test.YtlopooohfkgncaaB0
import Derived.Test.YtlopooohfkgncaaFc
import Derived.Test.YtlopooohfkgncaaFerP
namespace Go.Proofs.Ytlopooohfkgncaa.Lb
open Go.Ty

theorem ferPP : Go.Fer.Fer PP := by rw [PP_eq]; exact Go.Fer.ferP
theorem fw4 (a : Sh.T (numS)) (b : Sh.T (numS)) (P : SV → Prop) : FW F5 Try.f5.ntmps (LTab.look []) Try.f5 (argsOf [numS, numS] (a, b, ())) P =
 (  ifB (teq (Sh.arr 4 (Sh.int IntKind.u64)) (wordsN 4 (valN a % PP)) [0#64, 0#64, 0#64, 0#64])
    (P
      (SV.av
        (AV.val Sh.bool
          (teq (Sh.arr 4 (Sh.int IntKind.u64)) (wordsN 4 (powP (valN a) (PP - 2))) [0#64, 0#64, 0#64, 0#64]))))
    (ifB
      (teq (Sh.arr 4 (Sh.int IntKind.u64)) (wordsN 4 (valN a * valN (wordsN 4 (powP (valN a) (PP - 2))) % PP))
        [1#64, 0#64, 0#64, 0#64])
      (ifB
        (teq (Sh.arr 4 (Sh.int IntKind.u64)) (wordsN 4 (powP (valN (wordsN 4 (powP (valN a) (PP - 2)))) (PP - 2)))
          (wordsN 4 (valN a % PP)))
        (P
          (SV.av
            (AV.val Sh.bool
              (teq (Sh.arr 4 (Sh.int IntKind.u64)) (wordsN 4 (powP (valN (wordsN 4 (valN a * valN b % PP))) (PP - 2)))
                (wordsN 4 (valN (wordsN 4 (powP (valN a) (PP - 2))) * valN (wordsN 4 (powP (valN b) (PP - 2))) % PP))))))
        (P (SV.av (AV.val Sh.bool false))))
      (P (SV.av (AV.val Sh.bool false))))) := by kernel_rfl
theorem vlt (X : Nat) : X % PP < 2 ^ 256 := by have := PP_lt; have := Nat.mod_lt X PP_pos; omega
theorem vpw (A n : Nat) : valN (wordsN 4 (powP A n)) = powP A n := vp _
theorem powP_lt (A n : Nat) : powP A n < 2 ^ 256 := vlt _
theorem inv_mul {A : Nat} (h : A % PP ≠ 0) : A * powP A (PP - 2) % PP = 1 := by
  have hp := PP_1
  have h3 : 3 ≤ PP := by rw [PP_eq] <;> decide
  unfold powP
  rw [Nat.mul_mod_mod, Nat.mul_comm, ← Nat.pow_succ, show (PP - 2).succ = PP - 1 by omega]
  exact ferPP.2 A h
theorem walk4 (xs : HL [numS, numS]) (h : okHL [numS, numS] xs) : PC (bx Try.prog GL) 5 (argsOf [numS, numS] xs) (.av (.val .bool true)) := by
  obtain ⟨a, b, ⟨⟩⟩ := xs
  refine PC_of_fw (t := []) shU_ok f5_ok mixed Try.func5 (c := Try.f5.body.getD .skip) rfl (by kernel_rfl) (by kernel_rfl) loopsNil rfl ?_
  rw [show (PUnit.unit : HL []) = () from rfl, fw4, vpw, vpw, vp, teq_z (vlt _), teq_z (powP_lt _ _), teq_one (vlt _)]
  have h3 : 3 ≤ PP := by rw [PP_eq] <;> decide
  refine ifB_of (fun h => ?_) (fun h => ?_)
  · have h := of_decide_eq_true h
    refine pbool (decide_eq_true ?_)
    unfold powP
    rw [Nat.pow_mod, h, Nat.zero_pow (by omega), Nat.zero_mod]
  · have h := of_decide_eq_false h
    have e := inv_mul h
    rw [e]
    refine ifB_of (fun _ => step_t ?_ (pbool (teq_of ?_))) (fun h => absurd h (by decide))
    · -- the inverse of the inverse
      have hx : powP (valN a) (PP - 2) % PP ≠ 0 := fun c => by
        rw [Nat.mul_mod, c, Nat.mul_zero, Nat.zero_mod] at e; cases e
      have e2 := inv_mul hx
      generalize powP (valN a) (PP - 2) = x at *
      have e3 : x * powP x (PP - 2) * valN a % PP = valN a % PP := by rw [Nat.mul_mod, e2, Nat.one_mul, Nat.mod_mod]
      have e4 : x * powP x (PP - 2) * valN a = powP x (PP - 2) * (valN a * x) := by grind
      rw [e4, Nat.mul_mod, e, Nat.mul_one, Nat.mod_mod] at e3
      rw [← e3]
      unfold powP
      rw [Nat.mod_mod]
    · unfold powP
      rw [← Nat.pow_mod, Nat.mul_pow, ← Nat.mul_mod]
end Go.Proofs.Ytlopooohfkgncaa.Lb
