import Derived.Test.YtghmfiandllpfaaDoorB0
import Derived.Test.YtghmfiandllpfaaDoorKf
namespace Go.Proofs.YtghmfiandllpfaaDoor.Lb
open Go.Ty
/-- 2^255 - 19 -/
noncomputable def PP : Nat := Classical.choose (⟨2 ^ 255 - 19, rfl⟩ : ∃ n : Nat, n = 2 ^ 255 - 19)
theorem PP_eq : PP = 2 ^ 255 - 19 := Classical.choose_spec (⟨2 ^ 255 - 19, rfl⟩ : ∃ n : Nat, n = 2 ^ 255 - 19)
noncomputable def f0 : CTab := (93, conA [.v u64S, .v u64S] mul64F) :: (68, conA [.v u64S, .v u64S, .v u64S] add64F) :: (52, conT [numS, numS] inverseF) :: ctB
theorem f0_ok : ∀ p ∈ f0, COK Tryd.prog GL p.1 p.2 := CCons mul64_ok (CCons add64_ok (CCons inverse_ok ctB_ok))
noncomputable abbrev F0 : Go.Ty.Cx := mkX Tryd.prog GL shU f0
theorem P_ok : COK Tryd.prog GL 99 (conT [] fun _ => .av (.val numS (wordsN 4 PP))) := by
  refine conT_ok (fun xs hw => ?_) (fun xs => rfl)
  obtain ⟨⟩ := xs
  refine PC_of_fw (t := []) shU_ok f0_ok mixed Tryd.func99 (c := Tryd.f99.body.getD .skip) rfl (by kernel_rfl) (by kernel_rfl) loopsNil rfl ?_
  have e : FW F0 Tryd.f99.ntmps (LTab.look []) Tryd.f99 (argsOf [] (())) (fun r' => r' = SV.av (.val numS (wordsN 4 PP))) =
    (SV.av (AV.val numS [18446744073709551597#64, 18446744073709551615#64, 18446744073709551615#64, 9223372036854775807#64]) = SV.av (.val numS (wordsN 4 PP))) := by kernel_rfl
  rw [show (PUnit.unit : HL []) = () from rfl, e, show wordsN 4 PP = [18446744073709551597#64, 18446744073709551615#64, 18446744073709551615#64, 9223372036854775807#64] by rw [PP_eq, wordsN_eq]; decide]
noncomputable def f1 : CTab := (99, conT [] fun _ => .av (.val numS (wordsN 4 PP))) :: f0
theorem f1_ok : ∀ p ∈ f1, COK Tryd.prog GL p.1 p.2 := CCons P_ok f0_ok
noncomputable abbrev F1 : Go.Ty.Cx := mkX Tryd.prog GL shU f1
theorem PP2 : 2 ^ 256 = 2 * PP + 38 := by rw [PP_eq] <;> decide
theorem PP_odd : PP % 2 = 1 := by rw [PP_eq] <;> decide
theorem PP_lt : PP < 2 ^ 255 := by rw [PP_eq] <;> decide
end Go.Proofs.YtghmfiandllpfaaDoor.Lb
