import Derived.Test.YtmekcdapbpioaaaHd
namespace Go.Proofs.Ytmekcdapbpioaaa
open Go.Ty

noncomputable def s5 : CTab := (23, conT [] fun _ => .av (.val numS (wordsN 4 LL))) :: (56, conT [wideS] redF) :: (21, conT [numS] lowLF) :: (24, conT [numS, numS] addLF) :: (26, conT [numS] negLF) :: (25, conT [numS, numS] mulLF) :: g9
theorem s5_ok : ∀ p ∈ s5, COK Try.prog noGl p.1 p.2 := CCons L_ok (CCons red_ok (CCons lowL_ok (CCons addL_ok (CCons negL_ok (CCons mulL_ok g9_ok)))))
noncomputable abbrev S5 : Go.Ty.Cx := mkX Try.prog noGl shV s5
theorem fwScalars  (P : SV → Prop) : FW S5 Try.f40.ntmps (LTab.look []) Try.f40 (argsOf [] (())) P =
 (  P
    (SV.av
      (AV.val Sh.bool
        (teq (Sh.arr 4 (Sh.int IntKind.u64))
          (wordsN 4 ((valN [1#64, 0#64, 0#64, 0#64] + valN [2#64, 0#64, 0#64, 0#64]) % LL)) [3#64, 0#64, 0#64, 0#64])))) := by kernel_rfl
theorem scalars_ok : COK Try.prog noGl 40 (conT [] fun _ => .av (.val .bool true)) := by
  refine conT_ok (fun xs hw => ?_) (fun xs => rfl)
  obtain ⟨⟩ := xs
  refine PC_of_fw (t := []) shV_ok s5_ok mixed Try.func40 (c := Try.f40.body.getD .skip) rfl (by kernel_rfl) (by kernel_rfl) loopsNil rfl ?_
  rw [show (PUnit.unit : HL []) = () from rfl, fwScalars]
  refine pbool ?_
  have e : (valN [1#64, 0#64, 0#64, 0#64] + valN [2#64, 0#64, 0#64, 0#64]) % LL = 3 := by
    show 3 % LL = 3
    exact Nat.mod_eq_of_lt (by rw [LL_eq]; decide)
  rw [e, wordsN_eq]; decide
noncomputable def s6 : CTab := (40, conT [] fun _ => .av (.val .bool true)) :: s5
theorem s6_ok : ∀ p ∈ s6, COK Try.prog noGl p.1 p.2 := CCons scalars_ok s5_ok
noncomputable abbrev S6 : Go.Ty.Cx := mkX Try.prog noGl shV s6
end Go.Proofs.Ytmekcdapbpioaaa
