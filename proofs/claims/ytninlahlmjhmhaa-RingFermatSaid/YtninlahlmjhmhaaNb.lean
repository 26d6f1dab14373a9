import Derived.Test.YtninlahlmjhmhaaNa
namespace Go.Proofs.Ytninlahlmjhmhaa
open Go.Ty
abbrev C9 := Go.Ab.AExit
/-! ## The types of this part -/
def shT : STab := [(3, i64S), (4, .bool), (5, u8S), (22, u64S), (24, numS), (28, .arr 32 u8S), (30, wideS), (65, u64S)]
theorem shT_ok : shT.all (fun (t, s) => shChk Try.prog s (.inl t)) = true := by kernel_rfl
def ct0 : CTab := [(21, conT [numS, numS] addF), (22, conT [numS, numS] subF), (29, conT [numS, numS] cmpF), (31, conT [numS, numS] mulF), (35, conT [numS, i64S] shiftF), (36, conT [numS] lenF)]
theorem ct0_ok : ∀ p ∈ ct0, COK Try.prog noGl p.1 p.2 := CCons add_ok (CCons sub_ok (CCons cmp_ok (CCons mul_ok (CCons shift_ok (CCons len_ok CNil)))))
noncomputable abbrev Y0 : Go.Ty.Cx := mkX Try.prog noGl shT ct0
end Go.Proofs.Ytninlahlmjhmhaa
