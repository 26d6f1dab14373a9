/- A proof that the given statement FieldLaws holds: sums and products modulo 2^255 - 19 in any order, shared out, for all numbers. -/
import Derived.Test.YtmcjimcjkkplhaaRows
import Derived.Test.YtmcjimcjkkplhaaFd
import Derived.Test.YtmcjimcjkkplhaaTyC
namespace Go.Proofs.Ytmcjimcjkkplhaa.fieldLaws
open Go.ChangeShapes Go.WideShapes Go.ChangeAt Go.RowKit Go.Ty
theorem own : ownKnob Try.prog.godebug = none := by kernel_rfl
set_option maxRecDepth 100000 in
theorem lifted (os : Os) (started : os.Started) (H : Type) (enc : TypeId × Value → H) :
    ReturnsInHanded {} Try.checked os 3 .any (Rows.fieldLawsSpec.pre6 enc Try.prog Try.f3 Rows.fieldLawsRow.domain false) (Rows.fieldLawsSpec.post enc Try.prog Try.f3 false true false false) := by
  refine law_ty (C := Try.checked) own started (by kernel_rfl) Try.func3 (by kernel_rfl) (by kernel_rfl) (by kernel_rfl) (by decide +kernel) rfl rfl Try.underlying4 (fun ds h => ?_)
    (ChangeSpec.witness6 (enc := enc) (C := Try.checked) false ⟨#[], #[.agg #[.int .u64 0, .int .u64 0, .int .u64 0, .int .u64 0], .agg #[.int .u64 0, .int .u64 0, .int .u64 0, .int .u64 0], .agg #[.int .u64 0, .int .u64 0, .int .u64 0, .int .u64 0]], []⟩ 8 (by kernel_rfl) (by kernel_rfl) (by kernel_rfl) (by kernel_rfl))
    [numS, numS, numS] (by kernel_rfl) (walk3)
  match ds, h with
  | [d0, d1, d2], _ => rfl

theorem over : Rows.fieldLawsRow.holds Try.pinned (OpenSpec.ofChange Rows.fieldLawsSpec) :=
  OpenClaim.holds_of_wide 3 Try.f3 rfl rfl rfl rfl rfl rfl rfl ⟨rfl, rfl, rfl, rfl, rfl⟩ rfl rfl rfl rfl rfl (by kernel_rfl) Try.func3 (by kernel_rfl)
    (of_decide_eq_true (by kernel_rfl)) (by unfold Func.isWrapper; first | (rw [if_pos (by decide +kernel)]; kernel_rfl) | (rw [if_neg (by decide +kernel)]; exact ⟨rfl, rfl⟩))
    (fun os started H enc _ => lifted os started H enc)

theorem proved : Rows.FieldLawsSaid := over
#print axioms proved
end Go.Proofs.Ytmcjimcjkkplhaa.fieldLaws
