/- A proof that the given statement FieldZero holds: of two that are not 0 the product is not 0, for all numbers. -/
import Derived.Test.YtmcjimcjkkplhaaRows
import Derived.Test.YtmcjimcjkkplhaaFd
import Derived.Test.YtmcjimcjkkplhaaTyC
namespace Go.Proofs.Ytmcjimcjkkplhaa.fieldZero
open Go.ChangeShapes Go.WideShapes Go.ChangeAt Go.RowKit Go.Ty
theorem own : ownKnob Try.prog.godebug = none := by kernel_rfl
set_option maxRecDepth 100000 in
theorem lifted (os : Os) (started : os.Started) (H : Type) (enc : TypeId × Value → H) :
    ReturnsInHanded {} Try.checked os 5 .any (Rows.fieldZeroSpec.pre6 enc Try.prog Try.f5 Rows.fieldZeroRow.domain false) (Rows.fieldZeroSpec.post enc Try.prog Try.f5 false true false false) := by
  refine law_ty (C := Try.checked) own started (by kernel_rfl) Try.func5 (by kernel_rfl) (by kernel_rfl) (by kernel_rfl) (by decide +kernel) rfl rfl Try.underlying4 (fun ds h => ?_)
    (ChangeSpec.witness6 (enc := enc) (C := Try.checked) false ⟨#[], #[.agg #[.int .u64 0, .int .u64 0, .int .u64 0, .int .u64 0], .agg #[.int .u64 0, .int .u64 0, .int .u64 0, .int .u64 0]], []⟩ 8 (by kernel_rfl) (by kernel_rfl) (by kernel_rfl) (by kernel_rfl))
    [numS, numS] (by kernel_rfl) (walk5)
  match ds, h with
  | [d0, d1], _ => rfl

theorem over : Rows.fieldZeroRow.holds Try.pinned (OpenSpec.ofChange Rows.fieldZeroSpec) :=
  OpenClaim.holds_of_wide 5 Try.f5 rfl rfl rfl rfl rfl rfl rfl ⟨rfl, rfl, rfl, rfl, rfl⟩ rfl rfl rfl rfl rfl (by kernel_rfl) Try.func5 (by kernel_rfl)
    (of_decide_eq_true (by kernel_rfl)) (by unfold Func.isWrapper; first | (rw [if_pos (by decide +kernel)]; kernel_rfl) | (rw [if_neg (by decide +kernel)]; exact ⟨rfl, rfl⟩))
    (fun os started H enc _ => lifted os started H enc)

theorem proved : Rows.FieldZeroSaid := over
#print axioms proved
end Go.Proofs.Ytmcjimcjkkplhaa.fieldZero
