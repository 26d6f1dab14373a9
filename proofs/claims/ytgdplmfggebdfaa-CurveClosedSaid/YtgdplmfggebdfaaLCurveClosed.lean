/- A proof that the given statement CurveClosed holds: the sum of any two points is a point, and so is each point as often as one likes, for all points and numbers. -/
import Derived.Test.YtgdplmfggebdfaaRows
import Derived.Test.YtgdplmfggebdfaaHe
import Derived.Test.YtgdplmfggebdfaaTyC
namespace Go.Proofs.Ytgdplmfggebdfaa.curveClosed
open Go.ChangeShapes Go.WideShapes Go.ChangeAt Go.RowKit Go.Ty
theorem own : ownKnob Try.prog.godebug = none := by kernel_rfl
set_option maxRecDepth 100000 in
theorem lifted (os : Os) (started : os.Started) (H : Type) (enc : TypeId × Value → H) :
    ReturnsInHanded {} Try.checked os 13 .any (Rows.curveClosedSpec.pre6 enc Try.prog Try.f13 Rows.curveClosedRow.domain false) (Rows.curveClosedSpec.post enc Try.prog Try.f13 false true false false) := by
  refine law_ty (C := Try.checked) own started (by kernel_rfl) Try.func13 (by kernel_rfl) (by kernel_rfl) (by kernel_rfl) (by decide +kernel) rfl rfl Try.underlying4 (fun ds h => ?_)
    (ChangeSpec.witness6 (enc := enc) (C := Try.checked) false ⟨#[], #[.agg #[.int .u64 0, .int .u64 0, .int .u64 0, .int .u64 0, .int .u64 0, .int .u64 0, .int .u64 0, .int .u64 0], .agg #[.int .u64 0, .int .u64 0, .int .u64 0, .int .u64 0, .int .u64 0, .int .u64 0, .int .u64 0, .int .u64 0], .agg #[.int .u64 0, .int .u64 0, .int .u64 0, .int .u64 0]], []⟩ 64 (by kernel_rfl) (by kernel_rfl) (by kernel_rfl) (by kernel_rfl))
    [ptS, ptS, numS] (by kernel_rfl) (walkClosed)
  match ds, h with
  | [d0, d1, d2], _ => rfl

theorem over : Rows.curveClosedRow.holds Try.pinned (OpenSpec.ofChange Rows.curveClosedSpec) :=
  OpenClaim.holds_of_wide 13 Try.f13 rfl rfl rfl rfl rfl rfl rfl ⟨rfl, rfl, rfl, rfl, rfl⟩ rfl rfl rfl rfl rfl (by kernel_rfl) Try.func13 (by kernel_rfl)
    (of_decide_eq_true (by kernel_rfl)) (by unfold Func.isWrapper; first | (rw [if_pos (by decide +kernel)]; kernel_rfl) | (rw [if_neg (by decide +kernel)]; exact ⟨rfl, rfl⟩))
    (fun os started H enc _ => lifted os started H enc)

theorem proved : Rows.CurveClosedSaid := over
#print axioms proved
end Go.Proofs.Ytgdplmfggebdfaa.curveClosed
