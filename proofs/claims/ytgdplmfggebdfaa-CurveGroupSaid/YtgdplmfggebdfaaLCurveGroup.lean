/- A proof that the given statement CurveGroup holds: the points are a commutative group, for all points. -/
import Derived.Test.YtgdplmfggebdfaaRows
import Derived.Test.YtgdplmfggebdfaaHe
import Derived.Test.YtgdplmfggebdfaaTyC
namespace Go.Proofs.Ytgdplmfggebdfaa.curveGroup
open Go.ChangeShapes Go.WideShapes Go.ChangeAt Go.RowKit Go.Ty
theorem own : ownKnob Try.prog.godebug = none := by kernel_rfl
set_option maxRecDepth 100000 in
theorem lifted (os : Os) (started : os.Started) (H : Type) (enc : TypeId × Value → H) :
    ReturnsInHanded {} Try.checked os 14 .any (Rows.curveGroupSpec.pre6 enc Try.prog Try.f14 Rows.curveGroupRow.domain false) (Rows.curveGroupSpec.post enc Try.prog Try.f14 false true false false) := by
  refine law_ty (C := Try.checked) own started (by kernel_rfl) Try.func14 (by kernel_rfl) (by kernel_rfl) (by kernel_rfl) (by decide +kernel) rfl rfl Try.underlying4 (fun ds h => ?_)
    (ChangeSpec.witness6 (enc := enc) (C := Try.checked) false ⟨#[], #[.agg #[.int .u64 0, .int .u64 0, .int .u64 0, .int .u64 0, .int .u64 0, .int .u64 0, .int .u64 0, .int .u64 0], .agg #[.int .u64 0, .int .u64 0, .int .u64 0, .int .u64 0, .int .u64 0, .int .u64 0, .int .u64 0, .int .u64 0], .agg #[.int .u64 0, .int .u64 0, .int .u64 0, .int .u64 0, .int .u64 0, .int .u64 0, .int .u64 0, .int .u64 0]], []⟩ 64 (by kernel_rfl) (by kernel_rfl) (by kernel_rfl) (by kernel_rfl))
    [ptS, ptS, ptS] (by kernel_rfl) (walkGroup)
  match ds, h with
  | [d0, d1, d2], _ => rfl

theorem over : Rows.curveGroupRow.holds Try.pinned (OpenSpec.ofChange Rows.curveGroupSpec) :=
  OpenClaim.holds_of_wide 14 Try.f14 rfl rfl rfl rfl rfl rfl rfl ⟨rfl, rfl, rfl, rfl, rfl⟩ rfl rfl rfl rfl rfl (by kernel_rfl) Try.func14 (by kernel_rfl)
    (of_decide_eq_true (by kernel_rfl)) (by unfold Func.isWrapper; first | (rw [if_pos (by decide +kernel)]; kernel_rfl) | (rw [if_neg (by decide +kernel)]; exact ⟨rfl, rfl⟩))
    (fun os started H enc _ => lifted os started H enc)

theorem proved : Rows.CurveGroupSaid := over
#print axioms proved
end Go.Proofs.Ytgdplmfggebdfaa.curveGroup
