/- A proof that the given statement LadderNeg holds: a point and its Neg have one number, for all points. -/
import Derived.Test.YtgdplmfggebdfaaRows
import Derived.Test.YtgdplmfggebdfaaHe
import Derived.Test.YtgdplmfggebdfaaTyC
namespace Go.Proofs.Ytgdplmfggebdfaa.ladderNeg
open Go.ChangeShapes Go.WideShapes Go.ChangeAt Go.RowKit Go.Ty
theorem own : ownKnob Try.prog.godebug = none := by kernel_rfl
set_option maxRecDepth 100000 in
theorem lifted (os : Os) (started : os.Started) (H : Type) (enc : TypeId × Value → H) :
    ReturnsInHanded {} Try.checked os 12 .any (Rows.ladderNegSpec.pre6 enc Try.prog Try.f12 Rows.ladderNegRow.domain false) (Rows.ladderNegSpec.post enc Try.prog Try.f12 false true false false) := by
  refine law_ty (C := Try.checked) own started (by kernel_rfl) Try.func12 (by kernel_rfl) (by kernel_rfl) (by kernel_rfl) (by decide +kernel) rfl rfl Try.underlying4 (fun ds h => ?_)
    (ChangeSpec.witness6 (enc := enc) (C := Try.checked) false ⟨#[], #[.agg #[.int .u64 0, .int .u64 0, .int .u64 0, .int .u64 0, .int .u64 0, .int .u64 0, .int .u64 0, .int .u64 0]], []⟩ 64 (by kernel_rfl) (by kernel_rfl) (by kernel_rfl) (by kernel_rfl))
    [ptS] (by kernel_rfl) (walkLNeg)
  match ds, h with
  | [d0], _ => rfl

theorem over : Rows.ladderNegRow.holds Try.pinned (OpenSpec.ofChange Rows.ladderNegSpec) :=
  OpenClaim.holds_of_wide 12 Try.f12 rfl rfl rfl rfl rfl rfl rfl ⟨rfl, rfl, rfl, rfl, rfl⟩ rfl rfl rfl rfl rfl (by kernel_rfl) Try.func12 (by kernel_rfl)
    (of_decide_eq_true (by kernel_rfl)) (by unfold Func.isWrapper; first | (rw [if_pos (by decide +kernel)]; kernel_rfl) | (rw [if_neg (by decide +kernel)]; exact ⟨rfl, rfl⟩))
    (fun os started H enc _ => lifted os started H enc)

theorem proved : Rows.LadderNegSaid := over
#print axioms proved
end Go.Proofs.Ytgdplmfggebdfaa.ladderNeg
