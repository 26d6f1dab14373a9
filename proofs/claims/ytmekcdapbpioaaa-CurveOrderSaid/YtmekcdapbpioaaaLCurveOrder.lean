/- A proof that the given statement CurveOrder holds: the base L times is Zero, and so is eight times L times any point, for all points and numbers. -/
import Derived.Test.YtmekcdapbpioaaaRows
import Derived.Test.YtmekcdapbpioaaaHg
import Derived.Test.YtmekcdapbpioaaaTyC
namespace Go.Proofs.Ytmekcdapbpioaaa.curveOrder
open Go.ChangeShapes Go.WideShapes Go.ChangeAt Go.RowKit Go.Ty
theorem own : ownKnob Try.prog.godebug = none := by kernel_rfl
set_option maxRecDepth 100000 in
theorem lifted (os : Os) (started : os.Started) (H : Type) (enc : TypeId × Value → H) :
    ReturnsInHanded {} Try.checked os 8 .any (Rows.curveOrderSpec.pre6 enc Try.prog Try.f8 Rows.curveOrderRow.domain false) (Rows.curveOrderSpec.post enc Try.prog Try.f8 false true false false) := by
  refine law_ty (C := Try.checked) own started (by kernel_rfl) Try.func8 (by kernel_rfl) (by kernel_rfl) (by kernel_rfl) (by decide +kernel) rfl rfl Try.underlying4 (fun ds h => ?_)
    (ChangeSpec.witness6 (enc := enc) (C := Try.checked) false ⟨#[], #[.agg #[.int .u64 0, .int .u64 0, .int .u64 0, .int .u64 0], .agg #[.int .u64 0, .int .u64 0, .int .u64 0, .int .u64 0, .int .u64 0, .int .u64 0, .int .u64 0, .int .u64 0]], []⟩ 64 (by kernel_rfl) (by kernel_rfl) (by kernel_rfl) (by kernel_rfl))
    [numS, ptS] (by kernel_rfl) (walkOrder)
  match ds, h with
  | [d0, d1], _ => rfl

theorem over : Rows.curveOrderRow.holds Try.pinned (OpenSpec.ofChange Rows.curveOrderSpec) :=
  OpenClaim.holds_of_wide 8 Try.f8 rfl rfl rfl rfl rfl rfl rfl ⟨rfl, rfl, rfl, rfl, rfl⟩ rfl rfl rfl rfl rfl (by kernel_rfl) Try.func8 (by kernel_rfl)
    (of_decide_eq_true (by kernel_rfl)) (by unfold Func.isWrapper; first | (rw [if_pos (by decide +kernel)]; kernel_rfl) | (rw [if_neg (by decide +kernel)]; exact ⟨rfl, rfl⟩))
    (fun os started H enc _ => lifted os started H enc)

theorem proved : Rows.CurveOrderSaid := over
#print axioms proved
end Go.Proofs.Ytmekcdapbpioaaa.curveOrder
