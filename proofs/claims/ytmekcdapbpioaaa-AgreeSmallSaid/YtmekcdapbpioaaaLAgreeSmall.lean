/- A proof that the given statement AgreeSmall holds: nobody agrees with one of the few whose eightfold is Zero, for all secrets and points. -/
import Derived.Test.YtmekcdapbpioaaaRows
import Derived.Test.YtmekcdapbpioaaaHk
import Derived.Test.YtmekcdapbpioaaaTyC
namespace Go.Proofs.Ytmekcdapbpioaaa.agreeSmall
open Go.ChangeShapes Go.WideShapes Go.ChangeAt Go.RowKit Go.Ty
theorem own : ownKnob Try.prog.godebug = none := by kernel_rfl
set_option maxRecDepth 100000 in
theorem lifted (os : Os) (started : os.Started) (H : Type) (enc : TypeId × Value → H) :
    ReturnsInHanded {} Try.checked os 15 .any (Rows.agreeSmallSpec.pre6 enc Try.prog Try.f15 Rows.agreeSmallRow.domain false) (Rows.agreeSmallSpec.post enc Try.prog Try.f15 false true false false) := by
  refine law_ty (C := Try.checked) own started (by kernel_rfl) Try.func15 (by kernel_rfl) (by kernel_rfl) (by kernel_rfl) (by decide +kernel) rfl rfl Try.underlying4 (fun ds h => ?_)
    (ChangeSpec.witness6 (enc := enc) (C := Try.checked) false ⟨#[], #[.agg #[.int .u8 0, .int .u8 0, .int .u8 0, .int .u8 0, .int .u8 0, .int .u8 0, .int .u8 0, .int .u8 0, .int .u8 0, .int .u8 0, .int .u8 0, .int .u8 0, .int .u8 0, .int .u8 0, .int .u8 0, .int .u8 0, .int .u8 0, .int .u8 0, .int .u8 0, .int .u8 0, .int .u8 0, .int .u8 0, .int .u8 0, .int .u8 0, .int .u8 0, .int .u8 0, .int .u8 0, .int .u8 0, .int .u8 0, .int .u8 0, .int .u8 0, .int .u8 0], .agg #[.int .u64 0, .int .u64 0, .int .u64 0, .int .u64 0, .int .u64 0, .int .u64 0, .int .u64 0, .int .u64 0]], []⟩ 64 (by kernel_rfl) (by kernel_rfl) (by kernel_rfl) (by kernel_rfl))
    [b32S, ptS] (by kernel_rfl) (walkASmall)
  match ds, h with
  | [d0, d1], _ => rfl

theorem over : Rows.agreeSmallRow.holds Try.pinned (OpenSpec.ofChange Rows.agreeSmallSpec) :=
  OpenClaim.holds_of_wide 15 Try.f15 rfl rfl rfl rfl rfl rfl rfl ⟨rfl, rfl, rfl, rfl, rfl⟩ rfl rfl rfl rfl rfl (by kernel_rfl) Try.func15 (by kernel_rfl)
    (of_decide_eq_true (by kernel_rfl)) (by unfold Func.isWrapper; first | (rw [if_pos (by decide +kernel)]; kernel_rfl) | (rw [if_neg (by decide +kernel)]; exact ⟨rfl, rfl⟩))
    (fun os started H enc _ => lifted os started H enc)

theorem proved : Rows.AgreeSmallSaid := over
#print axioms proved
end Go.Proofs.Ytmekcdapbpioaaa.agreeSmall
