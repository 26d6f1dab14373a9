/- A proof that the given statement QuotBezout holds: an inverse is there just if nothing but 1 divides both, and the inverse of the inverse is the number again. -/
import Derived.Test.YtninlahlmjhmhaaRows
import Derived.Test.YtninlahlmjhmhaaQh
import Derived.Test.YtninlahlmjhmhaaTyC
namespace Go.Proofs.Ytninlahlmjhmhaa.quotBezout
open Go.ChangeShapes Go.WideShapes Go.ChangeAt Go.RowKit Go.Ty
theorem own : ownKnob Try.prog.godebug = none := by kernel_rfl
set_option maxRecDepth 100000 in
theorem lifted (os : Os) (started : os.Started) (H : Type) (enc : TypeId × Value → H) :
    ReturnsInHanded {} Try.checked os 15 .any (Rows.quotBezoutSpec.pre6 enc Try.prog Try.f15 Rows.quotBezoutRow.domain false) (Rows.quotBezoutSpec.post enc Try.prog Try.f15 false true false false) := by
  refine law_ty (C := Try.checked) own started (by kernel_rfl) Try.func15 (by kernel_rfl) (by kernel_rfl) (by kernel_rfl) (by decide +kernel) rfl rfl Try.underlying4 (fun ds h => ?_)
    (ChangeSpec.witness6 (enc := enc) (C := Try.checked) false ⟨#[], #[.agg #[.int .u64 0, .int .u64 0, .int .u64 0, .int .u64 0], .agg #[.int .u64 0, .int .u64 0, .int .u64 0, .int .u64 0]], []⟩ 8 (by kernel_rfl) (by kernel_rfl) (by kernel_rfl) (by kernel_rfl))
    [numS, numS] (by kernel_rfl) (walk15)
  match ds, h with
  | [d0, d1], _ => rfl

theorem over : Rows.quotBezoutRow.holds Try.pinned (OpenSpec.ofChange Rows.quotBezoutSpec) :=
  OpenClaim.holds_of_wide 15 Try.f15 rfl rfl rfl rfl rfl rfl rfl ⟨rfl, rfl, rfl, rfl, rfl⟩ rfl rfl rfl rfl rfl (by kernel_rfl) Try.func15 (by kernel_rfl)
    (of_decide_eq_true (by kernel_rfl)) (by unfold Func.isWrapper; first | (rw [if_pos (by decide +kernel)]; kernel_rfl) | (rw [if_neg (by decide +kernel)]; exact ⟨rfl, rfl⟩))
    (fun os started H enc _ => lifted os started H enc)

theorem proved : Rows.QuotBezoutSaid := over
#print axioms proved
end Go.Proofs.Ytninlahlmjhmhaa.quotBezout
