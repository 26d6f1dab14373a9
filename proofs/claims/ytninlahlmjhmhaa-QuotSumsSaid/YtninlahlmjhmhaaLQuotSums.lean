/- QuotSums: sums and products may be taken of what is left alone. For all numbers of 256 bits. -/
import Derived.Test.YtninlahlmjhmhaaRows
import Derived.Test.YtninlahlmjhmhaaQe
import Derived.Test.YtninlahlmjhmhaaTyC
namespace Go.Proofs.Ytninlahlmjhmhaa.quotSums
open Go.ChangeShapes Go.WideShapes Go.ChangeAt Go.RowKit Go.Ty
theorem own : ownKnob Try.prog.godebug = none := by kernel_rfl
set_option maxRecDepth 100000 in
theorem lifted (os : Os) (started : os.Started) (H : Type) (enc : TypeId × Value → H) :
    ReturnsInHanded {} Try.checked os 12 .any (Rows.quotSumsSpec.pre6 enc Try.prog Try.f12 Rows.quotSumsRow.domain false) (Rows.quotSumsSpec.post enc Try.prog Try.f12 false true false false) := by
  refine law_ty (C := Try.checked) own started (by kernel_rfl) Try.func12 (by kernel_rfl) (by kernel_rfl) (by kernel_rfl) (by decide +kernel) rfl rfl Try.underlying4 (fun ds h => ?_)
    (ChangeSpec.witness6 (enc := enc) (C := Try.checked) false ⟨#[], #[.agg #[.int .u64 0, .int .u64 0, .int .u64 0, .int .u64 0], .agg #[.int .u64 0, .int .u64 0, .int .u64 0, .int .u64 0], .agg #[.int .u64 0, .int .u64 0, .int .u64 0, .int .u64 0]], []⟩ 8 (by kernel_rfl) (by kernel_rfl) (by kernel_rfl) (by kernel_rfl))
    [numS, numS, numS] (by kernel_rfl) (walk12)
  match ds, h with
  | [d0, d1, d2], _ => rfl

theorem over : Rows.quotSumsRow.holds Try.pinned (OpenSpec.ofChange Rows.quotSumsSpec) :=
  OpenClaim.holds_of_wide 12 Try.f12 rfl rfl rfl rfl rfl rfl rfl ⟨rfl, rfl, rfl, rfl, rfl⟩ rfl rfl rfl rfl rfl (by kernel_rfl) Try.func12 (by kernel_rfl)
    (of_decide_eq_true (by kernel_rfl)) (by unfold Func.isWrapper; first | (rw [if_pos (by decide +kernel)]; kernel_rfl) | (rw [if_neg (by decide +kernel)]; exact ⟨rfl, rfl⟩))
    (fun os started H enc _ => lifted os started H enc)

theorem proved : Rows.QuotSumsSaid := over
#print axioms proved
end Go.Proofs.Ytninlahlmjhmhaa.quotSums
