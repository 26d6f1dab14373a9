/- LimbBits: a number is the sum of its bits' powers of 2, and Len is where the last one stands; for every number of 256 bits. -/
import Derived.Test.YtninlahlmjhmhaaRows
import Derived.Test.YtninlahlmjhmhaaNd
import Derived.Test.YtninlahlmjhmhaaTyLaw
namespace Go.Proofs.Ytninlahlmjhmhaa.limbBits
open Go.ChangeShapes Go.WideShapes Go.ChangeAt Go.RowKit Go.Ty
theorem own : ownKnob Try.prog.godebug = none := by kernel_rfl
set_option maxRecDepth 100000 in
theorem lifted (os : Os) (started : os.Started) (H : Type) (enc : TypeId × Value → H) :
    ReturnsInHanded {} Try.checked os 9 .any (Rows.limbBitsSpec.pre6 enc Try.prog Try.f9 Rows.limbBitsRow.domain false) (Rows.limbBitsSpec.post enc Try.prog Try.f9 false true false false) := by
  refine law_ty (C := Try.checked) own started (by kernel_rfl) Try.func9 (by kernel_rfl) (by kernel_rfl) (by kernel_rfl) (by decide +kernel) rfl rfl Try.underlying4 (fun ds h => ?_)
    (ChangeSpec.witness6 (enc := enc) (C := Try.checked) false ⟨#[], #[.agg #[.int .u64 0, .int .u64 0, .int .u64 0, .int .u64 0]], []⟩ 8 (by kernel_rfl) (by kernel_rfl) (by kernel_rfl) (by kernel_rfl))
    [numS] (by kernel_rfl) (walk9)
  match ds, h with
  | [d0], _ => rfl

theorem over : Rows.limbBitsRow.holds Try.pinned (OpenSpec.ofChange Rows.limbBitsSpec) :=
  OpenClaim.holds_of_wide 9 Try.f9 rfl rfl rfl rfl rfl rfl rfl ⟨rfl, rfl, rfl, rfl, rfl⟩ rfl rfl rfl rfl rfl (by kernel_rfl) Try.func9 (by kernel_rfl)
    (of_decide_eq_true (by kernel_rfl)) (by unfold Func.isWrapper; first | (rw [if_pos (by decide +kernel)]; kernel_rfl) | (rw [if_neg (by decide +kernel)]; exact ⟨rfl, rfl⟩))
    (fun os started H enc _ => lifted os started H enc)

theorem proved : Rows.LimbBitsSaid := over
#print axioms proved
end Go.Proofs.Ytninlahlmjhmhaa.limbBits
