/- A proof that the given statement RingPowers holds: a power of a power is one of the product, as long as that fits. -/
import Derived.Test.YtninlahlmjhmhaaRows
import Derived.Test.YtninlahlmjhmhaaRg
import Derived.Test.YtninlahlmjhmhaaTyC
namespace Go.Proofs.Ytninlahlmjhmhaa.ringPowers
open Go.ChangeShapes Go.WideShapes Go.ChangeAt Go.RowKit Go.Ty
theorem own : ownKnob Try.prog.godebug = none := by kernel_rfl
set_option maxRecDepth 100000 in
theorem lifted (os : Os) (started : os.Started) (H : Type) (enc : TypeId × Value → H) :
    ReturnsInHanded {} Try.checked os 18 .any (Rows.ringPowersSpec.pre6 enc Try.prog Try.f18 Rows.ringPowersRow.domain false) (Rows.ringPowersSpec.post enc Try.prog Try.f18 false true false false) := by
  refine law_ty (C := Try.checked) own started (by kernel_rfl) Try.func18 (by kernel_rfl) (by kernel_rfl) (by kernel_rfl) (by decide +kernel) rfl rfl Try.underlying4 (fun ds h => ?_)
    (ChangeSpec.witness6 (enc := enc) (C := Try.checked) false ⟨#[], #[.agg #[.int .u64 0, .int .u64 0, .int .u64 0, .int .u64 0], .agg #[.int .u64 0, .int .u64 0, .int .u64 0, .int .u64 0], .agg #[.int .u64 0, .int .u64 0, .int .u64 0, .int .u64 0], .agg #[.int .u64 0, .int .u64 0, .int .u64 0, .int .u64 0]], []⟩ 8 (by kernel_rfl) (by kernel_rfl) (by kernel_rfl) (by kernel_rfl))
    [numS, numS, numS, numS] (by kernel_rfl) (walk18)
  match ds, h with
  | [d0, d1, d2, d3], _ => rfl

theorem over : Rows.ringPowersRow.holds Try.pinned (OpenSpec.ofChange Rows.ringPowersSpec) :=
  OpenClaim.holds_of_wide 18 Try.f18 rfl rfl rfl rfl rfl rfl rfl ⟨rfl, rfl, rfl, rfl, rfl⟩ rfl rfl rfl rfl rfl (by kernel_rfl) Try.func18 (by kernel_rfl)
    (of_decide_eq_true (by kernel_rfl)) (by unfold Func.isWrapper; first | (rw [if_pos (by decide +kernel)]; kernel_rfl) | (rw [if_neg (by decide +kernel)]; exact ⟨rfl, rfl⟩))
    (fun os started H enc _ => lifted os started H enc)

theorem proved : Rows.RingPowersSaid := over
#print axioms proved
end Go.Proofs.Ytninlahlmjhmhaa.ringPowers
