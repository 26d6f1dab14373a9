/- A proof that the given statement FieldEuler holds: Euler's law of the squares modulo 2^255 - 19, for all numbers. -/
import Derived.Test.YtmcjimcjkkplhaaRows
import Derived.Test.YtmcjimcjkkplhaaFh
import Derived.Test.YtmcjimcjkkplhaaTyC
namespace Go.Proofs.Ytmcjimcjkkplhaa.fieldEuler
open Go.ChangeShapes Go.WideShapes Go.ChangeAt Go.RowKit Go.Ty
theorem own : ownKnob Try.prog.godebug = none := by kernel_rfl
set_option maxRecDepth 100000 in
theorem lifted (os : Os) (started : os.Started) (H : Type) (enc : TypeId × Value → H) :
    ReturnsInHanded {} Try.checked os 7 .any (Rows.fieldEulerSpec.pre6 enc Try.prog Try.f7 Rows.fieldEulerRow.domain false) (Rows.fieldEulerSpec.post enc Try.prog Try.f7 false true false false) := by
  refine law_ty (C := Try.checked) own started (by kernel_rfl) Try.func7 (by kernel_rfl) (by kernel_rfl) (by kernel_rfl) (by decide +kernel) rfl rfl Try.underlying4 (fun ds h => ?_)
    (ChangeSpec.witness6 (enc := enc) (C := Try.checked) false ⟨#[], #[.agg #[.int .u64 0, .int .u64 0, .int .u64 0, .int .u64 0], .agg #[.int .u64 0, .int .u64 0, .int .u64 0, .int .u64 0]], []⟩ 8 (by kernel_rfl) (by kernel_rfl) (by kernel_rfl) (by kernel_rfl))
    [numS, numS] (by kernel_rfl) (walk7)
  match ds, h with
  | [d0, d1], _ => rfl

theorem over : Rows.fieldEulerRow.holds Try.pinned (OpenSpec.ofChange Rows.fieldEulerSpec) :=
  OpenClaim.holds_of_wide 7 Try.f7 rfl rfl rfl rfl rfl rfl rfl ⟨rfl, rfl, rfl, rfl, rfl⟩ rfl rfl rfl rfl rfl (by kernel_rfl) Try.func7 (by kernel_rfl)
    (of_decide_eq_true (by kernel_rfl)) (by unfold Func.isWrapper; first | (rw [if_pos (by decide +kernel)]; kernel_rfl) | (rw [if_neg (by decide +kernel)]; exact ⟨rfl, rfl⟩))
    (fun os started H enc _ => lifted os started H enc)

theorem proved : Rows.FieldEulerSaid := over
#print axioms proved
end Go.Proofs.Ytmcjimcjkkplhaa.fieldEuler
