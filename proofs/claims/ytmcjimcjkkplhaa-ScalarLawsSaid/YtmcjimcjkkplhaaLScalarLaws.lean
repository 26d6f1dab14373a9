/- A proof that the given statement ScalarLaws holds: sums, products and inverses modulo the order of the base, for all numbers. -/
import Derived.Test.YtmcjimcjkkplhaaRows
import Derived.Test.YtmcjimcjkkplhaaSb
import Derived.Test.YtmcjimcjkkplhaaTyC
namespace Go.Proofs.Ytmcjimcjkkplhaa.scalarLaws
open Go.ChangeShapes Go.WideShapes Go.ChangeAt Go.RowKit Go.Ty
theorem own : ownKnob Try.prog.godebug = none := by kernel_rfl
set_option maxRecDepth 100000 in
theorem lifted (os : Os) (started : os.Started) (H : Type) (enc : TypeId × Value → H) :
    ReturnsInHanded {} Try.checked os 8 .any (Rows.scalarLawsSpec.pre6 enc Try.prog Try.f8 Rows.scalarLawsRow.domain false) (Rows.scalarLawsSpec.post enc Try.prog Try.f8 false true false false) := by
  refine law_ty (C := Try.checked) own started (by kernel_rfl) Try.func8 (by kernel_rfl) (by kernel_rfl) (by kernel_rfl) (by decide +kernel) rfl rfl Try.underlying4 (fun ds h => ?_)
    (ChangeSpec.witness6 (enc := enc) (C := Try.checked) false ⟨#[], #[.agg #[.int .u64 0, .int .u64 0, .int .u64 0, .int .u64 0], .agg #[.int .u64 0, .int .u64 0, .int .u64 0, .int .u64 0], .agg #[.int .u64 0, .int .u64 0, .int .u64 0, .int .u64 0]], []⟩ 8 (by kernel_rfl) (by kernel_rfl) (by kernel_rfl) (by kernel_rfl))
    [numS, numS, numS] (by kernel_rfl) (walk16)
  match ds, h with
  | [d0, d1, d2], _ => rfl

theorem over : Rows.scalarLawsRow.holds Try.pinned (OpenSpec.ofChange Rows.scalarLawsSpec) :=
  OpenClaim.holds_of_wide 8 Try.f8 rfl rfl rfl rfl rfl rfl rfl ⟨rfl, rfl, rfl, rfl, rfl⟩ rfl rfl rfl rfl rfl (by kernel_rfl) Try.func8 (by kernel_rfl)
    (of_decide_eq_true (by kernel_rfl)) (by unfold Func.isWrapper; first | (rw [if_pos (by decide +kernel)]; kernel_rfl) | (rw [if_neg (by decide +kernel)]; exact ⟨rfl, rfl⟩))
    (fun os started H enc _ => lifted os started H enc)

theorem proved : Rows.ScalarLawsSaid := over
#print axioms proved
end Go.Proofs.Ytmcjimcjkkplhaa.scalarLaws
