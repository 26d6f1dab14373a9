/- Bytes of numbers read as scalars. -/
import Derived.Test.YtlopooohfkgncaaRows
import Derived.Test.YtlopooohfkgncaaOs
import Derived.Test.YtlopooohfkgncaaTyC
namespace Go.Proofs.Ytlopooohfkgncaa.scalarBytes
open Go.ChangeShapes Go.WideShapes Go.ChangeAt Go.RowKit Go.Ty
theorem own : ownKnob Try.prog.godebug = none := by kernel_rfl
set_option maxRecDepth 100000 in
theorem lifted (os : Os) (started : os.Started) (H : Type) (enc : TypeId × Value → H) :
    ReturnsInHanded {} Try.checked os 4 .any (Rows.scalarBytesSpec.pre6 enc Try.prog Try.f4 Rows.scalarBytesRow.domain false) (Rows.scalarBytesSpec.post enc Try.prog Try.f4 false true false false) := by
  refine law_ty (C := Try.checked) own started (by kernel_rfl) Try.func4 (by kernel_rfl) (by kernel_rfl) (by kernel_rfl) (by decide +kernel) rfl rfl Try.underlying4 (fun ds h => ?_)
    (ChangeSpec.witness6 (enc := enc) (C := Try.checked) false ⟨#[], #[.agg #[.int .u64 0, .int .u64 0, .int .u64 0, .int .u64 0], .agg #[.int .u64 0, .int .u64 0, .int .u64 0, .int .u64 0], .int .i64 0], []⟩ 64 (by kernel_rfl) (by kernel_rfl) (by kernel_rfl) (by kernel_rfl))
    [numS, numS, i64S] (by kernel_rfl) (walkScalarBytes)
  match ds, h with
  | [d0, d1, d2], _ => rfl

theorem over : Rows.scalarBytesRow.holds Try.pinned (OpenSpec.ofChange Rows.scalarBytesSpec) :=
  OpenClaim.holds_of_wide 4 Try.f4 rfl rfl rfl rfl rfl rfl rfl ⟨rfl, rfl, rfl, rfl, rfl⟩ rfl rfl rfl rfl rfl (by kernel_rfl) Try.func4 (by kernel_rfl)
    (of_decide_eq_true (by kernel_rfl)) (by unfold Func.isWrapper; first | (rw [if_pos (by decide +kernel)]; kernel_rfl) | (rw [if_neg (by decide +kernel)]; exact ⟨rfl, rfl⟩))
    (fun os started H enc _ => lifted os started H enc)

theorem proved : Rows.ScalarBytesSaid := over
#print axioms proved
end Go.Proofs.Ytlopooohfkgncaa.scalarBytes

