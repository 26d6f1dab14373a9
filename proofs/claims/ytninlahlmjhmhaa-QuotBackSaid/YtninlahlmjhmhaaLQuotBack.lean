/- QuotBack: what is left is below m, and with m as often as it is said it makes a; where m is 0, that is refused. For every a of 512 bits and every m of 256. -/
import Derived.Test.YtninlahlmjhmhaaRows
import Derived.Test.YtninlahlmjhmhaaQe
import Derived.Test.YtninlahlmjhmhaaTyC
namespace Go.Proofs.Ytninlahlmjhmhaa.quotBack
open Go.ChangeShapes Go.WideShapes Go.ChangeAt Go.RowKit Go.Ty
theorem own : ownKnob Try.prog.godebug = none := by kernel_rfl
set_option maxRecDepth 100000 in
theorem lifted (os : Os) (started : os.Started) (H : Type) (enc : TypeId × Value → H) :
    ReturnsInHanded {} Try.checked os 13 .any (Rows.quotBackSpec.pre6 enc Try.prog Try.f13 Rows.quotBackRow.domain false) (Rows.quotBackSpec.post enc Try.prog Try.f13 false true false false) := by
  refine law_ty (C := Try.checked) own started (by kernel_rfl) Try.func13 (by kernel_rfl) (by kernel_rfl) (by kernel_rfl) (by decide +kernel) rfl rfl Try.underlying4 (fun ds h => ?_)
    (ChangeSpec.witness6 (enc := enc) (C := Try.checked) false ⟨#[], #[.agg #[.int .u64 0, .int .u64 0, .int .u64 0, .int .u64 0, .int .u64 0, .int .u64 0, .int .u64 0, .int .u64 0], .agg #[.int .u64 0, .int .u64 0, .int .u64 0, .int .u64 0]], []⟩ 8 (by kernel_rfl) (by kernel_rfl) (by kernel_rfl) (by kernel_rfl))
    [wideS, numS] (by kernel_rfl) (walk13)
  match ds, h with
  | [d0, d1], _ => rfl

theorem over : Rows.quotBackRow.holds Try.pinned (OpenSpec.ofChange Rows.quotBackSpec) :=
  OpenClaim.holds_of_wide 13 Try.f13 rfl rfl rfl rfl rfl rfl rfl ⟨rfl, rfl, rfl, rfl, rfl⟩ rfl rfl rfl rfl rfl (by kernel_rfl) Try.func13 (by kernel_rfl)
    (of_decide_eq_true (by kernel_rfl)) (by unfold Func.isWrapper; first | (rw [if_pos (by decide +kernel)]; kernel_rfl) | (rw [if_neg (by decide +kernel)]; exact ⟨rfl, rfl⟩))
    (fun os started H enc _ => lifted os started H enc)

theorem proved : Rows.QuotBackSaid := over
#print axioms proved
end Go.Proofs.Ytninlahlmjhmhaa.quotBack
