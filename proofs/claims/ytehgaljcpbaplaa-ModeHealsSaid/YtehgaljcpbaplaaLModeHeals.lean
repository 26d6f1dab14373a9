/- A proof that the given statement ModeHeals holds: what is changed in a block of what was sealed spoils that block alone, and the next one just where it was changed, for all inputs. -/
import Derived.Test.YtehgaljcpbaplaaRows
import Derived.Test.YtehgaljcpbaplaaWMh
import Derived.Test.YtehgaljcpbaplaaTyC
namespace Go.Proofs.Ytehgaljcpbaplaa.modeHeals
open Go.ChangeShapes Go.WideShapes Go.ChangeAt Go.RowKit Go.Ty
theorem own : ownKnob Try.prog.godebug = none := by kernel_rfl
set_option maxRecDepth 100000 in
theorem lifted (os : Os) (started : os.Started) (H : Type) (enc : TypeId × Value → H) :
    ReturnsInHanded {} Try.checked os 11 .any (Rows.modeHealsSpec.pre6 enc Try.prog Try.f11 Rows.modeHealsRow.domain false) (Rows.modeHealsSpec.post enc Try.prog Try.f11 false true false false) := by
  refine law_ty (C := Try.checked) own started (by kernel_rfl) Try.func11 (by kernel_rfl) (by kernel_rfl) (by kernel_rfl) (by decide +kernel) rfl rfl Try.underlying4 (fun ds h => ?_)
    (ChangeSpec.witness6 (enc := enc) (C := Try.checked) false ⟨#[], #[.slice none 0 0, .agg #[.int .u8 0, .int .u8 0, .int .u8 0, .int .u8 0, .int .u8 0, .int .u8 0, .int .u8 0, .int .u8 0, .int .u8 0, .int .u8 0, .int .u8 0, .int .u8 0, .int .u8 0, .int .u8 0, .int .u8 0, .int .u8 0], .slice none 0 0, .int .i64 0, .int .u8 0], []⟩ 64 (by kernel_rfl) (by kernel_rfl) (by kernel_rfl) (by kernel_rfl))
    [.sl u8S, b16S, .sl u8S, i64S, u8S] (by kernel_rfl) (walkHeals)
  match ds, h with
  | [d0, d1, d2, d3, d4], _ => rfl

theorem over : Rows.modeHealsRow.holds Try.pinned (OpenSpec.ofChange Rows.modeHealsSpec) :=
  OpenClaim.holds_of_wide 11 Try.f11 rfl rfl rfl rfl rfl rfl rfl ⟨rfl, rfl, rfl, rfl, rfl⟩ rfl rfl rfl rfl rfl (by kernel_rfl) Try.func11 (by kernel_rfl)
    (of_decide_eq_true (by kernel_rfl)) (by unfold Func.isWrapper; first | (rw [if_pos (by decide +kernel)]; kernel_rfl) | (rw [if_neg (by decide +kernel)]; exact ⟨rfl, rfl⟩))
    (fun os started H enc _ => lifted os started H enc)

theorem proved : Rows.ModeHealsSaid := over
#print axioms proved
end Go.Proofs.Ytehgaljcpbaplaa.modeHeals

