/- A proof that the given statement ModeBlocks holds: a block of the stream is the encrypted number of it, for all keys and numbers. -/
import Derived.Test.YtehgaljcpbaplaaRows
import Derived.Test.YtehgaljcpbaplaaA8
import Derived.Test.YtehgaljcpbaplaaTyC
namespace Go.Proofs.Ytehgaljcpbaplaa.modeBlocks
open Go.ChangeShapes Go.WideShapes Go.ChangeAt Go.RowKit Go.Ty
theorem own : ownKnob Try.prog.godebug = none := by kernel_rfl
set_option maxRecDepth 100000 in
theorem lifted (os : Os) (started : os.Started) (H : Type) (enc : TypeId × Value → H) :
    ReturnsInHanded {} Try.checked os 9 .any (Rows.modeBlocksSpec.pre6 enc Try.prog Try.f9 Rows.modeBlocksRow.domain false) (Rows.modeBlocksSpec.post enc Try.prog Try.f9 false true false false) := by
  refine law_ty (C := Try.checked) own started (by kernel_rfl) Try.func9 (by kernel_rfl) (by kernel_rfl) (by kernel_rfl) (by decide +kernel) rfl rfl Try.underlying4 (fun ds h => ?_)
    (ChangeSpec.witness6 (enc := enc) (C := Try.checked) false ⟨#[], #[.slice none 0 0, .agg #[.int .u8 0, .int .u8 0, .int .u8 0, .int .u8 0, .int .u8 0, .int .u8 0, .int .u8 0, .int .u8 0, .int .u8 0, .int .u8 0, .int .u8 0, .int .u8 0, .int .u8 0, .int .u8 0, .int .u8 0, .int .u8 0], .int .u8 0], []⟩ 64 (by kernel_rfl) (by kernel_rfl) (by kernel_rfl) (by kernel_rfl))
    [.sl u8S, b16S, u8S] (by kernel_rfl) (walkBlocks)
  match ds, h with
  | [d0, d1, d2], _ => rfl

theorem over : Rows.modeBlocksRow.holds Try.pinned (OpenSpec.ofChange Rows.modeBlocksSpec) :=
  OpenClaim.holds_of_wide 9 Try.f9 rfl rfl rfl rfl rfl rfl rfl ⟨rfl, rfl, rfl, rfl, rfl⟩ rfl rfl rfl rfl rfl (by kernel_rfl) Try.func9 (by kernel_rfl)
    (of_decide_eq_true (by kernel_rfl)) (by unfold Func.isWrapper; first | (rw [if_pos (by decide +kernel)]; kernel_rfl) | (rw [if_neg (by decide +kernel)]; exact ⟨rfl, rfl⟩))
    (fun os started H enc _ => lifted os started H enc)

theorem proved : Rows.ModeBlocksSaid := over
#print axioms proved
end Go.Proofs.Ytehgaljcpbaplaa.modeBlocks
