/- A proof that the given statement AesBack holds: what was encrypted is decrypted as it was, and the other way round, for all keys and blocks. -/
import Derived.Test.YtehgaljcpbaplaaRows
import Derived.Test.YtehgaljcpbaplaaA6
import Derived.Test.YtehgaljcpbaplaaTyC
namespace Go.Proofs.Ytehgaljcpbaplaa.aesBack
open Go.ChangeShapes Go.WideShapes Go.ChangeAt Go.RowKit Go.Ty
theorem own : ownKnob Try.prog.godebug = none := by kernel_rfl
set_option maxRecDepth 100000 in
theorem lifted (os : Os) (started : os.Started) (H : Type) (enc : TypeId × Value → H) :
    ReturnsInHanded {} Try.checked os 6 .any (Rows.aesBackSpec.pre6 enc Try.prog Try.f6 Rows.aesBackRow.domain false) (Rows.aesBackSpec.post enc Try.prog Try.f6 false true false false) := by
  refine law_ty (C := Try.checked) own started (by kernel_rfl) Try.func6 (by kernel_rfl) (by kernel_rfl) (by kernel_rfl) (by decide +kernel) rfl rfl Try.underlying4 (fun ds h => ?_)
    (ChangeSpec.witness6 (enc := enc) (C := Try.checked) false ⟨#[], #[.slice none 0 0, .agg #[.int .u8 0, .int .u8 0, .int .u8 0, .int .u8 0, .int .u8 0, .int .u8 0, .int .u8 0, .int .u8 0, .int .u8 0, .int .u8 0, .int .u8 0, .int .u8 0, .int .u8 0, .int .u8 0, .int .u8 0, .int .u8 0]], []⟩ 64 (by kernel_rfl) (by kernel_rfl) (by kernel_rfl) (by kernel_rfl))
    [.sl u8S, b16S] (by kernel_rfl) (walkBack)
  match ds, h with
  | [d0, d1], _ => rfl

theorem over : Rows.aesBackRow.holds Try.pinned (OpenSpec.ofChange Rows.aesBackSpec) :=
  OpenClaim.holds_of_wide 6 Try.f6 rfl rfl rfl rfl rfl rfl rfl ⟨rfl, rfl, rfl, rfl, rfl⟩ rfl rfl rfl rfl rfl (by kernel_rfl) Try.func6 (by kernel_rfl)
    (of_decide_eq_true (by kernel_rfl)) (by unfold Func.isWrapper; first | (rw [if_pos (by decide +kernel)]; kernel_rfl) | (rw [if_neg (by decide +kernel)]; exact ⟨rfl, rfl⟩))
    (fun os started H enc _ => lifted os started H enc)

theorem proved : Rows.AesBackSaid := over
#print axioms proved
end Go.Proofs.Ytehgaljcpbaplaa.aesBack
