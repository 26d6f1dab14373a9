/- A proof that the given statement MacSame holds: same is what has all bytes alike, either way, for all inputs. -/
import Derived.Test.YtonlmamfggfanaaRows
import Derived.Test.YtonlmamfggfanaaMs
import Derived.Test.YtonlmamfggfanaaTyC
namespace Go.Proofs.Ytonlmamfggfanaa.macSame
open Go.ChangeShapes Go.WideShapes Go.ChangeAt Go.RowKit Go.Ty
theorem own : ownKnob Try.prog.godebug = none := by kernel_rfl
set_option maxRecDepth 100000 in
theorem lifted (os : Os) (started : os.Started) (H : Type) (enc : TypeId × Value → H) :
    ReturnsInHanded {} Try.checked os 3 .any (Rows.macSameSpec.pre6 enc Try.prog Try.f3 Rows.macSameRow.domain false) (Rows.macSameSpec.post enc Try.prog Try.f3 false true false false) := by
  refine law_ty (C := Try.checked) own started (by kernel_rfl) Try.func3 (by kernel_rfl) (by kernel_rfl) (by kernel_rfl) (by decide +kernel) rfl rfl Try.underlying4 (fun ds h => ?_)
    (ChangeSpec.witness6 (enc := enc) (C := Try.checked) false ⟨#[], #[.slice none 0 0, .slice none 0 0], []⟩ 64 (by kernel_rfl) (by kernel_rfl) (by kernel_rfl) (by kernel_rfl))
    [.sl u8S, .sl u8S] (by kernel_rfl) (walkMacSame)
  match ds, h with
  | [d0, d1], _ => rfl

theorem over : Rows.macSameRow.holds Try.pinned (OpenSpec.ofChange Rows.macSameSpec) :=
  OpenClaim.holds_of_wide 3 Try.f3 rfl rfl rfl rfl rfl rfl rfl ⟨rfl, rfl, rfl, rfl, rfl⟩ rfl rfl rfl rfl rfl (by kernel_rfl) Try.func3 (by kernel_rfl)
    (of_decide_eq_true (by kernel_rfl)) (by unfold Func.isWrapper; first | (rw [if_pos (by decide +kernel)]; kernel_rfl) | (rw [if_neg (by decide +kernel)]; exact ⟨rfl, rfl⟩))
    (fun os started H enc _ => lifted os started H enc)

theorem proved : Rows.MacSameSaid := over
#print axioms proved
end Go.Proofs.Ytonlmamfggfanaa.macSame

