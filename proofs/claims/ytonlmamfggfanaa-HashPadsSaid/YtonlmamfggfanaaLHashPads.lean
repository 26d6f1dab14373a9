/- A proof that the given statement HashPads holds: a pad fills the last block, with a mark ahead, and no two texts become one by theirs, for all inputs. -/
import Derived.Test.YtonlmamfggfanaaRows
import Derived.Test.YtonlmamfggfanaaMt
import Derived.Test.YtonlmamfggfanaaTyC
namespace Go.Proofs.Ytonlmamfggfanaa.hashPads
open Go.ChangeShapes Go.WideShapes Go.ChangeAt Go.RowKit Go.Ty
theorem own : ownKnob Try.prog.godebug = none := by kernel_rfl
set_option maxRecDepth 100000 in
theorem lifted (os : Os) (started : os.Started) (H : Type) (enc : TypeId × Value → H) :
    ReturnsInHanded {} Try.checked os 4 .any (Rows.hashPadsSpec.pre6 enc Try.prog Try.f4 Rows.hashPadsRow.domain false) (Rows.hashPadsSpec.post enc Try.prog Try.f4 false true false false) := by
  refine law_ty (C := Try.checked) own started (by kernel_rfl) Try.func4 (by kernel_rfl) (by kernel_rfl) (by kernel_rfl) (by decide +kernel) rfl rfl Try.underlying4 (fun ds h => ?_)
    (ChangeSpec.witness6 (enc := enc) (C := Try.checked) false ⟨#[], #[.slice none 0 0, .slice none 0 0], []⟩ 64 (by kernel_rfl) (by kernel_rfl) (by kernel_rfl) (by kernel_rfl))
    [.sl u8S, .sl u8S] (by kernel_rfl) (walkHashPads)
  match ds, h with
  | [d0, d1], _ => rfl

theorem over : Rows.hashPadsRow.holds Try.pinned (OpenSpec.ofChange Rows.hashPadsSpec) :=
  OpenClaim.holds_of_wide 4 Try.f4 rfl rfl rfl rfl rfl rfl rfl ⟨rfl, rfl, rfl, rfl, rfl⟩ rfl rfl rfl rfl rfl (by kernel_rfl) Try.func4 (by kernel_rfl)
    (of_decide_eq_true (by kernel_rfl)) (by unfold Func.isWrapper; first | (rw [if_pos (by decide +kernel)]; kernel_rfl) | (rw [if_neg (by decide +kernel)]; exact ⟨rfl, rfl⟩))
    (fun os started H enc _ => lifted os started H enc)

theorem proved : Rows.HashPadsSaid := over
#print axioms proved
end Go.Proofs.Ytonlmamfggfanaa.hashPads

