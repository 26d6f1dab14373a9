/- what is read is written as just those bytes -/
import Derived.Test.YtkookenoedbadaaRows
import Derived.Test.YtkookenoedbadaaDe
import Derived.Test.YtkookenoedbadaaTyC
namespace Go.Proofs.Ytkookenoedbadaa.derOne
open Go.ChangeShapes Go.WideShapes Go.ChangeAt Go.RowKit Go.Ty
theorem own : ownKnob Try.prog.godebug = none := by kernel_rfl
set_option maxRecDepth 100000 in
theorem lifted (os : Os) (started : os.Started) (H : Type) (enc : TypeId × Value → H) :
    ReturnsInHanded {} Try.checked os 11 .any (Rows.derOneSpec.pre6 enc Try.prog Try.f11 Rows.derOneRow.domain false) (Rows.derOneSpec.post enc Try.prog Try.f11 false true false false) := by
  refine law_ty (C := Try.checked) own started (by kernel_rfl) Try.func11 (by kernel_rfl) (by kernel_rfl) (by kernel_rfl) (by decide +kernel) rfl rfl Try.underlying4 (fun ds h => ?_)
    (ChangeSpec.witness6 (enc := enc) (C := Try.checked) false ⟨#[], #[.slice none 0 0], []⟩ 64 (by kernel_rfl) (by kernel_rfl) (by kernel_rfl) (by kernel_rfl))
    [.sl u8S] (by kernel_rfl) (walkDerOne)
  match ds, h with
  | [d0], _ => rfl

theorem over : Rows.derOneRow.holds Try.pinned (OpenSpec.ofChange Rows.derOneSpec) :=
  OpenClaim.holds_of_wide 11 Try.f11 rfl rfl rfl rfl rfl rfl rfl ⟨rfl, rfl, rfl, rfl, rfl⟩ rfl rfl rfl rfl rfl (by kernel_rfl) Try.func11 (by kernel_rfl)
    (of_decide_eq_true (by kernel_rfl)) (by unfold Func.isWrapper; first | (rw [if_pos (by decide +kernel)]; kernel_rfl) | (rw [if_neg (by decide +kernel)]; exact ⟨rfl, rfl⟩))
    (fun os started H enc _ => lifted os started H enc)

theorem proved : Rows.DerOneSaid := over
#print axioms proved
end Go.Proofs.Ytkookenoedbadaa.derOne

