/- of two items' texts none is the beginning of the other -/
import Derived.Test.YtkookenoedbadaaRows
import Derived.Test.YtkookenoedbadaaDe
import Derived.Test.YtkookenoedbadaaTyC
namespace Go.Proofs.Ytkookenoedbadaa.derFront
open Go.ChangeShapes Go.WideShapes Go.ChangeAt Go.RowKit Go.Ty
theorem own : ownKnob Try.prog.godebug = none := by kernel_rfl
set_option maxRecDepth 100000 in
theorem lifted (os : Os) (started : os.Started) (H : Type) (enc : TypeId × Value → H) :
    ReturnsInHanded {} Try.checked os 6 .any (Rows.derFrontSpec.pre6 enc Try.prog Try.f6 Rows.derFrontRow.domain false) (Rows.derFrontSpec.post enc Try.prog Try.f6 false true false false) := by
  refine law_ty (C := Try.checked) own started (by kernel_rfl) Try.func6 (by kernel_rfl) (by kernel_rfl) (by kernel_rfl) (by decide +kernel) rfl rfl Try.underlying4 (fun ds h => ?_)
    (ChangeSpec.witness6 (enc := enc) (C := Try.checked) false ⟨#[], #[.agg #[.int .u8 0, .slice none 0 0], .agg #[.int .u8 0, .slice none 0 0]], []⟩ 64 (by kernel_rfl) (by kernel_rfl) (by kernel_rfl) (by kernel_rfl))
    [(.pair u8S (.pair (.sl u8S) .unit)), (.pair u8S (.pair (.sl u8S) .unit))] (by kernel_rfl) (walkDerFront)
  match ds, h with
  | [d0, d1], _ => rfl

theorem over : Rows.derFrontRow.holds Try.pinned (OpenSpec.ofChange Rows.derFrontSpec) :=
  OpenClaim.holds_of_wide 6 Try.f6 rfl rfl rfl rfl rfl rfl rfl ⟨rfl, rfl, rfl, rfl, rfl⟩ rfl rfl rfl rfl rfl (by kernel_rfl) Try.func6 (by kernel_rfl)
    (of_decide_eq_true (by kernel_rfl)) (by unfold Func.isWrapper; first | (rw [if_pos (by decide +kernel)]; kernel_rfl) | (rw [if_neg (by decide +kernel)]; exact ⟨rfl, rfl⟩))
    (fun os started H enc _ => lifted os started H enc)

theorem proved : Rows.DerFrontSaid := over
#print axioms proved
end Go.Proofs.Ytkookenoedbadaa.derFront

