/- what is cut behind an item is read as far as that -/
import Derived.Test.YtkookenoedbadaaRows
import Derived.Test.YtkookenoedbadaaDe
import Derived.Test.YtkookenoedbadaaTyC
namespace Go.Proofs.Ytkookenoedbadaa.derCuts
open Go.ChangeShapes Go.WideShapes Go.ChangeAt Go.RowKit Go.Ty
theorem own : ownKnob Try.prog.godebug = none := by kernel_rfl
set_option maxRecDepth 100000 in
theorem lifted (os : Os) (started : os.Started) (H : Type) (enc : TypeId × Value → H) :
    ReturnsInHanded {} Try.checked os 12 .any (Rows.derCutsSpec.pre6 enc Try.prog Try.f12 Rows.derCutsRow.domain false) (Rows.derCutsSpec.post enc Try.prog Try.f12 false true false false) := by
  refine law_ty (C := Try.checked) own started (by kernel_rfl) Try.func12 (by kernel_rfl) (by kernel_rfl) (by kernel_rfl) (by decide +kernel) rfl rfl Try.underlying4 (fun ds h => ?_)
    (ChangeSpec.witness6 (enc := enc) (C := Try.checked) false ⟨#[], #[.slice none 0 0, .int .i64 0], []⟩ 64 (by kernel_rfl) (by kernel_rfl) (by kernel_rfl) (by kernel_rfl))
    [.sl (.pair u8S (.pair (.sl u8S) .unit)), i64S] (by kernel_rfl) (walkDerCuts)
  match ds, h with
  | [d0, d1], _ => rfl

theorem over : Rows.derCutsRow.holds Try.pinned (OpenSpec.ofChange Rows.derCutsSpec) :=
  OpenClaim.holds_of_wide 12 Try.f12 rfl rfl rfl rfl rfl rfl rfl ⟨rfl, rfl, rfl, rfl, rfl⟩ rfl rfl rfl rfl rfl (by kernel_rfl) Try.func12 (by kernel_rfl)
    (of_decide_eq_true (by kernel_rfl)) (by unfold Func.isWrapper; first | (rw [if_pos (by decide +kernel)]; kernel_rfl) | (rw [if_neg (by decide +kernel)]; exact ⟨rfl, rfl⟩))
    (fun os started H enc _ => lifted os started H enc)

theorem proved : Rows.DerCutsSaid := over
#print axioms proved
end Go.Proofs.Ytkookenoedbadaa.derCuts

