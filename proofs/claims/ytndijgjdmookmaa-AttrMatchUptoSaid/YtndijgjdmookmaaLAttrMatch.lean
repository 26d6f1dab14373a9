/- AttrMatch answers true for every input up to the small size: who asks nothing is matched; who asks for two things, just if for each; what matches what matches matches. -/
import Derived.Test.YtndijgjdmookmaaRows
import Derived.Test.YtndijgjdmookmaaAt
import Derived.Test.YtndijgjdmookmaaBk
import Derived.Test.YtndijgjdmookmaaTyC
import Derived.JoinedCond
import Derived.Deep.CondSized
import Derived.Deep.DeepHandedRow
namespace Go.Proofs.Ytndijgjdmookmaa.attrMatch
open Go.ChangeShapes Go.WideShapes Go.ChangeAt Go.RowKit Go.Ty
theorem own : ownKnob Try.prog.godebug = none := by kernel_rfl
theorem params : ∀ t ∈ Try.f7.params.toList, Try.prog.readableRec t = true ∧ t < Try.prog.types.size := by decide +kernel
set_option maxRecDepth 100000 in
theorem lifted (os : Os) (started : os.Started) (H : Type) (enc : TypeId × Value → H) (F : Stop.Interp) :
    ReturnsInHanded {} Try.checked os 7 .any ((Rows.OpenSpec.upto Rows.attrMatchSpec).pre6 enc Try.prog Try.f7 Rows.attrMatchUptoRow.domain false) (((Rows.OpenSpec.upto Rows.attrMatchSpec).at F).post enc Try.prog Try.f7 false true false false) := by
  refine returnsInHanded_of_cond (C := Try.checked) (s := Rows.OpenSpec.upto Rows.attrMatchSpec) (k := Rows.uptoSmall) rfl own started (by kernel_rfl) Try.func7
    (OpenSpec.witness (enc := enc) (C := Try.checked) (s := Rows.OpenSpec.upto Rows.attrMatchSpec) (k := Rows.uptoSmall) rfl false ⟨#[], #[.slice none 0 0, .slice none 0 0, .slice none 0 0], []⟩ 64 (by kernel_rfl) (by kernel_rfl) (by kernel_rfl)
      (x := ([.nil, .nil, .nil], [], [])) (by kernel_rfl) rfl (by kernel_rfl)) ?_
  intro W base args ds gs before hval hW _ hk _
  exact law_calls (gl := GL) (C := Try.checked) (B := 17179869184) Try.func7 (by kernel_rfl) (by kernel_rfl) (by kernel_rfl) params rfl rfl Try.underlying4 (fun ds h => by
      match ds, h with
      | [d0, d1, d2], _ => rfl)
    [.sl (.pair i64S (.pair (.sl u8S) .unit)), .sl (.pair i64S (.pair (.sl u8S) .unit)), .sl (.pair i64S (.pair (.sl u8S) .unit))] (by kernel_rfl) (walkAttrMatch) W base args ds gs before hval hW globNo (fun e n hn => by subst e; rw [List.append_nil] at hk; exact upto_w hk (fun t ht => (params t ht).2) n hn)
theorem proved : Rows.AttrMatchUptoSaid :=
  OpenClaim.holds_of_cond 7 Try.f7 rfl rfl rfl rfl rfl rfl rfl ⟨rfl, rfl, rfl, rfl, rfl⟩ rfl rfl rfl rfl rfl (by kernel_rfl) Try.func7 (by kernel_rfl)
    (of_decide_eq_true (by kernel_rfl)) (by unfold Func.isWrapper; first | (rw [if_pos (by decide +kernel)]; kernel_rfl) | (rw [if_neg (by decide +kernel)]; exact ⟨rfl, rfl⟩))
    (fun os started H enc _ F => lifted os started H enc F)
#print axioms proved
end Go.Proofs.Ytndijgjdmookmaa.attrMatch
