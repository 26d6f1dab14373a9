/- ShareOrder answers true for every input: the order of shares is no matter; at its own place each is what it is. -/
import Derived.Test.YtlopooohfkgncaaRows
import Derived.Test.YtlopooohfkgncaaSo
import Derived.Test.YtlopooohfkgncaaTyC
namespace Go.Proofs.Ytlopooohfkgncaa.shareOrder
open Go.ChangeShapes Go.WideShapes Go.ChangeAt Go.RowKit Go.Ty
theorem own : ownKnob Try.prog.godebug = none := by kernel_rfl
set_option maxRecDepth 100000 in
theorem lifted (os : Os) (started : os.Started) (H : Type) (enc : TypeId × Value → H) :
    ReturnsInHanded {} Try.checked os 3 .any (Rows.shareOrderSpec.pre6 enc Try.prog Try.f3 Rows.shareOrderRow.domain false) (Rows.shareOrderSpec.post enc Try.prog Try.f3 false true false false) := by
  refine law_ty (C := Try.checked) own started (by kernel_rfl) Try.func3 (by kernel_rfl) (by kernel_rfl) (by kernel_rfl) (by decide +kernel) rfl rfl Try.underlying4 (fun ds h => ?_)
    (ChangeSpec.witness6 (enc := enc) (C := Try.checked) false ⟨#[], #[.slice none 0 0, .int .i64 0, .int .i64 0], []⟩ 64 (by kernel_rfl) (by kernel_rfl) (by kernel_rfl) (by kernel_rfl))
    [.sl (.pair i64S (.pair numS .unit)), i64S, i64S] (by kernel_rfl) (walkShareOrder)
  match ds, h with
  | [d0, d1, d2], _ => rfl

theorem over : Rows.shareOrderRow.holds Try.pinned (OpenSpec.ofChange Rows.shareOrderSpec) :=
  OpenClaim.holds_of_wide 3 Try.f3 rfl rfl rfl rfl rfl rfl rfl ⟨rfl, rfl, rfl, rfl, rfl⟩ rfl rfl rfl rfl rfl (by kernel_rfl) Try.func3 (by kernel_rfl)
    (of_decide_eq_true (by kernel_rfl)) (by unfold Func.isWrapper; first | (rw [if_pos (by decide +kernel)]; kernel_rfl) | (rw [if_neg (by decide +kernel)]; exact ⟨rfl, rfl⟩))
    (fun os started H enc _ => lifted os started H enc)

theorem proved : Rows.ShareOrderSaid := over
#print axioms proved
end Go.Proofs.Ytlopooohfkgncaa.shareOrder

