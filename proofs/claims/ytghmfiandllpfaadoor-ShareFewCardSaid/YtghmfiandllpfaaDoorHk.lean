import Derived.Test.YtghmfiandllpfaaDoorHt
namespace Go.Proofs.YtghmfiandllpfaaDoor
open Go.Ty

/-! ## Contracts of digests -/
noncomputable def H6c : CTab := (94, conA [.v (.sl u8S)] sumF) :: H5c
noncomputable abbrev H6 : Go.Ty.Cx := mkX Tryd.prog GL shA H6c
theorem H6_ok : ∀ p ∈ H6c, COK Tryd.prog GL p.1 p.2 := CCons sum_ok H5_ok
theorem take_all {l : List (BitVec 8)} {n : Nat} (h : n = l.length) : List.take n (List.drop 0 l) = l := drop0_take l n h
theorem not_true : (!true) = false := rfl
end Go.Proofs.YtghmfiandllpfaaDoor
