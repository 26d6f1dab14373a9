import Derived.Test.YtghmfiandllpfaaDoorCards
import Derived.Test.YtghmfiandllpfaaDoorTie
import Derived.Test.YtghmfiandllpfaaDoorB0
import Derived.Test.YtghmfiandllpfaaDoorBk
import Derived.WalkKit
import Derived.ProofKit
import Derived.OpenShut
import Derived.Deep.DeepHandedRow
import Derived.Lib.LaidTab
namespace Go.Proofs.YtghmfiandllpfaaDoor
open Go.ChangeShapes Go.WideShapes Go.ChangeAt Go.RowKit Go.Ty

/-! ## The package's table -/
abbrev laidR {H : Type} : List (String × DataW H) := [("sealring/hash.primeRoots", Rows.laid_sealring_hash_primeRoots)]
def rootsI : List Int := rootsT.map fun x => ((x.toNat : Nat) : Int)
theorem gTab : Tryd.prog.globalNamed "sealring/hash.primeRoots" = some 0 := by kernel_rfl
theorem gTabType : (Tryd.prog.globals[0]?).map (·.type) = some 141 := by kernel_rfl
theorem cellsTabE : Tryd.prog.cellsOf 95 = 1 := by kernel_rfl
theorem cellsTab : Tryd.prog.cellsOf 141 = 64 := by kernel_rfl
theorem laidEq : (laidR : List (String × DataW Unit)) = [("sealring/hash.primeRoots", Lib.tabData .u32 rootsI)] := by kernel_rfl
theorem table {W : World} (h : laidMetH Tryd.prog laidR W) : Lib.TabIs Tryd.prog W "sealring/hash.primeRoots" .u32 rootsI := by
  rw [laidEq] at h
  exact Lib.tabIs_of_head (rest := []) gTab gTabType Tryd.underlying141 Tryd.underlying95 cellsTabE cellsTab h
theorem glob_in {W : World} (h : laidMetH Tryd.prog laidR W) : GlobIn GL W := by
  intro g s x hg
  have ht := table h
  unfold Lib.TabIs World.var? at ht
  rw [gTab] at ht
  unfold GL at hg
  cases hb : Nat.beq g 0 with
  | false => rw [hb] at hg; cases hg
  | true =>
    rw [hb] at hg
    have e := Nat.eq_of_beq_eq_true hb
    subst e
    cases hg
    simp only [Option.bind_some] at ht
    split at ht
    · rename_i cs t fr hh
      refine ⟨cs, t, fr, hh, ?_⟩
      have hc : cs = (rootsI.map fun z => Value.int .u32 z).toArray := Option.some.inj ht
      rw [hc]
      have : (rootsI.map fun z => Value.int .u32 z) = cellsOf (.arr 64 (.int .u32)) rootsT := by kernel_rfl
      exact this
    · cases ht
theorem own : ownKnob Tryd.prog.godebug = none := by kernel_rfl
/-- a world in which the table holds what its initialiser lays -/
noncomputable def laidWorld (os : Os) : World :=
  { World.holding Tryd.prog os ⟨#[], #[], []⟩ with heap := (World.holding Tryd.prog os ⟨#[], #[], []⟩).heap.modify 0 fun
      | .cells _ t frozen => .cells (rootsI.map fun z => Value.int .u32 z).toArray t frozen
      | o => o }
end Go.Proofs.YtghmfiandllpfaaDoor
