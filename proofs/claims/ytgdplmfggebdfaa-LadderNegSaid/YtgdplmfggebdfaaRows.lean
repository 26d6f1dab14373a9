/-
  No cell of these rows narrows 'for every input' (looked for: loops, veiled, ifaces, maps, wideKeys, modest, calm, conditions, laid).
  DERIVED. THE GIVEN ROWS OF THIS SEAT. 12 by the template 'for every input the law returns true; each argument reads behind the call as it read before'; 0 by the template 'total and deterministic' (their statements: YtgdplmfggebdfaaTotals.lean).
  GIVEN WITH THE SEED: the statements are not yours to turn. If you find one false, say at which input.
  Laid BY PROGRAM, IN A SANDBOX (cutbox-rows.mjs): the forced cells as the released guide's own fill.sh prints them over the translation 79465ae488b6546d… (all of the seat's roots in one cut). By AI agents, Wed Nov 11 2026. No macro, syntax, notation, axiom, sorry.
-/
import Derived.Test.YtgdplmfggebdfaaChecked
import GoSem.Claim
import GoSem.ClaimJoined
import GoSem.ClaimMapViews
import Derived.JoinedTies
import Derived.KernelRfl
namespace Go.Proofs.Ytgdplmfggebdfaa
/- THE CELL 'sum', in the pinned program and in every row, IS THE sha256 OF THE DUMP (.gsa) THAT YtgdplmfggebdfaaProg.lean LOADS. Nothing in Lean hashes anything: it is a label: what it is worth is what the hold of that sum in a sandbox is worth. -/
noncomputable def Try.pinned : Pinned := { name := "ytgdplmfggebdfaa", sum := "79465ae488b6546d5a5faa43487fe399f6ed6a5ebd65478d750b733cafbececd", checked := Try.checked }
namespace Rows
def none {H : Type} : Left H := { results := [], args := [] }

/-- 'sealringkeep.FieldLaws': WHATEVER THE INPUT: true; the input reads as it did. -/
def fieldLawsSpec : ChangeSpec := { name := "fieldLaws", fn := fun _ => fun
  | [d1, d2, d3] => { results := [.lit (.bool true)], args := [d1, d2, d3] }
  | _ => none }
def fieldLawsRow : OpenClaim := { program := "ytgdplmfggebdfaa", sum := "79465ae488b6546d5a5faa43487fe399f6ed6a5ebd65478d750b733cafbececd", func := "sealring/sealringkeep.FieldLaws", spec := "fieldLaws", inPlace := ["math/bits.Sub64", "math/bits.Add64"], apart := false }
def FieldLawsSaid : Prop := fieldLawsRow.holds Try.pinned (OpenSpec.ofChange fieldLawsSpec)

/-- ITS FALSE NEIGHBOUR: 'it returns false'. Refute it at one input. -/
def fieldLawsWrong : ChangeSpec := { name := "fieldLaws", fn := fun _ => fun
  | [d1, d2, d3] => { results := [.lit (.bool false)], args := [d1, d2, d3] }
  | _ => none }
def FieldLawsWrongFalsely : Prop := fieldLawsRow.holds Try.pinned (OpenSpec.ofChange fieldLawsWrong)

/-- 'sealringkeep.FieldInverse': WHATEVER THE INPUT: true; the input reads as it did. -/
def fieldInverseSpec : ChangeSpec := { name := "fieldInverse", fn := fun _ => fun
  | [d1, d2] => { results := [.lit (.bool true)], args := [d1, d2] }
  | _ => none }
def fieldInverseRow : OpenClaim := { program := "ytgdplmfggebdfaa", sum := "79465ae488b6546d5a5faa43487fe399f6ed6a5ebd65478d750b733cafbececd", func := "sealring/sealringkeep.FieldInverse", spec := "fieldInverse", inPlace := ["math/bits.Sub64", "math/bits.Add64"], apart := false }
def FieldInverseSaid : Prop := fieldInverseRow.holds Try.pinned (OpenSpec.ofChange fieldInverseSpec)

/-- ITS FALSE NEIGHBOUR: 'it returns false'. Refute it at one input. -/
def fieldInverseWrong : ChangeSpec := { name := "fieldInverse", fn := fun _ => fun
  | [d1, d2] => { results := [.lit (.bool false)], args := [d1, d2] }
  | _ => none }
def FieldInverseWrongFalsely : Prop := fieldInverseRow.holds Try.pinned (OpenSpec.ofChange fieldInverseWrong)

/-- 'sealringkeep.FieldZero': WHATEVER THE INPUT: true; the input reads as it did. -/
def fieldZeroSpec : ChangeSpec := { name := "fieldZero", fn := fun _ => fun
  | [d1, d2] => { results := [.lit (.bool true)], args := [d1, d2] }
  | _ => none }
def fieldZeroRow : OpenClaim := { program := "ytgdplmfggebdfaa", sum := "79465ae488b6546d5a5faa43487fe399f6ed6a5ebd65478d750b733cafbececd", func := "sealring/sealringkeep.FieldZero", spec := "fieldZero", inPlace := ["math/bits.Sub64", "math/bits.Add64"], apart := false }
def FieldZeroSaid : Prop := fieldZeroRow.holds Try.pinned (OpenSpec.ofChange fieldZeroSpec)

/-- ITS FALSE NEIGHBOUR: 'it returns false'. Refute it at one input. -/
def fieldZeroWrong : ChangeSpec := { name := "fieldZero", fn := fun _ => fun
  | [d1, d2] => { results := [.lit (.bool false)], args := [d1, d2] }
  | _ => none }
def FieldZeroWrongFalsely : Prop := fieldZeroRow.holds Try.pinned (OpenSpec.ofChange fieldZeroWrong)

/-- 'sealringkeep.FieldRoots': WHATEVER THE INPUT: true; the input reads as it did. -/
def fieldRootsSpec : ChangeSpec := { name := "fieldRoots", fn := fun _ => fun
  | [d] => { results := [.lit (.bool true)], args := [d] }
  | _ => none }
def fieldRootsRow : OpenClaim := { program := "ytgdplmfggebdfaa", sum := "79465ae488b6546d5a5faa43487fe399f6ed6a5ebd65478d750b733cafbececd", func := "sealring/sealringkeep.FieldRoots", spec := "fieldRoots", inPlace := ["math/bits.Add64", "math/bits.Sub64"], apart := false }
def FieldRootsSaid : Prop := fieldRootsRow.holds Try.pinned (OpenSpec.ofChange fieldRootsSpec)

/-- ITS FALSE NEIGHBOUR: 'it returns false'. Refute it at one input. -/
def fieldRootsWrong : ChangeSpec := { name := "fieldRoots", fn := fun _ => fun
  | [d] => { results := [.lit (.bool false)], args := [d] }
  | _ => none }
def FieldRootsWrongFalsely : Prop := fieldRootsRow.holds Try.pinned (OpenSpec.ofChange fieldRootsWrong)

/-- 'sealringkeep.FieldEuler': WHATEVER THE INPUT: true; the input reads as it did. -/
def fieldEulerSpec : ChangeSpec := { name := "fieldEuler", fn := fun _ => fun
  | [d1, d2] => { results := [.lit (.bool true)], args := [d1, d2] }
  | _ => none }
def fieldEulerRow : OpenClaim := { program := "ytgdplmfggebdfaa", sum := "79465ae488b6546d5a5faa43487fe399f6ed6a5ebd65478d750b733cafbececd", func := "sealring/sealringkeep.FieldEuler", spec := "fieldEuler", inPlace := ["math/bits.Sub64", "math/bits.Add64"], apart := false }
def FieldEulerSaid : Prop := fieldEulerRow.holds Try.pinned (OpenSpec.ofChange fieldEulerSpec)

/-- ITS FALSE NEIGHBOUR: 'it returns false'. Refute it at one input. -/
def fieldEulerWrong : ChangeSpec := { name := "fieldEuler", fn := fun _ => fun
  | [d1, d2] => { results := [.lit (.bool false)], args := [d1, d2] }
  | _ => none }
def FieldEulerWrongFalsely : Prop := fieldEulerRow.holds Try.pinned (OpenSpec.ofChange fieldEulerWrong)

/-- 'sealringkeep.ScalarLaws': WHATEVER THE INPUT: true; the input reads as it did. -/
def scalarLawsSpec : ChangeSpec := { name := "scalarLaws", fn := fun _ => fun
  | [d1, d2, d3] => { results := [.lit (.bool true)], args := [d1, d2, d3] }
  | _ => none }
def scalarLawsRow : OpenClaim := { program := "ytgdplmfggebdfaa", sum := "79465ae488b6546d5a5faa43487fe399f6ed6a5ebd65478d750b733cafbececd", func := "sealring/sealringkeep.ScalarLaws", spec := "scalarLaws", inPlace := ["math/bits.Sub64", "math/bits.Add64"], apart := false }
def ScalarLawsSaid : Prop := scalarLawsRow.holds Try.pinned (OpenSpec.ofChange scalarLawsSpec)

/-- ITS FALSE NEIGHBOUR: 'it returns false'. Refute it at one input. -/
def scalarLawsWrong : ChangeSpec := { name := "scalarLaws", fn := fun _ => fun
  | [d1, d2, d3] => { results := [.lit (.bool false)], args := [d1, d2, d3] }
  | _ => none }
def ScalarLawsWrongFalsely : Prop := scalarLawsRow.holds Try.pinned (OpenSpec.ofChange scalarLawsWrong)

/-- 'sealringkeep.CurveBack': WHATEVER THE INPUT: true; the input reads as it did. -/
def curveBackSpec : ChangeSpec := { name := "curveBack", fn := fun _ => fun
  | [d1, d2] => { results := [.lit (.bool true)], args := [d1, d2] }
  | _ => none }
def curveBackRow : OpenClaim := { program := "ytgdplmfggebdfaa", sum := "79465ae488b6546d5a5faa43487fe399f6ed6a5ebd65478d750b733cafbececd", func := "sealring/sealringkeep.CurveBack", spec := "curveBack", inPlace := ["math/bits.Sub64", "math/bits.Add64"], apart := false }
def CurveBackSaid : Prop := curveBackRow.holds Try.pinned (OpenSpec.ofChange curveBackSpec)

/-- ITS FALSE NEIGHBOUR: 'it returns false'. Refute it at one input. -/
def curveBackWrong : ChangeSpec := { name := "curveBack", fn := fun _ => fun
  | [d1, d2] => { results := [.lit (.bool false)], args := [d1, d2] }
  | _ => none }
def CurveBackWrongFalsely : Prop := curveBackRow.holds Try.pinned (OpenSpec.ofChange curveBackWrong)

/-- 'sealringkeep.CurveOne': WHATEVER THE INPUT: true; the input reads as it did. -/
def curveOneSpec : ChangeSpec := { name := "curveOne", fn := fun _ => fun
  | [d] => { results := [.lit (.bool true)], args := [d] }
  | _ => none }
def curveOneRow : OpenClaim := { program := "ytgdplmfggebdfaa", sum := "79465ae488b6546d5a5faa43487fe399f6ed6a5ebd65478d750b733cafbececd", func := "sealring/sealringkeep.CurveOne", spec := "curveOne", inPlace := ["math/bits.Add64", "math/bits.Sub64"], apart := false }
def CurveOneSaid : Prop := curveOneRow.holds Try.pinned (OpenSpec.ofChange curveOneSpec)

/-- ITS FALSE NEIGHBOUR: 'it returns false'. Refute it at one input. -/
def curveOneWrong : ChangeSpec := { name := "curveOne", fn := fun _ => fun
  | [d] => { results := [.lit (.bool false)], args := [d] }
  | _ => none }
def CurveOneWrongFalsely : Prop := curveOneRow.holds Try.pinned (OpenSpec.ofChange curveOneWrong)

/-- 'sealringkeep.CurveTwins': WHATEVER THE INPUT: true; the input reads as it did. -/
def curveTwinsSpec : ChangeSpec := { name := "curveTwins", fn := fun _ => fun
  | [d] => { results := [.lit (.bool true)], args := [d] }
  | _ => none }
def curveTwinsRow : OpenClaim := { program := "ytgdplmfggebdfaa", sum := "79465ae488b6546d5a5faa43487fe399f6ed6a5ebd65478d750b733cafbececd", func := "sealring/sealringkeep.CurveTwins", spec := "curveTwins", inPlace := ["math/bits.Add64", "math/bits.Sub64"], apart := false }
def CurveTwinsSaid : Prop := curveTwinsRow.holds Try.pinned (OpenSpec.ofChange curveTwinsSpec)

/-- ITS FALSE NEIGHBOUR: 'it returns false'. Refute it at one input. -/
def curveTwinsWrong : ChangeSpec := { name := "curveTwins", fn := fun _ => fun
  | [d] => { results := [.lit (.bool false)], args := [d] }
  | _ => none }
def CurveTwinsWrongFalsely : Prop := curveTwinsRow.holds Try.pinned (OpenSpec.ofChange curveTwinsWrong)

/-- 'sealringkeep.LadderNeg': WHATEVER THE INPUT: true; the input reads as it did. -/
def ladderNegSpec : ChangeSpec := { name := "ladderNeg", fn := fun _ => fun
  | [d] => { results := [.lit (.bool true)], args := [d] }
  | _ => none }
def ladderNegRow : OpenClaim := { program := "ytgdplmfggebdfaa", sum := "79465ae488b6546d5a5faa43487fe399f6ed6a5ebd65478d750b733cafbececd", func := "sealring/sealringkeep.LadderNeg", spec := "ladderNeg", inPlace := ["math/bits.Sub64", "math/bits.Add64"], apart := false }
def LadderNegSaid : Prop := ladderNegRow.holds Try.pinned (OpenSpec.ofChange ladderNegSpec)

/-- ITS FALSE NEIGHBOUR: 'it returns false'. Refute it at one input. -/
def ladderNegWrong : ChangeSpec := { name := "ladderNeg", fn := fun _ => fun
  | [d] => { results := [.lit (.bool false)], args := [d] }
  | _ => none }
def LadderNegWrongFalsely : Prop := ladderNegRow.holds Try.pinned (OpenSpec.ofChange ladderNegWrong)

/-- 'sealringkeep.CurveClosed': WHATEVER THE INPUT: true; the input reads as it did. -/
def curveClosedSpec : ChangeSpec := { name := "curveClosed", fn := fun _ => fun
  | [d1, d2, d3] => { results := [.lit (.bool true)], args := [d1, d2, d3] }
  | _ => none }
def curveClosedRow : OpenClaim := { program := "ytgdplmfggebdfaa", sum := "79465ae488b6546d5a5faa43487fe399f6ed6a5ebd65478d750b733cafbececd", func := "sealring/sealringkeep.CurveClosed", spec := "curveClosed", inPlace := ["math/bits.Sub64", "math/bits.Add64"], apart := false }
def CurveClosedSaid : Prop := curveClosedRow.holds Try.pinned (OpenSpec.ofChange curveClosedSpec)

/-- ITS FALSE NEIGHBOUR: 'it returns false'. Refute it at one input. -/
def curveClosedWrong : ChangeSpec := { name := "curveClosed", fn := fun _ => fun
  | [d1, d2, d3] => { results := [.lit (.bool false)], args := [d1, d2, d3] }
  | _ => none }
def CurveClosedWrongFalsely : Prop := curveClosedRow.holds Try.pinned (OpenSpec.ofChange curveClosedWrong)

/-- 'sealringkeep.CurveGroup': WHATEVER THE INPUT: true; the input reads as it did. -/
def curveGroupSpec : ChangeSpec := { name := "curveGroup", fn := fun _ => fun
  | [d1, d2, d3] => { results := [.lit (.bool true)], args := [d1, d2, d3] }
  | _ => none }
def curveGroupRow : OpenClaim := { program := "ytgdplmfggebdfaa", sum := "79465ae488b6546d5a5faa43487fe399f6ed6a5ebd65478d750b733cafbececd", func := "sealring/sealringkeep.CurveGroup", spec := "curveGroup", inPlace := ["math/bits.Sub64", "math/bits.Add64"], apart := false }
def CurveGroupSaid : Prop := curveGroupRow.holds Try.pinned (OpenSpec.ofChange curveGroupSpec)

/-- ITS FALSE NEIGHBOUR: 'it returns false'. Refute it at one input. -/
def curveGroupWrong : ChangeSpec := { name := "curveGroup", fn := fun _ => fun
  | [d1, d2, d3] => { results := [.lit (.bool false)], args := [d1, d2, d3] }
  | _ => none }
def CurveGroupWrongFalsely : Prop := curveGroupRow.holds Try.pinned (OpenSpec.ofChange curveGroupWrong)

/- THE SECOND FORM. 'bulk': how many values and letters a reading holds, each counted each time it is reached (what is shared counts as often as it is met; a slice's spare places count too). A statement '..UptoSaid' is the law's where the arguments, and the package variables that the reading takes, are together of bulk at most 1048576: NARROWER than '..Said'. Prove '..Said' where nothing that the law and all that it calls make is longer than what came in: it says more and counts as full. Else prove '..UptoSaid'. A law counts once. -/
mutual
def uptoBulk {H : Type} : DataW H → Nat
  | .lit (.string bytes) => bytes.length + 1
  | .lit _ => 1
  | .nil => 1
  | .ptr d => uptoBulk d + 1
  | .slice elems spare => uptoBulkAll elems + uptoBulkAll spare + 1
  | .agg parts => uptoBulkAll parts + 1
  | .iface _ d => uptoBulk d + 1
  | .map entries => uptoBulkEntries entries + 1
  | .held _ => 1
def uptoBulkAll {H : Type} : List (DataW H) → Nat
  | [] => 0
  | d :: r => uptoBulk d + uptoBulkAll r
def uptoBulkEntries {H : Type} : List (Lit × DataW H) → Nat
  | [] => 0
  | x :: r => uptoBulkEntry x + uptoBulkEntries r
def uptoBulkEntry {H : Type} : Lit × DataW H → Nat
  | (.string bytes, d) => bytes.length + uptoBulk d + 1
  | (_, d) => uptoBulk d + 1
 end
def uptoSmall : (H : Type) → List (DataW H) → Bool := fun _ ds => decide (uptoBulkAll ds ≤ 1048576)
def OpenSpec.upto (s : _root_.Go.ChangeSpec) : _root_.Go.OpenSpec := { _root_.Go.OpenSpec.ofChange s with cond := some uptoSmall }

/-- 'sealringkeep.FieldLaws', WHERE WHAT IT READS IS OF BULK AT MOST 1048576: true; the input reads as it did. -/
def fieldLawsUptoRow : OpenClaim := { program := "ytgdplmfggebdfaa", sum := "79465ae488b6546d5a5faa43487fe399f6ed6a5ebd65478d750b733cafbececd", func := "sealring/sealringkeep.FieldLaws", spec := "fieldLaws", inPlace := ["math/bits.Sub64", "math/bits.Add64"], apart := false, narrowed := true }
def FieldLawsUptoSaid : Prop := fieldLawsUptoRow.holds Try.pinned (OpenSpec.upto fieldLawsSpec)

/-- 'sealringkeep.FieldInverse', WHERE WHAT IT READS IS OF BULK AT MOST 1048576: true; the input reads as it did. -/
def fieldInverseUptoRow : OpenClaim := { program := "ytgdplmfggebdfaa", sum := "79465ae488b6546d5a5faa43487fe399f6ed6a5ebd65478d750b733cafbececd", func := "sealring/sealringkeep.FieldInverse", spec := "fieldInverse", inPlace := ["math/bits.Sub64", "math/bits.Add64"], apart := false, narrowed := true }
def FieldInverseUptoSaid : Prop := fieldInverseUptoRow.holds Try.pinned (OpenSpec.upto fieldInverseSpec)

/-- 'sealringkeep.FieldZero', WHERE WHAT IT READS IS OF BULK AT MOST 1048576: true; the input reads as it did. -/
def fieldZeroUptoRow : OpenClaim := { program := "ytgdplmfggebdfaa", sum := "79465ae488b6546d5a5faa43487fe399f6ed6a5ebd65478d750b733cafbececd", func := "sealring/sealringkeep.FieldZero", spec := "fieldZero", inPlace := ["math/bits.Sub64", "math/bits.Add64"], apart := false, narrowed := true }
def FieldZeroUptoSaid : Prop := fieldZeroUptoRow.holds Try.pinned (OpenSpec.upto fieldZeroSpec)

/-- 'sealringkeep.FieldRoots', WHERE WHAT IT READS IS OF BULK AT MOST 1048576: true; the input reads as it did. -/
def fieldRootsUptoRow : OpenClaim := { program := "ytgdplmfggebdfaa", sum := "79465ae488b6546d5a5faa43487fe399f6ed6a5ebd65478d750b733cafbececd", func := "sealring/sealringkeep.FieldRoots", spec := "fieldRoots", inPlace := ["math/bits.Add64", "math/bits.Sub64"], apart := false, narrowed := true }
def FieldRootsUptoSaid : Prop := fieldRootsUptoRow.holds Try.pinned (OpenSpec.upto fieldRootsSpec)

/-- 'sealringkeep.FieldEuler', WHERE WHAT IT READS IS OF BULK AT MOST 1048576: true; the input reads as it did. -/
def fieldEulerUptoRow : OpenClaim := { program := "ytgdplmfggebdfaa", sum := "79465ae488b6546d5a5faa43487fe399f6ed6a5ebd65478d750b733cafbececd", func := "sealring/sealringkeep.FieldEuler", spec := "fieldEuler", inPlace := ["math/bits.Sub64", "math/bits.Add64"], apart := false, narrowed := true }
def FieldEulerUptoSaid : Prop := fieldEulerUptoRow.holds Try.pinned (OpenSpec.upto fieldEulerSpec)

/-- 'sealringkeep.ScalarLaws', WHERE WHAT IT READS IS OF BULK AT MOST 1048576: true; the input reads as it did. -/
def scalarLawsUptoRow : OpenClaim := { program := "ytgdplmfggebdfaa", sum := "79465ae488b6546d5a5faa43487fe399f6ed6a5ebd65478d750b733cafbececd", func := "sealring/sealringkeep.ScalarLaws", spec := "scalarLaws", inPlace := ["math/bits.Sub64", "math/bits.Add64"], apart := false, narrowed := true }
def ScalarLawsUptoSaid : Prop := scalarLawsUptoRow.holds Try.pinned (OpenSpec.upto scalarLawsSpec)

/-- 'sealringkeep.CurveBack', WHERE WHAT IT READS IS OF BULK AT MOST 1048576: true; the input reads as it did. -/
def curveBackUptoRow : OpenClaim := { program := "ytgdplmfggebdfaa", sum := "79465ae488b6546d5a5faa43487fe399f6ed6a5ebd65478d750b733cafbececd", func := "sealring/sealringkeep.CurveBack", spec := "curveBack", inPlace := ["math/bits.Sub64", "math/bits.Add64"], apart := false, narrowed := true }
def CurveBackUptoSaid : Prop := curveBackUptoRow.holds Try.pinned (OpenSpec.upto curveBackSpec)

/-- 'sealringkeep.CurveOne', WHERE WHAT IT READS IS OF BULK AT MOST 1048576: true; the input reads as it did. -/
def curveOneUptoRow : OpenClaim := { program := "ytgdplmfggebdfaa", sum := "79465ae488b6546d5a5faa43487fe399f6ed6a5ebd65478d750b733cafbececd", func := "sealring/sealringkeep.CurveOne", spec := "curveOne", inPlace := ["math/bits.Add64", "math/bits.Sub64"], apart := false, narrowed := true }
def CurveOneUptoSaid : Prop := curveOneUptoRow.holds Try.pinned (OpenSpec.upto curveOneSpec)

/-- 'sealringkeep.CurveTwins', WHERE WHAT IT READS IS OF BULK AT MOST 1048576: true; the input reads as it did. -/
def curveTwinsUptoRow : OpenClaim := { program := "ytgdplmfggebdfaa", sum := "79465ae488b6546d5a5faa43487fe399f6ed6a5ebd65478d750b733cafbececd", func := "sealring/sealringkeep.CurveTwins", spec := "curveTwins", inPlace := ["math/bits.Add64", "math/bits.Sub64"], apart := false, narrowed := true }
def CurveTwinsUptoSaid : Prop := curveTwinsUptoRow.holds Try.pinned (OpenSpec.upto curveTwinsSpec)

/-- 'sealringkeep.LadderNeg', WHERE WHAT IT READS IS OF BULK AT MOST 1048576: true; the input reads as it did. -/
def ladderNegUptoRow : OpenClaim := { program := "ytgdplmfggebdfaa", sum := "79465ae488b6546d5a5faa43487fe399f6ed6a5ebd65478d750b733cafbececd", func := "sealring/sealringkeep.LadderNeg", spec := "ladderNeg", inPlace := ["math/bits.Sub64", "math/bits.Add64"], apart := false, narrowed := true }
def LadderNegUptoSaid : Prop := ladderNegUptoRow.holds Try.pinned (OpenSpec.upto ladderNegSpec)

/-- 'sealringkeep.CurveClosed', WHERE WHAT IT READS IS OF BULK AT MOST 1048576: true; the input reads as it did. -/
def curveClosedUptoRow : OpenClaim := { program := "ytgdplmfggebdfaa", sum := "79465ae488b6546d5a5faa43487fe399f6ed6a5ebd65478d750b733cafbececd", func := "sealring/sealringkeep.CurveClosed", spec := "curveClosed", inPlace := ["math/bits.Sub64", "math/bits.Add64"], apart := false, narrowed := true }
def CurveClosedUptoSaid : Prop := curveClosedUptoRow.holds Try.pinned (OpenSpec.upto curveClosedSpec)

/-- 'sealringkeep.CurveGroup', WHERE WHAT IT READS IS OF BULK AT MOST 1048576: true; the input reads as it did. -/
def curveGroupUptoRow : OpenClaim := { program := "ytgdplmfggebdfaa", sum := "79465ae488b6546d5a5faa43487fe399f6ed6a5ebd65478d750b733cafbececd", func := "sealring/sealringkeep.CurveGroup", spec := "curveGroup", inPlace := ["math/bits.Sub64", "math/bits.Add64"], apart := false, narrowed := true }
def CurveGroupUptoSaid : Prop := curveGroupUptoRow.holds Try.pinned (OpenSpec.upto curveGroupSpec)

end Rows
end Go.Proofs.Ytgdplmfggebdfaa
