/-
  No cell of these rows narrows 'for every input' (looked for: loops, veiled, ifaces, maps, wideKeys, modest, calm, conditions, laid).
  DERIVED. THE GIVEN ROWS OF THIS SEAT. 13 by the template 'for every input the law returns true; each argument reads behind the call as it read before'; 0 by the template 'total and deterministic' (their statements: YtehgaljcpbaplaaTotals.lean).
  GIVEN WITH THE SEED: the statements are not yours to turn. If you find one false, say at which input.
  Laid BY PROGRAM, IN A SANDBOX (cutbox-rows.mjs): the forced cells as the released guide's own fill.sh prints them over the translation 6064ac670328868a… (all of the seat's roots in one cut). By AI agents, Wed Nov 11 2026. No macro, syntax, notation, axiom, sorry.
-/
import Derived.Test.YtehgaljcpbaplaaChecked
import GoSem.Claim
import GoSem.ClaimJoined
import GoSem.ClaimMapViews
import Derived.JoinedTies
import Derived.KernelRfl
namespace Go.Proofs.Ytehgaljcpbaplaa
/- THE CELL 'sum', in the pinned program and in every row, IS THE sha256 OF THE DUMP (.gsa) THAT YtehgaljcpbaplaaProg.lean LOADS. Nothing in Lean hashes anything: it is a label: what it is worth is what the hold of that sum in a sandbox is worth. -/
noncomputable def Try.pinned : Pinned := { name := "ytehgaljcpbaplaa", sum := "6064ac670328868aed8567d19124a45474d6f00abd8065de082b6a535ce7b93b", checked := Try.checked }
namespace Rows
def none {H : Type} : Left H := { results := [], args := [] }

/-- 'sealringkeep.GfMix': WHATEVER THE INPUT: true; the input reads as it did. -/
def gfMixSpec : ChangeSpec := { name := "gfMix", fn := fun _ => fun
  | [d1, d2] => { results := [.lit (.bool true)], args := [d1, d2] }
  | _ => none }
def gfMixRow : OpenClaim := { program := "ytehgaljcpbaplaa", sum := "6064ac670328868aed8567d19124a45474d6f00abd8065de082b6a535ce7b93b", func := "sealring/sealringkeep.GfMix", spec := "gfMix", apart := false }
def GfMixSaid : Prop := gfMixRow.holds Try.pinned (OpenSpec.ofChange gfMixSpec)

/-- ITS FALSE NEIGHBOUR: 'it returns false'. Refute it at one input. -/
def gfMixWrong : ChangeSpec := { name := "gfMix", fn := fun _ => fun
  | [d1, d2] => { results := [.lit (.bool false)], args := [d1, d2] }
  | _ => none }
def GfMixWrongFalsely : Prop := gfMixRow.holds Try.pinned (OpenSpec.ofChange gfMixWrong)

/-- 'sealringkeep.AesWords': WHATEVER THE INPUT: true; the input reads as it did. -/
def aesWordsSpec : ChangeSpec := { name := "aesWords", fn := fun _ => fun
  | [d1, d2] => { results := [.lit (.bool true)], args := [d1, d2] }
  | _ => none }
def aesWordsRow : OpenClaim := { program := "ytehgaljcpbaplaa", sum := "6064ac670328868aed8567d19124a45474d6f00abd8065de082b6a535ce7b93b", func := "sealring/sealringkeep.AesWords", spec := "aesWords", apart := false }
def AesWordsSaid : Prop := aesWordsRow.holds Try.pinned (OpenSpec.ofChange aesWordsSpec)

/-- ITS FALSE NEIGHBOUR: 'it returns false'. Refute it at one input. -/
def aesWordsWrong : ChangeSpec := { name := "aesWords", fn := fun _ => fun
  | [d1, d2] => { results := [.lit (.bool false)], args := [d1, d2] }
  | _ => none }
def AesWordsWrongFalsely : Prop := aesWordsRow.holds Try.pinned (OpenSpec.ofChange aesWordsWrong)

/-- 'sealringkeep.AesApart': WHATEVER THE INPUT: true; the input reads as it did. -/
def aesApartSpec : ChangeSpec := { name := "aesApart", fn := fun _ => fun
  | [d1, d2, d3] => { results := [.lit (.bool true)], args := [d1, d2, d3] }
  | _ => none }
def aesApartRow : OpenClaim := { program := "ytehgaljcpbaplaa", sum := "6064ac670328868aed8567d19124a45474d6f00abd8065de082b6a535ce7b93b", func := "sealring/sealringkeep.AesApart", spec := "aesApart", unfollowed := true, recurses := true, apart := false }
def AesApartSaid : Prop := aesApartRow.holds Try.pinned (OpenSpec.ofChange aesApartSpec)

/-- ITS FALSE NEIGHBOUR: 'it returns false'. Refute it at one input. -/
def aesApartWrong : ChangeSpec := { name := "aesApart", fn := fun _ => fun
  | [d1, d2, d3] => { results := [.lit (.bool false)], args := [d1, d2, d3] }
  | _ => none }
def AesApartWrongFalsely : Prop := aesApartRow.holds Try.pinned (OpenSpec.ofChange aesApartWrong)

/-- 'sealringkeep.AesBack': WHATEVER THE INPUT: true; the input reads as it did. -/
def aesBackSpec : ChangeSpec := { name := "aesBack", fn := fun _ => fun
  | [d1, d2] => { results := [.lit (.bool true)], args := [d1, d2] }
  | _ => none }
def aesBackRow : OpenClaim := { program := "ytehgaljcpbaplaa", sum := "6064ac670328868aed8567d19124a45474d6f00abd8065de082b6a535ce7b93b", func := "sealring/sealringkeep.AesBack", spec := "aesBack", unfollowed := true, recurses := true, apart := false }
def AesBackSaid : Prop := aesBackRow.holds Try.pinned (OpenSpec.ofChange aesBackSpec)

/-- ITS FALSE NEIGHBOUR: 'it returns false'. Refute it at one input. -/
def aesBackWrong : ChangeSpec := { name := "aesBack", fn := fun _ => fun
  | [d1, d2] => { results := [.lit (.bool false)], args := [d1, d2] }
  | _ => none }
def AesBackWrongFalsely : Prop := aesBackRow.holds Try.pinned (OpenSpec.ofChange aesBackWrong)

/-- 'sealringkeep.WrapApart': WHATEVER THE INPUT: true; the input reads as it did. -/
def wrapApartSpec : ChangeSpec := { name := "wrapApart", fn := fun _ => fun
  | [d1, d2, d3] => { results := [.lit (.bool true)], args := [d1, d2, d3] }
  | _ => none }
def wrapApartRow : OpenClaim := { program := "ytehgaljcpbaplaa", sum := "6064ac670328868aed8567d19124a45474d6f00abd8065de082b6a535ce7b93b", func := "sealring/sealringkeep.WrapApart", spec := "wrapApart", unfollowed := true, recurses := true, apart := false }
def WrapApartSaid : Prop := wrapApartRow.holds Try.pinned (OpenSpec.ofChange wrapApartSpec)

/-- ITS FALSE NEIGHBOUR: 'it returns false'. Refute it at one input. -/
def wrapApartWrong : ChangeSpec := { name := "wrapApart", fn := fun _ => fun
  | [d1, d2, d3] => { results := [.lit (.bool false)], args := [d1, d2, d3] }
  | _ => none }
def WrapApartWrongFalsely : Prop := wrapApartRow.holds Try.pinned (OpenSpec.ofChange wrapApartWrong)

/-- 'sealringkeep.ModeTwice': WHATEVER THE INPUT: true; the input reads as it did. -/
def modeTwiceSpec : ChangeSpec := { name := "modeTwice", fn := fun _ => fun
  | [d1, d2, d3, d4] => { results := [.lit (.bool true)], args := [d1, d2, d3, d4] }
  | _ => none }
def modeTwiceRow : OpenClaim := { program := "ytehgaljcpbaplaa", sum := "6064ac670328868aed8567d19124a45474d6f00abd8065de082b6a535ce7b93b", func := "sealring/sealringkeep.ModeTwice", spec := "modeTwice", unfollowed := true, recurses := true, apart := false }
def ModeTwiceSaid : Prop := modeTwiceRow.holds Try.pinned (OpenSpec.ofChange modeTwiceSpec)

/-- ITS FALSE NEIGHBOUR: 'it returns false'. Refute it at one input. -/
def modeTwiceWrong : ChangeSpec := { name := "modeTwice", fn := fun _ => fun
  | [d1, d2, d3, d4] => { results := [.lit (.bool false)], args := [d1, d2, d3, d4] }
  | _ => none }
def ModeTwiceWrongFalsely : Prop := modeTwiceRow.holds Try.pinned (OpenSpec.ofChange modeTwiceWrong)

/-- 'sealringkeep.ModeBlocks': WHATEVER THE INPUT: true; the input reads as it did. -/
def modeBlocksSpec : ChangeSpec := { name := "modeBlocks", fn := fun _ => fun
  | [d1, d2, d3] => { results := [.lit (.bool true)], args := [d1, d2, d3] }
  | _ => none }
def modeBlocksRow : OpenClaim := { program := "ytehgaljcpbaplaa", sum := "6064ac670328868aed8567d19124a45474d6f00abd8065de082b6a535ce7b93b", func := "sealring/sealringkeep.ModeBlocks", spec := "modeBlocks", unfollowed := true, recurses := true, apart := false }
def ModeBlocksSaid : Prop := modeBlocksRow.holds Try.pinned (OpenSpec.ofChange modeBlocksSpec)

/-- ITS FALSE NEIGHBOUR: 'it returns false'. Refute it at one input. -/
def modeBlocksWrong : ChangeSpec := { name := "modeBlocks", fn := fun _ => fun
  | [d1, d2, d3] => { results := [.lit (.bool false)], args := [d1, d2, d3] }
  | _ => none }
def ModeBlocksWrongFalsely : Prop := modeBlocksRow.holds Try.pinned (OpenSpec.ofChange modeBlocksWrong)

/-- 'sealringkeep.ModeParts': WHATEVER THE INPUT: true; the input reads as it did. -/
def modePartsSpec : ChangeSpec := { name := "modeParts", fn := fun _ => fun
  | [d1, d2, d3, d4, d5] => { results := [.lit (.bool true)], args := [d1, d2, d3, d4, d5] }
  | _ => none }
def modePartsRow : OpenClaim := { program := "ytehgaljcpbaplaa", sum := "6064ac670328868aed8567d19124a45474d6f00abd8065de082b6a535ce7b93b", func := "sealring/sealringkeep.ModeParts", spec := "modeParts", unfollowed := true, recurses := true, apart := false }
def ModePartsSaid : Prop := modePartsRow.holds Try.pinned (OpenSpec.ofChange modePartsSpec)

/-- ITS FALSE NEIGHBOUR: 'it returns false'. Refute it at one input. -/
def modePartsWrong : ChangeSpec := { name := "modeParts", fn := fun _ => fun
  | [d1, d2, d3, d4, d5] => { results := [.lit (.bool false)], args := [d1, d2, d3, d4, d5] }
  | _ => none }
def ModePartsWrongFalsely : Prop := modePartsRow.holds Try.pinned (OpenSpec.ofChange modePartsWrong)

/-- 'sealringkeep.ModeHeals': WHATEVER THE INPUT: true; the input reads as it did. -/
def modeHealsSpec : ChangeSpec := { name := "modeHeals", fn := fun _ => fun
  | [d1, d2, d3, d4, d5] => { results := [.lit (.bool true)], args := [d1, d2, d3, d4, d5] }
  | _ => none }
def modeHealsRow : OpenClaim := { program := "ytehgaljcpbaplaa", sum := "6064ac670328868aed8567d19124a45474d6f00abd8065de082b6a535ce7b93b", func := "sealring/sealringkeep.ModeHeals", spec := "modeHeals", unfollowed := true, recurses := true, apart := false }
def ModeHealsSaid : Prop := modeHealsRow.holds Try.pinned (OpenSpec.ofChange modeHealsSpec)

/-- ITS FALSE NEIGHBOUR: 'it returns false'. Refute it at one input. -/
def modeHealsWrong : ChangeSpec := { name := "modeHeals", fn := fun _ => fun
  | [d1, d2, d3, d4, d5] => { results := [.lit (.bool false)], args := [d1, d2, d3, d4, d5] }
  | _ => none }
def ModeHealsWrongFalsely : Prop := modeHealsRow.holds Try.pinned (OpenSpec.ofChange modeHealsWrong)

/-- 'sealringkeep.ModeBack': WHATEVER THE INPUT: true; the input reads as it did. -/
def modeBackSpec : ChangeSpec := { name := "modeBack", fn := fun _ => fun
  | [d1, d2, d3] => { results := [.lit (.bool true)], args := [d1, d2, d3] }
  | _ => none }
def modeBackRow : OpenClaim := { program := "ytehgaljcpbaplaa", sum := "6064ac670328868aed8567d19124a45474d6f00abd8065de082b6a535ce7b93b", func := "sealring/sealringkeep.ModeBack", spec := "modeBack", unfollowed := true, recurses := true, apart := false }
def ModeBackSaid : Prop := modeBackRow.holds Try.pinned (OpenSpec.ofChange modeBackSpec)

/-- ITS FALSE NEIGHBOUR: 'it returns false'. Refute it at one input. -/
def modeBackWrong : ChangeSpec := { name := "modeBack", fn := fun _ => fun
  | [d1, d2, d3] => { results := [.lit (.bool false)], args := [d1, d2, d3] }
  | _ => none }
def ModeBackWrongFalsely : Prop := modeBackRow.holds Try.pinned (OpenSpec.ofChange modeBackWrong)

/-- 'sealringkeep.ModeOne': WHATEVER THE INPUT: true; the input reads as it did. -/
def modeOneSpec : ChangeSpec := { name := "modeOne", fn := fun _ => fun
  | [d1, d2, d3] => { results := [.lit (.bool true)], args := [d1, d2, d3] }
  | _ => none }
def modeOneRow : OpenClaim := { program := "ytehgaljcpbaplaa", sum := "6064ac670328868aed8567d19124a45474d6f00abd8065de082b6a535ce7b93b", func := "sealring/sealringkeep.ModeOne", spec := "modeOne", unfollowed := true, recurses := true, apart := false }
def ModeOneSaid : Prop := modeOneRow.holds Try.pinned (OpenSpec.ofChange modeOneSpec)

/-- ITS FALSE NEIGHBOUR: 'it returns false'. Refute it at one input. -/
def modeOneWrong : ChangeSpec := { name := "modeOne", fn := fun _ => fun
  | [d1, d2, d3] => { results := [.lit (.bool false)], args := [d1, d2, d3] }
  | _ => none }
def ModeOneWrongFalsely : Prop := modeOneRow.holds Try.pinned (OpenSpec.ofChange modeOneWrong)

/-- 'sealringkeep.WrapBack': WHATEVER THE INPUT: true; the input reads as it did. -/
def wrapBackSpec : ChangeSpec := { name := "wrapBack", fn := fun _ => fun
  | [d1, d2] => { results := [.lit (.bool true)], args := [d1, d2] }
  | _ => none }
def wrapBackRow : OpenClaim := { program := "ytehgaljcpbaplaa", sum := "6064ac670328868aed8567d19124a45474d6f00abd8065de082b6a535ce7b93b", func := "sealring/sealringkeep.WrapBack", spec := "wrapBack", unfollowed := true, recurses := true, apart := false }
def WrapBackSaid : Prop := wrapBackRow.holds Try.pinned (OpenSpec.ofChange wrapBackSpec)

/-- ITS FALSE NEIGHBOUR: 'it returns false'. Refute it at one input. -/
def wrapBackWrong : ChangeSpec := { name := "wrapBack", fn := fun _ => fun
  | [d1, d2] => { results := [.lit (.bool false)], args := [d1, d2] }
  | _ => none }
def WrapBackWrongFalsely : Prop := wrapBackRow.holds Try.pinned (OpenSpec.ofChange wrapBackWrong)

/-- 'sealringkeep.WrapOne': WHATEVER THE INPUT: true; the input reads as it did. -/
def wrapOneSpec : ChangeSpec := { name := "wrapOne", fn := fun _ => fun
  | [d1, d2] => { results := [.lit (.bool true)], args := [d1, d2] }
  | _ => none }
def wrapOneRow : OpenClaim := { program := "ytehgaljcpbaplaa", sum := "6064ac670328868aed8567d19124a45474d6f00abd8065de082b6a535ce7b93b", func := "sealring/sealringkeep.WrapOne", spec := "wrapOne", unfollowed := true, recurses := true, apart := false }
def WrapOneSaid : Prop := wrapOneRow.holds Try.pinned (OpenSpec.ofChange wrapOneSpec)

/-- ITS FALSE NEIGHBOUR: 'it returns false'. Refute it at one input. -/
def wrapOneWrong : ChangeSpec := { name := "wrapOne", fn := fun _ => fun
  | [d1, d2] => { results := [.lit (.bool false)], args := [d1, d2] }
  | _ => none }
def WrapOneWrongFalsely : Prop := wrapOneRow.holds Try.pinned (OpenSpec.ofChange wrapOneWrong)

/- THE SECOND FORM. 'bulk': how many values and letters a reading holds, each counted each time it is reached (what is shared counts as often as it is met; a slice's spare places count too). A statement '..UptoSaid' is the law's where the arguments, and the package variables that the reading takes, are together of bulk at most 1048576: NARROWER than '..Said'. Prove '..Said' where nothing that the law and all that it calls make is longer than what came in: it says more and counts as full. Else prove '..UptoSaid'. A law counts once. -/
mutual
def uptoBulk {H : Type} : DataW H → Nat
  | .lit (.string bytes) => bytes.length + 1
  | .lit _ => 1
  | .nil => 1
  | .ptr d => uptoBulk d + 1
  | .slice elems spare => uptoBulkAll elems + uptoBulkAll spare + 1
  | .agg parts => uptoBulkAll parts + 1
  | .iface _ d => uptoBulk d + 1
  | .map entries => uptoBulkEntries entries + 1
  | .held _ => 1
def uptoBulkAll {H : Type} : List (DataW H) → Nat
  | [] => 0
  | d :: r => uptoBulk d + uptoBulkAll r
def uptoBulkEntries {H : Type} : List (Lit × DataW H) → Nat
  | [] => 0
  | x :: r => uptoBulkEntry x + uptoBulkEntries r
def uptoBulkEntry {H : Type} : Lit × DataW H → Nat
  | (.string bytes, d) => bytes.length + uptoBulk d + 1
  | (_, d) => uptoBulk d + 1
 end
def uptoSmall : (H : Type) → List (DataW H) → Bool := fun _ ds => decide (uptoBulkAll ds ≤ 1048576)
def OpenSpec.upto (s : _root_.Go.ChangeSpec) : _root_.Go.OpenSpec := { _root_.Go.OpenSpec.ofChange s with cond := some uptoSmall }

/-- 'sealringkeep.GfMix', WHERE WHAT IT READS IS OF BULK AT MOST 1048576: true; the input reads as it did. -/
def gfMixUptoRow : OpenClaim := { program := "ytehgaljcpbaplaa", sum := "6064ac670328868aed8567d19124a45474d6f00abd8065de082b6a535ce7b93b", func := "sealring/sealringkeep.GfMix", spec := "gfMix", apart := false, narrowed := true }
def GfMixUptoSaid : Prop := gfMixUptoRow.holds Try.pinned (OpenSpec.upto gfMixSpec)

/-- 'sealringkeep.AesWords', WHERE WHAT IT READS IS OF BULK AT MOST 1048576: true; the input reads as it did. -/
def aesWordsUptoRow : OpenClaim := { program := "ytehgaljcpbaplaa", sum := "6064ac670328868aed8567d19124a45474d6f00abd8065de082b6a535ce7b93b", func := "sealring/sealringkeep.AesWords", spec := "aesWords", apart := false, narrowed := true }
def AesWordsUptoSaid : Prop := aesWordsUptoRow.holds Try.pinned (OpenSpec.upto aesWordsSpec)

/-- 'sealringkeep.AesApart', WHERE WHAT IT READS IS OF BULK AT MOST 1048576: true; the input reads as it did. -/
def aesApartUptoRow : OpenClaim := { program := "ytehgaljcpbaplaa", sum := "6064ac670328868aed8567d19124a45474d6f00abd8065de082b6a535ce7b93b", func := "sealring/sealringkeep.AesApart", spec := "aesApart", unfollowed := true, recurses := true, apart := false, narrowed := true }
def AesApartUptoSaid : Prop := aesApartUptoRow.holds Try.pinned (OpenSpec.upto aesApartSpec)

/-- 'sealringkeep.AesBack', WHERE WHAT IT READS IS OF BULK AT MOST 1048576: true; the input reads as it did. -/
def aesBackUptoRow : OpenClaim := { program := "ytehgaljcpbaplaa", sum := "6064ac670328868aed8567d19124a45474d6f00abd8065de082b6a535ce7b93b", func := "sealring/sealringkeep.AesBack", spec := "aesBack", unfollowed := true, recurses := true, apart := false, narrowed := true }
def AesBackUptoSaid : Prop := aesBackUptoRow.holds Try.pinned (OpenSpec.upto aesBackSpec)

/-- 'sealringkeep.WrapApart', WHERE WHAT IT READS IS OF BULK AT MOST 1048576: true; the input reads as it did. -/
def wrapApartUptoRow : OpenClaim := { program := "ytehgaljcpbaplaa", sum := "6064ac670328868aed8567d19124a45474d6f00abd8065de082b6a535ce7b93b", func := "sealring/sealringkeep.WrapApart", spec := "wrapApart", unfollowed := true, recurses := true, apart := false, narrowed := true }
def WrapApartUptoSaid : Prop := wrapApartUptoRow.holds Try.pinned (OpenSpec.upto wrapApartSpec)

/-- 'sealringkeep.ModeTwice', WHERE WHAT IT READS IS OF BULK AT MOST 1048576: true; the input reads as it did. -/
def modeTwiceUptoRow : OpenClaim := { program := "ytehgaljcpbaplaa", sum := "6064ac670328868aed8567d19124a45474d6f00abd8065de082b6a535ce7b93b", func := "sealring/sealringkeep.ModeTwice", spec := "modeTwice", unfollowed := true, recurses := true, apart := false, narrowed := true }
def ModeTwiceUptoSaid : Prop := modeTwiceUptoRow.holds Try.pinned (OpenSpec.upto modeTwiceSpec)

/-- 'sealringkeep.ModeBlocks', WHERE WHAT IT READS IS OF BULK AT MOST 1048576: true; the input reads as it did. -/
def modeBlocksUptoRow : OpenClaim := { program := "ytehgaljcpbaplaa", sum := "6064ac670328868aed8567d19124a45474d6f00abd8065de082b6a535ce7b93b", func := "sealring/sealringkeep.ModeBlocks", spec := "modeBlocks", unfollowed := true, recurses := true, apart := false, narrowed := true }
def ModeBlocksUptoSaid : Prop := modeBlocksUptoRow.holds Try.pinned (OpenSpec.upto modeBlocksSpec)

/-- 'sealringkeep.ModeParts', WHERE WHAT IT READS IS OF BULK AT MOST 1048576: true; the input reads as it did. -/
def modePartsUptoRow : OpenClaim := { program := "ytehgaljcpbaplaa", sum := "6064ac670328868aed8567d19124a45474d6f00abd8065de082b6a535ce7b93b", func := "sealring/sealringkeep.ModeParts", spec := "modeParts", unfollowed := true, recurses := true, apart := false, narrowed := true }
def ModePartsUptoSaid : Prop := modePartsUptoRow.holds Try.pinned (OpenSpec.upto modePartsSpec)

/-- 'sealringkeep.ModeHeals', WHERE WHAT IT READS IS OF BULK AT MOST 1048576: true; the input reads as it did. -/
def modeHealsUptoRow : OpenClaim := { program := "ytehgaljcpbaplaa", sum := "6064ac670328868aed8567d19124a45474d6f00abd8065de082b6a535ce7b93b", func := "sealring/sealringkeep.ModeHeals", spec := "modeHeals", unfollowed := true, recurses := true, apart := false, narrowed := true }
def ModeHealsUptoSaid : Prop := modeHealsUptoRow.holds Try.pinned (OpenSpec.upto modeHealsSpec)

/-- 'sealringkeep.ModeBack', WHERE WHAT IT READS IS OF BULK AT MOST 1048576: true; the input reads as it did. -/
def modeBackUptoRow : OpenClaim := { program := "ytehgaljcpbaplaa", sum := "6064ac670328868aed8567d19124a45474d6f00abd8065de082b6a535ce7b93b", func := "sealring/sealringkeep.ModeBack", spec := "modeBack", unfollowed := true, recurses := true, apart := false, narrowed := true }
def ModeBackUptoSaid : Prop := modeBackUptoRow.holds Try.pinned (OpenSpec.upto modeBackSpec)

/-- 'sealringkeep.ModeOne', WHERE WHAT IT READS IS OF BULK AT MOST 1048576: true; the input reads as it did. -/
def modeOneUptoRow : OpenClaim := { program := "ytehgaljcpbaplaa", sum := "6064ac670328868aed8567d19124a45474d6f00abd8065de082b6a535ce7b93b", func := "sealring/sealringkeep.ModeOne", spec := "modeOne", unfollowed := true, recurses := true, apart := false, narrowed := true }
def ModeOneUptoSaid : Prop := modeOneUptoRow.holds Try.pinned (OpenSpec.upto modeOneSpec)

/-- 'sealringkeep.WrapBack', WHERE WHAT IT READS IS OF BULK AT MOST 1048576: true; the input reads as it did. -/
def wrapBackUptoRow : OpenClaim := { program := "ytehgaljcpbaplaa", sum := "6064ac670328868aed8567d19124a45474d6f00abd8065de082b6a535ce7b93b", func := "sealring/sealringkeep.WrapBack", spec := "wrapBack", unfollowed := true, recurses := true, apart := false, narrowed := true }
def WrapBackUptoSaid : Prop := wrapBackUptoRow.holds Try.pinned (OpenSpec.upto wrapBackSpec)

/-- 'sealringkeep.WrapOne', WHERE WHAT IT READS IS OF BULK AT MOST 1048576: true; the input reads as it did. -/
def wrapOneUptoRow : OpenClaim := { program := "ytehgaljcpbaplaa", sum := "6064ac670328868aed8567d19124a45474d6f00abd8065de082b6a535ce7b93b", func := "sealring/sealringkeep.WrapOne", spec := "wrapOne", unfollowed := true, recurses := true, apart := false, narrowed := true }
def WrapOneUptoSaid : Prop := wrapOneUptoRow.holds Try.pinned (OpenSpec.upto wrapOneSpec)

end Rows
end Go.Proofs.Ytehgaljcpbaplaa
