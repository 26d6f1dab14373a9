/-
  NARROWER THAN 'FOR EVERY INPUT', by the rows' own cells (each row's printed sentence says how): HashPieces: laid · HashCopies: laid · HashExtends: laid · TreeHalves: laid · MacPieces: laid · MacKeys: laid · TreePeaks: laid · TreePaths: laid · DrawKeys: laid · TreeLongs: laid · DrawParts: laid · DrawBlocks: laid · DrawBelow: laid.
  DERIVED. THE GIVEN ROWS OF THIS SEAT. 13 by the template 'for every input the law returns true; each argument reads behind the call as it read before'; 0 by the template 'total and deterministic' (their statements: YtonlmamfggfanaaDoorTotals.lean).
  GIVEN WITH THE SEED: the statements are not yours to turn. If you find one false, say at which input.
  Laid BY PROGRAM, IN A SANDBOX (cutbox-rows.mjs): the forced cells as the released guide's own fill.sh prints them over the translation 7997a6dc16bd34e6… (all of the seat's roots in one cut). By AI agents, Wed Nov 11 2026. No macro, syntax, notation, axiom, sorry.
-/
import Derived.Test.YtonlmamfggfanaaDoorChecked
import GoSem.Claim
import GoSem.ClaimJoined
import GoSem.ClaimMapViews
import Derived.JoinedTies
import Derived.KernelRfl
namespace Go.Proofs.YtonlmamfggfanaaDoor
/- THE CELL 'sum', in the pinned program and in every row, IS THE sha256 OF THE DUMP (.gsa) THAT YtonlmamfggfanaaDoorProg.lean LOADS. Nothing in Lean hashes anything: it is a label: what it is worth is what the hold of that sum in a sandbox is worth. -/
noncomputable def Tryd.pinned : Pinned := { name := "ytonlmamfggfanaadoor", sum := "7997a6dc16bd34e60372b35251260c6f24cb0fcb70ef4aa89f137706d69ad19a", checked := Tryd.checked }
namespace Rows
def none {H : Type} : Left H := { results := [], args := [] }

/- WHAT THE LISTED PACKAGE-LEVEL VARIABLES READ AS WHEN THE CALL BEGINS. Each datum BY PROGRAM (the guide's laid-datum.mjs) off the statement by which the dump's own 'gosem.cut.vars' lays the variable. In a bare row this is a premise. The card (YtonlmamfggfanaaDoorCards.lean) ties it to the program's text. -/
def laid_sealring_hash_primeRoots {H : Type} : DataW H := .agg [.lit (.int .u32 1116352408), .lit (.int .u32 1899447441), .lit (.int .u32 3049323471), .lit (.int .u32 3921009573), .lit (.int .u32 961987163), .lit (.int .u32 1508970993), .lit (.int .u32 2453635748), .lit (.int .u32 2870763221), .lit (.int .u32 3624381080), .lit (.int .u32 310598401), .lit (.int .u32 607225278), .lit (.int .u32 1426881987), .lit (.int .u32 1925078388), .lit (.int .u32 2162078206), .lit (.int .u32 2614888103), .lit (.int .u32 3248222580), .lit (.int .u32 3835390401), .lit (.int .u32 4022224774), .lit (.int .u32 264347078), .lit (.int .u32 604807628), .lit (.int .u32 770255983), .lit (.int .u32 1249150122), .lit (.int .u32 1555081692), .lit (.int .u32 1996064986), .lit (.int .u32 2554220882), .lit (.int .u32 2821834349), .lit (.int .u32 2952996808), .lit (.int .u32 3210313671), .lit (.int .u32 3336571891), .lit (.int .u32 3584528711), .lit (.int .u32 113926993), .lit (.int .u32 338241895), .lit (.int .u32 666307205), .lit (.int .u32 773529912), .lit (.int .u32 1294757372), .lit (.int .u32 1396182291), .lit (.int .u32 1695183700), .lit (.int .u32 1986661051), .lit (.int .u32 2177026350), .lit (.int .u32 2456956037), .lit (.int .u32 2730485921), .lit (.int .u32 2820302411), .lit (.int .u32 3259730800), .lit (.int .u32 3345764771), .lit (.int .u32 3516065817), .lit (.int .u32 3600352804), .lit (.int .u32 4094571909), .lit (.int .u32 275423344), .lit (.int .u32 430227734), .lit (.int .u32 506948616), .lit (.int .u32 659060556), .lit (.int .u32 883997877), .lit (.int .u32 958139571), .lit (.int .u32 1322822218), .lit (.int .u32 1537002063), .lit (.int .u32 1747873779), .lit (.int .u32 1955562222), .lit (.int .u32 2024104815), .lit (.int .u32 2227730452), .lit (.int .u32 2361852424), .lit (.int .u32 2428436474), .lit (.int .u32 2756734187), .lit (.int .u32 3204031479), .lit (.int .u32 3329325298)]

/-- 'sealringkeep.HashPieces': WHATEVER THE INPUT: true; the input reads as it did. -/
def hashPiecesSpec : ChangeSpec := { name := "hashPieces", fn := fun _ => fun
  | [d1, d2] => { results := [.lit (.bool true)], args := [d1, d2] }
  | _ => none }
def hashPiecesRow : OpenClaim := { program := "ytonlmamfggfanaadoor", sum := "7997a6dc16bd34e60372b35251260c6f24cb0fcb70ef4aa89f137706d69ad19a", func := "sealring/sealringkeep.HashPieces", spec := "hashPieces", named := ["sealring/hash.primeRoots"], apart := false, laid := [("sealring/hash.primeRoots", laid_sealring_hash_primeRoots)] }
def HashPiecesSaid : Prop := hashPiecesRow.holds Tryd.pinned (OpenSpec.ofChange hashPiecesSpec)

/-- ITS FALSE NEIGHBOUR: 'it returns false'. Refute it at one input. -/
def hashPiecesWrong : ChangeSpec := { name := "hashPieces", fn := fun _ => fun
  | [d1, d2] => { results := [.lit (.bool false)], args := [d1, d2] }
  | _ => none }
def HashPiecesWrongFalsely : Prop := hashPiecesRow.holds Tryd.pinned (OpenSpec.ofChange hashPiecesWrong)

/-- 'sealringkeep.HashCopies': WHATEVER THE INPUT: true; the input reads as it did. -/
def hashCopiesSpec : ChangeSpec := { name := "hashCopies", fn := fun _ => fun
  | [d1, d2, d3] => { results := [.lit (.bool true)], args := [d1, d2, d3] }
  | _ => none }
def hashCopiesRow : OpenClaim := { program := "ytonlmamfggfanaadoor", sum := "7997a6dc16bd34e60372b35251260c6f24cb0fcb70ef4aa89f137706d69ad19a", func := "sealring/sealringkeep.HashCopies", spec := "hashCopies", named := ["sealring/hash.primeRoots"], apart := false, laid := [("sealring/hash.primeRoots", laid_sealring_hash_primeRoots)] }
def HashCopiesSaid : Prop := hashCopiesRow.holds Tryd.pinned (OpenSpec.ofChange hashCopiesSpec)

/-- ITS FALSE NEIGHBOUR: 'it returns false'. Refute it at one input. -/
def hashCopiesWrong : ChangeSpec := { name := "hashCopies", fn := fun _ => fun
  | [d1, d2, d3] => { results := [.lit (.bool false)], args := [d1, d2, d3] }
  | _ => none }
def HashCopiesWrongFalsely : Prop := hashCopiesRow.holds Tryd.pinned (OpenSpec.ofChange hashCopiesWrong)

/-- 'sealringkeep.HashExtends': WHATEVER THE INPUT: true; the input reads as it did. -/
def hashExtendsSpec : ChangeSpec := { name := "hashExtends", fn := fun _ => fun
  | [d1, d2] => { results := [.lit (.bool true)], args := [d1, d2] }
  | _ => none }
def hashExtendsRow : OpenClaim := { program := "ytonlmamfggfanaadoor", sum := "7997a6dc16bd34e60372b35251260c6f24cb0fcb70ef4aa89f137706d69ad19a", func := "sealring/sealringkeep.HashExtends", spec := "hashExtends", named := ["sealring/hash.primeRoots"], apart := false, laid := [("sealring/hash.primeRoots", laid_sealring_hash_primeRoots)] }
def HashExtendsSaid : Prop := hashExtendsRow.holds Tryd.pinned (OpenSpec.ofChange hashExtendsSpec)

/-- ITS FALSE NEIGHBOUR: 'it returns false'. Refute it at one input. -/
def hashExtendsWrong : ChangeSpec := { name := "hashExtends", fn := fun _ => fun
  | [d1, d2] => { results := [.lit (.bool false)], args := [d1, d2] }
  | _ => none }
def HashExtendsWrongFalsely : Prop := hashExtendsRow.holds Tryd.pinned (OpenSpec.ofChange hashExtendsWrong)

/-- 'sealringkeep.TreeHalves': WHATEVER THE INPUT: true; the input reads as it did. -/
def treeHalvesSpec : ChangeSpec := { name := "treeHalves", fn := fun _ => fun
  | [d1, d2, d3] => { results := [.lit (.bool true)], args := [d1, d2, d3] }
  | _ => none }
def treeHalvesRow : OpenClaim := { program := "ytonlmamfggfanaadoor", sum := "7997a6dc16bd34e60372b35251260c6f24cb0fcb70ef4aa89f137706d69ad19a", func := "sealring/sealringkeep.TreeHalves", spec := "treeHalves", recurses := true, named := ["sealring/hash.primeRoots"], apart := false, laid := [("sealring/hash.primeRoots", laid_sealring_hash_primeRoots)] }
def TreeHalvesSaid : Prop := treeHalvesRow.holds Tryd.pinned (OpenSpec.ofChange treeHalvesSpec)

/-- ITS FALSE NEIGHBOUR: 'it returns false'. Refute it at one input. -/
def treeHalvesWrong : ChangeSpec := { name := "treeHalves", fn := fun _ => fun
  | [d1, d2, d3] => { results := [.lit (.bool false)], args := [d1, d2, d3] }
  | _ => none }
def TreeHalvesWrongFalsely : Prop := treeHalvesRow.holds Tryd.pinned (OpenSpec.ofChange treeHalvesWrong)

/-- 'sealringkeep.MacPieces': WHATEVER THE INPUT: true; the input reads as it did. -/
def macPiecesSpec : ChangeSpec := { name := "macPieces", fn := fun _ => fun
  | [d1, d2, d3] => { results := [.lit (.bool true)], args := [d1, d2, d3] }
  | _ => none }
def macPiecesRow : OpenClaim := { program := "ytonlmamfggfanaadoor", sum := "7997a6dc16bd34e60372b35251260c6f24cb0fcb70ef4aa89f137706d69ad19a", func := "sealring/sealringkeep.MacPieces", spec := "macPieces", named := ["sealring/hash.primeRoots"], apart := false, laid := [("sealring/hash.primeRoots", laid_sealring_hash_primeRoots)] }
def MacPiecesSaid : Prop := macPiecesRow.holds Tryd.pinned (OpenSpec.ofChange macPiecesSpec)

/-- ITS FALSE NEIGHBOUR: 'it returns false'. Refute it at one input. -/
def macPiecesWrong : ChangeSpec := { name := "macPieces", fn := fun _ => fun
  | [d1, d2, d3] => { results := [.lit (.bool false)], args := [d1, d2, d3] }
  | _ => none }
def MacPiecesWrongFalsely : Prop := macPiecesRow.holds Tryd.pinned (OpenSpec.ofChange macPiecesWrong)

/-- 'sealringkeep.MacKeys': WHATEVER THE INPUT: true; the input reads as it did. -/
def macKeysSpec : ChangeSpec := { name := "macKeys", fn := fun _ => fun
  | [d1, d2, d3] => { results := [.lit (.bool true)], args := [d1, d2, d3] }
  | _ => none }
def macKeysRow : OpenClaim := { program := "ytonlmamfggfanaadoor", sum := "7997a6dc16bd34e60372b35251260c6f24cb0fcb70ef4aa89f137706d69ad19a", func := "sealring/sealringkeep.MacKeys", spec := "macKeys", named := ["sealring/hash.primeRoots"], apart := false, laid := [("sealring/hash.primeRoots", laid_sealring_hash_primeRoots)] }
def MacKeysSaid : Prop := macKeysRow.holds Tryd.pinned (OpenSpec.ofChange macKeysSpec)

/-- ITS FALSE NEIGHBOUR: 'it returns false'. Refute it at one input. -/
def macKeysWrong : ChangeSpec := { name := "macKeys", fn := fun _ => fun
  | [d1, d2, d3] => { results := [.lit (.bool false)], args := [d1, d2, d3] }
  | _ => none }
def MacKeysWrongFalsely : Prop := macKeysRow.holds Tryd.pinned (OpenSpec.ofChange macKeysWrong)

/-- 'sealringkeep.TreePeaks': WHATEVER THE INPUT: true; the input reads as it did. -/
def treePeaksSpec : ChangeSpec := { name := "treePeaks", fn := fun _ => fun
  | [d1, d2] => { results := [.lit (.bool true)], args := [d1, d2] }
  | _ => none }
def treePeaksRow : OpenClaim := { program := "ytonlmamfggfanaadoor", sum := "7997a6dc16bd34e60372b35251260c6f24cb0fcb70ef4aa89f137706d69ad19a", func := "sealring/sealringkeep.TreePeaks", spec := "treePeaks", recurses := true, named := ["sealring/hash.primeRoots"], apart := false, laid := [("sealring/hash.primeRoots", laid_sealring_hash_primeRoots)] }
def TreePeaksSaid : Prop := treePeaksRow.holds Tryd.pinned (OpenSpec.ofChange treePeaksSpec)

/-- ITS FALSE NEIGHBOUR: 'it returns false'. Refute it at one input. -/
def treePeaksWrong : ChangeSpec := { name := "treePeaks", fn := fun _ => fun
  | [d1, d2] => { results := [.lit (.bool false)], args := [d1, d2] }
  | _ => none }
def TreePeaksWrongFalsely : Prop := treePeaksRow.holds Tryd.pinned (OpenSpec.ofChange treePeaksWrong)

/-- 'sealringkeep.TreePaths': WHATEVER THE INPUT: true; the input reads as it did. -/
def treePathsSpec : ChangeSpec := { name := "treePaths", fn := fun _ => fun
  | [d1, d2] => { results := [.lit (.bool true)], args := [d1, d2] }
  | _ => none }
def treePathsRow : OpenClaim := { program := "ytonlmamfggfanaadoor", sum := "7997a6dc16bd34e60372b35251260c6f24cb0fcb70ef4aa89f137706d69ad19a", func := "sealring/sealringkeep.TreePaths", spec := "treePaths", recurses := true, named := ["sealring/hash.primeRoots"], apart := false, laid := [("sealring/hash.primeRoots", laid_sealring_hash_primeRoots)] }
def TreePathsSaid : Prop := treePathsRow.holds Tryd.pinned (OpenSpec.ofChange treePathsSpec)

/-- ITS FALSE NEIGHBOUR: 'it returns false'. Refute it at one input. -/
def treePathsWrong : ChangeSpec := { name := "treePaths", fn := fun _ => fun
  | [d1, d2] => { results := [.lit (.bool false)], args := [d1, d2] }
  | _ => none }
def TreePathsWrongFalsely : Prop := treePathsRow.holds Tryd.pinned (OpenSpec.ofChange treePathsWrong)

/-- 'sealringkeep.DrawKeys': WHATEVER THE INPUT: true; the input reads as it did. -/
def drawKeysSpec : ChangeSpec := { name := "drawKeys", fn := fun _ => fun
  | [d1, d2] => { results := [.lit (.bool true)], args := [d1, d2] }
  | _ => none }
def drawKeysRow : OpenClaim := { program := "ytonlmamfggfanaadoor", sum := "7997a6dc16bd34e60372b35251260c6f24cb0fcb70ef4aa89f137706d69ad19a", func := "sealring/sealringkeep.DrawKeys", spec := "drawKeys", named := ["sealring/hash.primeRoots"], apart := false, laid := [("sealring/hash.primeRoots", laid_sealring_hash_primeRoots)] }
def DrawKeysSaid : Prop := drawKeysRow.holds Tryd.pinned (OpenSpec.ofChange drawKeysSpec)

/-- ITS FALSE NEIGHBOUR: 'it returns false'. Refute it at one input. -/
def drawKeysWrong : ChangeSpec := { name := "drawKeys", fn := fun _ => fun
  | [d1, d2] => { results := [.lit (.bool false)], args := [d1, d2] }
  | _ => none }
def DrawKeysWrongFalsely : Prop := drawKeysRow.holds Tryd.pinned (OpenSpec.ofChange drawKeysWrong)

/-- 'sealringkeep.TreeLongs': WHATEVER THE INPUT: true; the input reads as it did. -/
def treeLongsSpec : ChangeSpec := { name := "treeLongs", fn := fun _ => fun
  | [d1, d2, d3, d4, d5] => { results := [.lit (.bool true)], args := [d1, d2, d3, d4, d5] }
  | _ => none }
def treeLongsRow : OpenClaim := { program := "ytonlmamfggfanaadoor", sum := "7997a6dc16bd34e60372b35251260c6f24cb0fcb70ef4aa89f137706d69ad19a", func := "sealring/sealringkeep.TreeLongs", spec := "treeLongs", recurses := true, named := ["sealring/hash.primeRoots"], apart := false, laid := [("sealring/hash.primeRoots", laid_sealring_hash_primeRoots)] }
def TreeLongsSaid : Prop := treeLongsRow.holds Tryd.pinned (OpenSpec.ofChange treeLongsSpec)

/-- ITS FALSE NEIGHBOUR: 'it returns false'. Refute it at one input. -/
def treeLongsWrong : ChangeSpec := { name := "treeLongs", fn := fun _ => fun
  | [d1, d2, d3, d4, d5] => { results := [.lit (.bool false)], args := [d1, d2, d3, d4, d5] }
  | _ => none }
def TreeLongsWrongFalsely : Prop := treeLongsRow.holds Tryd.pinned (OpenSpec.ofChange treeLongsWrong)

/-- 'sealringkeep.DrawParts': WHATEVER THE INPUT: true; the input reads as it did. -/
def drawPartsSpec : ChangeSpec := { name := "drawParts", fn := fun _ => fun
  | [d1, d2, d3] => { results := [.lit (.bool true)], args := [d1, d2, d3] }
  | _ => none }
def drawPartsRow : OpenClaim := { program := "ytonlmamfggfanaadoor", sum := "7997a6dc16bd34e60372b35251260c6f24cb0fcb70ef4aa89f137706d69ad19a", func := "sealring/sealringkeep.DrawParts", spec := "drawParts", named := ["sealring/hash.primeRoots"], apart := false, laid := [("sealring/hash.primeRoots", laid_sealring_hash_primeRoots)] }
def DrawPartsSaid : Prop := drawPartsRow.holds Tryd.pinned (OpenSpec.ofChange drawPartsSpec)

/-- ITS FALSE NEIGHBOUR: 'it returns false'. Refute it at one input. -/
def drawPartsWrong : ChangeSpec := { name := "drawParts", fn := fun _ => fun
  | [d1, d2, d3] => { results := [.lit (.bool false)], args := [d1, d2, d3] }
  | _ => none }
def DrawPartsWrongFalsely : Prop := drawPartsRow.holds Tryd.pinned (OpenSpec.ofChange drawPartsWrong)

/-- 'sealringkeep.DrawBlocks': WHATEVER THE INPUT: true; the input reads as it did. -/
def drawBlocksSpec : ChangeSpec := { name := "drawBlocks", fn := fun _ => fun
  | [d1, d2] => { results := [.lit (.bool true)], args := [d1, d2] }
  | _ => none }
def drawBlocksRow : OpenClaim := { program := "ytonlmamfggfanaadoor", sum := "7997a6dc16bd34e60372b35251260c6f24cb0fcb70ef4aa89f137706d69ad19a", func := "sealring/sealringkeep.DrawBlocks", spec := "drawBlocks", named := ["sealring/hash.primeRoots"], apart := false, laid := [("sealring/hash.primeRoots", laid_sealring_hash_primeRoots)] }
def DrawBlocksSaid : Prop := drawBlocksRow.holds Tryd.pinned (OpenSpec.ofChange drawBlocksSpec)

/-- ITS FALSE NEIGHBOUR: 'it returns false'. Refute it at one input. -/
def drawBlocksWrong : ChangeSpec := { name := "drawBlocks", fn := fun _ => fun
  | [d1, d2] => { results := [.lit (.bool false)], args := [d1, d2] }
  | _ => none }
def DrawBlocksWrongFalsely : Prop := drawBlocksRow.holds Tryd.pinned (OpenSpec.ofChange drawBlocksWrong)

/-- 'sealringkeep.DrawBelow': WHATEVER THE INPUT: true; the input reads as it did. -/
def drawBelowSpec : ChangeSpec := { name := "drawBelow", fn := fun _ => fun
  | [d1, d2, d3] => { results := [.lit (.bool true)], args := [d1, d2, d3] }
  | _ => none }
def drawBelowRow : OpenClaim := { program := "ytonlmamfggfanaadoor", sum := "7997a6dc16bd34e60372b35251260c6f24cb0fcb70ef4aa89f137706d69ad19a", func := "sealring/sealringkeep.DrawBelow", spec := "drawBelow", inPlace := ["math/bits.Sub64"], named := ["sealring/hash.primeRoots"], apart := false, laid := [("sealring/hash.primeRoots", laid_sealring_hash_primeRoots)] }
def DrawBelowSaid : Prop := drawBelowRow.holds Tryd.pinned (OpenSpec.ofChange drawBelowSpec)

/-- ITS FALSE NEIGHBOUR: 'it returns false'. Refute it at one input. -/
def drawBelowWrong : ChangeSpec := { name := "drawBelow", fn := fun _ => fun
  | [d1, d2, d3] => { results := [.lit (.bool false)], args := [d1, d2, d3] }
  | _ => none }
def DrawBelowWrongFalsely : Prop := drawBelowRow.holds Tryd.pinned (OpenSpec.ofChange drawBelowWrong)

/- THE SECOND FORM. 'bulk': how many values and letters a reading holds, each counted each time it is reached (what is shared counts as often as it is met; a slice's spare places count too). A statement '..UptoSaid' is the law's where the arguments, and the package variables that the reading takes, are together of bulk at most 1048576: NARROWER than '..Said'. Prove '..Said' where nothing that the law and all that it calls make is longer than what came in: it says more and counts as full. Else prove '..UptoSaid'. A law counts once. -/
mutual
def uptoBulk {H : Type} : DataW H → Nat
  | .lit (.string bytes) => bytes.length + 1
  | .lit _ => 1
  | .nil => 1
  | .ptr d => uptoBulk d + 1
  | .slice elems spare => uptoBulkAll elems + uptoBulkAll spare + 1
  | .agg parts => uptoBulkAll parts + 1
  | .iface _ d => uptoBulk d + 1
  | .map entries => uptoBulkEntries entries + 1
  | .held _ => 1
def uptoBulkAll {H : Type} : List (DataW H) → Nat
  | [] => 0
  | d :: r => uptoBulk d + uptoBulkAll r
def uptoBulkEntries {H : Type} : List (Lit × DataW H) → Nat
  | [] => 0
  | x :: r => uptoBulkEntry x + uptoBulkEntries r
def uptoBulkEntry {H : Type} : Lit × DataW H → Nat
  | (.string bytes, d) => bytes.length + uptoBulk d + 1
  | (_, d) => uptoBulk d + 1
 end
def uptoSmall : (H : Type) → List (DataW H) → Bool := fun _ ds => decide (uptoBulkAll ds ≤ 1048576)
def OpenSpec.upto (s : _root_.Go.ChangeSpec) : _root_.Go.OpenSpec := { _root_.Go.OpenSpec.ofChange s with cond := some uptoSmall }

/-- 'sealringkeep.HashPieces', WHERE WHAT IT READS IS OF BULK AT MOST 1048576: true; the input reads as it did. -/
def hashPiecesUptoRow : OpenClaim := { program := "ytonlmamfggfanaadoor", sum := "7997a6dc16bd34e60372b35251260c6f24cb0fcb70ef4aa89f137706d69ad19a", func := "sealring/sealringkeep.HashPieces", spec := "hashPieces", named := ["sealring/hash.primeRoots"], apart := false, laid := [("sealring/hash.primeRoots", laid_sealring_hash_primeRoots)], narrowed := true }
def HashPiecesUptoSaid : Prop := hashPiecesUptoRow.holds Tryd.pinned (OpenSpec.upto hashPiecesSpec)

/-- 'sealringkeep.HashCopies', WHERE WHAT IT READS IS OF BULK AT MOST 1048576: true; the input reads as it did. -/
def hashCopiesUptoRow : OpenClaim := { program := "ytonlmamfggfanaadoor", sum := "7997a6dc16bd34e60372b35251260c6f24cb0fcb70ef4aa89f137706d69ad19a", func := "sealring/sealringkeep.HashCopies", spec := "hashCopies", named := ["sealring/hash.primeRoots"], apart := false, laid := [("sealring/hash.primeRoots", laid_sealring_hash_primeRoots)], narrowed := true }
def HashCopiesUptoSaid : Prop := hashCopiesUptoRow.holds Tryd.pinned (OpenSpec.upto hashCopiesSpec)

/-- 'sealringkeep.HashExtends', WHERE WHAT IT READS IS OF BULK AT MOST 1048576: true; the input reads as it did. -/
def hashExtendsUptoRow : OpenClaim := { program := "ytonlmamfggfanaadoor", sum := "7997a6dc16bd34e60372b35251260c6f24cb0fcb70ef4aa89f137706d69ad19a", func := "sealring/sealringkeep.HashExtends", spec := "hashExtends", named := ["sealring/hash.primeRoots"], apart := false, laid := [("sealring/hash.primeRoots", laid_sealring_hash_primeRoots)], narrowed := true }
def HashExtendsUptoSaid : Prop := hashExtendsUptoRow.holds Tryd.pinned (OpenSpec.upto hashExtendsSpec)

/-- 'sealringkeep.TreeHalves', WHERE WHAT IT READS IS OF BULK AT MOST 1048576: true; the input reads as it did. -/
def treeHalvesUptoRow : OpenClaim := { program := "ytonlmamfggfanaadoor", sum := "7997a6dc16bd34e60372b35251260c6f24cb0fcb70ef4aa89f137706d69ad19a", func := "sealring/sealringkeep.TreeHalves", spec := "treeHalves", recurses := true, named := ["sealring/hash.primeRoots"], apart := false, laid := [("sealring/hash.primeRoots", laid_sealring_hash_primeRoots)], narrowed := true }
def TreeHalvesUptoSaid : Prop := treeHalvesUptoRow.holds Tryd.pinned (OpenSpec.upto treeHalvesSpec)

/-- 'sealringkeep.MacPieces', WHERE WHAT IT READS IS OF BULK AT MOST 1048576: true; the input reads as it did. -/
def macPiecesUptoRow : OpenClaim := { program := "ytonlmamfggfanaadoor", sum := "7997a6dc16bd34e60372b35251260c6f24cb0fcb70ef4aa89f137706d69ad19a", func := "sealring/sealringkeep.MacPieces", spec := "macPieces", named := ["sealring/hash.primeRoots"], apart := false, laid := [("sealring/hash.primeRoots", laid_sealring_hash_primeRoots)], narrowed := true }
def MacPiecesUptoSaid : Prop := macPiecesUptoRow.holds Tryd.pinned (OpenSpec.upto macPiecesSpec)

/-- 'sealringkeep.MacKeys', WHERE WHAT IT READS IS OF BULK AT MOST 1048576: true; the input reads as it did. -/
def macKeysUptoRow : OpenClaim := { program := "ytonlmamfggfanaadoor", sum := "7997a6dc16bd34e60372b35251260c6f24cb0fcb70ef4aa89f137706d69ad19a", func := "sealring/sealringkeep.MacKeys", spec := "macKeys", named := ["sealring/hash.primeRoots"], apart := false, laid := [("sealring/hash.primeRoots", laid_sealring_hash_primeRoots)], narrowed := true }
def MacKeysUptoSaid : Prop := macKeysUptoRow.holds Tryd.pinned (OpenSpec.upto macKeysSpec)

/-- 'sealringkeep.TreePeaks', WHERE WHAT IT READS IS OF BULK AT MOST 1048576: true; the input reads as it did. -/
def treePeaksUptoRow : OpenClaim := { program := "ytonlmamfggfanaadoor", sum := "7997a6dc16bd34e60372b35251260c6f24cb0fcb70ef4aa89f137706d69ad19a", func := "sealring/sealringkeep.TreePeaks", spec := "treePeaks", recurses := true, named := ["sealring/hash.primeRoots"], apart := false, laid := [("sealring/hash.primeRoots", laid_sealring_hash_primeRoots)], narrowed := true }
def TreePeaksUptoSaid : Prop := treePeaksUptoRow.holds Tryd.pinned (OpenSpec.upto treePeaksSpec)

/-- 'sealringkeep.TreePaths', WHERE WHAT IT READS IS OF BULK AT MOST 1048576: true; the input reads as it did. -/
def treePathsUptoRow : OpenClaim := { program := "ytonlmamfggfanaadoor", sum := "7997a6dc16bd34e60372b35251260c6f24cb0fcb70ef4aa89f137706d69ad19a", func := "sealring/sealringkeep.TreePaths", spec := "treePaths", recurses := true, named := ["sealring/hash.primeRoots"], apart := false, laid := [("sealring/hash.primeRoots", laid_sealring_hash_primeRoots)], narrowed := true }
def TreePathsUptoSaid : Prop := treePathsUptoRow.holds Tryd.pinned (OpenSpec.upto treePathsSpec)

/-- 'sealringkeep.DrawKeys', WHERE WHAT IT READS IS OF BULK AT MOST 1048576: true; the input reads as it did. -/
def drawKeysUptoRow : OpenClaim := { program := "ytonlmamfggfanaadoor", sum := "7997a6dc16bd34e60372b35251260c6f24cb0fcb70ef4aa89f137706d69ad19a", func := "sealring/sealringkeep.DrawKeys", spec := "drawKeys", named := ["sealring/hash.primeRoots"], apart := false, laid := [("sealring/hash.primeRoots", laid_sealring_hash_primeRoots)], narrowed := true }
def DrawKeysUptoSaid : Prop := drawKeysUptoRow.holds Tryd.pinned (OpenSpec.upto drawKeysSpec)

/-- 'sealringkeep.TreeLongs', WHERE WHAT IT READS IS OF BULK AT MOST 1048576: true; the input reads as it did. -/
def treeLongsUptoRow : OpenClaim := { program := "ytonlmamfggfanaadoor", sum := "7997a6dc16bd34e60372b35251260c6f24cb0fcb70ef4aa89f137706d69ad19a", func := "sealring/sealringkeep.TreeLongs", spec := "treeLongs", recurses := true, named := ["sealring/hash.primeRoots"], apart := false, laid := [("sealring/hash.primeRoots", laid_sealring_hash_primeRoots)], narrowed := true }
def TreeLongsUptoSaid : Prop := treeLongsUptoRow.holds Tryd.pinned (OpenSpec.upto treeLongsSpec)

/-- 'sealringkeep.DrawParts', WHERE WHAT IT READS IS OF BULK AT MOST 1048576: true; the input reads as it did. -/
def drawPartsUptoRow : OpenClaim := { program := "ytonlmamfggfanaadoor", sum := "7997a6dc16bd34e60372b35251260c6f24cb0fcb70ef4aa89f137706d69ad19a", func := "sealring/sealringkeep.DrawParts", spec := "drawParts", named := ["sealring/hash.primeRoots"], apart := false, laid := [("sealring/hash.primeRoots", laid_sealring_hash_primeRoots)], narrowed := true }
def DrawPartsUptoSaid : Prop := drawPartsUptoRow.holds Tryd.pinned (OpenSpec.upto drawPartsSpec)

/-- 'sealringkeep.DrawBlocks', WHERE WHAT IT READS IS OF BULK AT MOST 1048576: true; the input reads as it did. -/
def drawBlocksUptoRow : OpenClaim := { program := "ytonlmamfggfanaadoor", sum := "7997a6dc16bd34e60372b35251260c6f24cb0fcb70ef4aa89f137706d69ad19a", func := "sealring/sealringkeep.DrawBlocks", spec := "drawBlocks", named := ["sealring/hash.primeRoots"], apart := false, laid := [("sealring/hash.primeRoots", laid_sealring_hash_primeRoots)], narrowed := true }
def DrawBlocksUptoSaid : Prop := drawBlocksUptoRow.holds Tryd.pinned (OpenSpec.upto drawBlocksSpec)

/-- 'sealringkeep.DrawBelow', WHERE WHAT IT READS IS OF BULK AT MOST 1048576: true; the input reads as it did. -/
def drawBelowUptoRow : OpenClaim := { program := "ytonlmamfggfanaadoor", sum := "7997a6dc16bd34e60372b35251260c6f24cb0fcb70ef4aa89f137706d69ad19a", func := "sealring/sealringkeep.DrawBelow", spec := "drawBelow", inPlace := ["math/bits.Sub64"], named := ["sealring/hash.primeRoots"], apart := false, laid := [("sealring/hash.primeRoots", laid_sealring_hash_primeRoots)], narrowed := true }
def DrawBelowUptoSaid : Prop := drawBelowUptoRow.holds Tryd.pinned (OpenSpec.upto drawBelowSpec)

end Rows
end Go.Proofs.YtonlmamfggfanaaDoor
