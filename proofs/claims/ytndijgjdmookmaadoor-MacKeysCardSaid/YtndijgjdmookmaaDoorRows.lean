/-
  NARROWER THAN 'FOR EVERY INPUT', by the rows' own cells (each row's printed sentence says how): PinLocks: laid · PinBack: laid · PinChanges: laid · DrawBelow: laid · MacKeys: laid · TreePeaks: laid · TapeBack: laid · TapeCuts: laid · TapeGoes: laid · TapeOne: laid.
  DERIVED. THE GIVEN ROWS OF THIS SEAT. 10 by the template 'for every input the law returns true; each argument reads behind the call as it read before'; 0 by the template 'total and deterministic' (their statements: YtndijgjdmookmaaDoorTotals.lean).
  GIVEN WITH THE SEED: the statements are not yours to turn. If you find one false, say at which input.
  Laid BY PROGRAM, IN A SANDBOX (cutbox-rows.mjs): the forced cells as the released guide's own fill.sh prints them over the translation b0d8272eff80f8de… (all of the seat's roots in one cut). By AI agents, Wed Nov 11 2026. No macro, syntax, notation, axiom, sorry.
-/
import Derived.Test.YtndijgjdmookmaaDoorChecked
import GoSem.Claim
import GoSem.ClaimJoined
import GoSem.ClaimMapViews
import Derived.JoinedTies
import Derived.KernelRfl
namespace Go.Proofs.YtndijgjdmookmaaDoor
/- THE CELL 'sum', in the pinned program and in every row, IS THE sha256 OF THE DUMP (.gsa) THAT YtndijgjdmookmaaDoorProg.lean LOADS. Nothing in Lean hashes anything: it is a label: what it is worth is what the hold of that sum in a sandbox is worth. -/
noncomputable def Tryd.pinned : Pinned := { name := "ytndijgjdmookmaadoor", sum := "b0d8272eff80f8de5e767d6ece732fef192d3d3bad1e192c1e237f2b60765b29", checked := Tryd.checked }
namespace Rows
def none {H : Type} : Left H := { results := [], args := [] }

/- WHAT THE LISTED PACKAGE-LEVEL VARIABLES READ AS WHEN THE CALL BEGINS. Each datum BY PROGRAM (the guide's laid-datum.mjs) off the statement by which the dump's own 'gosem.cut.vars' lays the variable. In a bare row this is a premise. The card (YtndijgjdmookmaaDoorCards.lean) ties it to the program's text. -/
def laid_sealring_hash_primeRoots {H : Type} : DataW H := .agg [.lit (.int .u32 1116352408), .lit (.int .u32 1899447441), .lit (.int .u32 3049323471), .lit (.int .u32 3921009573), .lit (.int .u32 961987163), .lit (.int .u32 1508970993), .lit (.int .u32 2453635748), .lit (.int .u32 2870763221), .lit (.int .u32 3624381080), .lit (.int .u32 310598401), .lit (.int .u32 607225278), .lit (.int .u32 1426881987), .lit (.int .u32 1925078388), .lit (.int .u32 2162078206), .lit (.int .u32 2614888103), .lit (.int .u32 3248222580), .lit (.int .u32 3835390401), .lit (.int .u32 4022224774), .lit (.int .u32 264347078), .lit (.int .u32 604807628), .lit (.int .u32 770255983), .lit (.int .u32 1249150122), .lit (.int .u32 1555081692), .lit (.int .u32 1996064986), .lit (.int .u32 2554220882), .lit (.int .u32 2821834349), .lit (.int .u32 2952996808), .lit (.int .u32 3210313671), .lit (.int .u32 3336571891), .lit (.int .u32 3584528711), .lit (.int .u32 113926993), .lit (.int .u32 338241895), .lit (.int .u32 666307205), .lit (.int .u32 773529912), .lit (.int .u32 1294757372), .lit (.int .u32 1396182291), .lit (.int .u32 1695183700), .lit (.int .u32 1986661051), .lit (.int .u32 2177026350), .lit (.int .u32 2456956037), .lit (.int .u32 2730485921), .lit (.int .u32 2820302411), .lit (.int .u32 3259730800), .lit (.int .u32 3345764771), .lit (.int .u32 3516065817), .lit (.int .u32 3600352804), .lit (.int .u32 4094571909), .lit (.int .u32 275423344), .lit (.int .u32 430227734), .lit (.int .u32 506948616), .lit (.int .u32 659060556), .lit (.int .u32 883997877), .lit (.int .u32 958139571), .lit (.int .u32 1322822218), .lit (.int .u32 1537002063), .lit (.int .u32 1747873779), .lit (.int .u32 1955562222), .lit (.int .u32 2024104815), .lit (.int .u32 2227730452), .lit (.int .u32 2361852424), .lit (.int .u32 2428436474), .lit (.int .u32 2756734187), .lit (.int .u32 3204031479), .lit (.int .u32 3329325298)]

/-- 'sealringkeep.PinLocks': WHATEVER THE INPUT: true; the input reads as it did. -/
def pinLocksSpec : ChangeSpec := { name := "pinLocks", fn := fun _ => fun
  | [d1, d2, d3, d4] => { results := [.lit (.bool true)], args := [d1, d2, d3, d4] }
  | _ => none }
def pinLocksRow : OpenClaim := { program := "ytndijgjdmookmaadoor", sum := "b0d8272eff80f8de5e767d6ece732fef192d3d3bad1e192c1e237f2b60765b29", func := "sealring/sealringkeep.PinLocks", spec := "pinLocks", named := ["sealring/hash.primeRoots"], apart := false, laid := [("sealring/hash.primeRoots", laid_sealring_hash_primeRoots)] }
def PinLocksSaid : Prop := pinLocksRow.holds Tryd.pinned (OpenSpec.ofChange pinLocksSpec)

/-- ITS FALSE NEIGHBOUR: 'it returns false'. Refute it at one input. -/
def pinLocksWrong : ChangeSpec := { name := "pinLocks", fn := fun _ => fun
  | [d1, d2, d3, d4] => { results := [.lit (.bool false)], args := [d1, d2, d3, d4] }
  | _ => none }
def PinLocksWrongFalsely : Prop := pinLocksRow.holds Tryd.pinned (OpenSpec.ofChange pinLocksWrong)

/-- 'sealringkeep.PinBack': WHATEVER THE INPUT: true; the input reads as it did. -/
def pinBackSpec : ChangeSpec := { name := "pinBack", fn := fun _ => fun
  | [d1, d2, d3, d4] => { results := [.lit (.bool true)], args := [d1, d2, d3, d4] }
  | _ => none }
def pinBackRow : OpenClaim := { program := "ytndijgjdmookmaadoor", sum := "b0d8272eff80f8de5e767d6ece732fef192d3d3bad1e192c1e237f2b60765b29", func := "sealring/sealringkeep.PinBack", spec := "pinBack", named := ["sealring/hash.primeRoots"], apart := false, laid := [("sealring/hash.primeRoots", laid_sealring_hash_primeRoots)] }
def PinBackSaid : Prop := pinBackRow.holds Tryd.pinned (OpenSpec.ofChange pinBackSpec)

/-- ITS FALSE NEIGHBOUR: 'it returns false'. Refute it at one input. -/
def pinBackWrong : ChangeSpec := { name := "pinBack", fn := fun _ => fun
  | [d1, d2, d3, d4] => { results := [.lit (.bool false)], args := [d1, d2, d3, d4] }
  | _ => none }
def PinBackWrongFalsely : Prop := pinBackRow.holds Tryd.pinned (OpenSpec.ofChange pinBackWrong)

/-- 'sealringkeep.PinChanges': WHATEVER THE INPUT: true; the input reads as it did. -/
def pinChangesSpec : ChangeSpec := { name := "pinChanges", fn := fun _ => fun
  | [d1, d2, d3, d4] => { results := [.lit (.bool true)], args := [d1, d2, d3, d4] }
  | _ => none }
def pinChangesRow : OpenClaim := { program := "ytndijgjdmookmaadoor", sum := "b0d8272eff80f8de5e767d6ece732fef192d3d3bad1e192c1e237f2b60765b29", func := "sealring/sealringkeep.PinChanges", spec := "pinChanges", named := ["sealring/hash.primeRoots"], apart := false, laid := [("sealring/hash.primeRoots", laid_sealring_hash_primeRoots)] }
def PinChangesSaid : Prop := pinChangesRow.holds Tryd.pinned (OpenSpec.ofChange pinChangesSpec)

/-- ITS FALSE NEIGHBOUR: 'it returns false'. Refute it at one input. -/
def pinChangesWrong : ChangeSpec := { name := "pinChanges", fn := fun _ => fun
  | [d1, d2, d3, d4] => { results := [.lit (.bool false)], args := [d1, d2, d3, d4] }
  | _ => none }
def PinChangesWrongFalsely : Prop := pinChangesRow.holds Tryd.pinned (OpenSpec.ofChange pinChangesWrong)

/-- 'sealringkeep.DrawBelow': WHATEVER THE INPUT: true; the input reads as it did. -/
def drawBelowSpec : ChangeSpec := { name := "drawBelow", fn := fun _ => fun
  | [d1, d2, d3] => { results := [.lit (.bool true)], args := [d1, d2, d3] }
  | _ => none }
def drawBelowRow : OpenClaim := { program := "ytndijgjdmookmaadoor", sum := "b0d8272eff80f8de5e767d6ece732fef192d3d3bad1e192c1e237f2b60765b29", func := "sealring/sealringkeep.DrawBelow", spec := "drawBelow", inPlace := ["math/bits.Sub64"], named := ["sealring/hash.primeRoots"], apart := false, laid := [("sealring/hash.primeRoots", laid_sealring_hash_primeRoots)] }
def DrawBelowSaid : Prop := drawBelowRow.holds Tryd.pinned (OpenSpec.ofChange drawBelowSpec)

/-- ITS FALSE NEIGHBOUR: 'it returns false'. Refute it at one input. -/
def drawBelowWrong : ChangeSpec := { name := "drawBelow", fn := fun _ => fun
  | [d1, d2, d3] => { results := [.lit (.bool false)], args := [d1, d2, d3] }
  | _ => none }
def DrawBelowWrongFalsely : Prop := drawBelowRow.holds Tryd.pinned (OpenSpec.ofChange drawBelowWrong)

/-- 'sealringkeep.MacKeys': WHATEVER THE INPUT: true; the input reads as it did. -/
def macKeysSpec : ChangeSpec := { name := "macKeys", fn := fun _ => fun
  | [d1, d2, d3] => { results := [.lit (.bool true)], args := [d1, d2, d3] }
  | _ => none }
def macKeysRow : OpenClaim := { program := "ytndijgjdmookmaadoor", sum := "b0d8272eff80f8de5e767d6ece732fef192d3d3bad1e192c1e237f2b60765b29", func := "sealring/sealringkeep.MacKeys", spec := "macKeys", named := ["sealring/hash.primeRoots"], apart := false, laid := [("sealring/hash.primeRoots", laid_sealring_hash_primeRoots)] }
def MacKeysSaid : Prop := macKeysRow.holds Tryd.pinned (OpenSpec.ofChange macKeysSpec)

/-- ITS FALSE NEIGHBOUR: 'it returns false'. Refute it at one input. -/
def macKeysWrong : ChangeSpec := { name := "macKeys", fn := fun _ => fun
  | [d1, d2, d3] => { results := [.lit (.bool false)], args := [d1, d2, d3] }
  | _ => none }
def MacKeysWrongFalsely : Prop := macKeysRow.holds Tryd.pinned (OpenSpec.ofChange macKeysWrong)

/-- 'sealringkeep.TreePeaks': WHATEVER THE INPUT: true; the input reads as it did. -/
def treePeaksSpec : ChangeSpec := { name := "treePeaks", fn := fun _ => fun
  | [d1, d2] => { results := [.lit (.bool true)], args := [d1, d2] }
  | _ => none }
def treePeaksRow : OpenClaim := { program := "ytndijgjdmookmaadoor", sum := "b0d8272eff80f8de5e767d6ece732fef192d3d3bad1e192c1e237f2b60765b29", func := "sealring/sealringkeep.TreePeaks", spec := "treePeaks", recurses := true, named := ["sealring/hash.primeRoots"], apart := false, laid := [("sealring/hash.primeRoots", laid_sealring_hash_primeRoots)] }
def TreePeaksSaid : Prop := treePeaksRow.holds Tryd.pinned (OpenSpec.ofChange treePeaksSpec)

/-- ITS FALSE NEIGHBOUR: 'it returns false'. Refute it at one input. -/
def treePeaksWrong : ChangeSpec := { name := "treePeaks", fn := fun _ => fun
  | [d1, d2] => { results := [.lit (.bool false)], args := [d1, d2] }
  | _ => none }
def TreePeaksWrongFalsely : Prop := treePeaksRow.holds Tryd.pinned (OpenSpec.ofChange treePeaksWrong)

/-- 'sealringkeep.TapeBack': WHATEVER THE INPUT: true; the input reads as it did. -/
def tapeBackSpec : ChangeSpec := { name := "tapeBack", fn := fun _ => fun
  | [d1, d2] => { results := [.lit (.bool true)], args := [d1, d2] }
  | _ => none }
def tapeBackRow : OpenClaim := { program := "ytndijgjdmookmaadoor", sum := "b0d8272eff80f8de5e767d6ece732fef192d3d3bad1e192c1e237f2b60765b29", func := "sealring/sealringkeep.TapeBack", spec := "tapeBack", named := ["sealring/hash.primeRoots"], apart := false, laid := [("sealring/hash.primeRoots", laid_sealring_hash_primeRoots)] }
def TapeBackSaid : Prop := tapeBackRow.holds Tryd.pinned (OpenSpec.ofChange tapeBackSpec)

/-- ITS FALSE NEIGHBOUR: 'it returns false'. Refute it at one input. -/
def tapeBackWrong : ChangeSpec := { name := "tapeBack", fn := fun _ => fun
  | [d1, d2] => { results := [.lit (.bool false)], args := [d1, d2] }
  | _ => none }
def TapeBackWrongFalsely : Prop := tapeBackRow.holds Tryd.pinned (OpenSpec.ofChange tapeBackWrong)

/-- 'sealringkeep.TapeCuts': WHATEVER THE INPUT: true; the input reads as it did. -/
def tapeCutsSpec : ChangeSpec := { name := "tapeCuts", fn := fun _ => fun
  | [d1, d2, d3] => { results := [.lit (.bool true)], args := [d1, d2, d3] }
  | _ => none }
def tapeCutsRow : OpenClaim := { program := "ytndijgjdmookmaadoor", sum := "b0d8272eff80f8de5e767d6ece732fef192d3d3bad1e192c1e237f2b60765b29", func := "sealring/sealringkeep.TapeCuts", spec := "tapeCuts", named := ["sealring/hash.primeRoots"], apart := false, laid := [("sealring/hash.primeRoots", laid_sealring_hash_primeRoots)] }
def TapeCutsSaid : Prop := tapeCutsRow.holds Tryd.pinned (OpenSpec.ofChange tapeCutsSpec)

/-- ITS FALSE NEIGHBOUR: 'it returns false'. Refute it at one input. -/
def tapeCutsWrong : ChangeSpec := { name := "tapeCuts", fn := fun _ => fun
  | [d1, d2, d3] => { results := [.lit (.bool false)], args := [d1, d2, d3] }
  | _ => none }
def TapeCutsWrongFalsely : Prop := tapeCutsRow.holds Tryd.pinned (OpenSpec.ofChange tapeCutsWrong)

/-- 'sealringkeep.TapeGoes': WHATEVER THE INPUT: true; the input reads as it did. -/
def tapeGoesSpec : ChangeSpec := { name := "tapeGoes", fn := fun _ => fun
  | [d1, d2, d3, d4] => { results := [.lit (.bool true)], args := [d1, d2, d3, d4] }
  | _ => none }
def tapeGoesRow : OpenClaim := { program := "ytndijgjdmookmaadoor", sum := "b0d8272eff80f8de5e767d6ece732fef192d3d3bad1e192c1e237f2b60765b29", func := "sealring/sealringkeep.TapeGoes", spec := "tapeGoes", named := ["sealring/hash.primeRoots"], apart := false, laid := [("sealring/hash.primeRoots", laid_sealring_hash_primeRoots)] }
def TapeGoesSaid : Prop := tapeGoesRow.holds Tryd.pinned (OpenSpec.ofChange tapeGoesSpec)

/-- ITS FALSE NEIGHBOUR: 'it returns false'. Refute it at one input. -/
def tapeGoesWrong : ChangeSpec := { name := "tapeGoes", fn := fun _ => fun
  | [d1, d2, d3, d4] => { results := [.lit (.bool false)], args := [d1, d2, d3, d4] }
  | _ => none }
def TapeGoesWrongFalsely : Prop := tapeGoesRow.holds Tryd.pinned (OpenSpec.ofChange tapeGoesWrong)

/-- 'sealringkeep.TapeOne': WHATEVER THE INPUT: true; the input reads as it did. -/
def tapeOneSpec : ChangeSpec := { name := "tapeOne", fn := fun _ => fun
  | [d1, d2] => { results := [.lit (.bool true)], args := [d1, d2] }
  | _ => none }
def tapeOneRow : OpenClaim := { program := "ytndijgjdmookmaadoor", sum := "b0d8272eff80f8de5e767d6ece732fef192d3d3bad1e192c1e237f2b60765b29", func := "sealring/sealringkeep.TapeOne", spec := "tapeOne", named := ["sealring/hash.primeRoots"], apart := false, laid := [("sealring/hash.primeRoots", laid_sealring_hash_primeRoots)] }
def TapeOneSaid : Prop := tapeOneRow.holds Tryd.pinned (OpenSpec.ofChange tapeOneSpec)

/-- ITS FALSE NEIGHBOUR: 'it returns false'. Refute it at one input. -/
def tapeOneWrong : ChangeSpec := { name := "tapeOne", fn := fun _ => fun
  | [d1, d2] => { results := [.lit (.bool false)], args := [d1, d2] }
  | _ => none }
def TapeOneWrongFalsely : Prop := tapeOneRow.holds Tryd.pinned (OpenSpec.ofChange tapeOneWrong)

/- THE SECOND FORM. 'bulk': how many values and letters a reading holds, each counted each time it is reached (what is shared counts as often as it is met; a slice's spare places count too). A statement '..UptoSaid' is the law's where the arguments, and the package variables that the reading takes, are together of bulk at most 1048576: NARROWER than '..Said'. Prove '..Said' where nothing that the law and all that it calls make is longer than what came in: it says more and counts as full. Else prove '..UptoSaid'. A law counts once. -/
mutual
def uptoBulk {H : Type} : DataW H → Nat
  | .lit (.string bytes) => bytes.length + 1
  | .lit _ => 1
  | .nil => 1
  | .ptr d => uptoBulk d + 1
  | .slice elems spare => uptoBulkAll elems + uptoBulkAll spare + 1
  | .agg parts => uptoBulkAll parts + 1
  | .iface _ d => uptoBulk d + 1
  | .map entries => uptoBulkEntries entries + 1
  | .held _ => 1
def uptoBulkAll {H : Type} : List (DataW H) → Nat
  | [] => 0
  | d :: r => uptoBulk d + uptoBulkAll r
def uptoBulkEntries {H : Type} : List (Lit × DataW H) → Nat
  | [] => 0
  | x :: r => uptoBulkEntry x + uptoBulkEntries r
def uptoBulkEntry {H : Type} : Lit × DataW H → Nat
  | (.string bytes, d) => bytes.length + uptoBulk d + 1
  | (_, d) => uptoBulk d + 1
 end
def uptoSmall : (H : Type) → List (DataW H) → Bool := fun _ ds => decide (uptoBulkAll ds ≤ 1048576)
def OpenSpec.upto (s : _root_.Go.ChangeSpec) : _root_.Go.OpenSpec := { _root_.Go.OpenSpec.ofChange s with cond := some uptoSmall }

/-- 'sealringkeep.PinLocks', WHERE WHAT IT READS IS OF BULK AT MOST 1048576: true; the input reads as it did. -/
def pinLocksUptoRow : OpenClaim := { program := "ytndijgjdmookmaadoor", sum := "b0d8272eff80f8de5e767d6ece732fef192d3d3bad1e192c1e237f2b60765b29", func := "sealring/sealringkeep.PinLocks", spec := "pinLocks", named := ["sealring/hash.primeRoots"], apart := false, laid := [("sealring/hash.primeRoots", laid_sealring_hash_primeRoots)], narrowed := true }
def PinLocksUptoSaid : Prop := pinLocksUptoRow.holds Tryd.pinned (OpenSpec.upto pinLocksSpec)

/-- 'sealringkeep.PinBack', WHERE WHAT IT READS IS OF BULK AT MOST 1048576: true; the input reads as it did. -/
def pinBackUptoRow : OpenClaim := { program := "ytndijgjdmookmaadoor", sum := "b0d8272eff80f8de5e767d6ece732fef192d3d3bad1e192c1e237f2b60765b29", func := "sealring/sealringkeep.PinBack", spec := "pinBack", named := ["sealring/hash.primeRoots"], apart := false, laid := [("sealring/hash.primeRoots", laid_sealring_hash_primeRoots)], narrowed := true }
def PinBackUptoSaid : Prop := pinBackUptoRow.holds Tryd.pinned (OpenSpec.upto pinBackSpec)

/-- 'sealringkeep.PinChanges', WHERE WHAT IT READS IS OF BULK AT MOST 1048576: true; the input reads as it did. -/
def pinChangesUptoRow : OpenClaim := { program := "ytndijgjdmookmaadoor", sum := "b0d8272eff80f8de5e767d6ece732fef192d3d3bad1e192c1e237f2b60765b29", func := "sealring/sealringkeep.PinChanges", spec := "pinChanges", named := ["sealring/hash.primeRoots"], apart := false, laid := [("sealring/hash.primeRoots", laid_sealring_hash_primeRoots)], narrowed := true }
def PinChangesUptoSaid : Prop := pinChangesUptoRow.holds Tryd.pinned (OpenSpec.upto pinChangesSpec)

/-- 'sealringkeep.DrawBelow', WHERE WHAT IT READS IS OF BULK AT MOST 1048576: true; the input reads as it did. -/
def drawBelowUptoRow : OpenClaim := { program := "ytndijgjdmookmaadoor", sum := "b0d8272eff80f8de5e767d6ece732fef192d3d3bad1e192c1e237f2b60765b29", func := "sealring/sealringkeep.DrawBelow", spec := "drawBelow", inPlace := ["math/bits.Sub64"], named := ["sealring/hash.primeRoots"], apart := false, laid := [("sealring/hash.primeRoots", laid_sealring_hash_primeRoots)], narrowed := true }
def DrawBelowUptoSaid : Prop := drawBelowUptoRow.holds Tryd.pinned (OpenSpec.upto drawBelowSpec)

/-- 'sealringkeep.MacKeys', WHERE WHAT IT READS IS OF BULK AT MOST 1048576: true; the input reads as it did. -/
def macKeysUptoRow : OpenClaim := { program := "ytndijgjdmookmaadoor", sum := "b0d8272eff80f8de5e767d6ece732fef192d3d3bad1e192c1e237f2b60765b29", func := "sealring/sealringkeep.MacKeys", spec := "macKeys", named := ["sealring/hash.primeRoots"], apart := false, laid := [("sealring/hash.primeRoots", laid_sealring_hash_primeRoots)], narrowed := true }
def MacKeysUptoSaid : Prop := macKeysUptoRow.holds Tryd.pinned (OpenSpec.upto macKeysSpec)

/-- 'sealringkeep.TreePeaks', WHERE WHAT IT READS IS OF BULK AT MOST 1048576: true; the input reads as it did. -/
def treePeaksUptoRow : OpenClaim := { program := "ytndijgjdmookmaadoor", sum := "b0d8272eff80f8de5e767d6ece732fef192d3d3bad1e192c1e237f2b60765b29", func := "sealring/sealringkeep.TreePeaks", spec := "treePeaks", recurses := true, named := ["sealring/hash.primeRoots"], apart := false, laid := [("sealring/hash.primeRoots", laid_sealring_hash_primeRoots)], narrowed := true }
def TreePeaksUptoSaid : Prop := treePeaksUptoRow.holds Tryd.pinned (OpenSpec.upto treePeaksSpec)

/-- 'sealringkeep.TapeBack', WHERE WHAT IT READS IS OF BULK AT MOST 1048576: true; the input reads as it did. -/
def tapeBackUptoRow : OpenClaim := { program := "ytndijgjdmookmaadoor", sum := "b0d8272eff80f8de5e767d6ece732fef192d3d3bad1e192c1e237f2b60765b29", func := "sealring/sealringkeep.TapeBack", spec := "tapeBack", named := ["sealring/hash.primeRoots"], apart := false, laid := [("sealring/hash.primeRoots", laid_sealring_hash_primeRoots)], narrowed := true }
def TapeBackUptoSaid : Prop := tapeBackUptoRow.holds Tryd.pinned (OpenSpec.upto tapeBackSpec)

/-- 'sealringkeep.TapeCuts', WHERE WHAT IT READS IS OF BULK AT MOST 1048576: true; the input reads as it did. -/
def tapeCutsUptoRow : OpenClaim := { program := "ytndijgjdmookmaadoor", sum := "b0d8272eff80f8de5e767d6ece732fef192d3d3bad1e192c1e237f2b60765b29", func := "sealring/sealringkeep.TapeCuts", spec := "tapeCuts", named := ["sealring/hash.primeRoots"], apart := false, laid := [("sealring/hash.primeRoots", laid_sealring_hash_primeRoots)], narrowed := true }
def TapeCutsUptoSaid : Prop := tapeCutsUptoRow.holds Tryd.pinned (OpenSpec.upto tapeCutsSpec)

/-- 'sealringkeep.TapeGoes', WHERE WHAT IT READS IS OF BULK AT MOST 1048576: true; the input reads as it did. -/
def tapeGoesUptoRow : OpenClaim := { program := "ytndijgjdmookmaadoor", sum := "b0d8272eff80f8de5e767d6ece732fef192d3d3bad1e192c1e237f2b60765b29", func := "sealring/sealringkeep.TapeGoes", spec := "tapeGoes", named := ["sealring/hash.primeRoots"], apart := false, laid := [("sealring/hash.primeRoots", laid_sealring_hash_primeRoots)], narrowed := true }
def TapeGoesUptoSaid : Prop := tapeGoesUptoRow.holds Tryd.pinned (OpenSpec.upto tapeGoesSpec)

/-- 'sealringkeep.TapeOne', WHERE WHAT IT READS IS OF BULK AT MOST 1048576: true; the input reads as it did. -/
def tapeOneUptoRow : OpenClaim := { program := "ytndijgjdmookmaadoor", sum := "b0d8272eff80f8de5e767d6ece732fef192d3d3bad1e192c1e237f2b60765b29", func := "sealring/sealringkeep.TapeOne", spec := "tapeOne", named := ["sealring/hash.primeRoots"], apart := false, laid := [("sealring/hash.primeRoots", laid_sealring_hash_primeRoots)], narrowed := true }
def TapeOneUptoSaid : Prop := tapeOneUptoRow.holds Tryd.pinned (OpenSpec.upto tapeOneSpec)

end Rows
end Go.Proofs.YtndijgjdmookmaaDoor
