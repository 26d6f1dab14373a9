/-
  No cell of these rows narrows 'for every input' (looked for: loops, veiled, ifaces, maps, wideKeys, modest, calm, conditions, laid).
  DERIVED. THE GIVEN ROWS OF THIS SEAT. 18 by the template 'for every input the law returns true; each argument reads behind the call as it read before'; 0 by the template 'total and deterministic' (their statements: YtninlahlmjhmhaaTotals.lean).
  GIVEN WITH THE SEED: the statements are not yours to turn. If you find one false, say at which input.
  Laid BY PROGRAM, IN A SANDBOX (cutbox-rows.mjs): the forced cells as the released guide's own fill.sh prints them over the translation 4efbff88462d0bc9… (all of the seat's roots in one cut). By AI agents, Wed Nov 11 2026. No macro, syntax, notation, axiom, sorry.
-/
import Derived.Test.YtninlahlmjhmhaaChecked
import GoSem.Claim
import GoSem.ClaimJoined
import GoSem.ClaimMapViews
import Derived.JoinedTies
import Derived.KernelRfl
namespace Go.Proofs.Ytninlahlmjhmhaa
/- THE CELL 'sum', in the pinned program and in every row, IS THE sha256 OF THE DUMP (.gsa) THAT YtninlahlmjhmhaaProg.lean LOADS. Nothing in Lean hashes anything: it is a label: what it is worth is what the hold of that sum in a sandbox is worth. -/
noncomputable def Try.pinned : Pinned := { name := "ytninlahlmjhmhaa", sum := "4efbff88462d0bc93efae45fd269ad033338fcff54af5f8a95711e03862804e2", checked := Try.checked }
namespace Rows
def none {H : Type} : Left H := { results := [], args := [] }

/-- 'sealringkeep.LimbBack': WHATEVER THE INPUT: true; the input reads as it did. -/
def limbBackSpec : ChangeSpec := { name := "limbBack", fn := fun _ => fun
  | [d1, d2] => { results := [.lit (.bool true)], args := [d1, d2] }
  | _ => none }
def limbBackRow : OpenClaim := { program := "ytninlahlmjhmhaa", sum := "4efbff88462d0bc93efae45fd269ad033338fcff54af5f8a95711e03862804e2", func := "sealring/sealringkeep.LimbBack", spec := "limbBack", inPlace := ["math/bits.Add64", "math/bits.Sub64"], apart := false }
def LimbBackSaid : Prop := limbBackRow.holds Try.pinned (OpenSpec.ofChange limbBackSpec)

/-- ITS FALSE NEIGHBOUR: 'it returns false'. Refute it at one input. -/
def limbBackWrong : ChangeSpec := { name := "limbBack", fn := fun _ => fun
  | [d1, d2] => { results := [.lit (.bool false)], args := [d1, d2] }
  | _ => none }
def LimbBackWrongFalsely : Prop := limbBackRow.holds Try.pinned (OpenSpec.ofChange limbBackWrong)

/-- 'sealringkeep.LimbBytes': WHATEVER THE INPUT: true; the input reads as it did. -/
def limbBytesSpec : ChangeSpec := { name := "limbBytes", fn := fun _ => fun
  | [d1, d2, d3, d4, d5] => { results := [.lit (.bool true)], args := [d1, d2, d3, d4, d5] }
  | _ => none }
def limbBytesRow : OpenClaim := { program := "ytninlahlmjhmhaa", sum := "4efbff88462d0bc93efae45fd269ad033338fcff54af5f8a95711e03862804e2", func := "sealring/sealringkeep.LimbBytes", spec := "limbBytes", apart := false }
def LimbBytesSaid : Prop := limbBytesRow.holds Try.pinned (OpenSpec.ofChange limbBytesSpec)

/-- ITS FALSE NEIGHBOUR: 'it returns false'. Refute it at one input. -/
def limbBytesWrong : ChangeSpec := { name := "limbBytes", fn := fun _ => fun
  | [d1, d2, d3, d4, d5] => { results := [.lit (.bool false)], args := [d1, d2, d3, d4, d5] }
  | _ => none }
def LimbBytesWrongFalsely : Prop := limbBytesRow.holds Try.pinned (OpenSpec.ofChange limbBytesWrong)

/-- 'sealringkeep.LimbOrder': WHATEVER THE INPUT: true; the input reads as it did. -/
def limbOrderSpec : ChangeSpec := { name := "limbOrder", fn := fun _ => fun
  | [d1, d2, d3] => { results := [.lit (.bool true)], args := [d1, d2, d3] }
  | _ => none }
def limbOrderRow : OpenClaim := { program := "ytninlahlmjhmhaa", sum := "4efbff88462d0bc93efae45fd269ad033338fcff54af5f8a95711e03862804e2", func := "sealring/sealringkeep.LimbOrder", spec := "limbOrder", inPlace := ["math/bits.Sub64", "math/bits.Add64"], apart := false }
def LimbOrderSaid : Prop := limbOrderRow.holds Try.pinned (OpenSpec.ofChange limbOrderSpec)

/-- ITS FALSE NEIGHBOUR: 'it returns false'. Refute it at one input. -/
def limbOrderWrong : ChangeSpec := { name := "limbOrder", fn := fun _ => fun
  | [d1, d2, d3] => { results := [.lit (.bool false)], args := [d1, d2, d3] }
  | _ => none }
def LimbOrderWrongFalsely : Prop := limbOrderRow.holds Try.pinned (OpenSpec.ofChange limbOrderWrong)

/-- 'sealringkeep.LimbSums': WHATEVER THE INPUT: true; the input reads as it did. -/
def limbSumsSpec : ChangeSpec := { name := "limbSums", fn := fun _ => fun
  | [d1, d2, d3] => { results := [.lit (.bool true)], args := [d1, d2, d3] }
  | _ => none }
def limbSumsRow : OpenClaim := { program := "ytninlahlmjhmhaa", sum := "4efbff88462d0bc93efae45fd269ad033338fcff54af5f8a95711e03862804e2", func := "sealring/sealringkeep.LimbSums", spec := "limbSums", inPlace := ["math/bits.Add64"], apart := false }
def LimbSumsSaid : Prop := limbSumsRow.holds Try.pinned (OpenSpec.ofChange limbSumsSpec)

/-- ITS FALSE NEIGHBOUR: 'it returns false'. Refute it at one input. -/
def limbSumsWrong : ChangeSpec := { name := "limbSums", fn := fun _ => fun
  | [d1, d2, d3] => { results := [.lit (.bool false)], args := [d1, d2, d3] }
  | _ => none }
def LimbSumsWrongFalsely : Prop := limbSumsRow.holds Try.pinned (OpenSpec.ofChange limbSumsWrong)

/-- 'sealringkeep.LimbThrice': WHATEVER THE INPUT: true; the input reads as it did. -/
def limbThriceSpec : ChangeSpec := { name := "limbThrice", fn := fun _ => fun
  | [d1, d2, d3] => { results := [.lit (.bool true)], args := [d1, d2, d3] }
  | _ => none }
def limbThriceRow : OpenClaim := { program := "ytninlahlmjhmhaa", sum := "4efbff88462d0bc93efae45fd269ad033338fcff54af5f8a95711e03862804e2", func := "sealring/sealringkeep.LimbThrice", spec := "limbThrice", inPlace := ["math/bits.Add64"], apart := false }
def LimbThriceSaid : Prop := limbThriceRow.holds Try.pinned (OpenSpec.ofChange limbThriceSpec)

/-- ITS FALSE NEIGHBOUR: 'it returns false'. Refute it at one input. -/
def limbThriceWrong : ChangeSpec := { name := "limbThrice", fn := fun _ => fun
  | [d1, d2, d3] => { results := [.lit (.bool false)], args := [d1, d2, d3] }
  | _ => none }
def LimbThriceWrongFalsely : Prop := limbThriceRow.holds Try.pinned (OpenSpec.ofChange limbThriceWrong)

/-- 'sealringkeep.LimbTimes': WHATEVER THE INPUT: true; the input reads as it did. -/
def limbTimesSpec : ChangeSpec := { name := "limbTimes", fn := fun _ => fun
  | [d1, d2, d3] => { results := [.lit (.bool true)], args := [d1, d2, d3] }
  | _ => none }
def limbTimesRow : OpenClaim := { program := "ytninlahlmjhmhaa", sum := "4efbff88462d0bc93efae45fd269ad033338fcff54af5f8a95711e03862804e2", func := "sealring/sealringkeep.LimbTimes", spec := "limbTimes", inPlace := ["math/bits.Add64"], apart := false }
def LimbTimesSaid : Prop := limbTimesRow.holds Try.pinned (OpenSpec.ofChange limbTimesSpec)

/-- ITS FALSE NEIGHBOUR: 'it returns false'. Refute it at one input. -/
def limbTimesWrong : ChangeSpec := { name := "limbTimes", fn := fun _ => fun
  | [d1, d2, d3] => { results := [.lit (.bool false)], args := [d1, d2, d3] }
  | _ => none }
def LimbTimesWrongFalsely : Prop := limbTimesRow.holds Try.pinned (OpenSpec.ofChange limbTimesWrong)

/-- 'sealringkeep.LimbBits': WHATEVER THE INPUT: true; the input reads as it did. -/
def limbBitsSpec : ChangeSpec := { name := "limbBits", fn := fun _ => fun
  | [d] => { results := [.lit (.bool true)], args := [d] }
  | _ => none }
def limbBitsRow : OpenClaim := { program := "ytninlahlmjhmhaa", sum := "4efbff88462d0bc93efae45fd269ad033338fcff54af5f8a95711e03862804e2", func := "sealring/sealringkeep.LimbBits", spec := "limbBits", inPlace := ["math/bits.Add64"], apart := false }
def LimbBitsSaid : Prop := limbBitsRow.holds Try.pinned (OpenSpec.ofChange limbBitsSpec)

/-- ITS FALSE NEIGHBOUR: 'it returns false'. Refute it at one input. -/
def limbBitsWrong : ChangeSpec := { name := "limbBits", fn := fun _ => fun
  | [d] => { results := [.lit (.bool false)], args := [d] }
  | _ => none }
def LimbBitsWrongFalsely : Prop := limbBitsRow.holds Try.pinned (OpenSpec.ofChange limbBitsWrong)

/-- 'sealringkeep.LimbShifts': WHATEVER THE INPUT: true; the input reads as it did. -/
def limbShiftsSpec : ChangeSpec := { name := "limbShifts", fn := fun _ => fun
  | [d1, d2] => { results := [.lit (.bool true)], args := [d1, d2] }
  | _ => none }
def limbShiftsRow : OpenClaim := { program := "ytninlahlmjhmhaa", sum := "4efbff88462d0bc93efae45fd269ad033338fcff54af5f8a95711e03862804e2", func := "sealring/sealringkeep.LimbShifts", spec := "limbShifts", inPlace := ["math/bits.Add64"], apart := false }
def LimbShiftsSaid : Prop := limbShiftsRow.holds Try.pinned (OpenSpec.ofChange limbShiftsSpec)

/-- ITS FALSE NEIGHBOUR: 'it returns false'. Refute it at one input. -/
def limbShiftsWrong : ChangeSpec := { name := "limbShifts", fn := fun _ => fun
  | [d1, d2] => { results := [.lit (.bool false)], args := [d1, d2] }
  | _ => none }
def LimbShiftsWrongFalsely : Prop := limbShiftsRow.holds Try.pinned (OpenSpec.ofChange limbShiftsWrong)

/-- 'sealringkeep.QuotGcd': WHATEVER THE INPUT: true; the input reads as it did. -/
def quotGcdSpec : ChangeSpec := { name := "quotGcd", fn := fun _ => fun
  | [d1, d2, d3] => { results := [.lit (.bool true)], args := [d1, d2, d3] }
  | _ => none }
def quotGcdRow : OpenClaim := { program := "ytninlahlmjhmhaa", sum := "4efbff88462d0bc93efae45fd269ad033338fcff54af5f8a95711e03862804e2", func := "sealring/sealringkeep.QuotGcd", spec := "quotGcd", inPlace := ["math/bits.Sub64"], apart := false }
def QuotGcdSaid : Prop := quotGcdRow.holds Try.pinned (OpenSpec.ofChange quotGcdSpec)

/-- ITS FALSE NEIGHBOUR: 'it returns false'. Refute it at one input. -/
def quotGcdWrong : ChangeSpec := { name := "quotGcd", fn := fun _ => fun
  | [d1, d2, d3] => { results := [.lit (.bool false)], args := [d1, d2, d3] }
  | _ => none }
def QuotGcdWrongFalsely : Prop := quotGcdRow.holds Try.pinned (OpenSpec.ofChange quotGcdWrong)

/-- 'sealringkeep.QuotSums': WHATEVER THE INPUT: true; the input reads as it did. -/
def quotSumsSpec : ChangeSpec := { name := "quotSums", fn := fun _ => fun
  | [d1, d2, d3] => { results := [.lit (.bool true)], args := [d1, d2, d3] }
  | _ => none }
def quotSumsRow : OpenClaim := { program := "ytninlahlmjhmhaa", sum := "4efbff88462d0bc93efae45fd269ad033338fcff54af5f8a95711e03862804e2", func := "sealring/sealringkeep.QuotSums", spec := "quotSums", inPlace := ["math/bits.Sub64", "math/bits.Add64"], apart := false }
def QuotSumsSaid : Prop := quotSumsRow.holds Try.pinned (OpenSpec.ofChange quotSumsSpec)

/-- ITS FALSE NEIGHBOUR: 'it returns false'. Refute it at one input. -/
def quotSumsWrong : ChangeSpec := { name := "quotSums", fn := fun _ => fun
  | [d1, d2, d3] => { results := [.lit (.bool false)], args := [d1, d2, d3] }
  | _ => none }
def QuotSumsWrongFalsely : Prop := quotSumsRow.holds Try.pinned (OpenSpec.ofChange quotSumsWrong)

/-- 'sealringkeep.QuotBack': WHATEVER THE INPUT: true; the input reads as it did. -/
def quotBackSpec : ChangeSpec := { name := "quotBack", fn := fun _ => fun
  | [d1, d2] => { results := [.lit (.bool true)], args := [d1, d2] }
  | _ => none }
def quotBackRow : OpenClaim := { program := "ytninlahlmjhmhaa", sum := "4efbff88462d0bc93efae45fd269ad033338fcff54af5f8a95711e03862804e2", func := "sealring/sealringkeep.QuotBack", spec := "quotBack", inPlace := ["math/bits.Sub64", "math/bits.Add64"], apart := false }
def QuotBackSaid : Prop := quotBackRow.holds Try.pinned (OpenSpec.ofChange quotBackSpec)

/-- ITS FALSE NEIGHBOUR: 'it returns false'. Refute it at one input. -/
def quotBackWrong : ChangeSpec := { name := "quotBack", fn := fun _ => fun
  | [d1, d2] => { results := [.lit (.bool false)], args := [d1, d2] }
  | _ => none }
def QuotBackWrongFalsely : Prop := quotBackRow.holds Try.pinned (OpenSpec.ofChange quotBackWrong)

/-- 'sealringkeep.QuotOnly': WHATEVER THE INPUT: true; the input reads as it did. -/
def quotOnlySpec : ChangeSpec := { name := "quotOnly", fn := fun _ => fun
  | [d1, d2, d3] => { results := [.lit (.bool true)], args := [d1, d2, d3] }
  | _ => none }
def quotOnlyRow : OpenClaim := { program := "ytninlahlmjhmhaa", sum := "4efbff88462d0bc93efae45fd269ad033338fcff54af5f8a95711e03862804e2", func := "sealring/sealringkeep.QuotOnly", spec := "quotOnly", inPlace := ["math/bits.Sub64", "math/bits.Add64"], apart := false }
def QuotOnlySaid : Prop := quotOnlyRow.holds Try.pinned (OpenSpec.ofChange quotOnlySpec)

/-- ITS FALSE NEIGHBOUR: 'it returns false'. Refute it at one input. -/
def quotOnlyWrong : ChangeSpec := { name := "quotOnly", fn := fun _ => fun
  | [d1, d2, d3] => { results := [.lit (.bool false)], args := [d1, d2, d3] }
  | _ => none }
def QuotOnlyWrongFalsely : Prop := quotOnlyRow.holds Try.pinned (OpenSpec.ofChange quotOnlyWrong)

/-- 'sealringkeep.QuotBezout': WHATEVER THE INPUT: true; the input reads as it did. -/
def quotBezoutSpec : ChangeSpec := { name := "quotBezout", fn := fun _ => fun
  | [d1, d2] => { results := [.lit (.bool true)], args := [d1, d2] }
  | _ => none }
def quotBezoutRow : OpenClaim := { program := "ytninlahlmjhmhaa", sum := "4efbff88462d0bc93efae45fd269ad033338fcff54af5f8a95711e03862804e2", func := "sealring/sealringkeep.QuotBezout", spec := "quotBezout", inPlace := ["math/bits.Sub64", "math/bits.Add64"], apart := false }
def QuotBezoutSaid : Prop := quotBezoutRow.holds Try.pinned (OpenSpec.ofChange quotBezoutSpec)

/-- ITS FALSE NEIGHBOUR: 'it returns false'. Refute it at one input. -/
def quotBezoutWrong : ChangeSpec := { name := "quotBezout", fn := fun _ => fun
  | [d1, d2] => { results := [.lit (.bool false)], args := [d1, d2] }
  | _ => none }
def QuotBezoutWrongFalsely : Prop := quotBezoutRow.holds Try.pinned (OpenSpec.ofChange quotBezoutWrong)

/-- 'sealringkeep.RingOut': WHATEVER THE INPUT: true; the input reads as it did. -/
def ringOutSpec : ChangeSpec := { name := "ringOut", fn := fun _ => fun
  | [d1, d2, d3, d4] => { results := [.lit (.bool true)], args := [d1, d2, d3, d4] }
  | _ => none }
def ringOutRow : OpenClaim := { program := "ytninlahlmjhmhaa", sum := "4efbff88462d0bc93efae45fd269ad033338fcff54af5f8a95711e03862804e2", func := "sealring/sealringkeep.RingOut", spec := "ringOut", inPlace := ["math/bits.Sub64", "math/bits.Add64"], apart := false }
def RingOutSaid : Prop := ringOutRow.holds Try.pinned (OpenSpec.ofChange ringOutSpec)

/-- ITS FALSE NEIGHBOUR: 'it returns false'. Refute it at one input. -/
def ringOutWrong : ChangeSpec := { name := "ringOut", fn := fun _ => fun
  | [d1, d2, d3, d4] => { results := [.lit (.bool false)], args := [d1, d2, d3, d4] }
  | _ => none }
def RingOutWrongFalsely : Prop := ringOutRow.holds Try.pinned (OpenSpec.ofChange ringOutWrong)

/-- 'sealringkeep.RingLaws': WHATEVER THE INPUT: true; the input reads as it did. -/
def ringLawsSpec : ChangeSpec := { name := "ringLaws", fn := fun _ => fun
  | [d1, d2, d3, d4] => { results := [.lit (.bool true)], args := [d1, d2, d3, d4] }
  | _ => none }
def ringLawsRow : OpenClaim := { program := "ytninlahlmjhmhaa", sum := "4efbff88462d0bc93efae45fd269ad033338fcff54af5f8a95711e03862804e2", func := "sealring/sealringkeep.RingLaws", spec := "ringLaws", inPlace := ["math/bits.Sub64", "math/bits.Add64"], apart := false }
def RingLawsSaid : Prop := ringLawsRow.holds Try.pinned (OpenSpec.ofChange ringLawsSpec)

/-- ITS FALSE NEIGHBOUR: 'it returns false'. Refute it at one input. -/
def ringLawsWrong : ChangeSpec := { name := "ringLaws", fn := fun _ => fun
  | [d1, d2, d3, d4] => { results := [.lit (.bool false)], args := [d1, d2, d3, d4] }
  | _ => none }
def RingLawsWrongFalsely : Prop := ringLawsRow.holds Try.pinned (OpenSpec.ofChange ringLawsWrong)

/-- 'sealringkeep.RingPowers': WHATEVER THE INPUT: true; the input reads as it did. -/
def ringPowersSpec : ChangeSpec := { name := "ringPowers", fn := fun _ => fun
  | [d1, d2, d3, d4] => { results := [.lit (.bool true)], args := [d1, d2, d3, d4] }
  | _ => none }
def ringPowersRow : OpenClaim := { program := "ytninlahlmjhmhaa", sum := "4efbff88462d0bc93efae45fd269ad033338fcff54af5f8a95711e03862804e2", func := "sealring/sealringkeep.RingPowers", spec := "ringPowers", inPlace := ["math/bits.Sub64", "math/bits.Add64"], apart := false }
def RingPowersSaid : Prop := ringPowersRow.holds Try.pinned (OpenSpec.ofChange ringPowersSpec)

/-- ITS FALSE NEIGHBOUR: 'it returns false'. Refute it at one input. -/
def ringPowersWrong : ChangeSpec := { name := "ringPowers", fn := fun _ => fun
  | [d1, d2, d3, d4] => { results := [.lit (.bool false)], args := [d1, d2, d3, d4] }
  | _ => none }
def RingPowersWrongFalsely : Prop := ringPowersRow.holds Try.pinned (OpenSpec.ofChange ringPowersWrong)

/-- 'sealringkeep.RingFermat': WHATEVER THE INPUT: true; the input reads as it did. -/
def ringFermatSpec : ChangeSpec := { name := "ringFermat", fn := fun _ => fun
  | [d] => { results := [.lit (.bool true)], args := [d] }
  | _ => none }
def ringFermatRow : OpenClaim := { program := "ytninlahlmjhmhaa", sum := "4efbff88462d0bc93efae45fd269ad033338fcff54af5f8a95711e03862804e2", func := "sealring/sealringkeep.RingFermat", spec := "ringFermat", inPlace := ["math/bits.Sub64", "math/bits.Add64"], apart := false }
def RingFermatSaid : Prop := ringFermatRow.holds Try.pinned (OpenSpec.ofChange ringFermatSpec)

/-- ITS FALSE NEIGHBOUR: 'it returns false'. Refute it at one input. -/
def ringFermatWrong : ChangeSpec := { name := "ringFermat", fn := fun _ => fun
  | [d] => { results := [.lit (.bool false)], args := [d] }
  | _ => none }
def RingFermatWrongFalsely : Prop := ringFermatRow.holds Try.pinned (OpenSpec.ofChange ringFermatWrong)

/-- 'sealringkeep.RingPows': WHATEVER THE INPUT: true; the input reads as it did. -/
def ringPowsSpec : ChangeSpec := { name := "ringPows", fn := fun _ => fun
  | [d1, d2, d3, d4, d5] => { results := [.lit (.bool true)], args := [d1, d2, d3, d4, d5] }
  | _ => none }
def ringPowsRow : OpenClaim := { program := "ytninlahlmjhmhaa", sum := "4efbff88462d0bc93efae45fd269ad033338fcff54af5f8a95711e03862804e2", func := "sealring/sealringkeep.RingPows", spec := "ringPows", inPlace := ["math/bits.Sub64", "math/bits.Add64"], apart := false }
def RingPowsSaid : Prop := ringPowsRow.holds Try.pinned (OpenSpec.ofChange ringPowsSpec)

/-- ITS FALSE NEIGHBOUR: 'it returns false'. Refute it at one input. -/
def ringPowsWrong : ChangeSpec := { name := "ringPows", fn := fun _ => fun
  | [d1, d2, d3, d4, d5] => { results := [.lit (.bool false)], args := [d1, d2, d3, d4, d5] }
  | _ => none }
def RingPowsWrongFalsely : Prop := ringPowsRow.holds Try.pinned (OpenSpec.ofChange ringPowsWrong)

/- THE SECOND FORM. 'bulk': how many values and letters a reading holds, each counted each time it is reached (what is shared counts as often as it is met; a slice's spare places count too). A statement '..UptoSaid' is the law's where the arguments, and the package variables that the reading takes, are together of bulk at most 1048576: NARROWER than '..Said'. Prove '..Said' where nothing that the law and all that it calls make is longer than what came in: it says more and counts as full. Else prove '..UptoSaid'. A law counts once. -/
mutual
def uptoBulk {H : Type} : DataW H → Nat
  | .lit (.string bytes) => bytes.length + 1
  | .lit _ => 1
  | .nil => 1
  | .ptr d => uptoBulk d + 1
  | .slice elems spare => uptoBulkAll elems + uptoBulkAll spare + 1
  | .agg parts => uptoBulkAll parts + 1
  | .iface _ d => uptoBulk d + 1
  | .map entries => uptoBulkEntries entries + 1
  | .held _ => 1
def uptoBulkAll {H : Type} : List (DataW H) → Nat
  | [] => 0
  | d :: r => uptoBulk d + uptoBulkAll r
def uptoBulkEntries {H : Type} : List (Lit × DataW H) → Nat
  | [] => 0
  | x :: r => uptoBulkEntry x + uptoBulkEntries r
def uptoBulkEntry {H : Type} : Lit × DataW H → Nat
  | (.string bytes, d) => bytes.length + uptoBulk d + 1
  | (_, d) => uptoBulk d + 1
 end
def uptoSmall : (H : Type) → List (DataW H) → Bool := fun _ ds => decide (uptoBulkAll ds ≤ 1048576)
def OpenSpec.upto (s : _root_.Go.ChangeSpec) : _root_.Go.OpenSpec := { _root_.Go.OpenSpec.ofChange s with cond := some uptoSmall }

/-- 'sealringkeep.LimbBack', WHERE WHAT IT READS IS OF BULK AT MOST 1048576: true; the input reads as it did. -/
def limbBackUptoRow : OpenClaim := { program := "ytninlahlmjhmhaa", sum := "4efbff88462d0bc93efae45fd269ad033338fcff54af5f8a95711e03862804e2", func := "sealring/sealringkeep.LimbBack", spec := "limbBack", inPlace := ["math/bits.Add64", "math/bits.Sub64"], apart := false, narrowed := true }
def LimbBackUptoSaid : Prop := limbBackUptoRow.holds Try.pinned (OpenSpec.upto limbBackSpec)

/-- 'sealringkeep.LimbBytes', WHERE WHAT IT READS IS OF BULK AT MOST 1048576: true; the input reads as it did. -/
def limbBytesUptoRow : OpenClaim := { program := "ytninlahlmjhmhaa", sum := "4efbff88462d0bc93efae45fd269ad033338fcff54af5f8a95711e03862804e2", func := "sealring/sealringkeep.LimbBytes", spec := "limbBytes", apart := false, narrowed := true }
def LimbBytesUptoSaid : Prop := limbBytesUptoRow.holds Try.pinned (OpenSpec.upto limbBytesSpec)

/-- 'sealringkeep.LimbOrder', WHERE WHAT IT READS IS OF BULK AT MOST 1048576: true; the input reads as it did. -/
def limbOrderUptoRow : OpenClaim := { program := "ytninlahlmjhmhaa", sum := "4efbff88462d0bc93efae45fd269ad033338fcff54af5f8a95711e03862804e2", func := "sealring/sealringkeep.LimbOrder", spec := "limbOrder", inPlace := ["math/bits.Sub64", "math/bits.Add64"], apart := false, narrowed := true }
def LimbOrderUptoSaid : Prop := limbOrderUptoRow.holds Try.pinned (OpenSpec.upto limbOrderSpec)

/-- 'sealringkeep.LimbSums', WHERE WHAT IT READS IS OF BULK AT MOST 1048576: true; the input reads as it did. -/
def limbSumsUptoRow : OpenClaim := { program := "ytninlahlmjhmhaa", sum := "4efbff88462d0bc93efae45fd269ad033338fcff54af5f8a95711e03862804e2", func := "sealring/sealringkeep.LimbSums", spec := "limbSums", inPlace := ["math/bits.Add64"], apart := false, narrowed := true }
def LimbSumsUptoSaid : Prop := limbSumsUptoRow.holds Try.pinned (OpenSpec.upto limbSumsSpec)

/-- 'sealringkeep.LimbThrice', WHERE WHAT IT READS IS OF BULK AT MOST 1048576: true; the input reads as it did. -/
def limbThriceUptoRow : OpenClaim := { program := "ytninlahlmjhmhaa", sum := "4efbff88462d0bc93efae45fd269ad033338fcff54af5f8a95711e03862804e2", func := "sealring/sealringkeep.LimbThrice", spec := "limbThrice", inPlace := ["math/bits.Add64"], apart := false, narrowed := true }
def LimbThriceUptoSaid : Prop := limbThriceUptoRow.holds Try.pinned (OpenSpec.upto limbThriceSpec)

/-- 'sealringkeep.LimbTimes', WHERE WHAT IT READS IS OF BULK AT MOST 1048576: true; the input reads as it did. -/
def limbTimesUptoRow : OpenClaim := { program := "ytninlahlmjhmhaa", sum := "4efbff88462d0bc93efae45fd269ad033338fcff54af5f8a95711e03862804e2", func := "sealring/sealringkeep.LimbTimes", spec := "limbTimes", inPlace := ["math/bits.Add64"], apart := false, narrowed := true }
def LimbTimesUptoSaid : Prop := limbTimesUptoRow.holds Try.pinned (OpenSpec.upto limbTimesSpec)

/-- 'sealringkeep.LimbBits', WHERE WHAT IT READS IS OF BULK AT MOST 1048576: true; the input reads as it did. -/
def limbBitsUptoRow : OpenClaim := { program := "ytninlahlmjhmhaa", sum := "4efbff88462d0bc93efae45fd269ad033338fcff54af5f8a95711e03862804e2", func := "sealring/sealringkeep.LimbBits", spec := "limbBits", inPlace := ["math/bits.Add64"], apart := false, narrowed := true }
def LimbBitsUptoSaid : Prop := limbBitsUptoRow.holds Try.pinned (OpenSpec.upto limbBitsSpec)

/-- 'sealringkeep.LimbShifts', WHERE WHAT IT READS IS OF BULK AT MOST 1048576: true; the input reads as it did. -/
def limbShiftsUptoRow : OpenClaim := { program := "ytninlahlmjhmhaa", sum := "4efbff88462d0bc93efae45fd269ad033338fcff54af5f8a95711e03862804e2", func := "sealring/sealringkeep.LimbShifts", spec := "limbShifts", inPlace := ["math/bits.Add64"], apart := false, narrowed := true }
def LimbShiftsUptoSaid : Prop := limbShiftsUptoRow.holds Try.pinned (OpenSpec.upto limbShiftsSpec)

/-- 'sealringkeep.QuotGcd', WHERE WHAT IT READS IS OF BULK AT MOST 1048576: true; the input reads as it did. -/
def quotGcdUptoRow : OpenClaim := { program := "ytninlahlmjhmhaa", sum := "4efbff88462d0bc93efae45fd269ad033338fcff54af5f8a95711e03862804e2", func := "sealring/sealringkeep.QuotGcd", spec := "quotGcd", inPlace := ["math/bits.Sub64"], apart := false, narrowed := true }
def QuotGcdUptoSaid : Prop := quotGcdUptoRow.holds Try.pinned (OpenSpec.upto quotGcdSpec)

/-- 'sealringkeep.QuotSums', WHERE WHAT IT READS IS OF BULK AT MOST 1048576: true; the input reads as it did. -/
def quotSumsUptoRow : OpenClaim := { program := "ytninlahlmjhmhaa", sum := "4efbff88462d0bc93efae45fd269ad033338fcff54af5f8a95711e03862804e2", func := "sealring/sealringkeep.QuotSums", spec := "quotSums", inPlace := ["math/bits.Sub64", "math/bits.Add64"], apart := false, narrowed := true }
def QuotSumsUptoSaid : Prop := quotSumsUptoRow.holds Try.pinned (OpenSpec.upto quotSumsSpec)

/-- 'sealringkeep.QuotBack', WHERE WHAT IT READS IS OF BULK AT MOST 1048576: true; the input reads as it did. -/
def quotBackUptoRow : OpenClaim := { program := "ytninlahlmjhmhaa", sum := "4efbff88462d0bc93efae45fd269ad033338fcff54af5f8a95711e03862804e2", func := "sealring/sealringkeep.QuotBack", spec := "quotBack", inPlace := ["math/bits.Sub64", "math/bits.Add64"], apart := false, narrowed := true }
def QuotBackUptoSaid : Prop := quotBackUptoRow.holds Try.pinned (OpenSpec.upto quotBackSpec)

/-- 'sealringkeep.QuotOnly', WHERE WHAT IT READS IS OF BULK AT MOST 1048576: true; the input reads as it did. -/
def quotOnlyUptoRow : OpenClaim := { program := "ytninlahlmjhmhaa", sum := "4efbff88462d0bc93efae45fd269ad033338fcff54af5f8a95711e03862804e2", func := "sealring/sealringkeep.QuotOnly", spec := "quotOnly", inPlace := ["math/bits.Sub64", "math/bits.Add64"], apart := false, narrowed := true }
def QuotOnlyUptoSaid : Prop := quotOnlyUptoRow.holds Try.pinned (OpenSpec.upto quotOnlySpec)

/-- 'sealringkeep.QuotBezout', WHERE WHAT IT READS IS OF BULK AT MOST 1048576: true; the input reads as it did. -/
def quotBezoutUptoRow : OpenClaim := { program := "ytninlahlmjhmhaa", sum := "4efbff88462d0bc93efae45fd269ad033338fcff54af5f8a95711e03862804e2", func := "sealring/sealringkeep.QuotBezout", spec := "quotBezout", inPlace := ["math/bits.Sub64", "math/bits.Add64"], apart := false, narrowed := true }
def QuotBezoutUptoSaid : Prop := quotBezoutUptoRow.holds Try.pinned (OpenSpec.upto quotBezoutSpec)

/-- 'sealringkeep.RingOut', WHERE WHAT IT READS IS OF BULK AT MOST 1048576: true; the input reads as it did. -/
def ringOutUptoRow : OpenClaim := { program := "ytninlahlmjhmhaa", sum := "4efbff88462d0bc93efae45fd269ad033338fcff54af5f8a95711e03862804e2", func := "sealring/sealringkeep.RingOut", spec := "ringOut", inPlace := ["math/bits.Sub64", "math/bits.Add64"], apart := false, narrowed := true }
def RingOutUptoSaid : Prop := ringOutUptoRow.holds Try.pinned (OpenSpec.upto ringOutSpec)

/-- 'sealringkeep.RingLaws', WHERE WHAT IT READS IS OF BULK AT MOST 1048576: true; the input reads as it did. -/
def ringLawsUptoRow : OpenClaim := { program := "ytninlahlmjhmhaa", sum := "4efbff88462d0bc93efae45fd269ad033338fcff54af5f8a95711e03862804e2", func := "sealring/sealringkeep.RingLaws", spec := "ringLaws", inPlace := ["math/bits.Sub64", "math/bits.Add64"], apart := false, narrowed := true }
def RingLawsUptoSaid : Prop := ringLawsUptoRow.holds Try.pinned (OpenSpec.upto ringLawsSpec)

/-- 'sealringkeep.RingPowers', WHERE WHAT IT READS IS OF BULK AT MOST 1048576: true; the input reads as it did. -/
def ringPowersUptoRow : OpenClaim := { program := "ytninlahlmjhmhaa", sum := "4efbff88462d0bc93efae45fd269ad033338fcff54af5f8a95711e03862804e2", func := "sealring/sealringkeep.RingPowers", spec := "ringPowers", inPlace := ["math/bits.Sub64", "math/bits.Add64"], apart := false, narrowed := true }
def RingPowersUptoSaid : Prop := ringPowersUptoRow.holds Try.pinned (OpenSpec.upto ringPowersSpec)

/-- 'sealringkeep.RingFermat', WHERE WHAT IT READS IS OF BULK AT MOST 1048576: true; the input reads as it did. -/
def ringFermatUptoRow : OpenClaim := { program := "ytninlahlmjhmhaa", sum := "4efbff88462d0bc93efae45fd269ad033338fcff54af5f8a95711e03862804e2", func := "sealring/sealringkeep.RingFermat", spec := "ringFermat", inPlace := ["math/bits.Sub64", "math/bits.Add64"], apart := false, narrowed := true }
def RingFermatUptoSaid : Prop := ringFermatUptoRow.holds Try.pinned (OpenSpec.upto ringFermatSpec)

/-- 'sealringkeep.RingPows', WHERE WHAT IT READS IS OF BULK AT MOST 1048576: true; the input reads as it did. -/
def ringPowsUptoRow : OpenClaim := { program := "ytninlahlmjhmhaa", sum := "4efbff88462d0bc93efae45fd269ad033338fcff54af5f8a95711e03862804e2", func := "sealring/sealringkeep.RingPows", spec := "ringPows", inPlace := ["math/bits.Sub64", "math/bits.Add64"], apart := false, narrowed := true }
def RingPowsUptoSaid : Prop := ringPowsUptoRow.holds Try.pinned (OpenSpec.upto ringPowsSpec)

end Rows
end Go.Proofs.Ytninlahlmjhmhaa
