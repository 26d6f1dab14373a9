/-
  DERIVED. GIVEN WITH THE SEED: THE CARDS: each row of YtndijgjdmookmaaDoorRows.lean that lists a variable, with what it lists TIED to the program's text (the seventh form; the later family's looks); each row that meets fmt, with fmt's text TOLD by the authors' own Lean function (tested against real Go, not proved from fmt's source: count such statements apart). THE CARD IS WHAT COUNTS. Prove the row's statement (the work); the ties are given (YtndijgjdmookmaaDoorTie.lean); close each card by the builder's one call (the guide's Derived/Test/ToyasCard.lean, 'card_holds'). Laid BY PROGRAM, IN A SANDBOX (cutbox-door.mjs). By AI agents, Wed Nov 11 2026. No macro, syntax, notation, axiom, sorry.
-/
import Derived.Test.YtndijgjdmookmaaDoorRows
import GoSem.ClaimSeven
namespace Go.Proofs.YtndijgjdmookmaaDoor
namespace Rows

/-- THE TIED CARD OF 'sealringkeep.PinLocks'. -/
def pinLocksCard : Claim7 := { stood := { row := pinLocksRow, standIns := [], harness := (true, "a850b4225358cc3fa595fe475f123763b0a4c79fd8a9418d5424f06eb903a55f"), looks := false }, kinds := [], alts := [], laidByText := true, laidKinds := [.data], laidTests := true, laidLooks := .later }
def PinLocksCardSaid : Prop := Claim7.holds Tryd.pinned (.plain (OpenSpec.ofChange pinLocksSpec)) pinLocksCard

/-- THE TIED CARD OF 'sealringkeep.PinBack'. -/
def pinBackCard : Claim7 := { stood := { row := pinBackRow, standIns := [], harness := (true, "a850b4225358cc3fa595fe475f123763b0a4c79fd8a9418d5424f06eb903a55f"), looks := false }, kinds := [], alts := [], laidByText := true, laidKinds := [.data], laidTests := true, laidLooks := .later }
def PinBackCardSaid : Prop := Claim7.holds Tryd.pinned (.plain (OpenSpec.ofChange pinBackSpec)) pinBackCard

/-- THE TIED CARD OF 'sealringkeep.PinChanges'. -/
def pinChangesCard : Claim7 := { stood := { row := pinChangesRow, standIns := [], harness := (true, "a850b4225358cc3fa595fe475f123763b0a4c79fd8a9418d5424f06eb903a55f"), looks := false }, kinds := [], alts := [], laidByText := true, laidKinds := [.data], laidTests := true, laidLooks := .later }
def PinChangesCardSaid : Prop := Claim7.holds Tryd.pinned (.plain (OpenSpec.ofChange pinChangesSpec)) pinChangesCard

/-- THE TIED CARD OF 'sealringkeep.DrawBelow'. -/
def drawBelowCard : Claim7 := { stood := { row := drawBelowRow, standIns := [], harness := (true, "a850b4225358cc3fa595fe475f123763b0a4c79fd8a9418d5424f06eb903a55f"), looks := false }, kinds := [], alts := [], laidByText := true, laidKinds := [.data], laidTests := true, laidLooks := .later }
def DrawBelowCardSaid : Prop := Claim7.holds Tryd.pinned (.plain (OpenSpec.ofChange drawBelowSpec)) drawBelowCard

/-- THE TIED CARD OF 'sealringkeep.MacKeys'. -/
def macKeysCard : Claim7 := { stood := { row := macKeysRow, standIns := [], harness := (true, "a850b4225358cc3fa595fe475f123763b0a4c79fd8a9418d5424f06eb903a55f"), looks := false }, kinds := [], alts := [], laidByText := true, laidKinds := [.data], laidTests := true, laidLooks := .later }
def MacKeysCardSaid : Prop := Claim7.holds Tryd.pinned (.plain (OpenSpec.ofChange macKeysSpec)) macKeysCard

/-- THE TIED CARD OF 'sealringkeep.TreePeaks'. -/
def treePeaksCard : Claim7 := { stood := { row := treePeaksRow, standIns := [], harness := (true, "a850b4225358cc3fa595fe475f123763b0a4c79fd8a9418d5424f06eb903a55f"), looks := false }, kinds := [], alts := [], laidByText := true, laidKinds := [.data], laidTests := true, laidLooks := .later }
def TreePeaksCardSaid : Prop := Claim7.holds Tryd.pinned (.plain (OpenSpec.ofChange treePeaksSpec)) treePeaksCard

/-- THE TIED CARD OF 'sealringkeep.TapeBack'. -/
def tapeBackCard : Claim7 := { stood := { row := tapeBackRow, standIns := [], harness := (true, "a850b4225358cc3fa595fe475f123763b0a4c79fd8a9418d5424f06eb903a55f"), looks := false }, kinds := [], alts := [], laidByText := true, laidKinds := [.data], laidTests := true, laidLooks := .later }
def TapeBackCardSaid : Prop := Claim7.holds Tryd.pinned (.plain (OpenSpec.ofChange tapeBackSpec)) tapeBackCard

/-- THE TIED CARD OF 'sealringkeep.TapeCuts'. -/
def tapeCutsCard : Claim7 := { stood := { row := tapeCutsRow, standIns := [], harness := (true, "a850b4225358cc3fa595fe475f123763b0a4c79fd8a9418d5424f06eb903a55f"), looks := false }, kinds := [], alts := [], laidByText := true, laidKinds := [.data], laidTests := true, laidLooks := .later }
def TapeCutsCardSaid : Prop := Claim7.holds Tryd.pinned (.plain (OpenSpec.ofChange tapeCutsSpec)) tapeCutsCard

/-- THE TIED CARD OF 'sealringkeep.TapeGoes'. -/
def tapeGoesCard : Claim7 := { stood := { row := tapeGoesRow, standIns := [], harness := (true, "a850b4225358cc3fa595fe475f123763b0a4c79fd8a9418d5424f06eb903a55f"), looks := false }, kinds := [], alts := [], laidByText := true, laidKinds := [.data], laidTests := true, laidLooks := .later }
def TapeGoesCardSaid : Prop := Claim7.holds Tryd.pinned (.plain (OpenSpec.ofChange tapeGoesSpec)) tapeGoesCard

/-- THE TIED CARD OF 'sealringkeep.TapeOne'. -/
def tapeOneCard : Claim7 := { stood := { row := tapeOneRow, standIns := [], harness := (true, "a850b4225358cc3fa595fe475f123763b0a4c79fd8a9418d5424f06eb903a55f"), looks := false }, kinds := [], alts := [], laidByText := true, laidKinds := [.data], laidTests := true, laidLooks := .later }
def TapeOneCardSaid : Prop := Claim7.holds Tryd.pinned (.plain (OpenSpec.ofChange tapeOneSpec)) tapeOneCard

/-- THE SECOND FORM's CARD OF 'sealringkeep.PinLocks'. -/
def pinLocksUptoCard : Claim7 := { stood := { row := pinLocksUptoRow, standIns := [], harness := (true, "a850b4225358cc3fa595fe475f123763b0a4c79fd8a9418d5424f06eb903a55f"), looks := false }, kinds := [], alts := [], laidByText := true, laidKinds := [.data], laidTests := true, laidLooks := .later }
def PinLocksUptoCardSaid : Prop := Claim7.holds Tryd.pinned (.plain (OpenSpec.upto pinLocksSpec)) pinLocksUptoCard

/-- THE SECOND FORM's CARD OF 'sealringkeep.PinBack'. -/
def pinBackUptoCard : Claim7 := { stood := { row := pinBackUptoRow, standIns := [], harness := (true, "a850b4225358cc3fa595fe475f123763b0a4c79fd8a9418d5424f06eb903a55f"), looks := false }, kinds := [], alts := [], laidByText := true, laidKinds := [.data], laidTests := true, laidLooks := .later }
def PinBackUptoCardSaid : Prop := Claim7.holds Tryd.pinned (.plain (OpenSpec.upto pinBackSpec)) pinBackUptoCard

/-- THE SECOND FORM's CARD OF 'sealringkeep.PinChanges'. -/
def pinChangesUptoCard : Claim7 := { stood := { row := pinChangesUptoRow, standIns := [], harness := (true, "a850b4225358cc3fa595fe475f123763b0a4c79fd8a9418d5424f06eb903a55f"), looks := false }, kinds := [], alts := [], laidByText := true, laidKinds := [.data], laidTests := true, laidLooks := .later }
def PinChangesUptoCardSaid : Prop := Claim7.holds Tryd.pinned (.plain (OpenSpec.upto pinChangesSpec)) pinChangesUptoCard

/-- THE SECOND FORM's CARD OF 'sealringkeep.DrawBelow'. -/
def drawBelowUptoCard : Claim7 := { stood := { row := drawBelowUptoRow, standIns := [], harness := (true, "a850b4225358cc3fa595fe475f123763b0a4c79fd8a9418d5424f06eb903a55f"), looks := false }, kinds := [], alts := [], laidByText := true, laidKinds := [.data], laidTests := true, laidLooks := .later }
def DrawBelowUptoCardSaid : Prop := Claim7.holds Tryd.pinned (.plain (OpenSpec.upto drawBelowSpec)) drawBelowUptoCard

/-- THE SECOND FORM's CARD OF 'sealringkeep.MacKeys'. -/
def macKeysUptoCard : Claim7 := { stood := { row := macKeysUptoRow, standIns := [], harness := (true, "a850b4225358cc3fa595fe475f123763b0a4c79fd8a9418d5424f06eb903a55f"), looks := false }, kinds := [], alts := [], laidByText := true, laidKinds := [.data], laidTests := true, laidLooks := .later }
def MacKeysUptoCardSaid : Prop := Claim7.holds Tryd.pinned (.plain (OpenSpec.upto macKeysSpec)) macKeysUptoCard

/-- THE SECOND FORM's CARD OF 'sealringkeep.TreePeaks'. -/
def treePeaksUptoCard : Claim7 := { stood := { row := treePeaksUptoRow, standIns := [], harness := (true, "a850b4225358cc3fa595fe475f123763b0a4c79fd8a9418d5424f06eb903a55f"), looks := false }, kinds := [], alts := [], laidByText := true, laidKinds := [.data], laidTests := true, laidLooks := .later }
def TreePeaksUptoCardSaid : Prop := Claim7.holds Tryd.pinned (.plain (OpenSpec.upto treePeaksSpec)) treePeaksUptoCard

/-- THE SECOND FORM's CARD OF 'sealringkeep.TapeBack'. -/
def tapeBackUptoCard : Claim7 := { stood := { row := tapeBackUptoRow, standIns := [], harness := (true, "a850b4225358cc3fa595fe475f123763b0a4c79fd8a9418d5424f06eb903a55f"), looks := false }, kinds := [], alts := [], laidByText := true, laidKinds := [.data], laidTests := true, laidLooks := .later }
def TapeBackUptoCardSaid : Prop := Claim7.holds Tryd.pinned (.plain (OpenSpec.upto tapeBackSpec)) tapeBackUptoCard

/-- THE SECOND FORM's CARD OF 'sealringkeep.TapeCuts'. -/
def tapeCutsUptoCard : Claim7 := { stood := { row := tapeCutsUptoRow, standIns := [], harness := (true, "a850b4225358cc3fa595fe475f123763b0a4c79fd8a9418d5424f06eb903a55f"), looks := false }, kinds := [], alts := [], laidByText := true, laidKinds := [.data], laidTests := true, laidLooks := .later }
def TapeCutsUptoCardSaid : Prop := Claim7.holds Tryd.pinned (.plain (OpenSpec.upto tapeCutsSpec)) tapeCutsUptoCard

/-- THE SECOND FORM's CARD OF 'sealringkeep.TapeGoes'. -/
def tapeGoesUptoCard : Claim7 := { stood := { row := tapeGoesUptoRow, standIns := [], harness := (true, "a850b4225358cc3fa595fe475f123763b0a4c79fd8a9418d5424f06eb903a55f"), looks := false }, kinds := [], alts := [], laidByText := true, laidKinds := [.data], laidTests := true, laidLooks := .later }
def TapeGoesUptoCardSaid : Prop := Claim7.holds Tryd.pinned (.plain (OpenSpec.upto tapeGoesSpec)) tapeGoesUptoCard

/-- THE SECOND FORM's CARD OF 'sealringkeep.TapeOne'. -/
def tapeOneUptoCard : Claim7 := { stood := { row := tapeOneUptoRow, standIns := [], harness := (true, "a850b4225358cc3fa595fe475f123763b0a4c79fd8a9418d5424f06eb903a55f"), looks := false }, kinds := [], alts := [], laidByText := true, laidKinds := [.data], laidTests := true, laidLooks := .later }
def TapeOneUptoCardSaid : Prop := Claim7.holds Tryd.pinned (.plain (OpenSpec.upto tapeOneSpec)) tapeOneUptoCard
end Rows
end Go.Proofs.YtndijgjdmookmaaDoor
