/-
  DERIVED. GIVEN WITH THE SEED: THE CARDS: each row of YtkookenoedbadaaDoorRows.lean that lists a variable, with what it lists TIED to the program's text (the seventh form; the later family's looks); each row that meets fmt, with fmt's text TOLD by the authors' own Lean function (tested against real Go, not proved from fmt's source: count such statements apart). THE CARD IS WHAT COUNTS. Prove the row's statement (the work); the ties are given (YtkookenoedbadaaDoorTie.lean); close each card by the builder's one call (the guide's Derived/Test/ToyasCard.lean, 'card_holds'). Laid BY PROGRAM, IN A SANDBOX (cutbox-door.mjs). By AI agents, Wed Nov 11 2026. No macro, syntax, notation, axiom, sorry.
-/
import Derived.Test.YtkookenoedbadaaDoorRows
import GoSem.ClaimSeven
namespace Go.Proofs.YtkookenoedbadaaDoor
namespace Rows

/-- THE TIED CARD OF 'sealringkeep.PinStretch'. -/
def pinStretchCard : Claim7 := { stood := { row := pinStretchRow, standIns := [], harness := (true, "00abca3d992e082d281dcf1a7744aa3e37c2ed831303e2cd1c85ac25af7cbf66"), looks := false }, kinds := [], alts := [], laidByText := true, laidKinds := [.data], laidTests := true, laidLooks := .later }
def PinStretchCardSaid : Prop := Claim7.holds Tryd.pinned (.plain (OpenSpec.ofChange pinStretchSpec)) pinStretchCard

/-- THE SECOND FORM's CARD OF 'sealringkeep.PinStretch'. -/
def pinStretchUptoCard : Claim7 := { stood := { row := pinStretchUptoRow, standIns := [], harness := (true, "00abca3d992e082d281dcf1a7744aa3e37c2ed831303e2cd1c85ac25af7cbf66"), looks := false }, kinds := [], alts := [], laidByText := true, laidKinds := [.data], laidTests := true, laidLooks := .later }
def PinStretchUptoCardSaid : Prop := Claim7.holds Tryd.pinned (.plain (OpenSpec.upto pinStretchSpec)) pinStretchUptoCard
end Rows
end Go.Proofs.YtkookenoedbadaaDoor
