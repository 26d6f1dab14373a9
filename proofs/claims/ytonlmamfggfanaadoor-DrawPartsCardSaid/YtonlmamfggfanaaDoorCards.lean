/-
  DERIVED. GIVEN WITH THE SEED: THE CARDS: each row of YtonlmamfggfanaaDoorRows.lean that lists a variable, with what it lists TIED to the program's text (the seventh form; the later family's looks); each row that meets fmt, with fmt's text TOLD by the authors' own Lean function (tested against real Go, not proved from fmt's source: count such statements apart). THE CARD IS WHAT COUNTS. Prove the row's statement (the work); the ties are given (YtonlmamfggfanaaDoorTie.lean); close each card by the builder's one call (the guide's Derived/Test/ToyasCard.lean, 'card_holds'). Laid BY PROGRAM, IN A SANDBOX (cutbox-door.mjs). By AI agents, Wed Nov 11 2026. No macro, syntax, notation, axiom, sorry.
-/
import Derived.Test.YtonlmamfggfanaaDoorRows
import GoSem.ClaimSeven
namespace Go.Proofs.YtonlmamfggfanaaDoor
namespace Rows

/-- THE TIED CARD OF 'sealringkeep.HashPieces'. -/
def hashPiecesCard : Claim7 := { stood := { row := hashPiecesRow, standIns := [], harness := (true, "12bdcfce1f80fead62cd87dead67ecb437c4afa2030ff453462824bb29ec71db"), looks := false }, kinds := [], alts := [], laidByText := true, laidKinds := [.data], laidTests := true, laidLooks := .later }
def HashPiecesCardSaid : Prop := Claim7.holds Tryd.pinned (.plain (OpenSpec.ofChange hashPiecesSpec)) hashPiecesCard

/-- THE TIED CARD OF 'sealringkeep.HashCopies'. -/
def hashCopiesCard : Claim7 := { stood := { row := hashCopiesRow, standIns := [], harness := (true, "12bdcfce1f80fead62cd87dead67ecb437c4afa2030ff453462824bb29ec71db"), looks := false }, kinds := [], alts := [], laidByText := true, laidKinds := [.data], laidTests := true, laidLooks := .later }
def HashCopiesCardSaid : Prop := Claim7.holds Tryd.pinned (.plain (OpenSpec.ofChange hashCopiesSpec)) hashCopiesCard

/-- THE TIED CARD OF 'sealringkeep.HashExtends'. -/
def hashExtendsCard : Claim7 := { stood := { row := hashExtendsRow, standIns := [], harness := (true, "12bdcfce1f80fead62cd87dead67ecb437c4afa2030ff453462824bb29ec71db"), looks := false }, kinds := [], alts := [], laidByText := true, laidKinds := [.data], laidTests := true, laidLooks := .later }
def HashExtendsCardSaid : Prop := Claim7.holds Tryd.pinned (.plain (OpenSpec.ofChange hashExtendsSpec)) hashExtendsCard

/-- THE TIED CARD OF 'sealringkeep.TreeHalves'. -/
def treeHalvesCard : Claim7 := { stood := { row := treeHalvesRow, standIns := [], harness := (true, "12bdcfce1f80fead62cd87dead67ecb437c4afa2030ff453462824bb29ec71db"), looks := false }, kinds := [], alts := [], laidByText := true, laidKinds := [.data], laidTests := true, laidLooks := .later }
def TreeHalvesCardSaid : Prop := Claim7.holds Tryd.pinned (.plain (OpenSpec.ofChange treeHalvesSpec)) treeHalvesCard

/-- THE TIED CARD OF 'sealringkeep.MacPieces'. -/
def macPiecesCard : Claim7 := { stood := { row := macPiecesRow, standIns := [], harness := (true, "12bdcfce1f80fead62cd87dead67ecb437c4afa2030ff453462824bb29ec71db"), looks := false }, kinds := [], alts := [], laidByText := true, laidKinds := [.data], laidTests := true, laidLooks := .later }
def MacPiecesCardSaid : Prop := Claim7.holds Tryd.pinned (.plain (OpenSpec.ofChange macPiecesSpec)) macPiecesCard

/-- THE TIED CARD OF 'sealringkeep.MacKeys'. -/
def macKeysCard : Claim7 := { stood := { row := macKeysRow, standIns := [], harness := (true, "12bdcfce1f80fead62cd87dead67ecb437c4afa2030ff453462824bb29ec71db"), looks := false }, kinds := [], alts := [], laidByText := true, laidKinds := [.data], laidTests := true, laidLooks := .later }
def MacKeysCardSaid : Prop := Claim7.holds Tryd.pinned (.plain (OpenSpec.ofChange macKeysSpec)) macKeysCard

/-- THE TIED CARD OF 'sealringkeep.TreePeaks'. -/
def treePeaksCard : Claim7 := { stood := { row := treePeaksRow, standIns := [], harness := (true, "12bdcfce1f80fead62cd87dead67ecb437c4afa2030ff453462824bb29ec71db"), looks := false }, kinds := [], alts := [], laidByText := true, laidKinds := [.data], laidTests := true, laidLooks := .later }
def TreePeaksCardSaid : Prop := Claim7.holds Tryd.pinned (.plain (OpenSpec.ofChange treePeaksSpec)) treePeaksCard

/-- THE TIED CARD OF 'sealringkeep.TreePaths'. -/
def treePathsCard : Claim7 := { stood := { row := treePathsRow, standIns := [], harness := (true, "12bdcfce1f80fead62cd87dead67ecb437c4afa2030ff453462824bb29ec71db"), looks := false }, kinds := [], alts := [], laidByText := true, laidKinds := [.data], laidTests := true, laidLooks := .later }
def TreePathsCardSaid : Prop := Claim7.holds Tryd.pinned (.plain (OpenSpec.ofChange treePathsSpec)) treePathsCard

/-- THE TIED CARD OF 'sealringkeep.DrawKeys'. -/
def drawKeysCard : Claim7 := { stood := { row := drawKeysRow, standIns := [], harness := (true, "12bdcfce1f80fead62cd87dead67ecb437c4afa2030ff453462824bb29ec71db"), looks := false }, kinds := [], alts := [], laidByText := true, laidKinds := [.data], laidTests := true, laidLooks := .later }
def DrawKeysCardSaid : Prop := Claim7.holds Tryd.pinned (.plain (OpenSpec.ofChange drawKeysSpec)) drawKeysCard

/-- THE TIED CARD OF 'sealringkeep.TreeLongs'. -/
def treeLongsCard : Claim7 := { stood := { row := treeLongsRow, standIns := [], harness := (true, "12bdcfce1f80fead62cd87dead67ecb437c4afa2030ff453462824bb29ec71db"), looks := false }, kinds := [], alts := [], laidByText := true, laidKinds := [.data], laidTests := true, laidLooks := .later }
def TreeLongsCardSaid : Prop := Claim7.holds Tryd.pinned (.plain (OpenSpec.ofChange treeLongsSpec)) treeLongsCard

/-- THE TIED CARD OF 'sealringkeep.DrawParts'. -/
def drawPartsCard : Claim7 := { stood := { row := drawPartsRow, standIns := [], harness := (true, "12bdcfce1f80fead62cd87dead67ecb437c4afa2030ff453462824bb29ec71db"), looks := false }, kinds := [], alts := [], laidByText := true, laidKinds := [.data], laidTests := true, laidLooks := .later }
def DrawPartsCardSaid : Prop := Claim7.holds Tryd.pinned (.plain (OpenSpec.ofChange drawPartsSpec)) drawPartsCard

/-- THE TIED CARD OF 'sealringkeep.DrawBlocks'. -/
def drawBlocksCard : Claim7 := { stood := { row := drawBlocksRow, standIns := [], harness := (true, "12bdcfce1f80fead62cd87dead67ecb437c4afa2030ff453462824bb29ec71db"), looks := false }, kinds := [], alts := [], laidByText := true, laidKinds := [.data], laidTests := true, laidLooks := .later }
def DrawBlocksCardSaid : Prop := Claim7.holds Tryd.pinned (.plain (OpenSpec.ofChange drawBlocksSpec)) drawBlocksCard

/-- THE TIED CARD OF 'sealringkeep.DrawBelow'. -/
def drawBelowCard : Claim7 := { stood := { row := drawBelowRow, standIns := [], harness := (true, "12bdcfce1f80fead62cd87dead67ecb437c4afa2030ff453462824bb29ec71db"), looks := false }, kinds := [], alts := [], laidByText := true, laidKinds := [.data], laidTests := true, laidLooks := .later }
def DrawBelowCardSaid : Prop := Claim7.holds Tryd.pinned (.plain (OpenSpec.ofChange drawBelowSpec)) drawBelowCard

/-- THE SECOND FORM's CARD OF 'sealringkeep.HashPieces'. -/
def hashPiecesUptoCard : Claim7 := { stood := { row := hashPiecesUptoRow, standIns := [], harness := (true, "12bdcfce1f80fead62cd87dead67ecb437c4afa2030ff453462824bb29ec71db"), looks := false }, kinds := [], alts := [], laidByText := true, laidKinds := [.data], laidTests := true, laidLooks := .later }
def HashPiecesUptoCardSaid : Prop := Claim7.holds Tryd.pinned (.plain (OpenSpec.upto hashPiecesSpec)) hashPiecesUptoCard

/-- THE SECOND FORM's CARD OF 'sealringkeep.HashCopies'. -/
def hashCopiesUptoCard : Claim7 := { stood := { row := hashCopiesUptoRow, standIns := [], harness := (true, "12bdcfce1f80fead62cd87dead67ecb437c4afa2030ff453462824bb29ec71db"), looks := false }, kinds := [], alts := [], laidByText := true, laidKinds := [.data], laidTests := true, laidLooks := .later }
def HashCopiesUptoCardSaid : Prop := Claim7.holds Tryd.pinned (.plain (OpenSpec.upto hashCopiesSpec)) hashCopiesUptoCard

/-- THE SECOND FORM's CARD OF 'sealringkeep.HashExtends'. -/
def hashExtendsUptoCard : Claim7 := { stood := { row := hashExtendsUptoRow, standIns := [], harness := (true, "12bdcfce1f80fead62cd87dead67ecb437c4afa2030ff453462824bb29ec71db"), looks := false }, kinds := [], alts := [], laidByText := true, laidKinds := [.data], laidTests := true, laidLooks := .later }
def HashExtendsUptoCardSaid : Prop := Claim7.holds Tryd.pinned (.plain (OpenSpec.upto hashExtendsSpec)) hashExtendsUptoCard

/-- THE SECOND FORM's CARD OF 'sealringkeep.TreeHalves'. -/
def treeHalvesUptoCard : Claim7 := { stood := { row := treeHalvesUptoRow, standIns := [], harness := (true, "12bdcfce1f80fead62cd87dead67ecb437c4afa2030ff453462824bb29ec71db"), looks := false }, kinds := [], alts := [], laidByText := true, laidKinds := [.data], laidTests := true, laidLooks := .later }
def TreeHalvesUptoCardSaid : Prop := Claim7.holds Tryd.pinned (.plain (OpenSpec.upto treeHalvesSpec)) treeHalvesUptoCard

/-- THE SECOND FORM's CARD OF 'sealringkeep.MacPieces'. -/
def macPiecesUptoCard : Claim7 := { stood := { row := macPiecesUptoRow, standIns := [], harness := (true, "12bdcfce1f80fead62cd87dead67ecb437c4afa2030ff453462824bb29ec71db"), looks := false }, kinds := [], alts := [], laidByText := true, laidKinds := [.data], laidTests := true, laidLooks := .later }
def MacPiecesUptoCardSaid : Prop := Claim7.holds Tryd.pinned (.plain (OpenSpec.upto macPiecesSpec)) macPiecesUptoCard

/-- THE SECOND FORM's CARD OF 'sealringkeep.MacKeys'. -/
def macKeysUptoCard : Claim7 := { stood := { row := macKeysUptoRow, standIns := [], harness := (true, "12bdcfce1f80fead62cd87dead67ecb437c4afa2030ff453462824bb29ec71db"), looks := false }, kinds := [], alts := [], laidByText := true, laidKinds := [.data], laidTests := true, laidLooks := .later }
def MacKeysUptoCardSaid : Prop := Claim7.holds Tryd.pinned (.plain (OpenSpec.upto macKeysSpec)) macKeysUptoCard

/-- THE SECOND FORM's CARD OF 'sealringkeep.TreePeaks'. -/
def treePeaksUptoCard : Claim7 := { stood := { row := treePeaksUptoRow, standIns := [], harness := (true, "12bdcfce1f80fead62cd87dead67ecb437c4afa2030ff453462824bb29ec71db"), looks := false }, kinds := [], alts := [], laidByText := true, laidKinds := [.data], laidTests := true, laidLooks := .later }
def TreePeaksUptoCardSaid : Prop := Claim7.holds Tryd.pinned (.plain (OpenSpec.upto treePeaksSpec)) treePeaksUptoCard

/-- THE SECOND FORM's CARD OF 'sealringkeep.TreePaths'. -/
def treePathsUptoCard : Claim7 := { stood := { row := treePathsUptoRow, standIns := [], harness := (true, "12bdcfce1f80fead62cd87dead67ecb437c4afa2030ff453462824bb29ec71db"), looks := false }, kinds := [], alts := [], laidByText := true, laidKinds := [.data], laidTests := true, laidLooks := .later }
def TreePathsUptoCardSaid : Prop := Claim7.holds Tryd.pinned (.plain (OpenSpec.upto treePathsSpec)) treePathsUptoCard

/-- THE SECOND FORM's CARD OF 'sealringkeep.DrawKeys'. -/
def drawKeysUptoCard : Claim7 := { stood := { row := drawKeysUptoRow, standIns := [], harness := (true, "12bdcfce1f80fead62cd87dead67ecb437c4afa2030ff453462824bb29ec71db"), looks := false }, kinds := [], alts := [], laidByText := true, laidKinds := [.data], laidTests := true, laidLooks := .later }
def DrawKeysUptoCardSaid : Prop := Claim7.holds Tryd.pinned (.plain (OpenSpec.upto drawKeysSpec)) drawKeysUptoCard

/-- THE SECOND FORM's CARD OF 'sealringkeep.TreeLongs'. -/
def treeLongsUptoCard : Claim7 := { stood := { row := treeLongsUptoRow, standIns := [], harness := (true, "12bdcfce1f80fead62cd87dead67ecb437c4afa2030ff453462824bb29ec71db"), looks := false }, kinds := [], alts := [], laidByText := true, laidKinds := [.data], laidTests := true, laidLooks := .later }
def TreeLongsUptoCardSaid : Prop := Claim7.holds Tryd.pinned (.plain (OpenSpec.upto treeLongsSpec)) treeLongsUptoCard

/-- THE SECOND FORM's CARD OF 'sealringkeep.DrawParts'. -/
def drawPartsUptoCard : Claim7 := { stood := { row := drawPartsUptoRow, standIns := [], harness := (true, "12bdcfce1f80fead62cd87dead67ecb437c4afa2030ff453462824bb29ec71db"), looks := false }, kinds := [], alts := [], laidByText := true, laidKinds := [.data], laidTests := true, laidLooks := .later }
def DrawPartsUptoCardSaid : Prop := Claim7.holds Tryd.pinned (.plain (OpenSpec.upto drawPartsSpec)) drawPartsUptoCard

/-- THE SECOND FORM's CARD OF 'sealringkeep.DrawBlocks'. -/
def drawBlocksUptoCard : Claim7 := { stood := { row := drawBlocksUptoRow, standIns := [], harness := (true, "12bdcfce1f80fead62cd87dead67ecb437c4afa2030ff453462824bb29ec71db"), looks := false }, kinds := [], alts := [], laidByText := true, laidKinds := [.data], laidTests := true, laidLooks := .later }
def DrawBlocksUptoCardSaid : Prop := Claim7.holds Tryd.pinned (.plain (OpenSpec.upto drawBlocksSpec)) drawBlocksUptoCard

/-- THE SECOND FORM's CARD OF 'sealringkeep.DrawBelow'. -/
def drawBelowUptoCard : Claim7 := { stood := { row := drawBelowUptoRow, standIns := [], harness := (true, "12bdcfce1f80fead62cd87dead67ecb437c4afa2030ff453462824bb29ec71db"), looks := false }, kinds := [], alts := [], laidByText := true, laidKinds := [.data], laidTests := true, laidLooks := .later }
def DrawBelowUptoCardSaid : Prop := Claim7.holds Tryd.pinned (.plain (OpenSpec.upto drawBelowSpec)) drawBelowUptoCard
end Rows
end Go.Proofs.YtonlmamfggfanaaDoor
