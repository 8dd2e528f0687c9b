/-
  DERIVED. GIVEN WITH THE SEED: THE CARDS: each row of YtikpkjpnehkbfaaGreatDoorRows.lean that lists a variable, with what it lists TIED to the program's text (the seventh form; the later family's looks); each row that meets fmt, with fmt's text TOLD by the authors' own Lean function (tested against real Go, not proved from fmt's source: count such statements apart). THE CARD IS WHAT COUNTS. Prove the row's statement (the work); the ties are given (YtikpkjpnehkbfaaGreatDoorTie.lean); close each card by the builder's one call (the guide's Derived/Test/ToyasCard.lean, 'card_holds'). Laid BY PROGRAM, IN A SANDBOX (cutbox-door.mjs). By AI agents, Wed Nov 11 2026. No macro, syntax, notation, axiom, sorry.
-/
import Derived.Test.YtikpkjpnehkbfaaGreatDoorRows
import GoSem.ClaimSeven
namespace Go.Proofs.YtikpkjpnehkbfaaGreatDoor
namespace Rows

/-- THE TIED CARD OF 'glossarylaw07.NormalRows'. -/
def normalRowsCard : Claim7 := { stood := { row := normalRowsRow, standIns := [], harness := (true, "ea9c755f06a4463338266faaf55f6ffad43ad7e52d26c6168b584622a913e318"), looks := true }, kinds := [], alts := [], laidByText := true, laidKinds := [.data, .data, .data, .data, .data, .sentinel, .sentinel, .pinned], laidTests := true, laidLooks := .later }
def NormalRowsCardSaid : Prop := Claim7.holds Tryz.pinned (.plain (OpenSpec.ofChange normalRowsSpec)) normalRowsCard

/-- THE TIED CARD OF 'glossarylaw07.NormalStreams'. -/
def normalStreamsCard : Claim7 := { stood := { row := normalStreamsRow, standIns := [], harness := (true, "ea9c755f06a4463338266faaf55f6ffad43ad7e52d26c6168b584622a913e318"), looks := true }, kinds := [], alts := [], laidByText := true, laidKinds := [.data, .data, .data, .data, .data, .sentinel, .sentinel, .pinned], laidTests := true, laidLooks := .later }
def NormalStreamsCardSaid : Prop := Claim7.holds Tryz.pinned (.plain (OpenSpec.ofChange normalStreamsSpec)) normalStreamsCard

/-- THE TIED CARD OF 'glossarylaw07.NormalTwice'. -/
def normalTwiceCard : Claim7 := { stood := { row := normalTwiceRow, standIns := [], harness := (true, "ea9c755f06a4463338266faaf55f6ffad43ad7e52d26c6168b584622a913e318"), looks := true }, kinds := [], alts := [], laidByText := true, laidKinds := [.data, .data, .data, .data, .sentinel, .sentinel, .pinned], laidTests := true, laidLooks := .later }
def NormalTwiceCardSaid : Prop := Claim7.holds Tryz.pinned (.plain (OpenSpec.ofChange normalTwiceSpec)) normalTwiceCard

/-- THE TIED CARD OF 'glossarylaw07.NormalCuts'. -/
def normalCutsCard : Claim7 := { stood := { row := normalCutsRow, standIns := [], harness := (true, "ea9c755f06a4463338266faaf55f6ffad43ad7e52d26c6168b584622a913e318"), looks := true }, kinds := [], alts := [], laidByText := true, laidKinds := [.data, .data, .data, .data, .sentinel, .sentinel, .pinned], laidTests := true, laidLooks := .later }
def NormalCutsCardSaid : Prop := Claim7.holds Tryz.pinned (.plain (OpenSpec.ofChange normalCutsSpec)) normalCutsCard

/-- THE TIED CARD OF 'glossarylaw07.NormalPieces'. -/
def normalPiecesCard : Claim7 := { stood := { row := normalPiecesRow, standIns := [], harness := (true, "ea9c755f06a4463338266faaf55f6ffad43ad7e52d26c6168b584622a913e318"), looks := true }, kinds := [], alts := [], laidByText := true, laidKinds := [.data, .data, .data, .data, .sentinel, .sentinel, .pinned], laidTests := true, laidLooks := .later }
def NormalPiecesCardSaid : Prop := Claim7.holds Tryz.pinned (.plain (OpenSpec.ofChange normalPiecesSpec)) normalPiecesCard

/-- THE TIED CARD OF 'glossarylaw07.NormalTexts'. -/
def normalTextsCard : Claim7 := { stood := { row := normalTextsRow, standIns := [], harness := (true, "ea9c755f06a4463338266faaf55f6ffad43ad7e52d26c6168b584622a913e318"), looks := true }, kinds := [], alts := [], laidByText := true, laidKinds := [.data, .data, .data, .data, .data, .sentinel, .sentinel, .pinned], laidTests := true, laidLooks := .later }
def NormalTextsCardSaid : Prop := Claim7.holds Tryz.pinned (.plain (OpenSpec.ofChange normalTextsSpec)) normalTextsCard

/-- THE TIED CARD OF 'glossarylaw07.NormalBytes'. -/
def normalBytesCard : Claim7 := { stood := { row := normalBytesRow, standIns := [], harness := (true, "ea9c755f06a4463338266faaf55f6ffad43ad7e52d26c6168b584622a913e318"), looks := true }, kinds := [], alts := [], laidByText := true, laidKinds := [.data, .data, .data, .data, .sentinel, .sentinel, .pinned], laidTests := true, laidLooks := .later }
def NormalBytesCardSaid : Prop := Claim7.holds Tryz.pinned (.plain (OpenSpec.ofChange normalBytesSpec)) normalBytesCard

/-- THE TIED CARD OF 'glossarylaw08.FoldFold'. -/
def foldFoldCard : Claim7 := { stood := { row := foldFoldRow, standIns := [], harness := (true, "ea9c755f06a4463338266faaf55f6ffad43ad7e52d26c6168b584622a913e318"), looks := true }, kinds := [], alts := [], laidByText := true, laidKinds := [.data, .data, .data, .data, .data, .sentinel, .sentinel, .pinned], laidTests := true, laidLooks := .later }
def FoldFoldCardSaid : Prop := Claim7.holds Tryz.pinned (.plain (OpenSpec.ofChange foldFoldSpec)) foldFoldCard

/-- THE TIED CARD OF 'glossarylaw08.FoldSame'. -/
def foldSameCard : Claim7 := { stood := { row := foldSameRow, standIns := [], harness := (true, "ea9c755f06a4463338266faaf55f6ffad43ad7e52d26c6168b584622a913e318"), looks := true }, kinds := [], alts := [], laidByText := true, laidKinds := [.data, .data, .data, .data, .data, .sentinel, .sentinel, .pinned], laidTests := true, laidLooks := .later }
def FoldSameCardSaid : Prop := Claim7.holds Tryz.pinned (.plain (OpenSpec.ofChange foldSameSpec)) foldSameCard

/-- THE TIED CARD OF 'glossarylaw08.FoldPlaces'. -/
def foldPlacesCard : Claim7 := { stood := { row := foldPlacesRow, standIns := [], harness := (true, "ea9c755f06a4463338266faaf55f6ffad43ad7e52d26c6168b584622a913e318"), looks := true }, kinds := [], alts := [], laidByText := true, laidKinds := [.data, .data, .data, .data, .data, .sentinel, .sentinel, .pinned], laidTests := true, laidLooks := .later }
def FoldPlacesCardSaid : Prop := Claim7.holds Tryz.pinned (.plain (OpenSpec.ofChange foldPlacesSpec)) foldPlacesCard

/-- THE TIED CARD OF 'glossarylaw08.FoldParts'. -/
def foldPartsCard : Claim7 := { stood := { row := foldPartsRow, standIns := [], harness := (true, "ea9c755f06a4463338266faaf55f6ffad43ad7e52d26c6168b584622a913e318"), looks := true }, kinds := [], alts := [], laidByText := true, laidKinds := [.data, .data, .data, .data, .data, .sentinel, .sentinel, .pinned], laidTests := true, laidLooks := .later }
def FoldPartsCardSaid : Prop := Claim7.holds Tryz.pinned (.plain (OpenSpec.ofChange foldPartsSpec)) foldPartsCard

/-- THE TIED CARD OF 'glossarylaw08.FoldNormal'. -/
def foldNormalCard : Claim7 := { stood := { row := foldNormalRow, standIns := [], harness := (true, "ea9c755f06a4463338266faaf55f6ffad43ad7e52d26c6168b584622a913e318"), looks := true }, kinds := [], alts := [], laidByText := true, laidKinds := [.data, .data, .data, .data, .data, .sentinel, .sentinel, .pinned], laidTests := true, laidLooks := .later }
def FoldNormalCardSaid : Prop := Claim7.holds Tryz.pinned (.plain (OpenSpec.ofChange foldNormalSpec)) foldNormalCard

/-- THE SECOND FORM's CARD OF 'glossarylaw07.NormalRows'. -/
def normalRowsUptoCard : Claim7 := { stood := { row := normalRowsUptoRow, standIns := [], harness := (true, "ea9c755f06a4463338266faaf55f6ffad43ad7e52d26c6168b584622a913e318"), looks := true }, kinds := [], alts := [], laidByText := true, laidKinds := [.data, .data, .data, .data, .data, .sentinel, .sentinel, .pinned], laidTests := true, laidLooks := .later }
def NormalRowsUptoCardSaid : Prop := Claim7.holds Tryz.pinned (.plain (OpenSpec.upto normalRowsSpec)) normalRowsUptoCard

/-- THE SECOND FORM's CARD OF 'glossarylaw07.NormalStreams'. -/
def normalStreamsUptoCard : Claim7 := { stood := { row := normalStreamsUptoRow, standIns := [], harness := (true, "ea9c755f06a4463338266faaf55f6ffad43ad7e52d26c6168b584622a913e318"), looks := true }, kinds := [], alts := [], laidByText := true, laidKinds := [.data, .data, .data, .data, .data, .sentinel, .sentinel, .pinned], laidTests := true, laidLooks := .later }
def NormalStreamsUptoCardSaid : Prop := Claim7.holds Tryz.pinned (.plain (OpenSpec.upto normalStreamsSpec)) normalStreamsUptoCard

/-- THE SECOND FORM's CARD OF 'glossarylaw07.NormalTwice'. -/
def normalTwiceUptoCard : Claim7 := { stood := { row := normalTwiceUptoRow, standIns := [], harness := (true, "ea9c755f06a4463338266faaf55f6ffad43ad7e52d26c6168b584622a913e318"), looks := true }, kinds := [], alts := [], laidByText := true, laidKinds := [.data, .data, .data, .data, .sentinel, .sentinel, .pinned], laidTests := true, laidLooks := .later }
def NormalTwiceUptoCardSaid : Prop := Claim7.holds Tryz.pinned (.plain (OpenSpec.upto normalTwiceSpec)) normalTwiceUptoCard

/-- THE SECOND FORM's CARD OF 'glossarylaw07.NormalCuts'. -/
def normalCutsUptoCard : Claim7 := { stood := { row := normalCutsUptoRow, standIns := [], harness := (true, "ea9c755f06a4463338266faaf55f6ffad43ad7e52d26c6168b584622a913e318"), looks := true }, kinds := [], alts := [], laidByText := true, laidKinds := [.data, .data, .data, .data, .sentinel, .sentinel, .pinned], laidTests := true, laidLooks := .later }
def NormalCutsUptoCardSaid : Prop := Claim7.holds Tryz.pinned (.plain (OpenSpec.upto normalCutsSpec)) normalCutsUptoCard

/-- THE SECOND FORM's CARD OF 'glossarylaw07.NormalPieces'. -/
def normalPiecesUptoCard : Claim7 := { stood := { row := normalPiecesUptoRow, standIns := [], harness := (true, "ea9c755f06a4463338266faaf55f6ffad43ad7e52d26c6168b584622a913e318"), looks := true }, kinds := [], alts := [], laidByText := true, laidKinds := [.data, .data, .data, .data, .sentinel, .sentinel, .pinned], laidTests := true, laidLooks := .later }
def NormalPiecesUptoCardSaid : Prop := Claim7.holds Tryz.pinned (.plain (OpenSpec.upto normalPiecesSpec)) normalPiecesUptoCard

/-- THE SECOND FORM's CARD OF 'glossarylaw07.NormalTexts'. -/
def normalTextsUptoCard : Claim7 := { stood := { row := normalTextsUptoRow, standIns := [], harness := (true, "ea9c755f06a4463338266faaf55f6ffad43ad7e52d26c6168b584622a913e318"), looks := true }, kinds := [], alts := [], laidByText := true, laidKinds := [.data, .data, .data, .data, .data, .sentinel, .sentinel, .pinned], laidTests := true, laidLooks := .later }
def NormalTextsUptoCardSaid : Prop := Claim7.holds Tryz.pinned (.plain (OpenSpec.upto normalTextsSpec)) normalTextsUptoCard

/-- THE SECOND FORM's CARD OF 'glossarylaw07.NormalBytes'. -/
def normalBytesUptoCard : Claim7 := { stood := { row := normalBytesUptoRow, standIns := [], harness := (true, "ea9c755f06a4463338266faaf55f6ffad43ad7e52d26c6168b584622a913e318"), looks := true }, kinds := [], alts := [], laidByText := true, laidKinds := [.data, .data, .data, .data, .sentinel, .sentinel, .pinned], laidTests := true, laidLooks := .later }
def NormalBytesUptoCardSaid : Prop := Claim7.holds Tryz.pinned (.plain (OpenSpec.upto normalBytesSpec)) normalBytesUptoCard

/-- THE SECOND FORM's CARD OF 'glossarylaw08.FoldFold'. -/
def foldFoldUptoCard : Claim7 := { stood := { row := foldFoldUptoRow, standIns := [], harness := (true, "ea9c755f06a4463338266faaf55f6ffad43ad7e52d26c6168b584622a913e318"), looks := true }, kinds := [], alts := [], laidByText := true, laidKinds := [.data, .data, .data, .data, .data, .sentinel, .sentinel, .pinned], laidTests := true, laidLooks := .later }
def FoldFoldUptoCardSaid : Prop := Claim7.holds Tryz.pinned (.plain (OpenSpec.upto foldFoldSpec)) foldFoldUptoCard

/-- THE SECOND FORM's CARD OF 'glossarylaw08.FoldSame'. -/
def foldSameUptoCard : Claim7 := { stood := { row := foldSameUptoRow, standIns := [], harness := (true, "ea9c755f06a4463338266faaf55f6ffad43ad7e52d26c6168b584622a913e318"), looks := true }, kinds := [], alts := [], laidByText := true, laidKinds := [.data, .data, .data, .data, .data, .sentinel, .sentinel, .pinned], laidTests := true, laidLooks := .later }
def FoldSameUptoCardSaid : Prop := Claim7.holds Tryz.pinned (.plain (OpenSpec.upto foldSameSpec)) foldSameUptoCard

/-- THE SECOND FORM's CARD OF 'glossarylaw08.FoldPlaces'. -/
def foldPlacesUptoCard : Claim7 := { stood := { row := foldPlacesUptoRow, standIns := [], harness := (true, "ea9c755f06a4463338266faaf55f6ffad43ad7e52d26c6168b584622a913e318"), looks := true }, kinds := [], alts := [], laidByText := true, laidKinds := [.data, .data, .data, .data, .data, .sentinel, .sentinel, .pinned], laidTests := true, laidLooks := .later }
def FoldPlacesUptoCardSaid : Prop := Claim7.holds Tryz.pinned (.plain (OpenSpec.upto foldPlacesSpec)) foldPlacesUptoCard

/-- THE SECOND FORM's CARD OF 'glossarylaw08.FoldParts'. -/
def foldPartsUptoCard : Claim7 := { stood := { row := foldPartsUptoRow, standIns := [], harness := (true, "ea9c755f06a4463338266faaf55f6ffad43ad7e52d26c6168b584622a913e318"), looks := true }, kinds := [], alts := [], laidByText := true, laidKinds := [.data, .data, .data, .data, .data, .sentinel, .sentinel, .pinned], laidTests := true, laidLooks := .later }
def FoldPartsUptoCardSaid : Prop := Claim7.holds Tryz.pinned (.plain (OpenSpec.upto foldPartsSpec)) foldPartsUptoCard

/-- THE SECOND FORM's CARD OF 'glossarylaw08.FoldNormal'. -/
def foldNormalUptoCard : Claim7 := { stood := { row := foldNormalUptoRow, standIns := [], harness := (true, "ea9c755f06a4463338266faaf55f6ffad43ad7e52d26c6168b584622a913e318"), looks := true }, kinds := [], alts := [], laidByText := true, laidKinds := [.data, .data, .data, .data, .data, .sentinel, .sentinel, .pinned], laidTests := true, laidLooks := .later }
def FoldNormalUptoCardSaid : Prop := Claim7.holds Tryz.pinned (.plain (OpenSpec.upto foldNormalSpec)) foldNormalUptoCard
end Rows
end Go.Proofs.YtikpkjpnehkbfaaGreatDoor
