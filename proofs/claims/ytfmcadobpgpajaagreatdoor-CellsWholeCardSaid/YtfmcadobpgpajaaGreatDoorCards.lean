/-
  DERIVED. GIVEN WITH THE SEED: THE CARDS: each row of YtfmcadobpgpajaaGreatDoorRows.lean that lists a variable, with what it lists TIED to the program's text (the seventh form; the later family's looks); each row that meets fmt, with fmt's text TOLD by the authors' own Lean function (tested against real Go, not proved from fmt's source: count such statements apart). THE CARD IS WHAT COUNTS. Prove the row's statement (the work); the ties are given (YtfmcadobpgpajaaGreatDoorTie.lean); close each card by the builder's one call (the guide's Derived/Test/ToyasCard.lean, 'card_holds'). Laid BY PROGRAM, IN A SANDBOX (cutbox-door.mjs). By AI agents, Wed Nov 11 2026. No macro, syntax, notation, axiom, sorry.
-/
import Derived.Test.YtfmcadobpgpajaaGreatDoorRows
import GoSem.ClaimSeven
namespace Go.Proofs.YtfmcadobpgpajaaGreatDoor
namespace Rows

/-- THE TIED CARD OF 'glossarylaw09.CellsBeside'. -/
def cellsBesideCard : Claim7 := { stood := { row := cellsBesideRow, standIns := [], harness := (true, "e1e5b8a55bfa9443845f2a6cbe31d5ad42dbcdcc53d91311bc481289b805989c"), looks := true }, kinds := [], alts := [], laidByText := true, laidKinds := [.data, .data, .data, .data, .data, .sentinel, .sentinel, .pinned], laidTests := true, laidLooks := .later }
def CellsBesideCardSaid : Prop := Claim7.holds Tryz.pinned (.plain (OpenSpec.ofChange cellsBesideSpec)) cellsBesideCard

/-- THE TIED CARD OF 'glossarylaw09.CellsPlain'. -/
def cellsPlainCard : Claim7 := { stood := { row := cellsPlainRow, standIns := [], harness := (true, "e1e5b8a55bfa9443845f2a6cbe31d5ad42dbcdcc53d91311bc481289b805989c"), looks := true }, kinds := [], alts := [], laidByText := true, laidKinds := [.data, .data, .data, .data, .sentinel, .sentinel, .pinned], laidTests := true, laidLooks := .later }
def CellsPlainCardSaid : Prop := Claim7.holds Tryz.pinned (.plain (OpenSpec.ofChange cellsPlainSpec)) cellsPlainCard

/-- THE TIED CARD OF 'glossarylaw09.CellsAll'. -/
def cellsAllCard : Claim7 := { stood := { row := cellsAllRow, standIns := [], harness := (true, "e1e5b8a55bfa9443845f2a6cbe31d5ad42dbcdcc53d91311bc481289b805989c"), looks := true }, kinds := [], alts := [], laidByText := true, laidKinds := [.data, .data, .data, .data, .data, .sentinel, .sentinel, .pinned], laidTests := true, laidLooks := .later }
def CellsAllCardSaid : Prop := Claim7.holds Tryz.pinned (.plain (OpenSpec.ofChange cellsAllSpec)) cellsAllCard

/-- THE TIED CARD OF 'glossarylaw09.CellsWhole'. -/
def cellsWholeCard : Claim7 := { stood := { row := cellsWholeRow, standIns := [], harness := (true, "e1e5b8a55bfa9443845f2a6cbe31d5ad42dbcdcc53d91311bc481289b805989c"), looks := true }, kinds := [], alts := [], laidByText := true, laidKinds := [.data, .data, .data, .data, .data, .sentinel, .sentinel, .pinned], laidTests := true, laidLooks := .later }
def CellsWholeCardSaid : Prop := Claim7.holds Tryz.pinned (.plain (OpenSpec.ofChange cellsWholeSpec)) cellsWholeCard

/-- THE TIED CARD OF 'glossarylaw09.CellsKnown'. -/
def cellsKnownCard : Claim7 := { stood := { row := cellsKnownRow, standIns := [], harness := (true, "e1e5b8a55bfa9443845f2a6cbe31d5ad42dbcdcc53d91311bc481289b805989c"), looks := true }, kinds := [], alts := [], laidByText := true, laidKinds := [.data, .data, .data, .data, .data, .sentinel, .sentinel, .pinned], laidTests := true, laidLooks := .later }
def CellsKnownCardSaid : Prop := Claim7.holds Tryz.pinned (.plain (OpenSpec.ofChange cellsKnownSpec)) cellsKnownCard

/-- THE SECOND FORM's CARD OF 'glossarylaw09.CellsBeside'. -/
def cellsBesideUptoCard : Claim7 := { stood := { row := cellsBesideUptoRow, standIns := [], harness := (true, "e1e5b8a55bfa9443845f2a6cbe31d5ad42dbcdcc53d91311bc481289b805989c"), looks := true }, kinds := [], alts := [], laidByText := true, laidKinds := [.data, .data, .data, .data, .data, .sentinel, .sentinel, .pinned], laidTests := true, laidLooks := .later }
def CellsBesideUptoCardSaid : Prop := Claim7.holds Tryz.pinned (.plain (OpenSpec.upto cellsBesideSpec)) cellsBesideUptoCard

/-- THE SECOND FORM's CARD OF 'glossarylaw09.CellsPlain'. -/
def cellsPlainUptoCard : Claim7 := { stood := { row := cellsPlainUptoRow, standIns := [], harness := (true, "e1e5b8a55bfa9443845f2a6cbe31d5ad42dbcdcc53d91311bc481289b805989c"), looks := true }, kinds := [], alts := [], laidByText := true, laidKinds := [.data, .data, .data, .data, .sentinel, .sentinel, .pinned], laidTests := true, laidLooks := .later }
def CellsPlainUptoCardSaid : Prop := Claim7.holds Tryz.pinned (.plain (OpenSpec.upto cellsPlainSpec)) cellsPlainUptoCard

/-- THE SECOND FORM's CARD OF 'glossarylaw09.CellsAll'. -/
def cellsAllUptoCard : Claim7 := { stood := { row := cellsAllUptoRow, standIns := [], harness := (true, "e1e5b8a55bfa9443845f2a6cbe31d5ad42dbcdcc53d91311bc481289b805989c"), looks := true }, kinds := [], alts := [], laidByText := true, laidKinds := [.data, .data, .data, .data, .data, .sentinel, .sentinel, .pinned], laidTests := true, laidLooks := .later }
def CellsAllUptoCardSaid : Prop := Claim7.holds Tryz.pinned (.plain (OpenSpec.upto cellsAllSpec)) cellsAllUptoCard

/-- THE SECOND FORM's CARD OF 'glossarylaw09.CellsWhole'. -/
def cellsWholeUptoCard : Claim7 := { stood := { row := cellsWholeUptoRow, standIns := [], harness := (true, "e1e5b8a55bfa9443845f2a6cbe31d5ad42dbcdcc53d91311bc481289b805989c"), looks := true }, kinds := [], alts := [], laidByText := true, laidKinds := [.data, .data, .data, .data, .data, .sentinel, .sentinel, .pinned], laidTests := true, laidLooks := .later }
def CellsWholeUptoCardSaid : Prop := Claim7.holds Tryz.pinned (.plain (OpenSpec.upto cellsWholeSpec)) cellsWholeUptoCard

/-- THE SECOND FORM's CARD OF 'glossarylaw09.CellsKnown'. -/
def cellsKnownUptoCard : Claim7 := { stood := { row := cellsKnownUptoRow, standIns := [], harness := (true, "e1e5b8a55bfa9443845f2a6cbe31d5ad42dbcdcc53d91311bc481289b805989c"), looks := true }, kinds := [], alts := [], laidByText := true, laidKinds := [.data, .data, .data, .data, .data, .sentinel, .sentinel, .pinned], laidTests := true, laidLooks := .later }
def CellsKnownUptoCardSaid : Prop := Claim7.holds Tryz.pinned (.plain (OpenSpec.upto cellsKnownSpec)) cellsKnownUptoCard
end Rows
end Go.Proofs.YtfmcadobpgpajaaGreatDoor
