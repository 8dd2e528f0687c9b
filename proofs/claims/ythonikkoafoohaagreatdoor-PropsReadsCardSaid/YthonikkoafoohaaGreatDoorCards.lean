/-
  DERIVED. GIVEN WITH THE SEED: THE CARDS: each row of YthonikkoafoohaaGreatDoorRows.lean that lists a variable, with what it lists TIED to the program's text (the seventh form; the later family's looks); each row that meets fmt, with fmt's text TOLD by the authors' own Lean function (tested against real Go, not proved from fmt's source: count such statements apart). THE CARD IS WHAT COUNTS. Prove the row's statement (the work); the ties are given (YthonikkoafoohaaGreatDoorTie.lean); close each card by the builder's one call (the guide's Derived/Test/ToyasCard.lean, 'card_holds'). Laid BY PROGRAM, IN A SANDBOX (cutbox-door.mjs). By AI agents, Wed Nov 11 2026. No macro, syntax, notation, axiom, sorry.
-/
import Derived.Test.YthonikkoafoohaaGreatDoorRows
import GoSem.ClaimSeven
namespace Go.Proofs.YthonikkoafoohaaGreatDoor
namespace Rows

/-- THE TIED CARD OF 'glossarylaw06.PropsComposes'. -/
def propsComposesCard : Claim7 := { stood := { row := propsComposesRow, standIns := [], harness := (true, "685636c4a1b9f06831f9a8097eb35249af8993354dba23c7ac8065be00be6b15"), looks := true }, kinds := [], alts := [], laidByText := true, laidKinds := [.data, .data, .data, .data, .data, .sentinel, .sentinel, .pinned], laidTests := true, laidLooks := .later }
def PropsComposesCardSaid : Prop := Claim7.holds Tryz.pinned (.plain (OpenSpec.ofChange propsComposesSpec)) propsComposesCard

/-- THE TIED CARD OF 'glossarylaw06.PropsPairs'. -/
def propsPairsCard : Claim7 := { stood := { row := propsPairsRow, standIns := [], harness := (true, "685636c4a1b9f06831f9a8097eb35249af8993354dba23c7ac8065be00be6b15"), looks := true }, kinds := [], alts := [], laidByText := true, laidKinds := [.data, .data, .data, .data, .sentinel, .sentinel, .pinned], laidTests := true, laidLooks := .later }
def PropsPairsCardSaid : Prop := Claim7.holds Tryz.pinned (.plain (OpenSpec.ofChange propsPairsSpec)) propsPairsCard

/-- THE TIED CARD OF 'glossarylaw06.PropsPlain'. -/
def propsPlainCard : Claim7 := { stood := { row := propsPlainRow, standIns := [], harness := (true, "685636c4a1b9f06831f9a8097eb35249af8993354dba23c7ac8065be00be6b15"), looks := true }, kinds := [], alts := [], laidByText := true, laidKinds := [.data, .data, .data, .data, .sentinel, .sentinel, .pinned], laidTests := true, laidLooks := .later }
def PropsPlainCardSaid : Prop := Claim7.holds Tryz.pinned (.plain (OpenSpec.ofChange propsPlainSpec)) propsPlainCard

/-- THE TIED CARD OF 'glossarylaw06.PropsReads'. -/
def propsReadsCard : Claim7 := { stood := { row := propsReadsRow, standIns := [], harness := (true, "685636c4a1b9f06831f9a8097eb35249af8993354dba23c7ac8065be00be6b15"), looks := true }, kinds := [], alts := [], laidByText := true, laidKinds := [.data, .data, .data, .data, .data, .handle, .sentinel, .sentinel, .pinned], laidTests := true, laidLooks := .later }
def PropsReadsCardSaid : Prop := Claim7.holds Tryz.pinned (.plain (OpenSpec.ofChange propsReadsSpec)) propsReadsCard

/-- THE TIED CARD OF 'glossarylaw06.PropsKnown'. -/
def propsKnownCard : Claim7 := { stood := { row := propsKnownRow, standIns := [], harness := (true, "685636c4a1b9f06831f9a8097eb35249af8993354dba23c7ac8065be00be6b15"), looks := true }, kinds := [], alts := [], laidByText := true, laidKinds := [.data, .data, .data, .data, .data, .handle, .sentinel, .sentinel, .pinned], laidTests := true, laidLooks := .later }
def PropsKnownCardSaid : Prop := Claim7.holds Tryz.pinned (.plain (OpenSpec.ofChange propsKnownSpec)) propsKnownCard

/-- THE SECOND FORM's CARD OF 'glossarylaw06.PropsComposes'. -/
def propsComposesUptoCard : Claim7 := { stood := { row := propsComposesUptoRow, standIns := [], harness := (true, "685636c4a1b9f06831f9a8097eb35249af8993354dba23c7ac8065be00be6b15"), looks := true }, kinds := [], alts := [], laidByText := true, laidKinds := [.data, .data, .data, .data, .data, .sentinel, .sentinel, .pinned], laidTests := true, laidLooks := .later }
def PropsComposesUptoCardSaid : Prop := Claim7.holds Tryz.pinned (.plain (OpenSpec.upto propsComposesSpec)) propsComposesUptoCard

/-- THE SECOND FORM's CARD OF 'glossarylaw06.PropsPairs'. -/
def propsPairsUptoCard : Claim7 := { stood := { row := propsPairsUptoRow, standIns := [], harness := (true, "685636c4a1b9f06831f9a8097eb35249af8993354dba23c7ac8065be00be6b15"), looks := true }, kinds := [], alts := [], laidByText := true, laidKinds := [.data, .data, .data, .data, .sentinel, .sentinel, .pinned], laidTests := true, laidLooks := .later }
def PropsPairsUptoCardSaid : Prop := Claim7.holds Tryz.pinned (.plain (OpenSpec.upto propsPairsSpec)) propsPairsUptoCard

/-- THE SECOND FORM's CARD OF 'glossarylaw06.PropsPlain'. -/
def propsPlainUptoCard : Claim7 := { stood := { row := propsPlainUptoRow, standIns := [], harness := (true, "685636c4a1b9f06831f9a8097eb35249af8993354dba23c7ac8065be00be6b15"), looks := true }, kinds := [], alts := [], laidByText := true, laidKinds := [.data, .data, .data, .data, .sentinel, .sentinel, .pinned], laidTests := true, laidLooks := .later }
def PropsPlainUptoCardSaid : Prop := Claim7.holds Tryz.pinned (.plain (OpenSpec.upto propsPlainSpec)) propsPlainUptoCard

/-- THE SECOND FORM's CARD OF 'glossarylaw06.PropsReads'. -/
def propsReadsUptoCard : Claim7 := { stood := { row := propsReadsUptoRow, standIns := [], harness := (true, "685636c4a1b9f06831f9a8097eb35249af8993354dba23c7ac8065be00be6b15"), looks := true }, kinds := [], alts := [], laidByText := true, laidKinds := [.data, .data, .data, .data, .data, .handle, .sentinel, .sentinel, .pinned], laidTests := true, laidLooks := .later }
def PropsReadsUptoCardSaid : Prop := Claim7.holds Tryz.pinned (.plain (OpenSpec.upto propsReadsSpec)) propsReadsUptoCard

/-- THE SECOND FORM's CARD OF 'glossarylaw06.PropsKnown'. -/
def propsKnownUptoCard : Claim7 := { stood := { row := propsKnownUptoRow, standIns := [], harness := (true, "685636c4a1b9f06831f9a8097eb35249af8993354dba23c7ac8065be00be6b15"), looks := true }, kinds := [], alts := [], laidByText := true, laidKinds := [.data, .data, .data, .data, .data, .handle, .sentinel, .sentinel, .pinned], laidTests := true, laidLooks := .later }
def PropsKnownUptoCardSaid : Prop := Claim7.holds Tryz.pinned (.plain (OpenSpec.upto propsKnownSpec)) propsKnownUptoCard
end Rows
end Go.Proofs.YthonikkoafoohaaGreatDoor
