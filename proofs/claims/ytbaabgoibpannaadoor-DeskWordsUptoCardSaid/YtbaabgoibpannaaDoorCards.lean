/-
  DERIVED. GIVEN WITH THE SEED: THE CARDS: each row of YtbaabgoibpannaaDoorRows.lean that lists a variable, with what it lists TIED to the program's text (the seventh form; the later family's looks); each row that meets fmt, with fmt's text TOLD by the authors' own Lean function (tested against real Go, not proved from fmt's source: count such statements apart). THE CARD IS WHAT COUNTS. Prove the row's statement (the work); the ties are given (YtbaabgoibpannaaDoorTie.lean); close each card by the builder's one call (the guide's Derived/Test/ToyasCard.lean, 'card_holds'). Laid BY PROGRAM, IN A SANDBOX (cutbox-door.mjs). By AI agents, Wed Nov 11 2026. No macro, syntax, notation, axiom, sorry.
-/
import Derived.Test.YtbaabgoibpannaaDoorRows
import GoSem.ClaimSeven
namespace Go.Proofs.YtbaabgoibpannaaDoor
namespace Rows

/-- THE TIED CARD OF 'glossarylaw32.DeskWords'. -/
def deskWordsCard : Claim7 := { stood := { row := deskWordsRow, standIns := [], harness := (true, "46c5e07a8a7a2689ae52f1480d2448c8a05008b3c5c65862234dd144520a9cf6"), looks := true }, kinds := [], alts := [], laidByText := true, laidKinds := [.handle], laidTests := true, laidLooks := .later }
def DeskWordsCardSaid : Prop := Claim7.holds Tryd.pinned (.plain (OpenSpec.ofChange deskWordsSpec)) deskWordsCard

/-- THE SECOND FORM's CARD OF 'glossarylaw32.DeskWords'. -/
def deskWordsUptoCard : Claim7 := { stood := { row := deskWordsUptoRow, standIns := [], harness := (true, "46c5e07a8a7a2689ae52f1480d2448c8a05008b3c5c65862234dd144520a9cf6"), looks := true }, kinds := [], alts := [], laidByText := true, laidKinds := [.handle], laidTests := true, laidLooks := .later }
def DeskWordsUptoCardSaid : Prop := Claim7.holds Tryd.pinned (.plain (OpenSpec.upto deskWordsSpec)) deskWordsUptoCard
end Rows
end Go.Proofs.YtbaabgoibpannaaDoor
