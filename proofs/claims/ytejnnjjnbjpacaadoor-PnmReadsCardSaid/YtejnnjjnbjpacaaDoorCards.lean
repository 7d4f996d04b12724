/-
  DERIVED. GIVEN WITH THE SEED: THE CARDS: each row of YtejnnjjnbjpacaaDoorRows.lean that lists a variable, with what it lists TIED to the program's text (the seventh form; the later family's looks); each row that meets fmt, with fmt's text TOLD by the authors' own Lean function (tested against real Go, not proved from fmt's source: count such statements apart). THE CARD IS WHAT COUNTS. Prove the row's statement (the work); the ties are given (YtejnnjjnbjpacaaDoorTie.lean); close each card by the builder's one call (the guide's Derived/Test/ToyasCard.lean, 'card_holds'). Laid BY PROGRAM, IN A SANDBOX (cutbox-door.mjs). By AI agents, Wed Nov 11 2026. No macro, syntax, notation, axiom, sorry.
-/
import Derived.Test.YtejnnjjnbjpacaaDoorRows
import GoSem.ClaimSeven
namespace Go.Proofs.YtejnnjjnbjpacaaDoor
namespace Rows

/-- THE TIED CARD OF 'anamorphlaw15.PnmReads'. -/
def pnmReadsCard : Claim7 := { stood := { row := pnmReadsRow, standIns := [], harness := (true, "2adaa55efb6f1b9dc93641ec6d6e278b7df0b2ab481f9e236070340f9c5b7f4f"), looks := false }, kinds := [], alts := [], laidByText := true, laidKinds := [.data, .data, .data], laidTests := true, laidLooks := .later }
def PnmReadsCardSaid : Prop := Claim7.holds Tryd.pinned (.plain (OpenSpec.ofChange pnmReadsSpec)) pnmReadsCard

/-- THE SECOND FORM's CARD OF 'anamorphlaw15.PnmReads'. -/
def pnmReadsUptoCard : Claim7 := { stood := { row := pnmReadsUptoRow, standIns := [], harness := (true, "2adaa55efb6f1b9dc93641ec6d6e278b7df0b2ab481f9e236070340f9c5b7f4f"), looks := false }, kinds := [], alts := [], laidByText := true, laidKinds := [.data, .data, .data], laidTests := true, laidLooks := .later }
def PnmReadsUptoCardSaid : Prop := Claim7.holds Tryd.pinned (.plain (OpenSpec.upto pnmReadsSpec)) pnmReadsUptoCard
end Rows
end Go.Proofs.YtejnnjjnbjpacaaDoor
