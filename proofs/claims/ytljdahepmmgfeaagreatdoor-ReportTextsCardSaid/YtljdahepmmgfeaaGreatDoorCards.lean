/-
  DERIVED. GIVEN WITH THE SEED: THE CARDS: each row of YtljdahepmmgfeaaGreatDoorRows.lean that lists a variable, with what it lists TIED to the program's text (the seventh form; the later family's looks); each row that meets fmt, with fmt's text TOLD by the authors' own Lean function (tested against real Go, not proved from fmt's source: count such statements apart). THE CARD IS WHAT COUNTS. Prove the row's statement (the work); the ties are given (YtljdahepmmgfeaaGreatDoorTie.lean); close each card by the builder's one call (the guide's Derived/Test/ToyasCard.lean, 'card_holds'). Laid BY PROGRAM, IN A SANDBOX (cutbox-door.mjs). By AI agents, Wed Nov 11 2026. No macro, syntax, notation, axiom, sorry.
-/
import Derived.Test.YtljdahepmmgfeaaGreatDoorRows
import GoSem.ClaimSeven
namespace Go.Proofs.YtljdahepmmgfeaaGreatDoor
namespace Rows

/-- THE TIED CARD OF 'anamorphlaw53.ReportWords'. -/
def reportWordsCard : Claim7 := { stood := { row := reportWordsRow, standIns := [], harness := (true, "7f74951c4709a7c60b65ae16cdfcd62879b788b4afee8b8b48b737d0bd4857a3"), looks := false }, kinds := [], alts := [], laidByText := true, laidKinds := [.data, .data, .data], laidTests := true, laidLooks := .later }
def ReportWordsCardSaid : Prop := Claim7.holds Tryz.pinned (.plain (OpenSpec.ofChange reportWordsSpec)) reportWordsCard

/-- THE TIED CARD OF 'anamorphlaw53.ReportTexts'. -/
def reportTextsCard : Claim7 := { stood := { row := reportTextsRow, standIns := [], harness := (true, "7f74951c4709a7c60b65ae16cdfcd62879b788b4afee8b8b48b737d0bd4857a3"), looks := false }, kinds := [], alts := [], laidByText := true, laidKinds := [.data, .data, .data], laidTests := true, laidLooks := .later }
def ReportTextsCardSaid : Prop := Claim7.holds Tryz.pinned (.plain (OpenSpec.ofChange reportTextsSpec)) reportTextsCard

/-- THE SECOND FORM's CARD OF 'anamorphlaw53.ReportWords'. -/
def reportWordsUptoCard : Claim7 := { stood := { row := reportWordsUptoRow, standIns := [], harness := (true, "7f74951c4709a7c60b65ae16cdfcd62879b788b4afee8b8b48b737d0bd4857a3"), looks := false }, kinds := [], alts := [], laidByText := true, laidKinds := [.data, .data, .data], laidTests := true, laidLooks := .later }
def ReportWordsUptoCardSaid : Prop := Claim7.holds Tryz.pinned (.plain (OpenSpec.upto reportWordsSpec)) reportWordsUptoCard

/-- THE SECOND FORM's CARD OF 'anamorphlaw53.ReportTexts'. -/
def reportTextsUptoCard : Claim7 := { stood := { row := reportTextsUptoRow, standIns := [], harness := (true, "7f74951c4709a7c60b65ae16cdfcd62879b788b4afee8b8b48b737d0bd4857a3"), looks := false }, kinds := [], alts := [], laidByText := true, laidKinds := [.data, .data, .data], laidTests := true, laidLooks := .later }
def ReportTextsUptoCardSaid : Prop := Claim7.holds Tryz.pinned (.plain (OpenSpec.upto reportTextsSpec)) reportTextsUptoCard
end Rows
end Go.Proofs.YtljdahepmmgfeaaGreatDoor
