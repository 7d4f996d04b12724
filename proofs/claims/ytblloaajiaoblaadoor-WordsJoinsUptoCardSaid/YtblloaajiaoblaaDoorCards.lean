/-
  DERIVED. GIVEN WITH THE SEED: THE CARDS: each row of YtblloaajiaoblaaDoorRows.lean that lists a variable, with what it lists TIED to the program's text (the seventh form; the later family's looks); each row that meets fmt, with fmt's text TOLD by the authors' own Lean function (tested against real Go, not proved from fmt's source: count such statements apart). THE CARD IS WHAT COUNTS. Prove the row's statement (the work); the ties are given (YtblloaajiaoblaaDoorTie.lean); close each card by the builder's one call (the guide's Derived/Test/ToyasCard.lean, 'card_holds'). Laid BY PROGRAM, IN A SANDBOX (cutbox-door.mjs). By AI agents, Wed Nov 11 2026. No macro, syntax, notation, axiom, sorry.
-/
import Derived.Test.YtblloaajiaoblaaDoorRows
import GoSem.ClaimSeven
namespace Go.Proofs.YtblloaajiaoblaaDoor
namespace Rows

/-- THE TIED CARD OF 'anamorphlaw12.HashApart'. -/
def hashApartCard : Claim7 := { stood := { row := hashApartRow, standIns := [], harness := (true, "2c1f8b73f42d44fb8d2612c4e00e2c574b8ffe8cb1d5cdfee8553b2aa2c28cf6"), looks := true }, kinds := [], alts := [], laidByText := true, laidKinds := [.data, .data, .data], laidTests := true, laidLooks := .later }
def HashApartCardSaid : Prop := Claim7.holds Tryd.pinned (.plain (OpenSpec.ofChange hashApartSpec)) hashApartCard

/-- THE TIED CARD OF 'anamorphlaw12.HashPieces'. -/
def hashPiecesCard : Claim7 := { stood := { row := hashPiecesRow, standIns := [], harness := (true, "2c1f8b73f42d44fb8d2612c4e00e2c574b8ffe8cb1d5cdfee8553b2aa2c28cf6"), looks := true }, kinds := [], alts := [], laidByText := true, laidKinds := [.data, .data, .data], laidTests := true, laidLooks := .later }
def HashPiecesCardSaid : Prop := Claim7.holds Tryd.pinned (.plain (OpenSpec.ofChange hashPiecesSpec)) hashPiecesCard

/-- THE TIED CARD OF 'anamorphlaw12.HashTells'. -/
def hashTellsCard : Claim7 := { stood := { row := hashTellsRow, standIns := [], harness := (true, "2c1f8b73f42d44fb8d2612c4e00e2c574b8ffe8cb1d5cdfee8553b2aa2c28cf6"), looks := true }, kinds := [], alts := [], laidByText := true, laidKinds := [.data, .data, .data, .sentinel, .sentinel], laidTests := true, laidLooks := .later }
def HashTellsCardSaid : Prop := Claim7.holds Tryd.pinned (.plain (OpenSpec.ofChange hashTellsSpec)) hashTellsCard

/-- THE TIED CARD OF 'anamorphlaw49.WordsJoins'. -/
def wordsJoinsCard : Claim7 := { stood := { row := wordsJoinsRow, standIns := [], harness := (true, "2c1f8b73f42d44fb8d2612c4e00e2c574b8ffe8cb1d5cdfee8553b2aa2c28cf6"), looks := true }, kinds := [], alts := [], laidByText := true, laidKinds := [.data, .data, .data, .sentinel, .sentinel], laidTests := true, laidLooks := .later }
def WordsJoinsCardSaid : Prop := Claim7.holds Tryd.pinned (.plain (OpenSpec.ofChange wordsJoinsSpec)) wordsJoinsCard

/-- THE SECOND FORM's CARD OF 'anamorphlaw12.HashApart'. -/
def hashApartUptoCard : Claim7 := { stood := { row := hashApartUptoRow, standIns := [], harness := (true, "2c1f8b73f42d44fb8d2612c4e00e2c574b8ffe8cb1d5cdfee8553b2aa2c28cf6"), looks := true }, kinds := [], alts := [], laidByText := true, laidKinds := [.data, .data, .data], laidTests := true, laidLooks := .later }
def HashApartUptoCardSaid : Prop := Claim7.holds Tryd.pinned (.plain (OpenSpec.upto hashApartSpec)) hashApartUptoCard

/-- THE SECOND FORM's CARD OF 'anamorphlaw12.HashPieces'. -/
def hashPiecesUptoCard : Claim7 := { stood := { row := hashPiecesUptoRow, standIns := [], harness := (true, "2c1f8b73f42d44fb8d2612c4e00e2c574b8ffe8cb1d5cdfee8553b2aa2c28cf6"), looks := true }, kinds := [], alts := [], laidByText := true, laidKinds := [.data, .data, .data], laidTests := true, laidLooks := .later }
def HashPiecesUptoCardSaid : Prop := Claim7.holds Tryd.pinned (.plain (OpenSpec.upto hashPiecesSpec)) hashPiecesUptoCard

/-- THE SECOND FORM's CARD OF 'anamorphlaw12.HashTells'. -/
def hashTellsUptoCard : Claim7 := { stood := { row := hashTellsUptoRow, standIns := [], harness := (true, "2c1f8b73f42d44fb8d2612c4e00e2c574b8ffe8cb1d5cdfee8553b2aa2c28cf6"), looks := true }, kinds := [], alts := [], laidByText := true, laidKinds := [.data, .data, .data, .sentinel, .sentinel], laidTests := true, laidLooks := .later }
def HashTellsUptoCardSaid : Prop := Claim7.holds Tryd.pinned (.plain (OpenSpec.upto hashTellsSpec)) hashTellsUptoCard

/-- THE SECOND FORM's CARD OF 'anamorphlaw49.WordsJoins'. -/
def wordsJoinsUptoCard : Claim7 := { stood := { row := wordsJoinsUptoRow, standIns := [], harness := (true, "2c1f8b73f42d44fb8d2612c4e00e2c574b8ffe8cb1d5cdfee8553b2aa2c28cf6"), looks := true }, kinds := [], alts := [], laidByText := true, laidKinds := [.data, .data, .data, .sentinel, .sentinel], laidTests := true, laidLooks := .later }
def WordsJoinsUptoCardSaid : Prop := Claim7.holds Tryd.pinned (.plain (OpenSpec.upto wordsJoinsSpec)) wordsJoinsUptoCard
end Rows
end Go.Proofs.YtblloaajiaoblaaDoor
