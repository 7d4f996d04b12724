/-
  DERIVED. GIVEN WITH THE SEED: THE CARDS: each row of YtocboijpmmlegaaDoorRows.lean that lists a variable, with what it lists TIED to the program's text (the seventh form; the later family's looks); each row that meets fmt, with fmt's text TOLD by the authors' own Lean function (tested against real Go, not proved from fmt's source: count such statements apart). THE CARD IS WHAT COUNTS. Prove the row's statement (the work); the ties are given (YtocboijpmmlegaaDoorTie.lean); close each card by the builder's one call (the guide's Derived/Test/ToyasCard.lean, 'card_holds'). Laid BY PROGRAM, IN A SANDBOX (cutbox-door.mjs). By AI agents, Wed Nov 11 2026. No macro, syntax, notation, axiom, sorry.
-/
import Derived.Test.YtocboijpmmlegaaDoorRows
import GoSem.ClaimSeven
namespace Go.Proofs.YtocboijpmmlegaaDoor
namespace Rows

/-- THE TIED CARD OF 'anamorphlaw15.PnmWrites'. -/
def pnmWritesCard : Claim7 := { stood := { row := pnmWritesRow, standIns := [], harness := (true, "6238438ad9df1242919ee95e8336ce5afbf7385881141f9bb6acd6e8141031f9"), looks := false }, kinds := [], alts := [], laidByText := true, laidKinds := [.data, .data, .data], laidTests := true, laidLooks := .later }
def PnmWritesCardSaid : Prop := Claim7.holds Tryd.pinned (.plain (OpenSpec.ofChange pnmWritesSpec)) pnmWritesCard

/-- THE TIED CARD OF 'anamorphlaw15.PnmSpoiled'. -/
def pnmSpoiledCard : Claim7 := { stood := { row := pnmSpoiledRow, standIns := [], harness := (true, "6238438ad9df1242919ee95e8336ce5afbf7385881141f9bb6acd6e8141031f9"), looks := false }, kinds := [], alts := [], laidByText := true, laidKinds := [.data, .data, .data], laidTests := true, laidLooks := .later }
def PnmSpoiledCardSaid : Prop := Claim7.holds Tryd.pinned (.plain (OpenSpec.ofChange pnmSpoiledSpec)) pnmSpoiledCard

/-- THE TIED CARD OF 'anamorphlaw15.PnmBack'. -/
def pnmBackCard : Claim7 := { stood := { row := pnmBackRow, standIns := [], harness := (true, "6238438ad9df1242919ee95e8336ce5afbf7385881141f9bb6acd6e8141031f9"), looks := false }, kinds := [], alts := [], laidByText := true, laidKinds := [.data, .data, .data], laidTests := true, laidLooks := .later }
def PnmBackCardSaid : Prop := Claim7.holds Tryd.pinned (.plain (OpenSpec.ofChange pnmBackSpec)) pnmBackCard

/-- THE TIED CARD OF 'anamorphlaw17.CodecWrites'. -/
def codecWritesCard : Claim7 := { stood := { row := codecWritesRow, standIns := [], harness := (true, "6238438ad9df1242919ee95e8336ce5afbf7385881141f9bb6acd6e8141031f9"), looks := false }, kinds := [], alts := [], laidByText := true, laidKinds := [.data, .data, .data], laidTests := true, laidLooks := .later }
def CodecWritesCardSaid : Prop := Claim7.holds Tryd.pinned (.plain (OpenSpec.ofChange codecWritesSpec)) codecWritesCard

/-- THE SECOND FORM's CARD OF 'anamorphlaw15.PnmWrites'. -/
def pnmWritesUptoCard : Claim7 := { stood := { row := pnmWritesUptoRow, standIns := [], harness := (true, "6238438ad9df1242919ee95e8336ce5afbf7385881141f9bb6acd6e8141031f9"), looks := false }, kinds := [], alts := [], laidByText := true, laidKinds := [.data, .data, .data], laidTests := true, laidLooks := .later }
def PnmWritesUptoCardSaid : Prop := Claim7.holds Tryd.pinned (.plain (OpenSpec.upto pnmWritesSpec)) pnmWritesUptoCard

/-- THE SECOND FORM's CARD OF 'anamorphlaw15.PnmSpoiled'. -/
def pnmSpoiledUptoCard : Claim7 := { stood := { row := pnmSpoiledUptoRow, standIns := [], harness := (true, "6238438ad9df1242919ee95e8336ce5afbf7385881141f9bb6acd6e8141031f9"), looks := false }, kinds := [], alts := [], laidByText := true, laidKinds := [.data, .data, .data], laidTests := true, laidLooks := .later }
def PnmSpoiledUptoCardSaid : Prop := Claim7.holds Tryd.pinned (.plain (OpenSpec.upto pnmSpoiledSpec)) pnmSpoiledUptoCard

/-- THE SECOND FORM's CARD OF 'anamorphlaw15.PnmBack'. -/
def pnmBackUptoCard : Claim7 := { stood := { row := pnmBackUptoRow, standIns := [], harness := (true, "6238438ad9df1242919ee95e8336ce5afbf7385881141f9bb6acd6e8141031f9"), looks := false }, kinds := [], alts := [], laidByText := true, laidKinds := [.data, .data, .data], laidTests := true, laidLooks := .later }
def PnmBackUptoCardSaid : Prop := Claim7.holds Tryd.pinned (.plain (OpenSpec.upto pnmBackSpec)) pnmBackUptoCard

/-- THE SECOND FORM's CARD OF 'anamorphlaw17.CodecWrites'. -/
def codecWritesUptoCard : Claim7 := { stood := { row := codecWritesUptoRow, standIns := [], harness := (true, "6238438ad9df1242919ee95e8336ce5afbf7385881141f9bb6acd6e8141031f9"), looks := false }, kinds := [], alts := [], laidByText := true, laidKinds := [.data, .data, .data], laidTests := true, laidLooks := .later }
def CodecWritesUptoCardSaid : Prop := Claim7.holds Tryd.pinned (.plain (OpenSpec.upto codecWritesSpec)) codecWritesUptoCard
end Rows
end Go.Proofs.YtocboijpmmlegaaDoor
