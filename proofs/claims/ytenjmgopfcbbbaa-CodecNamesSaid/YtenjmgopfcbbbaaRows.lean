/-
  No cell of these rows narrows 'for every input' (looked for: loops, veiled, ifaces, maps, wideKeys, modest, calm, conditions, laid).
  DERIVED. THE GIVEN ROWS OF THIS SEAT. 14 by the template 'for every input the law returns true; each argument reads behind the call as it read before'; 0 by the template 'total and deterministic' (their statements: YtenjmgopfcbbbaaTotals.lean).
  GIVEN WITH THE SEED: the statements are not yours to turn. If you find one false, say at which input.
  Laid BY PROGRAM, IN A SANDBOX (cutbox-rows.mjs): the forced cells as the released guide's own fill.sh prints them over the translation a0f22f9a701d8fbf… (all of the seat's roots in one cut). By AI agents, Wed Nov 11 2026. No macro, syntax, notation, axiom, sorry.
-/
import Derived.Test.YtenjmgopfcbbbaaChecked
import GoSem.Claim
import GoSem.ClaimJoined
import GoSem.ClaimMapViews
import Derived.JoinedTies
import Derived.KernelRfl
namespace Go.Proofs.Ytenjmgopfcbbbaa
/- THE CELL 'sum', in the pinned program and in every row, IS THE sha256 OF THE DUMP (.gsa) THAT YtenjmgopfcbbbaaProg.lean LOADS. Nothing in Lean hashes anything: it is a label: what it is worth is what the hold of that sum in a sandbox is worth. -/
noncomputable def Try.pinned : Pinned := { name := "ytenjmgopfcbbbaa", sum := "a0f22f9a701d8fbf13d1c1cbac83fe8d67620cfa385b62849b47befd6e142704", checked := Try.checked }
namespace Rows
def none {H : Type} : Left H := { results := [], args := [] }

/-- 'anamorphlaw07.ImgChecks': WHATEVER THE INPUT: true; the input reads as it did. -/
def imgChecksSpec : ChangeSpec := { name := "imgChecks", fn := fun _ => fun
  | [d1, d2] => { results := [.lit (.bool true)], args := [d1, d2] }
  | _ => none }
def imgChecksRow : OpenClaim := { program := "ytenjmgopfcbbbaa", sum := "a0f22f9a701d8fbf13d1c1cbac83fe8d67620cfa385b62849b47befd6e142704", func := "anamorph/anamorphlaw07.ImgChecks", spec := "imgChecks", apart := false }
def ImgChecksSaid : Prop := imgChecksRow.holds Try.pinned (OpenSpec.ofChange imgChecksSpec)

/-- ITS FALSE NEIGHBOUR: 'it returns false'. Refute it at one input. -/
def imgChecksWrong : ChangeSpec := { name := "imgChecks", fn := fun _ => fun
  | [d1, d2] => { results := [.lit (.bool false)], args := [d1, d2] }
  | _ => none }
def ImgChecksWrongFalsely : Prop := imgChecksRow.holds Try.pinned (OpenSpec.ofChange imgChecksWrong)

/-- 'anamorphlaw06.RectTwos': WHATEVER THE INPUT: true; the input reads as it did. -/
def rectTwosSpec : ChangeSpec := { name := "rectTwos", fn := fun _ => fun
  | [d1, d2] => { results := [.lit (.bool true)], args := [d1, d2] }
  | _ => none }
def rectTwosRow : OpenClaim := { program := "ytenjmgopfcbbbaa", sum := "a0f22f9a701d8fbf13d1c1cbac83fe8d67620cfa385b62849b47befd6e142704", func := "anamorph/anamorphlaw06.RectTwos", spec := "rectTwos", apart := false }
def RectTwosSaid : Prop := rectTwosRow.holds Try.pinned (OpenSpec.ofChange rectTwosSpec)

/-- ITS FALSE NEIGHBOUR: 'it returns false'. Refute it at one input. -/
def rectTwosWrong : ChangeSpec := { name := "rectTwos", fn := fun _ => fun
  | [d1, d2] => { results := [.lit (.bool false)], args := [d1, d2] }
  | _ => none }
def RectTwosWrongFalsely : Prop := rectTwosRow.holds Try.pinned (OpenSpec.ofChange rectTwosWrong)

/-- 'anamorphlaw06.RectHas': WHATEVER THE INPUT: true; the input reads as it did. -/
def rectHasSpec : ChangeSpec := { name := "rectHas", fn := fun _ => fun
  | [d1, d2, d3] => { results := [.lit (.bool true)], args := [d1, d2, d3] }
  | _ => none }
def rectHasRow : OpenClaim := { program := "ytenjmgopfcbbbaa", sum := "a0f22f9a701d8fbf13d1c1cbac83fe8d67620cfa385b62849b47befd6e142704", func := "anamorph/anamorphlaw06.RectHas", spec := "rectHas", apart := false }
def RectHasSaid : Prop := rectHasRow.holds Try.pinned (OpenSpec.ofChange rectHasSpec)

/-- ITS FALSE NEIGHBOUR: 'it returns false'. Refute it at one input. -/
def rectHasWrong : ChangeSpec := { name := "rectHas", fn := fun _ => fun
  | [d1, d2, d3] => { results := [.lit (.bool false)], args := [d1, d2, d3] }
  | _ => none }
def RectHasWrongFalsely : Prop := rectHasRow.holds Try.pinned (OpenSpec.ofChange rectHasWrong)

/-- 'anamorphlaw06.RectPlaces': WHATEVER THE INPUT: true; the input reads as it did. -/
def rectPlacesSpec : ChangeSpec := { name := "rectPlaces", fn := fun _ => fun
  | [d1, d2] => { results := [.lit (.bool true)], args := [d1, d2] }
  | _ => none }
def rectPlacesRow : OpenClaim := { program := "ytenjmgopfcbbbaa", sum := "a0f22f9a701d8fbf13d1c1cbac83fe8d67620cfa385b62849b47befd6e142704", func := "anamorph/anamorphlaw06.RectPlaces", spec := "rectPlaces", unfollowed := true, recurses := true, apart := false }
def RectPlacesSaid : Prop := rectPlacesRow.holds Try.pinned (OpenSpec.ofChange rectPlacesSpec)

/-- ITS FALSE NEIGHBOUR: 'it returns false'. Refute it at one input. -/
def rectPlacesWrong : ChangeSpec := { name := "rectPlaces", fn := fun _ => fun
  | [d1, d2] => { results := [.lit (.bool false)], args := [d1, d2] }
  | _ => none }
def RectPlacesWrongFalsely : Prop := rectPlacesRow.holds Try.pinned (OpenSpec.ofChange rectPlacesWrong)

/-- 'anamorphlaw06.RectOnes': WHATEVER THE INPUT: true; the input reads as it did. -/
def rectOnesSpec : ChangeSpec := { name := "rectOnes", fn := fun _ => fun
  | [d1, d2, d3] => { results := [.lit (.bool true)], args := [d1, d2, d3] }
  | _ => none }
def rectOnesRow : OpenClaim := { program := "ytenjmgopfcbbbaa", sum := "a0f22f9a701d8fbf13d1c1cbac83fe8d67620cfa385b62849b47befd6e142704", func := "anamorph/anamorphlaw06.RectOnes", spec := "rectOnes", apart := false }
def RectOnesSaid : Prop := rectOnesRow.holds Try.pinned (OpenSpec.ofChange rectOnesSpec)

/-- ITS FALSE NEIGHBOUR: 'it returns false'. Refute it at one input. -/
def rectOnesWrong : ChangeSpec := { name := "rectOnes", fn := fun _ => fun
  | [d1, d2, d3] => { results := [.lit (.bool false)], args := [d1, d2, d3] }
  | _ => none }
def RectOnesWrongFalsely : Prop := rectOnesRow.holds Try.pinned (OpenSpec.ofChange rectOnesWrong)

/-- 'anamorphlaw17.CodecNames': WHATEVER THE INPUT: true; the input reads as it did. -/
def codecNamesSpec : ChangeSpec := { name := "codecNames", fn := fun _ => fun
  | [d1, d2] => { results := [.lit (.bool true)], args := [d1, d2] }
  | _ => none }
def codecNamesRow : OpenClaim := { program := "ytenjmgopfcbbbaa", sum := "a0f22f9a701d8fbf13d1c1cbac83fe8d67620cfa385b62849b47befd6e142704", func := "anamorph/anamorphlaw17.CodecNames", spec := "codecNames", unfollowed := true, recurses := true, apart := false }
def CodecNamesSaid : Prop := codecNamesRow.holds Try.pinned (OpenSpec.ofChange codecNamesSpec)

/-- ITS FALSE NEIGHBOUR: 'it returns false'. Refute it at one input. -/
def codecNamesWrong : ChangeSpec := { name := "codecNames", fn := fun _ => fun
  | [d1, d2] => { results := [.lit (.bool false)], args := [d1, d2] }
  | _ => none }
def CodecNamesWrongFalsely : Prop := codecNamesRow.holds Try.pinned (OpenSpec.ofChange codecNamesWrong)

/-- 'anamorphlaw09.GridTiles': WHATEVER THE INPUT: true; the input reads as it did. -/
def gridTilesSpec : ChangeSpec := { name := "gridTiles", fn := fun _ => fun
  | [d1, d2] => { results := [.lit (.bool true)], args := [d1, d2] }
  | _ => none }
def gridTilesRow : OpenClaim := { program := "ytenjmgopfcbbbaa", sum := "a0f22f9a701d8fbf13d1c1cbac83fe8d67620cfa385b62849b47befd6e142704", func := "anamorph/anamorphlaw09.GridTiles", spec := "gridTiles", apart := false }
def GridTilesSaid : Prop := gridTilesRow.holds Try.pinned (OpenSpec.ofChange gridTilesSpec)

/-- ITS FALSE NEIGHBOUR: 'it returns false'. Refute it at one input. -/
def gridTilesWrong : ChangeSpec := { name := "gridTiles", fn := fun _ => fun
  | [d1, d2] => { results := [.lit (.bool false)], args := [d1, d2] }
  | _ => none }
def GridTilesWrongFalsely : Prop := gridTilesRow.holds Try.pinned (OpenSpec.ofChange gridTilesWrong)

/-- 'anamorphlaw07.ImgPastes': WHATEVER THE INPUT: true; the input reads as it did. -/
def imgPastesSpec : ChangeSpec := { name := "imgPastes", fn := fun _ => fun
  | [d1, d2, d3] => { results := [.lit (.bool true)], args := [d1, d2, d3] }
  | _ => none }
def imgPastesRow : OpenClaim := { program := "ytenjmgopfcbbbaa", sum := "a0f22f9a701d8fbf13d1c1cbac83fe8d67620cfa385b62849b47befd6e142704", func := "anamorph/anamorphlaw07.ImgPastes", spec := "imgPastes", apart := false }
def ImgPastesSaid : Prop := imgPastesRow.holds Try.pinned (OpenSpec.ofChange imgPastesSpec)

/-- ITS FALSE NEIGHBOUR: 'it returns false'. Refute it at one input. -/
def imgPastesWrong : ChangeSpec := { name := "imgPastes", fn := fun _ => fun
  | [d1, d2, d3] => { results := [.lit (.bool false)], args := [d1, d2, d3] }
  | _ => none }
def ImgPastesWrongFalsely : Prop := imgPastesRow.holds Try.pinned (OpenSpec.ofChange imgPastesWrong)

/-- 'anamorphlaw09.GridPlaces': WHATEVER THE INPUT: true; the input reads as it did. -/
def gridPlacesSpec : ChangeSpec := { name := "gridPlaces", fn := fun _ => fun
  | [d1, d2, d3] => { results := [.lit (.bool true)], args := [d1, d2, d3] }
  | _ => none }
def gridPlacesRow : OpenClaim := { program := "ytenjmgopfcbbbaa", sum := "a0f22f9a701d8fbf13d1c1cbac83fe8d67620cfa385b62849b47befd6e142704", func := "anamorph/anamorphlaw09.GridPlaces", spec := "gridPlaces", apart := false }
def GridPlacesSaid : Prop := gridPlacesRow.holds Try.pinned (OpenSpec.ofChange gridPlacesSpec)

/-- ITS FALSE NEIGHBOUR: 'it returns false'. Refute it at one input. -/
def gridPlacesWrong : ChangeSpec := { name := "gridPlaces", fn := fun _ => fun
  | [d1, d2, d3] => { results := [.lit (.bool false)], args := [d1, d2, d3] }
  | _ => none }
def GridPlacesWrongFalsely : Prop := gridPlacesRow.holds Try.pinned (OpenSpec.ofChange gridPlacesWrong)

/-- 'anamorphlaw49.WordsMany': WHATEVER THE INPUT: true; the input reads as it did. -/
def wordsManySpec : ChangeSpec := { name := "wordsMany", fn := fun _ => fun
  | [d1, d2] => { results := [.lit (.bool true)], args := [d1, d2] }
  | _ => none }
def wordsManyRow : OpenClaim := { program := "ytenjmgopfcbbbaa", sum := "a0f22f9a701d8fbf13d1c1cbac83fe8d67620cfa385b62849b47befd6e142704", func := "anamorph/anamorphlaw49.WordsMany", spec := "wordsMany", unfollowed := true, recurses := true, apart := false }
def WordsManySaid : Prop := wordsManyRow.holds Try.pinned (OpenSpec.ofChange wordsManySpec)

/-- ITS FALSE NEIGHBOUR: 'it returns false'. Refute it at one input. -/
def wordsManyWrong : ChangeSpec := { name := "wordsMany", fn := fun _ => fun
  | [d1, d2] => { results := [.lit (.bool false)], args := [d1, d2] }
  | _ => none }
def WordsManyWrongFalsely : Prop := wordsManyRow.holds Try.pinned (OpenSpec.ofChange wordsManyWrong)

/-- 'anamorphlaw13.DiffThird': WHATEVER THE INPUT: true; the input reads as it did. -/
def diffThirdSpec : ChangeSpec := { name := "diffThird", fn := fun _ => fun
  | [d1, d2, d3] => { results := [.lit (.bool true)], args := [d1, d2, d3] }
  | _ => none }
def diffThirdRow : OpenClaim := { program := "ytenjmgopfcbbbaa", sum := "a0f22f9a701d8fbf13d1c1cbac83fe8d67620cfa385b62849b47befd6e142704", func := "anamorph/anamorphlaw13.DiffThird", spec := "diffThird", unfollowed := true, recurses := true, apart := false }
def DiffThirdSaid : Prop := diffThirdRow.holds Try.pinned (OpenSpec.ofChange diffThirdSpec)

/-- ITS FALSE NEIGHBOUR: 'it returns false'. Refute it at one input. -/
def diffThirdWrong : ChangeSpec := { name := "diffThird", fn := fun _ => fun
  | [d1, d2, d3] => { results := [.lit (.bool false)], args := [d1, d2, d3] }
  | _ => none }
def DiffThirdWrongFalsely : Prop := diffThirdRow.holds Try.pinned (OpenSpec.ofChange diffThirdWrong)

/-- 'anamorphlaw13.DiffPeak': WHATEVER THE INPUT: true; the input reads as it did. -/
def diffPeakSpec : ChangeSpec := { name := "diffPeak", fn := fun _ => fun
  | [d1, d2] => { results := [.lit (.bool true)], args := [d1, d2] }
  | _ => none }
def diffPeakRow : OpenClaim := { program := "ytenjmgopfcbbbaa", sum := "a0f22f9a701d8fbf13d1c1cbac83fe8d67620cfa385b62849b47befd6e142704", func := "anamorph/anamorphlaw13.DiffPeak", spec := "diffPeak", unfollowed := true, recurses := true, apart := false }
def DiffPeakSaid : Prop := diffPeakRow.holds Try.pinned (OpenSpec.ofChange diffPeakSpec)

/-- ITS FALSE NEIGHBOUR: 'it returns false'. Refute it at one input. -/
def diffPeakWrong : ChangeSpec := { name := "diffPeak", fn := fun _ => fun
  | [d1, d2] => { results := [.lit (.bool false)], args := [d1, d2] }
  | _ => none }
def DiffPeakWrongFalsely : Prop := diffPeakRow.holds Try.pinned (OpenSpec.ofChange diffPeakWrong)

/-- 'anamorphlaw07.ImgPixels': WHATEVER THE INPUT: true; the input reads as it did. -/
def imgPixelsSpec : ChangeSpec := { name := "imgPixels", fn := fun _ => fun
  | [d1, d2, d3] => { results := [.lit (.bool true)], args := [d1, d2, d3] }
  | _ => none }
def imgPixelsRow : OpenClaim := { program := "ytenjmgopfcbbbaa", sum := "a0f22f9a701d8fbf13d1c1cbac83fe8d67620cfa385b62849b47befd6e142704", func := "anamorph/anamorphlaw07.ImgPixels", spec := "imgPixels", apart := false }
def ImgPixelsSaid : Prop := imgPixelsRow.holds Try.pinned (OpenSpec.ofChange imgPixelsSpec)

/-- ITS FALSE NEIGHBOUR: 'it returns false'. Refute it at one input. -/
def imgPixelsWrong : ChangeSpec := { name := "imgPixels", fn := fun _ => fun
  | [d1, d2, d3] => { results := [.lit (.bool false)], args := [d1, d2, d3] }
  | _ => none }
def ImgPixelsWrongFalsely : Prop := imgPixelsRow.holds Try.pinned (OpenSpec.ofChange imgPixelsWrong)

/-- 'anamorphlaw11.TintJoins': WHATEVER THE INPUT: true; the input reads as it did. -/
def tintJoinsSpec : ChangeSpec := { name := "tintJoins", fn := fun _ => fun
  | [d] => { results := [.lit (.bool true)], args := [d] }
  | _ => none }
def tintJoinsRow : OpenClaim := { program := "ytenjmgopfcbbbaa", sum := "a0f22f9a701d8fbf13d1c1cbac83fe8d67620cfa385b62849b47befd6e142704", func := "anamorph/anamorphlaw11.TintJoins", spec := "tintJoins", apart := false }
def TintJoinsSaid : Prop := tintJoinsRow.holds Try.pinned (OpenSpec.ofChange tintJoinsSpec)

/-- ITS FALSE NEIGHBOUR: 'it returns false'. Refute it at one input. -/
def tintJoinsWrong : ChangeSpec := { name := "tintJoins", fn := fun _ => fun
  | [d] => { results := [.lit (.bool false)], args := [d] }
  | _ => none }
def TintJoinsWrongFalsely : Prop := tintJoinsRow.holds Try.pinned (OpenSpec.ofChange tintJoinsWrong)

/- THE SECOND FORM. 'bulk': how many values and letters a reading holds, each counted each time it is reached (what is shared counts as often as it is met; a slice's spare places count too). A statement '..UptoSaid' is the law's where the arguments, and the package variables that the reading takes, are together of bulk at most 1048576: NARROWER than '..Said'. Prove '..Said' where nothing that the law and all that it calls make is longer than what came in: it says more and counts as full. Else prove '..UptoSaid'. A law counts once. -/
mutual
def uptoBulk {H : Type} : DataW H → Nat
  | .lit (.string bytes) => bytes.length + 1
  | .lit _ => 1
  | .nil => 1
  | .ptr d => uptoBulk d + 1
  | .slice elems spare => uptoBulkAll elems + uptoBulkAll spare + 1
  | .agg parts => uptoBulkAll parts + 1
  | .iface _ d => uptoBulk d + 1
  | .map entries => uptoBulkEntries entries + 1
  | .held _ => 1
def uptoBulkAll {H : Type} : List (DataW H) → Nat
  | [] => 0
  | d :: r => uptoBulk d + uptoBulkAll r
def uptoBulkEntries {H : Type} : List (Lit × DataW H) → Nat
  | [] => 0
  | x :: r => uptoBulkEntry x + uptoBulkEntries r
def uptoBulkEntry {H : Type} : Lit × DataW H → Nat
  | (.string bytes, d) => bytes.length + uptoBulk d + 1
  | (_, d) => uptoBulk d + 1
 end
def uptoSmall : (H : Type) → List (DataW H) → Bool := fun _ ds => decide (uptoBulkAll ds ≤ 1048576)
def OpenSpec.upto (s : _root_.Go.ChangeSpec) : _root_.Go.OpenSpec := { _root_.Go.OpenSpec.ofChange s with cond := some uptoSmall }

/-- 'anamorphlaw07.ImgChecks', WHERE WHAT IT READS IS OF BULK AT MOST 1048576: true; the input reads as it did. -/
def imgChecksUptoRow : OpenClaim := { program := "ytenjmgopfcbbbaa", sum := "a0f22f9a701d8fbf13d1c1cbac83fe8d67620cfa385b62849b47befd6e142704", func := "anamorph/anamorphlaw07.ImgChecks", spec := "imgChecks", apart := false, narrowed := true }
def ImgChecksUptoSaid : Prop := imgChecksUptoRow.holds Try.pinned (OpenSpec.upto imgChecksSpec)

/-- 'anamorphlaw06.RectTwos', WHERE WHAT IT READS IS OF BULK AT MOST 1048576: true; the input reads as it did. -/
def rectTwosUptoRow : OpenClaim := { program := "ytenjmgopfcbbbaa", sum := "a0f22f9a701d8fbf13d1c1cbac83fe8d67620cfa385b62849b47befd6e142704", func := "anamorph/anamorphlaw06.RectTwos", spec := "rectTwos", apart := false, narrowed := true }
def RectTwosUptoSaid : Prop := rectTwosUptoRow.holds Try.pinned (OpenSpec.upto rectTwosSpec)

/-- 'anamorphlaw06.RectHas', WHERE WHAT IT READS IS OF BULK AT MOST 1048576: true; the input reads as it did. -/
def rectHasUptoRow : OpenClaim := { program := "ytenjmgopfcbbbaa", sum := "a0f22f9a701d8fbf13d1c1cbac83fe8d67620cfa385b62849b47befd6e142704", func := "anamorph/anamorphlaw06.RectHas", spec := "rectHas", apart := false, narrowed := true }
def RectHasUptoSaid : Prop := rectHasUptoRow.holds Try.pinned (OpenSpec.upto rectHasSpec)

/-- 'anamorphlaw06.RectPlaces', WHERE WHAT IT READS IS OF BULK AT MOST 1048576: true; the input reads as it did. -/
def rectPlacesUptoRow : OpenClaim := { program := "ytenjmgopfcbbbaa", sum := "a0f22f9a701d8fbf13d1c1cbac83fe8d67620cfa385b62849b47befd6e142704", func := "anamorph/anamorphlaw06.RectPlaces", spec := "rectPlaces", unfollowed := true, recurses := true, apart := false, narrowed := true }
def RectPlacesUptoSaid : Prop := rectPlacesUptoRow.holds Try.pinned (OpenSpec.upto rectPlacesSpec)

/-- 'anamorphlaw06.RectOnes', WHERE WHAT IT READS IS OF BULK AT MOST 1048576: true; the input reads as it did. -/
def rectOnesUptoRow : OpenClaim := { program := "ytenjmgopfcbbbaa", sum := "a0f22f9a701d8fbf13d1c1cbac83fe8d67620cfa385b62849b47befd6e142704", func := "anamorph/anamorphlaw06.RectOnes", spec := "rectOnes", apart := false, narrowed := true }
def RectOnesUptoSaid : Prop := rectOnesUptoRow.holds Try.pinned (OpenSpec.upto rectOnesSpec)

/-- 'anamorphlaw17.CodecNames', WHERE WHAT IT READS IS OF BULK AT MOST 1048576: true; the input reads as it did. -/
def codecNamesUptoRow : OpenClaim := { program := "ytenjmgopfcbbbaa", sum := "a0f22f9a701d8fbf13d1c1cbac83fe8d67620cfa385b62849b47befd6e142704", func := "anamorph/anamorphlaw17.CodecNames", spec := "codecNames", unfollowed := true, recurses := true, apart := false, narrowed := true }
def CodecNamesUptoSaid : Prop := codecNamesUptoRow.holds Try.pinned (OpenSpec.upto codecNamesSpec)

/-- 'anamorphlaw09.GridTiles', WHERE WHAT IT READS IS OF BULK AT MOST 1048576: true; the input reads as it did. -/
def gridTilesUptoRow : OpenClaim := { program := "ytenjmgopfcbbbaa", sum := "a0f22f9a701d8fbf13d1c1cbac83fe8d67620cfa385b62849b47befd6e142704", func := "anamorph/anamorphlaw09.GridTiles", spec := "gridTiles", apart := false, narrowed := true }
def GridTilesUptoSaid : Prop := gridTilesUptoRow.holds Try.pinned (OpenSpec.upto gridTilesSpec)

/-- 'anamorphlaw07.ImgPastes', WHERE WHAT IT READS IS OF BULK AT MOST 1048576: true; the input reads as it did. -/
def imgPastesUptoRow : OpenClaim := { program := "ytenjmgopfcbbbaa", sum := "a0f22f9a701d8fbf13d1c1cbac83fe8d67620cfa385b62849b47befd6e142704", func := "anamorph/anamorphlaw07.ImgPastes", spec := "imgPastes", apart := false, narrowed := true }
def ImgPastesUptoSaid : Prop := imgPastesUptoRow.holds Try.pinned (OpenSpec.upto imgPastesSpec)

/-- 'anamorphlaw09.GridPlaces', WHERE WHAT IT READS IS OF BULK AT MOST 1048576: true; the input reads as it did. -/
def gridPlacesUptoRow : OpenClaim := { program := "ytenjmgopfcbbbaa", sum := "a0f22f9a701d8fbf13d1c1cbac83fe8d67620cfa385b62849b47befd6e142704", func := "anamorph/anamorphlaw09.GridPlaces", spec := "gridPlaces", apart := false, narrowed := true }
def GridPlacesUptoSaid : Prop := gridPlacesUptoRow.holds Try.pinned (OpenSpec.upto gridPlacesSpec)

/-- 'anamorphlaw49.WordsMany', WHERE WHAT IT READS IS OF BULK AT MOST 1048576: true; the input reads as it did. -/
def wordsManyUptoRow : OpenClaim := { program := "ytenjmgopfcbbbaa", sum := "a0f22f9a701d8fbf13d1c1cbac83fe8d67620cfa385b62849b47befd6e142704", func := "anamorph/anamorphlaw49.WordsMany", spec := "wordsMany", unfollowed := true, recurses := true, apart := false, narrowed := true }
def WordsManyUptoSaid : Prop := wordsManyUptoRow.holds Try.pinned (OpenSpec.upto wordsManySpec)

/-- 'anamorphlaw13.DiffThird', WHERE WHAT IT READS IS OF BULK AT MOST 1048576: true; the input reads as it did. -/
def diffThirdUptoRow : OpenClaim := { program := "ytenjmgopfcbbbaa", sum := "a0f22f9a701d8fbf13d1c1cbac83fe8d67620cfa385b62849b47befd6e142704", func := "anamorph/anamorphlaw13.DiffThird", spec := "diffThird", unfollowed := true, recurses := true, apart := false, narrowed := true }
def DiffThirdUptoSaid : Prop := diffThirdUptoRow.holds Try.pinned (OpenSpec.upto diffThirdSpec)

/-- 'anamorphlaw13.DiffPeak', WHERE WHAT IT READS IS OF BULK AT MOST 1048576: true; the input reads as it did. -/
def diffPeakUptoRow : OpenClaim := { program := "ytenjmgopfcbbbaa", sum := "a0f22f9a701d8fbf13d1c1cbac83fe8d67620cfa385b62849b47befd6e142704", func := "anamorph/anamorphlaw13.DiffPeak", spec := "diffPeak", unfollowed := true, recurses := true, apart := false, narrowed := true }
def DiffPeakUptoSaid : Prop := diffPeakUptoRow.holds Try.pinned (OpenSpec.upto diffPeakSpec)

/-- 'anamorphlaw07.ImgPixels', WHERE WHAT IT READS IS OF BULK AT MOST 1048576: true; the input reads as it did. -/
def imgPixelsUptoRow : OpenClaim := { program := "ytenjmgopfcbbbaa", sum := "a0f22f9a701d8fbf13d1c1cbac83fe8d67620cfa385b62849b47befd6e142704", func := "anamorph/anamorphlaw07.ImgPixels", spec := "imgPixels", apart := false, narrowed := true }
def ImgPixelsUptoSaid : Prop := imgPixelsUptoRow.holds Try.pinned (OpenSpec.upto imgPixelsSpec)

/-- 'anamorphlaw11.TintJoins', WHERE WHAT IT READS IS OF BULK AT MOST 1048576: true; the input reads as it did. -/
def tintJoinsUptoRow : OpenClaim := { program := "ytenjmgopfcbbbaa", sum := "a0f22f9a701d8fbf13d1c1cbac83fe8d67620cfa385b62849b47befd6e142704", func := "anamorph/anamorphlaw11.TintJoins", spec := "tintJoins", apart := false, narrowed := true }
def TintJoinsUptoSaid : Prop := tintJoinsUptoRow.holds Try.pinned (OpenSpec.upto tintJoinsSpec)

end Rows
end Go.Proofs.Ytenjmgopfcbbbaa
