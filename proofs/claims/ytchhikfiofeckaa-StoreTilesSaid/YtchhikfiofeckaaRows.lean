/-
  No cell of these rows narrows 'for every input' (looked for: loops, veiled, ifaces, maps, wideKeys, modest, calm, conditions, laid).
  DERIVED. THE GIVEN ROWS OF THIS SEAT. 14 by the template 'for every input the law returns true; each argument reads behind the call as it read before'; 0 by the template 'total and deterministic' (their statements: YtchhikfiofeckaaTotals.lean).
  GIVEN WITH THE SEED: the statements are not yours to turn. If you find one false, say at which input.
  Laid BY PROGRAM, IN A SANDBOX (cutbox-rows.mjs): the forced cells as the released guide's own fill.sh prints them over the translation 677f97b22bb18cb1… (all of the seat's roots in one cut). By AI agents, Wed Nov 11 2026. No macro, syntax, notation, axiom, sorry.
-/
import Derived.Test.YtchhikfiofeckaaChecked
import GoSem.Claim
import GoSem.ClaimJoined
import GoSem.ClaimMapViews
import Derived.JoinedTies
import Derived.KernelRfl
namespace Go.Proofs.Ytchhikfiofeckaa
/- THE CELL 'sum', in the pinned program and in every row, IS THE sha256 OF THE DUMP (.gsa) THAT YtchhikfiofeckaaProg.lean LOADS. Nothing in Lean hashes anything: it is a label: what it is worth is what the hold of that sum in a sandbox is worth. -/
noncomputable def Try.pinned : Pinned := { name := "ytchhikfiofeckaa", sum := "677f97b22bb18cb178e50c716e0e8ba9d4457cb3065bba8206c57b08cda5e2d6", checked := Try.checked }
namespace Rows
def none {H : Type} : Left H := { results := [], args := [] }

/-- 'anamorphlaw07.ImgMade': WHATEVER THE INPUT: true; the input reads as it did. -/
def imgMadeSpec : ChangeSpec := { name := "imgMade", fn := fun _ => fun
  | [d1, d2, d3] => { results := [.lit (.bool true)], args := [d1, d2, d3] }
  | _ => none }
def imgMadeRow : OpenClaim := { program := "ytchhikfiofeckaa", sum := "677f97b22bb18cb178e50c716e0e8ba9d4457cb3065bba8206c57b08cda5e2d6", func := "anamorph/anamorphlaw07.ImgMade", spec := "imgMade", inPlace := ["internal/bytealg.MakeNoZero"], apart := false }
def ImgMadeSaid : Prop := imgMadeRow.holds Try.pinned (OpenSpec.ofChange imgMadeSpec)

/-- ITS FALSE NEIGHBOUR: 'it returns false'. Refute it at one input. -/
def imgMadeWrong : ChangeSpec := { name := "imgMade", fn := fun _ => fun
  | [d1, d2, d3] => { results := [.lit (.bool false)], args := [d1, d2, d3] }
  | _ => none }
def ImgMadeWrongFalsely : Prop := imgMadeRow.holds Try.pinned (OpenSpec.ofChange imgMadeWrong)

/-- 'anamorphlaw14.CutSteps': WHATEVER THE INPUT: true; the input reads as it did. -/
def cutStepsSpec : ChangeSpec := { name := "cutSteps", fn := fun _ => fun
  | [d1, d2] => { results := [.lit (.bool true)], args := [d1, d2] }
  | _ => none }
def cutStepsRow : OpenClaim := { program := "ytchhikfiofeckaa", sum := "677f97b22bb18cb178e50c716e0e8ba9d4457cb3065bba8206c57b08cda5e2d6", func := "anamorph/anamorphlaw14.CutSteps", spec := "cutSteps", apart := false }
def CutStepsSaid : Prop := cutStepsRow.holds Try.pinned (OpenSpec.ofChange cutStepsSpec)

/-- ITS FALSE NEIGHBOUR: 'it returns false'. Refute it at one input. -/
def cutStepsWrong : ChangeSpec := { name := "cutSteps", fn := fun _ => fun
  | [d1, d2] => { results := [.lit (.bool false)], args := [d1, d2] }
  | _ => none }
def CutStepsWrongFalsely : Prop := cutStepsRow.holds Try.pinned (OpenSpec.ofChange cutStepsWrong)

/-- 'anamorphlaw16.BmpWrites': WHATEVER THE INPUT: true; the input reads as it did. -/
def bmpWritesSpec : ChangeSpec := { name := "bmpWrites", fn := fun _ => fun
  | [d1, d2] => { results := [.lit (.bool true)], args := [d1, d2] }
  | _ => none }
def bmpWritesRow : OpenClaim := { program := "ytchhikfiofeckaa", sum := "677f97b22bb18cb178e50c716e0e8ba9d4457cb3065bba8206c57b08cda5e2d6", func := "anamorph/anamorphlaw16.BmpWrites", spec := "bmpWrites", unfollowed := true, recurses := true, apart := false }
def BmpWritesSaid : Prop := bmpWritesRow.holds Try.pinned (OpenSpec.ofChange bmpWritesSpec)

/-- ITS FALSE NEIGHBOUR: 'it returns false'. Refute it at one input. -/
def bmpWritesWrong : ChangeSpec := { name := "bmpWrites", fn := fun _ => fun
  | [d1, d2] => { results := [.lit (.bool false)], args := [d1, d2] }
  | _ => none }
def BmpWritesWrongFalsely : Prop := bmpWritesRow.holds Try.pinned (OpenSpec.ofChange bmpWritesWrong)

/-- 'anamorphlaw16.BmpReads': WHATEVER THE INPUT: true; the input reads as it did. -/
def bmpReadsSpec : ChangeSpec := { name := "bmpReads", fn := fun _ => fun
  | [d] => { results := [.lit (.bool true)], args := [d] }
  | _ => none }
def bmpReadsRow : OpenClaim := { program := "ytchhikfiofeckaa", sum := "677f97b22bb18cb178e50c716e0e8ba9d4457cb3065bba8206c57b08cda5e2d6", func := "anamorph/anamorphlaw16.BmpReads", spec := "bmpReads", unfollowed := true, recurses := true, apart := false }
def BmpReadsSaid : Prop := bmpReadsRow.holds Try.pinned (OpenSpec.ofChange bmpReadsSpec)

/-- ITS FALSE NEIGHBOUR: 'it returns false'. Refute it at one input. -/
def bmpReadsWrong : ChangeSpec := { name := "bmpReads", fn := fun _ => fun
  | [d] => { results := [.lit (.bool false)], args := [d] }
  | _ => none }
def BmpReadsWrongFalsely : Prop := bmpReadsRow.holds Try.pinned (OpenSpec.ofChange bmpReadsWrong)

/-- 'anamorphlaw16.BmpBack': WHATEVER THE INPUT: true; the input reads as it did. -/
def bmpBackSpec : ChangeSpec := { name := "bmpBack", fn := fun _ => fun
  | [d1, d2] => { results := [.lit (.bool true)], args := [d1, d2] }
  | _ => none }
def bmpBackRow : OpenClaim := { program := "ytchhikfiofeckaa", sum := "677f97b22bb18cb178e50c716e0e8ba9d4457cb3065bba8206c57b08cda5e2d6", func := "anamorph/anamorphlaw16.BmpBack", spec := "bmpBack", unfollowed := true, recurses := true, apart := false }
def BmpBackSaid : Prop := bmpBackRow.holds Try.pinned (OpenSpec.ofChange bmpBackSpec)

/-- ITS FALSE NEIGHBOUR: 'it returns false'. Refute it at one input. -/
def bmpBackWrong : ChangeSpec := { name := "bmpBack", fn := fun _ => fun
  | [d1, d2] => { results := [.lit (.bool false)], args := [d1, d2] }
  | _ => none }
def BmpBackWrongFalsely : Prop := bmpBackRow.holds Try.pinned (OpenSpec.ofChange bmpBackWrong)

/-- 'anamorphlaw16.BmpRows': WHATEVER THE INPUT: true; the input reads as it did. -/
def bmpRowsSpec : ChangeSpec := { name := "bmpRows", fn := fun _ => fun
  | [d1, d2] => { results := [.lit (.bool true)], args := [d1, d2] }
  | _ => none }
def bmpRowsRow : OpenClaim := { program := "ytchhikfiofeckaa", sum := "677f97b22bb18cb178e50c716e0e8ba9d4457cb3065bba8206c57b08cda5e2d6", func := "anamorph/anamorphlaw16.BmpRows", spec := "bmpRows", unfollowed := true, recurses := true, apart := false }
def BmpRowsSaid : Prop := bmpRowsRow.holds Try.pinned (OpenSpec.ofChange bmpRowsSpec)

/-- ITS FALSE NEIGHBOUR: 'it returns false'. Refute it at one input. -/
def bmpRowsWrong : ChangeSpec := { name := "bmpRows", fn := fun _ => fun
  | [d1, d2] => { results := [.lit (.bool false)], args := [d1, d2] }
  | _ => none }
def BmpRowsWrongFalsely : Prop := bmpRowsRow.holds Try.pinned (OpenSpec.ofChange bmpRowsWrong)

/-- 'anamorphlaw31.MipBetween': WHATEVER THE INPUT: true; the input reads as it did. -/
def mipBetweenSpec : ChangeSpec := { name := "mipBetween", fn := fun _ => fun
  | [d1, d2] => { results := [.lit (.bool true)], args := [d1, d2] }
  | _ => none }
def mipBetweenRow : OpenClaim := { program := "ytchhikfiofeckaa", sum := "677f97b22bb18cb178e50c716e0e8ba9d4457cb3065bba8206c57b08cda5e2d6", func := "anamorph/anamorphlaw31.MipBetween", spec := "mipBetween", unfollowed := true, recurses := true, apart := false }
def MipBetweenSaid : Prop := mipBetweenRow.holds Try.pinned (OpenSpec.ofChange mipBetweenSpec)

/-- ITS FALSE NEIGHBOUR: 'it returns false'. Refute it at one input. -/
def mipBetweenWrong : ChangeSpec := { name := "mipBetween", fn := fun _ => fun
  | [d1, d2] => { results := [.lit (.bool false)], args := [d1, d2] }
  | _ => none }
def MipBetweenWrongFalsely : Prop := mipBetweenRow.holds Try.pinned (OpenSpec.ofChange mipBetweenWrong)

/-- 'anamorphlaw31.MipHalves': WHATEVER THE INPUT: true; the input reads as it did. -/
def mipHalvesSpec : ChangeSpec := { name := "mipHalves", fn := fun _ => fun
  | [d1, d2] => { results := [.lit (.bool true)], args := [d1, d2] }
  | _ => none }
def mipHalvesRow : OpenClaim := { program := "ytchhikfiofeckaa", sum := "677f97b22bb18cb178e50c716e0e8ba9d4457cb3065bba8206c57b08cda5e2d6", func := "anamorph/anamorphlaw31.MipHalves", spec := "mipHalves", unfollowed := true, recurses := true, apart := false }
def MipHalvesSaid : Prop := mipHalvesRow.holds Try.pinned (OpenSpec.ofChange mipHalvesSpec)

/-- ITS FALSE NEIGHBOUR: 'it returns false'. Refute it at one input. -/
def mipHalvesWrong : ChangeSpec := { name := "mipHalves", fn := fun _ => fun
  | [d1, d2] => { results := [.lit (.bool false)], args := [d1, d2] }
  | _ => none }
def MipHalvesWrongFalsely : Prop := mipHalvesRow.holds Try.pinned (OpenSpec.ofChange mipHalvesWrong)

/-- 'anamorphlaw41.StorePlaces': WHATEVER THE INPUT: true; the input reads as it did. -/
def storePlacesSpec : ChangeSpec := { name := "storePlaces", fn := fun _ => fun
  | [d1, d2, d3] => { results := [.lit (.bool true)], args := [d1, d2, d3] }
  | _ => none }
def storePlacesRow : OpenClaim := { program := "ytchhikfiofeckaa", sum := "677f97b22bb18cb178e50c716e0e8ba9d4457cb3065bba8206c57b08cda5e2d6", func := "anamorph/anamorphlaw41.StorePlaces", spec := "storePlaces", apart := false }
def StorePlacesSaid : Prop := storePlacesRow.holds Try.pinned (OpenSpec.ofChange storePlacesSpec)

/-- ITS FALSE NEIGHBOUR: 'it returns false'. Refute it at one input. -/
def storePlacesWrong : ChangeSpec := { name := "storePlaces", fn := fun _ => fun
  | [d1, d2, d3] => { results := [.lit (.bool false)], args := [d1, d2, d3] }
  | _ => none }
def StorePlacesWrongFalsely : Prop := storePlacesRow.holds Try.pinned (OpenSpec.ofChange storePlacesWrong)

/-- 'anamorphlaw41.StoreAll': WHATEVER THE INPUT: true; the input reads as it did. -/
def storeAllSpec : ChangeSpec := { name := "storeAll", fn := fun _ => fun
  | [d1, d2] => { results := [.lit (.bool true)], args := [d1, d2] }
  | _ => none }
def storeAllRow : OpenClaim := { program := "ytchhikfiofeckaa", sum := "677f97b22bb18cb178e50c716e0e8ba9d4457cb3065bba8206c57b08cda5e2d6", func := "anamorph/anamorphlaw41.StoreAll", spec := "storeAll", unfollowed := true, recurses := true, apart := false }
def StoreAllSaid : Prop := storeAllRow.holds Try.pinned (OpenSpec.ofChange storeAllSpec)

/-- ITS FALSE NEIGHBOUR: 'it returns false'. Refute it at one input. -/
def storeAllWrong : ChangeSpec := { name := "storeAll", fn := fun _ => fun
  | [d1, d2] => { results := [.lit (.bool false)], args := [d1, d2] }
  | _ => none }
def StoreAllWrongFalsely : Prop := storeAllRow.holds Try.pinned (OpenSpec.ofChange storeAllWrong)

/-- 'anamorphlaw41.StoreTiles': WHATEVER THE INPUT: true; the input reads as it did. -/
def storeTilesSpec : ChangeSpec := { name := "storeTiles", fn := fun _ => fun
  | [d1, d2, d3] => { results := [.lit (.bool true)], args := [d1, d2, d3] }
  | _ => none }
def storeTilesRow : OpenClaim := { program := "ytchhikfiofeckaa", sum := "677f97b22bb18cb178e50c716e0e8ba9d4457cb3065bba8206c57b08cda5e2d6", func := "anamorph/anamorphlaw41.StoreTiles", spec := "storeTiles", unfollowed := true, recurses := true, apart := false }
def StoreTilesSaid : Prop := storeTilesRow.holds Try.pinned (OpenSpec.ofChange storeTilesSpec)

/-- ITS FALSE NEIGHBOUR: 'it returns false'. Refute it at one input. -/
def storeTilesWrong : ChangeSpec := { name := "storeTiles", fn := fun _ => fun
  | [d1, d2, d3] => { results := [.lit (.bool false)], args := [d1, d2, d3] }
  | _ => none }
def StoreTilesWrongFalsely : Prop := storeTilesRow.holds Try.pinned (OpenSpec.ofChange storeTilesWrong)

/-- 'anamorphlaw49.WordsMany': WHATEVER THE INPUT: true; the input reads as it did. -/
def wordsManySpec : ChangeSpec := { name := "wordsMany", fn := fun _ => fun
  | [d1, d2] => { results := [.lit (.bool true)], args := [d1, d2] }
  | _ => none }
def wordsManyRow : OpenClaim := { program := "ytchhikfiofeckaa", sum := "677f97b22bb18cb178e50c716e0e8ba9d4457cb3065bba8206c57b08cda5e2d6", func := "anamorph/anamorphlaw49.WordsMany", spec := "wordsMany", unfollowed := true, recurses := true, apart := false }
def WordsManySaid : Prop := wordsManyRow.holds Try.pinned (OpenSpec.ofChange wordsManySpec)

/-- ITS FALSE NEIGHBOUR: 'it returns false'. Refute it at one input. -/
def wordsManyWrong : ChangeSpec := { name := "wordsMany", fn := fun _ => fun
  | [d1, d2] => { results := [.lit (.bool false)], args := [d1, d2] }
  | _ => none }
def WordsManyWrongFalsely : Prop := wordsManyRow.holds Try.pinned (OpenSpec.ofChange wordsManyWrong)

/-- 'anamorphlaw43.QueueSteps': WHATEVER THE INPUT: true; the input reads as it did. -/
def queueStepsSpec : ChangeSpec := { name := "queueSteps", fn := fun _ => fun
  | [d] => { results := [.lit (.bool true)], args := [d] }
  | _ => none }
def queueStepsRow : OpenClaim := { program := "ytchhikfiofeckaa", sum := "677f97b22bb18cb178e50c716e0e8ba9d4457cb3065bba8206c57b08cda5e2d6", func := "anamorph/anamorphlaw43.QueueSteps", spec := "queueSteps", unfollowed := true, recurses := true, apart := false }
def QueueStepsSaid : Prop := queueStepsRow.holds Try.pinned (OpenSpec.ofChange queueStepsSpec)

/-- ITS FALSE NEIGHBOUR: 'it returns false'. Refute it at one input. -/
def queueStepsWrong : ChangeSpec := { name := "queueSteps", fn := fun _ => fun
  | [d] => { results := [.lit (.bool false)], args := [d] }
  | _ => none }
def QueueStepsWrongFalsely : Prop := queueStepsRow.holds Try.pinned (OpenSpec.ofChange queueStepsWrong)

/-- 'anamorphlaw43.QueueApart': WHATEVER THE INPUT: true; the input reads as it did. -/
def queueApartSpec : ChangeSpec := { name := "queueApart", fn := fun _ => fun
  | [d1, d2] => { results := [.lit (.bool true)], args := [d1, d2] }
  | _ => none }
def queueApartRow : OpenClaim := { program := "ytchhikfiofeckaa", sum := "677f97b22bb18cb178e50c716e0e8ba9d4457cb3065bba8206c57b08cda5e2d6", func := "anamorph/anamorphlaw43.QueueApart", spec := "queueApart", unfollowed := true, recurses := true, apart := false }
def QueueApartSaid : Prop := queueApartRow.holds Try.pinned (OpenSpec.ofChange queueApartSpec)

/-- ITS FALSE NEIGHBOUR: 'it returns false'. Refute it at one input. -/
def queueApartWrong : ChangeSpec := { name := "queueApart", fn := fun _ => fun
  | [d1, d2] => { results := [.lit (.bool false)], args := [d1, d2] }
  | _ => none }
def QueueApartWrongFalsely : Prop := queueApartRow.holds Try.pinned (OpenSpec.ofChange queueApartWrong)

/- THE SECOND FORM. 'bulk': how many values and letters a reading holds, each counted each time it is reached (what is shared counts as often as it is met; a slice's spare places count too). A statement '..UptoSaid' is the law's where the arguments, and the package variables that the reading takes, are together of bulk at most 1048576: NARROWER than '..Said'. Prove '..Said' where nothing that the law and all that it calls make is longer than what came in: it says more and counts as full. Else prove '..UptoSaid'. A law counts once. -/
mutual
def uptoBulk {H : Type} : DataW H → Nat
  | .lit (.string bytes) => bytes.length + 1
  | .lit _ => 1
  | .nil => 1
  | .ptr d => uptoBulk d + 1
  | .slice elems spare => uptoBulkAll elems + uptoBulkAll spare + 1
  | .agg parts => uptoBulkAll parts + 1
  | .iface _ d => uptoBulk d + 1
  | .map entries => uptoBulkEntries entries + 1
  | .held _ => 1
def uptoBulkAll {H : Type} : List (DataW H) → Nat
  | [] => 0
  | d :: r => uptoBulk d + uptoBulkAll r
def uptoBulkEntries {H : Type} : List (Lit × DataW H) → Nat
  | [] => 0
  | x :: r => uptoBulkEntry x + uptoBulkEntries r
def uptoBulkEntry {H : Type} : Lit × DataW H → Nat
  | (.string bytes, d) => bytes.length + uptoBulk d + 1
  | (_, d) => uptoBulk d + 1
 end
def uptoSmall : (H : Type) → List (DataW H) → Bool := fun _ ds => decide (uptoBulkAll ds ≤ 1048576)
def OpenSpec.upto (s : _root_.Go.ChangeSpec) : _root_.Go.OpenSpec := { _root_.Go.OpenSpec.ofChange s with cond := some uptoSmall }

/-- 'anamorphlaw07.ImgMade', WHERE WHAT IT READS IS OF BULK AT MOST 1048576: true; the input reads as it did. -/
def imgMadeUptoRow : OpenClaim := { program := "ytchhikfiofeckaa", sum := "677f97b22bb18cb178e50c716e0e8ba9d4457cb3065bba8206c57b08cda5e2d6", func := "anamorph/anamorphlaw07.ImgMade", spec := "imgMade", inPlace := ["internal/bytealg.MakeNoZero"], apart := false, narrowed := true }
def ImgMadeUptoSaid : Prop := imgMadeUptoRow.holds Try.pinned (OpenSpec.upto imgMadeSpec)

/-- 'anamorphlaw14.CutSteps', WHERE WHAT IT READS IS OF BULK AT MOST 1048576: true; the input reads as it did. -/
def cutStepsUptoRow : OpenClaim := { program := "ytchhikfiofeckaa", sum := "677f97b22bb18cb178e50c716e0e8ba9d4457cb3065bba8206c57b08cda5e2d6", func := "anamorph/anamorphlaw14.CutSteps", spec := "cutSteps", apart := false, narrowed := true }
def CutStepsUptoSaid : Prop := cutStepsUptoRow.holds Try.pinned (OpenSpec.upto cutStepsSpec)

/-- 'anamorphlaw16.BmpWrites', WHERE WHAT IT READS IS OF BULK AT MOST 1048576: true; the input reads as it did. -/
def bmpWritesUptoRow : OpenClaim := { program := "ytchhikfiofeckaa", sum := "677f97b22bb18cb178e50c716e0e8ba9d4457cb3065bba8206c57b08cda5e2d6", func := "anamorph/anamorphlaw16.BmpWrites", spec := "bmpWrites", unfollowed := true, recurses := true, apart := false, narrowed := true }
def BmpWritesUptoSaid : Prop := bmpWritesUptoRow.holds Try.pinned (OpenSpec.upto bmpWritesSpec)

/-- 'anamorphlaw16.BmpReads', WHERE WHAT IT READS IS OF BULK AT MOST 1048576: true; the input reads as it did. -/
def bmpReadsUptoRow : OpenClaim := { program := "ytchhikfiofeckaa", sum := "677f97b22bb18cb178e50c716e0e8ba9d4457cb3065bba8206c57b08cda5e2d6", func := "anamorph/anamorphlaw16.BmpReads", spec := "bmpReads", unfollowed := true, recurses := true, apart := false, narrowed := true }
def BmpReadsUptoSaid : Prop := bmpReadsUptoRow.holds Try.pinned (OpenSpec.upto bmpReadsSpec)

/-- 'anamorphlaw16.BmpBack', WHERE WHAT IT READS IS OF BULK AT MOST 1048576: true; the input reads as it did. -/
def bmpBackUptoRow : OpenClaim := { program := "ytchhikfiofeckaa", sum := "677f97b22bb18cb178e50c716e0e8ba9d4457cb3065bba8206c57b08cda5e2d6", func := "anamorph/anamorphlaw16.BmpBack", spec := "bmpBack", unfollowed := true, recurses := true, apart := false, narrowed := true }
def BmpBackUptoSaid : Prop := bmpBackUptoRow.holds Try.pinned (OpenSpec.upto bmpBackSpec)

/-- 'anamorphlaw16.BmpRows', WHERE WHAT IT READS IS OF BULK AT MOST 1048576: true; the input reads as it did. -/
def bmpRowsUptoRow : OpenClaim := { program := "ytchhikfiofeckaa", sum := "677f97b22bb18cb178e50c716e0e8ba9d4457cb3065bba8206c57b08cda5e2d6", func := "anamorph/anamorphlaw16.BmpRows", spec := "bmpRows", unfollowed := true, recurses := true, apart := false, narrowed := true }
def BmpRowsUptoSaid : Prop := bmpRowsUptoRow.holds Try.pinned (OpenSpec.upto bmpRowsSpec)

/-- 'anamorphlaw31.MipBetween', WHERE WHAT IT READS IS OF BULK AT MOST 1048576: true; the input reads as it did. -/
def mipBetweenUptoRow : OpenClaim := { program := "ytchhikfiofeckaa", sum := "677f97b22bb18cb178e50c716e0e8ba9d4457cb3065bba8206c57b08cda5e2d6", func := "anamorph/anamorphlaw31.MipBetween", spec := "mipBetween", unfollowed := true, recurses := true, apart := false, narrowed := true }
def MipBetweenUptoSaid : Prop := mipBetweenUptoRow.holds Try.pinned (OpenSpec.upto mipBetweenSpec)

/-- 'anamorphlaw31.MipHalves', WHERE WHAT IT READS IS OF BULK AT MOST 1048576: true; the input reads as it did. -/
def mipHalvesUptoRow : OpenClaim := { program := "ytchhikfiofeckaa", sum := "677f97b22bb18cb178e50c716e0e8ba9d4457cb3065bba8206c57b08cda5e2d6", func := "anamorph/anamorphlaw31.MipHalves", spec := "mipHalves", unfollowed := true, recurses := true, apart := false, narrowed := true }
def MipHalvesUptoSaid : Prop := mipHalvesUptoRow.holds Try.pinned (OpenSpec.upto mipHalvesSpec)

/-- 'anamorphlaw41.StorePlaces', WHERE WHAT IT READS IS OF BULK AT MOST 1048576: true; the input reads as it did. -/
def storePlacesUptoRow : OpenClaim := { program := "ytchhikfiofeckaa", sum := "677f97b22bb18cb178e50c716e0e8ba9d4457cb3065bba8206c57b08cda5e2d6", func := "anamorph/anamorphlaw41.StorePlaces", spec := "storePlaces", apart := false, narrowed := true }
def StorePlacesUptoSaid : Prop := storePlacesUptoRow.holds Try.pinned (OpenSpec.upto storePlacesSpec)

/-- 'anamorphlaw41.StoreAll', WHERE WHAT IT READS IS OF BULK AT MOST 1048576: true; the input reads as it did. -/
def storeAllUptoRow : OpenClaim := { program := "ytchhikfiofeckaa", sum := "677f97b22bb18cb178e50c716e0e8ba9d4457cb3065bba8206c57b08cda5e2d6", func := "anamorph/anamorphlaw41.StoreAll", spec := "storeAll", unfollowed := true, recurses := true, apart := false, narrowed := true }
def StoreAllUptoSaid : Prop := storeAllUptoRow.holds Try.pinned (OpenSpec.upto storeAllSpec)

/-- 'anamorphlaw41.StoreTiles', WHERE WHAT IT READS IS OF BULK AT MOST 1048576: true; the input reads as it did. -/
def storeTilesUptoRow : OpenClaim := { program := "ytchhikfiofeckaa", sum := "677f97b22bb18cb178e50c716e0e8ba9d4457cb3065bba8206c57b08cda5e2d6", func := "anamorph/anamorphlaw41.StoreTiles", spec := "storeTiles", unfollowed := true, recurses := true, apart := false, narrowed := true }
def StoreTilesUptoSaid : Prop := storeTilesUptoRow.holds Try.pinned (OpenSpec.upto storeTilesSpec)

/-- 'anamorphlaw49.WordsMany', WHERE WHAT IT READS IS OF BULK AT MOST 1048576: true; the input reads as it did. -/
def wordsManyUptoRow : OpenClaim := { program := "ytchhikfiofeckaa", sum := "677f97b22bb18cb178e50c716e0e8ba9d4457cb3065bba8206c57b08cda5e2d6", func := "anamorph/anamorphlaw49.WordsMany", spec := "wordsMany", unfollowed := true, recurses := true, apart := false, narrowed := true }
def WordsManyUptoSaid : Prop := wordsManyUptoRow.holds Try.pinned (OpenSpec.upto wordsManySpec)

/-- 'anamorphlaw43.QueueSteps', WHERE WHAT IT READS IS OF BULK AT MOST 1048576: true; the input reads as it did. -/
def queueStepsUptoRow : OpenClaim := { program := "ytchhikfiofeckaa", sum := "677f97b22bb18cb178e50c716e0e8ba9d4457cb3065bba8206c57b08cda5e2d6", func := "anamorph/anamorphlaw43.QueueSteps", spec := "queueSteps", unfollowed := true, recurses := true, apart := false, narrowed := true }
def QueueStepsUptoSaid : Prop := queueStepsUptoRow.holds Try.pinned (OpenSpec.upto queueStepsSpec)

/-- 'anamorphlaw43.QueueApart', WHERE WHAT IT READS IS OF BULK AT MOST 1048576: true; the input reads as it did. -/
def queueApartUptoRow : OpenClaim := { program := "ytchhikfiofeckaa", sum := "677f97b22bb18cb178e50c716e0e8ba9d4457cb3065bba8206c57b08cda5e2d6", func := "anamorph/anamorphlaw43.QueueApart", spec := "queueApart", unfollowed := true, recurses := true, apart := false, narrowed := true }
def QueueApartUptoSaid : Prop := queueApartUptoRow.holds Try.pinned (OpenSpec.upto queueApartSpec)

end Rows
end Go.Proofs.Ytchhikfiofeckaa
