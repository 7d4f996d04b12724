/-
  No cell of these rows narrows 'for every input' (looked for: loops, veiled, ifaces, maps, wideKeys, modest, calm, conditions, laid).
  DERIVED. THE GIVEN ROWS OF THIS SEAT. 14 by the template 'for every input the law returns true; each argument reads behind the call as it read before'; 0 by the template 'total and deterministic' (their statements: YtepjmnkleajibaaTotals.lean).
  GIVEN WITH THE SEED: the statements are not yours to turn. If you find one false, say at which input.
  Laid BY PROGRAM, IN A SANDBOX (cutbox-rows.mjs): the forced cells as the released guide's own fill.sh prints them over the translation 2f0053cca2626099… (all of the seat's roots in one cut). By AI agents, Wed Nov 11 2026. No macro, syntax, notation, axiom, sorry.
-/
import Derived.Test.YtepjmnkleajibaaChecked
import GoSem.Claim
import GoSem.ClaimJoined
import GoSem.ClaimMapViews
import Derived.JoinedTies
import Derived.KernelRfl
namespace Go.Proofs.Ytepjmnkleajibaa
/- THE CELL 'sum', in the pinned program and in every row, IS THE sha256 OF THE DUMP (.gsa) THAT YtepjmnkleajibaaProg.lean LOADS. Nothing in Lean hashes anything: it is a label: what it is worth is what the hold of that sum in a sandbox is worth. -/
noncomputable def Try.pinned : Pinned := { name := "ytepjmnkleajibaa", sum := "2f0053cca262609977ec4823cb82097b522d3ff67a0afa21b2cd4dea104badf1", checked := Try.checked }
namespace Rows
def none {H : Type} : Left H := { results := [], args := [] }

/-- 'anamorphlaw14.CutSteps': WHATEVER THE INPUT: true; the input reads as it did. -/
def cutStepsSpec : ChangeSpec := { name := "cutSteps", fn := fun _ => fun
  | [d1, d2] => { results := [.lit (.bool true)], args := [d1, d2] }
  | _ => none }
def cutStepsRow : OpenClaim := { program := "ytepjmnkleajibaa", sum := "2f0053cca262609977ec4823cb82097b522d3ff67a0afa21b2cd4dea104badf1", func := "anamorph/anamorphlaw14.CutSteps", spec := "cutSteps", apart := false }
def CutStepsSaid : Prop := cutStepsRow.holds Try.pinned (OpenSpec.ofChange cutStepsSpec)

/-- ITS FALSE NEIGHBOUR: 'it returns false'. Refute it at one input. -/
def cutStepsWrong : ChangeSpec := { name := "cutSteps", fn := fun _ => fun
  | [d1, d2] => { results := [.lit (.bool false)], args := [d1, d2] }
  | _ => none }
def CutStepsWrongFalsely : Prop := cutStepsRow.holds Try.pinned (OpenSpec.ofChange cutStepsWrong)

/-- 'anamorphlaw16.BmpWrites': WHATEVER THE INPUT: true; the input reads as it did. -/
def bmpWritesSpec : ChangeSpec := { name := "bmpWrites", fn := fun _ => fun
  | [d1, d2] => { results := [.lit (.bool true)], args := [d1, d2] }
  | _ => none }
def bmpWritesRow : OpenClaim := { program := "ytepjmnkleajibaa", sum := "2f0053cca262609977ec4823cb82097b522d3ff67a0afa21b2cd4dea104badf1", func := "anamorph/anamorphlaw16.BmpWrites", spec := "bmpWrites", unfollowed := true, recurses := true, apart := false }
def BmpWritesSaid : Prop := bmpWritesRow.holds Try.pinned (OpenSpec.ofChange bmpWritesSpec)

/-- ITS FALSE NEIGHBOUR: 'it returns false'. Refute it at one input. -/
def bmpWritesWrong : ChangeSpec := { name := "bmpWrites", fn := fun _ => fun
  | [d1, d2] => { results := [.lit (.bool false)], args := [d1, d2] }
  | _ => none }
def BmpWritesWrongFalsely : Prop := bmpWritesRow.holds Try.pinned (OpenSpec.ofChange bmpWritesWrong)

/-- 'anamorphlaw16.BmpReads': WHATEVER THE INPUT: true; the input reads as it did. -/
def bmpReadsSpec : ChangeSpec := { name := "bmpReads", fn := fun _ => fun
  | [d] => { results := [.lit (.bool true)], args := [d] }
  | _ => none }
def bmpReadsRow : OpenClaim := { program := "ytepjmnkleajibaa", sum := "2f0053cca262609977ec4823cb82097b522d3ff67a0afa21b2cd4dea104badf1", func := "anamorph/anamorphlaw16.BmpReads", spec := "bmpReads", unfollowed := true, recurses := true, apart := false }
def BmpReadsSaid : Prop := bmpReadsRow.holds Try.pinned (OpenSpec.ofChange bmpReadsSpec)

/-- ITS FALSE NEIGHBOUR: 'it returns false'. Refute it at one input. -/
def bmpReadsWrong : ChangeSpec := { name := "bmpReads", fn := fun _ => fun
  | [d] => { results := [.lit (.bool false)], args := [d] }
  | _ => none }
def BmpReadsWrongFalsely : Prop := bmpReadsRow.holds Try.pinned (OpenSpec.ofChange bmpReadsWrong)

/-- 'anamorphlaw16.BmpBack': WHATEVER THE INPUT: true; the input reads as it did. -/
def bmpBackSpec : ChangeSpec := { name := "bmpBack", fn := fun _ => fun
  | [d1, d2] => { results := [.lit (.bool true)], args := [d1, d2] }
  | _ => none }
def bmpBackRow : OpenClaim := { program := "ytepjmnkleajibaa", sum := "2f0053cca262609977ec4823cb82097b522d3ff67a0afa21b2cd4dea104badf1", func := "anamorph/anamorphlaw16.BmpBack", spec := "bmpBack", unfollowed := true, recurses := true, apart := false }
def BmpBackSaid : Prop := bmpBackRow.holds Try.pinned (OpenSpec.ofChange bmpBackSpec)

/-- ITS FALSE NEIGHBOUR: 'it returns false'. Refute it at one input. -/
def bmpBackWrong : ChangeSpec := { name := "bmpBack", fn := fun _ => fun
  | [d1, d2] => { results := [.lit (.bool false)], args := [d1, d2] }
  | _ => none }
def BmpBackWrongFalsely : Prop := bmpBackRow.holds Try.pinned (OpenSpec.ofChange bmpBackWrong)

/-- 'anamorphlaw16.BmpRows': WHATEVER THE INPUT: true; the input reads as it did. -/
def bmpRowsSpec : ChangeSpec := { name := "bmpRows", fn := fun _ => fun
  | [d1, d2] => { results := [.lit (.bool true)], args := [d1, d2] }
  | _ => none }
def bmpRowsRow : OpenClaim := { program := "ytepjmnkleajibaa", sum := "2f0053cca262609977ec4823cb82097b522d3ff67a0afa21b2cd4dea104badf1", func := "anamorph/anamorphlaw16.BmpRows", spec := "bmpRows", unfollowed := true, recurses := true, apart := false }
def BmpRowsSaid : Prop := bmpRowsRow.holds Try.pinned (OpenSpec.ofChange bmpRowsSpec)

/-- ITS FALSE NEIGHBOUR: 'it returns false'. Refute it at one input. -/
def bmpRowsWrong : ChangeSpec := { name := "bmpRows", fn := fun _ => fun
  | [d1, d2] => { results := [.lit (.bool false)], args := [d1, d2] }
  | _ => none }
def BmpRowsWrongFalsely : Prop := bmpRowsRow.holds Try.pinned (OpenSpec.ofChange bmpRowsWrong)

/-- 'anamorphlaw31.MipHalves': WHATEVER THE INPUT: true; the input reads as it did. -/
def mipHalvesSpec : ChangeSpec := { name := "mipHalves", fn := fun _ => fun
  | [d1, d2] => { results := [.lit (.bool true)], args := [d1, d2] }
  | _ => none }
def mipHalvesRow : OpenClaim := { program := "ytepjmnkleajibaa", sum := "2f0053cca262609977ec4823cb82097b522d3ff67a0afa21b2cd4dea104badf1", func := "anamorph/anamorphlaw31.MipHalves", spec := "mipHalves", unfollowed := true, recurses := true, apart := false }
def MipHalvesSaid : Prop := mipHalvesRow.holds Try.pinned (OpenSpec.ofChange mipHalvesSpec)

/-- ITS FALSE NEIGHBOUR: 'it returns false'. Refute it at one input. -/
def mipHalvesWrong : ChangeSpec := { name := "mipHalves", fn := fun _ => fun
  | [d1, d2] => { results := [.lit (.bool false)], args := [d1, d2] }
  | _ => none }
def MipHalvesWrongFalsely : Prop := mipHalvesRow.holds Try.pinned (OpenSpec.ofChange mipHalvesWrong)

/-- 'anamorphlaw41.StoreAll': WHATEVER THE INPUT: true; the input reads as it did. -/
def storeAllSpec : ChangeSpec := { name := "storeAll", fn := fun _ => fun
  | [d1, d2] => { results := [.lit (.bool true)], args := [d1, d2] }
  | _ => none }
def storeAllRow : OpenClaim := { program := "ytepjmnkleajibaa", sum := "2f0053cca262609977ec4823cb82097b522d3ff67a0afa21b2cd4dea104badf1", func := "anamorph/anamorphlaw41.StoreAll", spec := "storeAll", unfollowed := true, recurses := true, apart := false }
def StoreAllSaid : Prop := storeAllRow.holds Try.pinned (OpenSpec.ofChange storeAllSpec)

/-- ITS FALSE NEIGHBOUR: 'it returns false'. Refute it at one input. -/
def storeAllWrong : ChangeSpec := { name := "storeAll", fn := fun _ => fun
  | [d1, d2] => { results := [.lit (.bool false)], args := [d1, d2] }
  | _ => none }
def StoreAllWrongFalsely : Prop := storeAllRow.holds Try.pinned (OpenSpec.ofChange storeAllWrong)

/-- 'anamorphlaw49.WordsMany': WHATEVER THE INPUT: true; the input reads as it did. -/
def wordsManySpec : ChangeSpec := { name := "wordsMany", fn := fun _ => fun
  | [d1, d2] => { results := [.lit (.bool true)], args := [d1, d2] }
  | _ => none }
def wordsManyRow : OpenClaim := { program := "ytepjmnkleajibaa", sum := "2f0053cca262609977ec4823cb82097b522d3ff67a0afa21b2cd4dea104badf1", func := "anamorph/anamorphlaw49.WordsMany", spec := "wordsMany", unfollowed := true, recurses := true, apart := false }
def WordsManySaid : Prop := wordsManyRow.holds Try.pinned (OpenSpec.ofChange wordsManySpec)

/-- ITS FALSE NEIGHBOUR: 'it returns false'. Refute it at one input. -/
def wordsManyWrong : ChangeSpec := { name := "wordsMany", fn := fun _ => fun
  | [d1, d2] => { results := [.lit (.bool false)], args := [d1, d2] }
  | _ => none }
def WordsManyWrongFalsely : Prop := wordsManyRow.holds Try.pinned (OpenSpec.ofChange wordsManyWrong)

/-- 'anamorphlaw43.QueueSteps': WHATEVER THE INPUT: true; the input reads as it did. -/
def queueStepsSpec : ChangeSpec := { name := "queueSteps", fn := fun _ => fun
  | [d] => { results := [.lit (.bool true)], args := [d] }
  | _ => none }
def queueStepsRow : OpenClaim := { program := "ytepjmnkleajibaa", sum := "2f0053cca262609977ec4823cb82097b522d3ff67a0afa21b2cd4dea104badf1", func := "anamorph/anamorphlaw43.QueueSteps", spec := "queueSteps", unfollowed := true, recurses := true, apart := false }
def QueueStepsSaid : Prop := queueStepsRow.holds Try.pinned (OpenSpec.ofChange queueStepsSpec)

/-- ITS FALSE NEIGHBOUR: 'it returns false'. Refute it at one input. -/
def queueStepsWrong : ChangeSpec := { name := "queueSteps", fn := fun _ => fun
  | [d] => { results := [.lit (.bool false)], args := [d] }
  | _ => none }
def QueueStepsWrongFalsely : Prop := queueStepsRow.holds Try.pinned (OpenSpec.ofChange queueStepsWrong)

/-- 'anamorphlaw43.QueueApart': WHATEVER THE INPUT: true; the input reads as it did. -/
def queueApartSpec : ChangeSpec := { name := "queueApart", fn := fun _ => fun
  | [d1, d2] => { results := [.lit (.bool true)], args := [d1, d2] }
  | _ => none }
def queueApartRow : OpenClaim := { program := "ytepjmnkleajibaa", sum := "2f0053cca262609977ec4823cb82097b522d3ff67a0afa21b2cd4dea104badf1", func := "anamorph/anamorphlaw43.QueueApart", spec := "queueApart", unfollowed := true, recurses := true, apart := false }
def QueueApartSaid : Prop := queueApartRow.holds Try.pinned (OpenSpec.ofChange queueApartSpec)

/-- ITS FALSE NEIGHBOUR: 'it returns false'. Refute it at one input. -/
def queueApartWrong : ChangeSpec := { name := "queueApart", fn := fun _ => fun
  | [d1, d2] => { results := [.lit (.bool false)], args := [d1, d2] }
  | _ => none }
def QueueApartWrongFalsely : Prop := queueApartRow.holds Try.pinned (OpenSpec.ofChange queueApartWrong)

/-- 'anamorphlaw13.DiffPeak': WHATEVER THE INPUT: true; the input reads as it did. -/
def diffPeakSpec : ChangeSpec := { name := "diffPeak", fn := fun _ => fun
  | [d1, d2] => { results := [.lit (.bool true)], args := [d1, d2] }
  | _ => none }
def diffPeakRow : OpenClaim := { program := "ytepjmnkleajibaa", sum := "2f0053cca262609977ec4823cb82097b522d3ff67a0afa21b2cd4dea104badf1", func := "anamorph/anamorphlaw13.DiffPeak", spec := "diffPeak", unfollowed := true, recurses := true, apart := false }
def DiffPeakSaid : Prop := diffPeakRow.holds Try.pinned (OpenSpec.ofChange diffPeakSpec)

/-- ITS FALSE NEIGHBOUR: 'it returns false'. Refute it at one input. -/
def diffPeakWrong : ChangeSpec := { name := "diffPeak", fn := fun _ => fun
  | [d1, d2] => { results := [.lit (.bool false)], args := [d1, d2] }
  | _ => none }
def DiffPeakWrongFalsely : Prop := diffPeakRow.holds Try.pinned (OpenSpec.ofChange diffPeakWrong)

/-- 'anamorphlaw49.WordsLines': WHATEVER THE INPUT: true; the input reads as it did. -/
def wordsLinesSpec : ChangeSpec := { name := "wordsLines", fn := fun _ => fun
  | [d] => { results := [.lit (.bool true)], args := [d] }
  | _ => none }
def wordsLinesRow : OpenClaim := { program := "ytepjmnkleajibaa", sum := "2f0053cca262609977ec4823cb82097b522d3ff67a0afa21b2cd4dea104badf1", func := "anamorph/anamorphlaw49.WordsLines", spec := "wordsLines", inPlace := ["internal/abi.NoEscape", "internal/bytealg.MakeNoZero"], unfollowed := true, recurses := true, apart := false }
def WordsLinesSaid : Prop := wordsLinesRow.holds Try.pinned (OpenSpec.ofChange wordsLinesSpec)

/-- ITS FALSE NEIGHBOUR: 'it returns false'. Refute it at one input. -/
def wordsLinesWrong : ChangeSpec := { name := "wordsLines", fn := fun _ => fun
  | [d] => { results := [.lit (.bool false)], args := [d] }
  | _ => none }
def WordsLinesWrongFalsely : Prop := wordsLinesRow.holds Try.pinned (OpenSpec.ofChange wordsLinesWrong)

/-- 'anamorphlaw43.QueueOrders': WHATEVER THE INPUT: true; the input reads as it did. -/
def queueOrdersSpec : ChangeSpec := { name := "queueOrders", fn := fun _ => fun
  | [d1, d2, d3] => { results := [.lit (.bool true)], args := [d1, d2, d3] }
  | _ => none }
def queueOrdersRow : OpenClaim := { program := "ytepjmnkleajibaa", sum := "2f0053cca262609977ec4823cb82097b522d3ff67a0afa21b2cd4dea104badf1", func := "anamorph/anamorphlaw43.QueueOrders", spec := "queueOrders", unfollowed := true, recurses := true, apart := false }
def QueueOrdersSaid : Prop := queueOrdersRow.holds Try.pinned (OpenSpec.ofChange queueOrdersSpec)

/-- ITS FALSE NEIGHBOUR: 'it returns false'. Refute it at one input. -/
def queueOrdersWrong : ChangeSpec := { name := "queueOrders", fn := fun _ => fun
  | [d1, d2, d3] => { results := [.lit (.bool false)], args := [d1, d2, d3] }
  | _ => none }
def QueueOrdersWrongFalsely : Prop := queueOrdersRow.holds Try.pinned (OpenSpec.ofChange queueOrdersWrong)

/-- 'anamorphlaw17.CodecReads': WHATEVER THE INPUT: true; the input reads as it did. -/
def codecReadsSpec : ChangeSpec := { name := "codecReads", fn := fun _ => fun
  | [d] => { results := [.lit (.bool true)], args := [d] }
  | _ => none }
def codecReadsRow : OpenClaim := { program := "ytepjmnkleajibaa", sum := "2f0053cca262609977ec4823cb82097b522d3ff67a0afa21b2cd4dea104badf1", func := "anamorph/anamorphlaw17.CodecReads", spec := "codecReads", unfollowed := true, recurses := true, apart := false }
def CodecReadsSaid : Prop := codecReadsRow.holds Try.pinned (OpenSpec.ofChange codecReadsSpec)

/-- ITS FALSE NEIGHBOUR: 'it returns false'. Refute it at one input. -/
def codecReadsWrong : ChangeSpec := { name := "codecReads", fn := fun _ => fun
  | [d] => { results := [.lit (.bool false)], args := [d] }
  | _ => none }
def CodecReadsWrongFalsely : Prop := codecReadsRow.holds Try.pinned (OpenSpec.ofChange codecReadsWrong)

/- THE SECOND FORM. 'bulk': how many values and letters a reading holds, each counted each time it is reached (what is shared counts as often as it is met; a slice's spare places count too). A statement '..UptoSaid' is the law's where the arguments, and the package variables that the reading takes, are together of bulk at most 1048576: NARROWER than '..Said'. Prove '..Said' where nothing that the law and all that it calls make is longer than what came in: it says more and counts as full. Else prove '..UptoSaid'. A law counts once. -/
mutual
def uptoBulk {H : Type} : DataW H → Nat
  | .lit (.string bytes) => bytes.length + 1
  | .lit _ => 1
  | .nil => 1
  | .ptr d => uptoBulk d + 1
  | .slice elems spare => uptoBulkAll elems + uptoBulkAll spare + 1
  | .agg parts => uptoBulkAll parts + 1
  | .iface _ d => uptoBulk d + 1
  | .map entries => uptoBulkEntries entries + 1
  | .held _ => 1
def uptoBulkAll {H : Type} : List (DataW H) → Nat
  | [] => 0
  | d :: r => uptoBulk d + uptoBulkAll r
def uptoBulkEntries {H : Type} : List (Lit × DataW H) → Nat
  | [] => 0
  | x :: r => uptoBulkEntry x + uptoBulkEntries r
def uptoBulkEntry {H : Type} : Lit × DataW H → Nat
  | (.string bytes, d) => bytes.length + uptoBulk d + 1
  | (_, d) => uptoBulk d + 1
 end
def uptoSmall : (H : Type) → List (DataW H) → Bool := fun _ ds => decide (uptoBulkAll ds ≤ 1048576)
def OpenSpec.upto (s : _root_.Go.ChangeSpec) : _root_.Go.OpenSpec := { _root_.Go.OpenSpec.ofChange s with cond := some uptoSmall }

/-- 'anamorphlaw14.CutSteps', WHERE WHAT IT READS IS OF BULK AT MOST 1048576: true; the input reads as it did. -/
def cutStepsUptoRow : OpenClaim := { program := "ytepjmnkleajibaa", sum := "2f0053cca262609977ec4823cb82097b522d3ff67a0afa21b2cd4dea104badf1", func := "anamorph/anamorphlaw14.CutSteps", spec := "cutSteps", apart := false, narrowed := true }
def CutStepsUptoSaid : Prop := cutStepsUptoRow.holds Try.pinned (OpenSpec.upto cutStepsSpec)

/-- 'anamorphlaw16.BmpWrites', WHERE WHAT IT READS IS OF BULK AT MOST 1048576: true; the input reads as it did. -/
def bmpWritesUptoRow : OpenClaim := { program := "ytepjmnkleajibaa", sum := "2f0053cca262609977ec4823cb82097b522d3ff67a0afa21b2cd4dea104badf1", func := "anamorph/anamorphlaw16.BmpWrites", spec := "bmpWrites", unfollowed := true, recurses := true, apart := false, narrowed := true }
def BmpWritesUptoSaid : Prop := bmpWritesUptoRow.holds Try.pinned (OpenSpec.upto bmpWritesSpec)

/-- 'anamorphlaw16.BmpReads', WHERE WHAT IT READS IS OF BULK AT MOST 1048576: true; the input reads as it did. -/
def bmpReadsUptoRow : OpenClaim := { program := "ytepjmnkleajibaa", sum := "2f0053cca262609977ec4823cb82097b522d3ff67a0afa21b2cd4dea104badf1", func := "anamorph/anamorphlaw16.BmpReads", spec := "bmpReads", unfollowed := true, recurses := true, apart := false, narrowed := true }
def BmpReadsUptoSaid : Prop := bmpReadsUptoRow.holds Try.pinned (OpenSpec.upto bmpReadsSpec)

/-- 'anamorphlaw16.BmpBack', WHERE WHAT IT READS IS OF BULK AT MOST 1048576: true; the input reads as it did. -/
def bmpBackUptoRow : OpenClaim := { program := "ytepjmnkleajibaa", sum := "2f0053cca262609977ec4823cb82097b522d3ff67a0afa21b2cd4dea104badf1", func := "anamorph/anamorphlaw16.BmpBack", spec := "bmpBack", unfollowed := true, recurses := true, apart := false, narrowed := true }
def BmpBackUptoSaid : Prop := bmpBackUptoRow.holds Try.pinned (OpenSpec.upto bmpBackSpec)

/-- 'anamorphlaw16.BmpRows', WHERE WHAT IT READS IS OF BULK AT MOST 1048576: true; the input reads as it did. -/
def bmpRowsUptoRow : OpenClaim := { program := "ytepjmnkleajibaa", sum := "2f0053cca262609977ec4823cb82097b522d3ff67a0afa21b2cd4dea104badf1", func := "anamorph/anamorphlaw16.BmpRows", spec := "bmpRows", unfollowed := true, recurses := true, apart := false, narrowed := true }
def BmpRowsUptoSaid : Prop := bmpRowsUptoRow.holds Try.pinned (OpenSpec.upto bmpRowsSpec)

/-- 'anamorphlaw31.MipHalves', WHERE WHAT IT READS IS OF BULK AT MOST 1048576: true; the input reads as it did. -/
def mipHalvesUptoRow : OpenClaim := { program := "ytepjmnkleajibaa", sum := "2f0053cca262609977ec4823cb82097b522d3ff67a0afa21b2cd4dea104badf1", func := "anamorph/anamorphlaw31.MipHalves", spec := "mipHalves", unfollowed := true, recurses := true, apart := false, narrowed := true }
def MipHalvesUptoSaid : Prop := mipHalvesUptoRow.holds Try.pinned (OpenSpec.upto mipHalvesSpec)

/-- 'anamorphlaw41.StoreAll', WHERE WHAT IT READS IS OF BULK AT MOST 1048576: true; the input reads as it did. -/
def storeAllUptoRow : OpenClaim := { program := "ytepjmnkleajibaa", sum := "2f0053cca262609977ec4823cb82097b522d3ff67a0afa21b2cd4dea104badf1", func := "anamorph/anamorphlaw41.StoreAll", spec := "storeAll", unfollowed := true, recurses := true, apart := false, narrowed := true }
def StoreAllUptoSaid : Prop := storeAllUptoRow.holds Try.pinned (OpenSpec.upto storeAllSpec)

/-- 'anamorphlaw49.WordsMany', WHERE WHAT IT READS IS OF BULK AT MOST 1048576: true; the input reads as it did. -/
def wordsManyUptoRow : OpenClaim := { program := "ytepjmnkleajibaa", sum := "2f0053cca262609977ec4823cb82097b522d3ff67a0afa21b2cd4dea104badf1", func := "anamorph/anamorphlaw49.WordsMany", spec := "wordsMany", unfollowed := true, recurses := true, apart := false, narrowed := true }
def WordsManyUptoSaid : Prop := wordsManyUptoRow.holds Try.pinned (OpenSpec.upto wordsManySpec)

/-- 'anamorphlaw43.QueueSteps', WHERE WHAT IT READS IS OF BULK AT MOST 1048576: true; the input reads as it did. -/
def queueStepsUptoRow : OpenClaim := { program := "ytepjmnkleajibaa", sum := "2f0053cca262609977ec4823cb82097b522d3ff67a0afa21b2cd4dea104badf1", func := "anamorph/anamorphlaw43.QueueSteps", spec := "queueSteps", unfollowed := true, recurses := true, apart := false, narrowed := true }
def QueueStepsUptoSaid : Prop := queueStepsUptoRow.holds Try.pinned (OpenSpec.upto queueStepsSpec)

/-- 'anamorphlaw43.QueueApart', WHERE WHAT IT READS IS OF BULK AT MOST 1048576: true; the input reads as it did. -/
def queueApartUptoRow : OpenClaim := { program := "ytepjmnkleajibaa", sum := "2f0053cca262609977ec4823cb82097b522d3ff67a0afa21b2cd4dea104badf1", func := "anamorph/anamorphlaw43.QueueApart", spec := "queueApart", unfollowed := true, recurses := true, apart := false, narrowed := true }
def QueueApartUptoSaid : Prop := queueApartUptoRow.holds Try.pinned (OpenSpec.upto queueApartSpec)

/-- 'anamorphlaw13.DiffPeak', WHERE WHAT IT READS IS OF BULK AT MOST 1048576: true; the input reads as it did. -/
def diffPeakUptoRow : OpenClaim := { program := "ytepjmnkleajibaa", sum := "2f0053cca262609977ec4823cb82097b522d3ff67a0afa21b2cd4dea104badf1", func := "anamorph/anamorphlaw13.DiffPeak", spec := "diffPeak", unfollowed := true, recurses := true, apart := false, narrowed := true }
def DiffPeakUptoSaid : Prop := diffPeakUptoRow.holds Try.pinned (OpenSpec.upto diffPeakSpec)

/-- 'anamorphlaw49.WordsLines', WHERE WHAT IT READS IS OF BULK AT MOST 1048576: true; the input reads as it did. -/
def wordsLinesUptoRow : OpenClaim := { program := "ytepjmnkleajibaa", sum := "2f0053cca262609977ec4823cb82097b522d3ff67a0afa21b2cd4dea104badf1", func := "anamorph/anamorphlaw49.WordsLines", spec := "wordsLines", inPlace := ["internal/abi.NoEscape", "internal/bytealg.MakeNoZero"], unfollowed := true, recurses := true, apart := false, narrowed := true }
def WordsLinesUptoSaid : Prop := wordsLinesUptoRow.holds Try.pinned (OpenSpec.upto wordsLinesSpec)

/-- 'anamorphlaw43.QueueOrders', WHERE WHAT IT READS IS OF BULK AT MOST 1048576: true; the input reads as it did. -/
def queueOrdersUptoRow : OpenClaim := { program := "ytepjmnkleajibaa", sum := "2f0053cca262609977ec4823cb82097b522d3ff67a0afa21b2cd4dea104badf1", func := "anamorph/anamorphlaw43.QueueOrders", spec := "queueOrders", unfollowed := true, recurses := true, apart := false, narrowed := true }
def QueueOrdersUptoSaid : Prop := queueOrdersUptoRow.holds Try.pinned (OpenSpec.upto queueOrdersSpec)

/-- 'anamorphlaw17.CodecReads', WHERE WHAT IT READS IS OF BULK AT MOST 1048576: true; the input reads as it did. -/
def codecReadsUptoRow : OpenClaim := { program := "ytepjmnkleajibaa", sum := "2f0053cca262609977ec4823cb82097b522d3ff67a0afa21b2cd4dea104badf1", func := "anamorph/anamorphlaw17.CodecReads", spec := "codecReads", unfollowed := true, recurses := true, apart := false, narrowed := true }
def CodecReadsUptoSaid : Prop := codecReadsUptoRow.holds Try.pinned (OpenSpec.upto codecReadsSpec)

end Rows
end Go.Proofs.Ytepjmnkleajibaa
