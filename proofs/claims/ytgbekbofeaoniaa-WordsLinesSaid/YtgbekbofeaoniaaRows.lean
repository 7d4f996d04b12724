/-
  No cell of these rows narrows 'for every input' (looked for: loops, veiled, ifaces, maps, wideKeys, modest, calm, conditions, laid).
  DERIVED. THE GIVEN ROWS OF THIS SEAT. 6 by the template 'for every input the law returns true; each argument reads behind the call as it read before'; 0 by the template 'total and deterministic' (their statements: YtgbekbofeaoniaaTotals.lean).
  GIVEN WITH THE SEED: the statements are not yours to turn. If you find one false, say at which input.
  Laid BY PROGRAM, IN A SANDBOX (cutbox-rows.mjs): the forced cells as the released guide's own fill.sh prints them over the translation 9083f71a21c05584… (all of the seat's roots in one cut). By AI agents, Wed Nov 11 2026. No macro, syntax, notation, axiom, sorry.
-/
import Derived.Test.YtgbekbofeaoniaaChecked
import GoSem.Claim
import GoSem.ClaimJoined
import GoSem.ClaimMapViews
import Derived.JoinedTies
import Derived.KernelRfl
namespace Go.Proofs.Ytgbekbofeaoniaa
/- THE CELL 'sum', in the pinned program and in every row, IS THE sha256 OF THE DUMP (.gsa) THAT YtgbekbofeaoniaaProg.lean LOADS. Nothing in Lean hashes anything: it is a label: what it is worth is what the hold of that sum in a sandbox is worth. -/
noncomputable def Try.pinned : Pinned := { name := "ytgbekbofeaoniaa", sum := "9083f71a21c05584407f3b30a1b901e4d6134b6ab0a0eb8e8c00c36c48f0deae", checked := Try.checked }
namespace Rows
def none {H : Type} : Left H := { results := [], args := [] }

/-- 'anamorphlaw49.WordsLines': WHATEVER THE INPUT: true; the input reads as it did. -/
def wordsLinesSpec : ChangeSpec := { name := "wordsLines", fn := fun _ => fun
  | [d] => { results := [.lit (.bool true)], args := [d] }
  | _ => none }
def wordsLinesRow : OpenClaim := { program := "ytgbekbofeaoniaa", sum := "9083f71a21c05584407f3b30a1b901e4d6134b6ab0a0eb8e8c00c36c48f0deae", func := "anamorph/anamorphlaw49.WordsLines", spec := "wordsLines", inPlace := ["internal/abi.NoEscape", "internal/bytealg.MakeNoZero"], unfollowed := true, recurses := true, apart := false }
def WordsLinesSaid : Prop := wordsLinesRow.holds Try.pinned (OpenSpec.ofChange wordsLinesSpec)

/-- ITS FALSE NEIGHBOUR: 'it returns false'. Refute it at one input. -/
def wordsLinesWrong : ChangeSpec := { name := "wordsLines", fn := fun _ => fun
  | [d] => { results := [.lit (.bool false)], args := [d] }
  | _ => none }
def WordsLinesWrongFalsely : Prop := wordsLinesRow.holds Try.pinned (OpenSpec.ofChange wordsLinesWrong)

/-- 'anamorphlaw31.MipHalves': WHATEVER THE INPUT: true; the input reads as it did. -/
def mipHalvesSpec : ChangeSpec := { name := "mipHalves", fn := fun _ => fun
  | [d1, d2] => { results := [.lit (.bool true)], args := [d1, d2] }
  | _ => none }
def mipHalvesRow : OpenClaim := { program := "ytgbekbofeaoniaa", sum := "9083f71a21c05584407f3b30a1b901e4d6134b6ab0a0eb8e8c00c36c48f0deae", func := "anamorph/anamorphlaw31.MipHalves", spec := "mipHalves", unfollowed := true, recurses := true, apart := false }
def MipHalvesSaid : Prop := mipHalvesRow.holds Try.pinned (OpenSpec.ofChange mipHalvesSpec)

/-- ITS FALSE NEIGHBOUR: 'it returns false'. Refute it at one input. -/
def mipHalvesWrong : ChangeSpec := { name := "mipHalves", fn := fun _ => fun
  | [d1, d2] => { results := [.lit (.bool false)], args := [d1, d2] }
  | _ => none }
def MipHalvesWrongFalsely : Prop := mipHalvesRow.holds Try.pinned (OpenSpec.ofChange mipHalvesWrong)

/-- 'anamorphlaw41.StoreAll': WHATEVER THE INPUT: true; the input reads as it did. -/
def storeAllSpec : ChangeSpec := { name := "storeAll", fn := fun _ => fun
  | [d1, d2] => { results := [.lit (.bool true)], args := [d1, d2] }
  | _ => none }
def storeAllRow : OpenClaim := { program := "ytgbekbofeaoniaa", sum := "9083f71a21c05584407f3b30a1b901e4d6134b6ab0a0eb8e8c00c36c48f0deae", func := "anamorph/anamorphlaw41.StoreAll", spec := "storeAll", unfollowed := true, recurses := true, apart := false }
def StoreAllSaid : Prop := storeAllRow.holds Try.pinned (OpenSpec.ofChange storeAllSpec)

/-- ITS FALSE NEIGHBOUR: 'it returns false'. Refute it at one input. -/
def storeAllWrong : ChangeSpec := { name := "storeAll", fn := fun _ => fun
  | [d1, d2] => { results := [.lit (.bool false)], args := [d1, d2] }
  | _ => none }
def StoreAllWrongFalsely : Prop := storeAllRow.holds Try.pinned (OpenSpec.ofChange storeAllWrong)

/-- 'anamorphlaw43.QueueSteps': WHATEVER THE INPUT: true; the input reads as it did. -/
def queueStepsSpec : ChangeSpec := { name := "queueSteps", fn := fun _ => fun
  | [d] => { results := [.lit (.bool true)], args := [d] }
  | _ => none }
def queueStepsRow : OpenClaim := { program := "ytgbekbofeaoniaa", sum := "9083f71a21c05584407f3b30a1b901e4d6134b6ab0a0eb8e8c00c36c48f0deae", func := "anamorph/anamorphlaw43.QueueSteps", spec := "queueSteps", unfollowed := true, recurses := true, apart := false }
def QueueStepsSaid : Prop := queueStepsRow.holds Try.pinned (OpenSpec.ofChange queueStepsSpec)

/-- ITS FALSE NEIGHBOUR: 'it returns false'. Refute it at one input. -/
def queueStepsWrong : ChangeSpec := { name := "queueSteps", fn := fun _ => fun
  | [d] => { results := [.lit (.bool false)], args := [d] }
  | _ => none }
def QueueStepsWrongFalsely : Prop := queueStepsRow.holds Try.pinned (OpenSpec.ofChange queueStepsWrong)

/-- 'anamorphlaw43.QueueApart': WHATEVER THE INPUT: true; the input reads as it did. -/
def queueApartSpec : ChangeSpec := { name := "queueApart", fn := fun _ => fun
  | [d1, d2] => { results := [.lit (.bool true)], args := [d1, d2] }
  | _ => none }
def queueApartRow : OpenClaim := { program := "ytgbekbofeaoniaa", sum := "9083f71a21c05584407f3b30a1b901e4d6134b6ab0a0eb8e8c00c36c48f0deae", func := "anamorph/anamorphlaw43.QueueApart", spec := "queueApart", unfollowed := true, recurses := true, apart := false }
def QueueApartSaid : Prop := queueApartRow.holds Try.pinned (OpenSpec.ofChange queueApartSpec)

/-- ITS FALSE NEIGHBOUR: 'it returns false'. Refute it at one input. -/
def queueApartWrong : ChangeSpec := { name := "queueApart", fn := fun _ => fun
  | [d1, d2] => { results := [.lit (.bool false)], args := [d1, d2] }
  | _ => none }
def QueueApartWrongFalsely : Prop := queueApartRow.holds Try.pinned (OpenSpec.ofChange queueApartWrong)

/-- 'anamorphlaw43.QueueOrders': WHATEVER THE INPUT: true; the input reads as it did. -/
def queueOrdersSpec : ChangeSpec := { name := "queueOrders", fn := fun _ => fun
  | [d1, d2, d3] => { results := [.lit (.bool true)], args := [d1, d2, d3] }
  | _ => none }
def queueOrdersRow : OpenClaim := { program := "ytgbekbofeaoniaa", sum := "9083f71a21c05584407f3b30a1b901e4d6134b6ab0a0eb8e8c00c36c48f0deae", func := "anamorph/anamorphlaw43.QueueOrders", spec := "queueOrders", unfollowed := true, recurses := true, apart := false }
def QueueOrdersSaid : Prop := queueOrdersRow.holds Try.pinned (OpenSpec.ofChange queueOrdersSpec)

/-- ITS FALSE NEIGHBOUR: 'it returns false'. Refute it at one input. -/
def queueOrdersWrong : ChangeSpec := { name := "queueOrders", fn := fun _ => fun
  | [d1, d2, d3] => { results := [.lit (.bool false)], args := [d1, d2, d3] }
  | _ => none }
def QueueOrdersWrongFalsely : Prop := queueOrdersRow.holds Try.pinned (OpenSpec.ofChange queueOrdersWrong)

/- THE SECOND FORM. 'bulk': how many values and letters a reading holds, each counted each time it is reached (what is shared counts as often as it is met; a slice's spare places count too). A statement '..UptoSaid' is the law's where the arguments, and the package variables that the reading takes, are together of bulk at most 1048576: NARROWER than '..Said'. Prove '..Said' where nothing that the law and all that it calls make is longer than what came in: it says more and counts as full. Else prove '..UptoSaid'. A law counts once. -/
mutual
def uptoBulk {H : Type} : DataW H → Nat
  | .lit (.string bytes) => bytes.length + 1
  | .lit _ => 1
  | .nil => 1
  | .ptr d => uptoBulk d + 1
  | .slice elems spare => uptoBulkAll elems + uptoBulkAll spare + 1
  | .agg parts => uptoBulkAll parts + 1
  | .iface _ d => uptoBulk d + 1
  | .map entries => uptoBulkEntries entries + 1
  | .held _ => 1
def uptoBulkAll {H : Type} : List (DataW H) → Nat
  | [] => 0
  | d :: r => uptoBulk d + uptoBulkAll r
def uptoBulkEntries {H : Type} : List (Lit × DataW H) → Nat
  | [] => 0
  | x :: r => uptoBulkEntry x + uptoBulkEntries r
def uptoBulkEntry {H : Type} : Lit × DataW H → Nat
  | (.string bytes, d) => bytes.length + uptoBulk d + 1
  | (_, d) => uptoBulk d + 1
 end
def uptoSmall : (H : Type) → List (DataW H) → Bool := fun _ ds => decide (uptoBulkAll ds ≤ 1048576)
def OpenSpec.upto (s : _root_.Go.ChangeSpec) : _root_.Go.OpenSpec := { _root_.Go.OpenSpec.ofChange s with cond := some uptoSmall }

/-- 'anamorphlaw49.WordsLines', WHERE WHAT IT READS IS OF BULK AT MOST 1048576: true; the input reads as it did. -/
def wordsLinesUptoRow : OpenClaim := { program := "ytgbekbofeaoniaa", sum := "9083f71a21c05584407f3b30a1b901e4d6134b6ab0a0eb8e8c00c36c48f0deae", func := "anamorph/anamorphlaw49.WordsLines", spec := "wordsLines", inPlace := ["internal/abi.NoEscape", "internal/bytealg.MakeNoZero"], unfollowed := true, recurses := true, apart := false, narrowed := true }
def WordsLinesUptoSaid : Prop := wordsLinesUptoRow.holds Try.pinned (OpenSpec.upto wordsLinesSpec)

/-- 'anamorphlaw31.MipHalves', WHERE WHAT IT READS IS OF BULK AT MOST 1048576: true; the input reads as it did. -/
def mipHalvesUptoRow : OpenClaim := { program := "ytgbekbofeaoniaa", sum := "9083f71a21c05584407f3b30a1b901e4d6134b6ab0a0eb8e8c00c36c48f0deae", func := "anamorph/anamorphlaw31.MipHalves", spec := "mipHalves", unfollowed := true, recurses := true, apart := false, narrowed := true }
def MipHalvesUptoSaid : Prop := mipHalvesUptoRow.holds Try.pinned (OpenSpec.upto mipHalvesSpec)

/-- 'anamorphlaw41.StoreAll', WHERE WHAT IT READS IS OF BULK AT MOST 1048576: true; the input reads as it did. -/
def storeAllUptoRow : OpenClaim := { program := "ytgbekbofeaoniaa", sum := "9083f71a21c05584407f3b30a1b901e4d6134b6ab0a0eb8e8c00c36c48f0deae", func := "anamorph/anamorphlaw41.StoreAll", spec := "storeAll", unfollowed := true, recurses := true, apart := false, narrowed := true }
def StoreAllUptoSaid : Prop := storeAllUptoRow.holds Try.pinned (OpenSpec.upto storeAllSpec)

/-- 'anamorphlaw43.QueueSteps', WHERE WHAT IT READS IS OF BULK AT MOST 1048576: true; the input reads as it did. -/
def queueStepsUptoRow : OpenClaim := { program := "ytgbekbofeaoniaa", sum := "9083f71a21c05584407f3b30a1b901e4d6134b6ab0a0eb8e8c00c36c48f0deae", func := "anamorph/anamorphlaw43.QueueSteps", spec := "queueSteps", unfollowed := true, recurses := true, apart := false, narrowed := true }
def QueueStepsUptoSaid : Prop := queueStepsUptoRow.holds Try.pinned (OpenSpec.upto queueStepsSpec)

/-- 'anamorphlaw43.QueueApart', WHERE WHAT IT READS IS OF BULK AT MOST 1048576: true; the input reads as it did. -/
def queueApartUptoRow : OpenClaim := { program := "ytgbekbofeaoniaa", sum := "9083f71a21c05584407f3b30a1b901e4d6134b6ab0a0eb8e8c00c36c48f0deae", func := "anamorph/anamorphlaw43.QueueApart", spec := "queueApart", unfollowed := true, recurses := true, apart := false, narrowed := true }
def QueueApartUptoSaid : Prop := queueApartUptoRow.holds Try.pinned (OpenSpec.upto queueApartSpec)

/-- 'anamorphlaw43.QueueOrders', WHERE WHAT IT READS IS OF BULK AT MOST 1048576: true; the input reads as it did. -/
def queueOrdersUptoRow : OpenClaim := { program := "ytgbekbofeaoniaa", sum := "9083f71a21c05584407f3b30a1b901e4d6134b6ab0a0eb8e8c00c36c48f0deae", func := "anamorph/anamorphlaw43.QueueOrders", spec := "queueOrders", unfollowed := true, recurses := true, apart := false, narrowed := true }
def QueueOrdersUptoSaid : Prop := queueOrdersUptoRow.holds Try.pinned (OpenSpec.upto queueOrdersSpec)

end Rows
end Go.Proofs.Ytgbekbofeaoniaa
