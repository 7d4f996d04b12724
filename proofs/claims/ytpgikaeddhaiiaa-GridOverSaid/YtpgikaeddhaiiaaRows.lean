/-
  No cell of these rows narrows 'for every input' (looked for: loops, veiled, ifaces, maps, wideKeys, modest, calm, conditions, laid).
  DERIVED. THE GIVEN ROWS OF THIS SEAT. 12 by the template 'for every input the law returns true; each argument reads behind the call as it read before'; 0 by the template 'total and deterministic' (their statements: YtpgikaeddhaiiaaTotals.lean).
  GIVEN WITH THE SEED: the statements are not yours to turn. If you find one false, say at which input.
  Laid BY PROGRAM, IN A SANDBOX (cutbox-rows.mjs): the forced cells as the released guide's own fill.sh prints them over the translation 5dd288cc77724003… (all of the seat's roots in one cut). By AI agents, Wed Nov 11 2026. No macro, syntax, notation, axiom, sorry.
-/
import Derived.Test.YtpgikaeddhaiiaaChecked
import GoSem.Claim
import GoSem.ClaimJoined
import GoSem.ClaimMapViews
import Derived.JoinedTies
import Derived.KernelRfl
namespace Go.Proofs.Ytpgikaeddhaiiaa
/- THE CELL 'sum', in the pinned program and in every row, IS THE sha256 OF THE DUMP (.gsa) THAT YtpgikaeddhaiiaaProg.lean LOADS. Nothing in Lean hashes anything: it is a label: what it is worth is what the hold of that sum in a sandbox is worth. -/
noncomputable def Try.pinned : Pinned := { name := "ytpgikaeddhaiiaa", sum := "5dd288cc77724003a09de026442a58ffc61f0c98f9140e20950d4905b3188e9d", checked := Try.checked }
namespace Rows
def none {H : Type} : Left H := { results := [], args := [] }

/-- 'anamorphlaw17.CodecNames': WHATEVER THE INPUT: true; the input reads as it did. -/
def codecNamesSpec : ChangeSpec := { name := "codecNames", fn := fun _ => fun
  | [d1, d2] => { results := [.lit (.bool true)], args := [d1, d2] }
  | _ => none }
def codecNamesRow : OpenClaim := { program := "ytpgikaeddhaiiaa", sum := "5dd288cc77724003a09de026442a58ffc61f0c98f9140e20950d4905b3188e9d", func := "anamorph/anamorphlaw17.CodecNames", spec := "codecNames", unfollowed := true, recurses := true, apart := false }
def CodecNamesSaid : Prop := codecNamesRow.holds Try.pinned (OpenSpec.ofChange codecNamesSpec)

/-- ITS FALSE NEIGHBOUR: 'it returns false'. Refute it at one input. -/
def codecNamesWrong : ChangeSpec := { name := "codecNames", fn := fun _ => fun
  | [d1, d2] => { results := [.lit (.bool false)], args := [d1, d2] }
  | _ => none }
def CodecNamesWrongFalsely : Prop := codecNamesRow.holds Try.pinned (OpenSpec.ofChange codecNamesWrong)

/-- 'anamorphlaw07.ImgMade': WHATEVER THE INPUT: true; the input reads as it did. -/
def imgMadeSpec : ChangeSpec := { name := "imgMade", fn := fun _ => fun
  | [d1, d2, d3] => { results := [.lit (.bool true)], args := [d1, d2, d3] }
  | _ => none }
def imgMadeRow : OpenClaim := { program := "ytpgikaeddhaiiaa", sum := "5dd288cc77724003a09de026442a58ffc61f0c98f9140e20950d4905b3188e9d", func := "anamorph/anamorphlaw07.ImgMade", spec := "imgMade", inPlace := ["internal/bytealg.MakeNoZero"], apart := false }
def ImgMadeSaid : Prop := imgMadeRow.holds Try.pinned (OpenSpec.ofChange imgMadeSpec)

/-- ITS FALSE NEIGHBOUR: 'it returns false'. Refute it at one input. -/
def imgMadeWrong : ChangeSpec := { name := "imgMade", fn := fun _ => fun
  | [d1, d2, d3] => { results := [.lit (.bool false)], args := [d1, d2, d3] }
  | _ => none }
def ImgMadeWrongFalsely : Prop := imgMadeRow.holds Try.pinned (OpenSpec.ofChange imgMadeWrong)

/-- 'anamorphlaw10.PermNames': WHATEVER THE INPUT: true; the input reads as it did. -/
def permNamesSpec : ChangeSpec := { name := "permNames", fn := fun _ => fun
  | [d1, d2] => { results := [.lit (.bool true)], args := [d1, d2] }
  | _ => none }
def permNamesRow : OpenClaim := { program := "ytpgikaeddhaiiaa", sum := "5dd288cc77724003a09de026442a58ffc61f0c98f9140e20950d4905b3188e9d", func := "anamorph/anamorphlaw10.PermNames", spec := "permNames", unfollowed := true, recurses := true, apart := false }
def PermNamesSaid : Prop := permNamesRow.holds Try.pinned (OpenSpec.ofChange permNamesSpec)

/-- ITS FALSE NEIGHBOUR: 'it returns false'. Refute it at one input. -/
def permNamesWrong : ChangeSpec := { name := "permNames", fn := fun _ => fun
  | [d1, d2] => { results := [.lit (.bool false)], args := [d1, d2] }
  | _ => none }
def PermNamesWrongFalsely : Prop := permNamesRow.holds Try.pinned (OpenSpec.ofChange permNamesWrong)

/-- 'anamorphlaw10.PermIs': WHATEVER THE INPUT: true; the input reads as it did. -/
def permIsSpec : ChangeSpec := { name := "permIs", fn := fun _ => fun
  | [d1, d2, d3] => { results := [.lit (.bool true)], args := [d1, d2, d3] }
  | _ => none }
def permIsRow : OpenClaim := { program := "ytpgikaeddhaiiaa", sum := "5dd288cc77724003a09de026442a58ffc61f0c98f9140e20950d4905b3188e9d", func := "anamorph/anamorphlaw10.PermIs", spec := "permIs", unfollowed := true, recurses := true, apart := false }
def PermIsSaid : Prop := permIsRow.holds Try.pinned (OpenSpec.ofChange permIsSpec)

/-- ITS FALSE NEIGHBOUR: 'it returns false'. Refute it at one input. -/
def permIsWrong : ChangeSpec := { name := "permIs", fn := fun _ => fun
  | [d1, d2, d3] => { results := [.lit (.bool false)], args := [d1, d2, d3] }
  | _ => none }
def PermIsWrongFalsely : Prop := permIsRow.holds Try.pinned (OpenSpec.ofChange permIsWrong)

/-- 'anamorphlaw10.PermMakes': WHATEVER THE INPUT: true; the input reads as it did. -/
def permMakesSpec : ChangeSpec := { name := "permMakes", fn := fun _ => fun
  | [d1, d2, d3] => { results := [.lit (.bool true)], args := [d1, d2, d3] }
  | _ => none }
def permMakesRow : OpenClaim := { program := "ytpgikaeddhaiiaa", sum := "5dd288cc77724003a09de026442a58ffc61f0c98f9140e20950d4905b3188e9d", func := "anamorph/anamorphlaw10.PermMakes", spec := "permMakes", unfollowed := true, recurses := true, apart := false }
def PermMakesSaid : Prop := permMakesRow.holds Try.pinned (OpenSpec.ofChange permMakesSpec)

/-- ITS FALSE NEIGHBOUR: 'it returns false'. Refute it at one input. -/
def permMakesWrong : ChangeSpec := { name := "permMakes", fn := fun _ => fun
  | [d1, d2, d3] => { results := [.lit (.bool false)], args := [d1, d2, d3] }
  | _ => none }
def PermMakesWrongFalsely : Prop := permMakesRow.holds Try.pinned (OpenSpec.ofChange permMakesWrong)

/-- 'anamorphlaw10.PermTurns': WHATEVER THE INPUT: true; the input reads as it did. -/
def permTurnsSpec : ChangeSpec := { name := "permTurns", fn := fun _ => fun
  | [d1, d2, d3] => { results := [.lit (.bool true)], args := [d1, d2, d3] }
  | _ => none }
def permTurnsRow : OpenClaim := { program := "ytpgikaeddhaiiaa", sum := "5dd288cc77724003a09de026442a58ffc61f0c98f9140e20950d4905b3188e9d", func := "anamorph/anamorphlaw10.PermTurns", spec := "permTurns", unfollowed := true, recurses := true, apart := false }
def PermTurnsSaid : Prop := permTurnsRow.holds Try.pinned (OpenSpec.ofChange permTurnsSpec)

/-- ITS FALSE NEIGHBOUR: 'it returns false'. Refute it at one input. -/
def permTurnsWrong : ChangeSpec := { name := "permTurns", fn := fun _ => fun
  | [d1, d2, d3] => { results := [.lit (.bool false)], args := [d1, d2, d3] }
  | _ => none }
def PermTurnsWrongFalsely : Prop := permTurnsRow.holds Try.pinned (OpenSpec.ofChange permTurnsWrong)

/-- 'anamorphlaw23.TurnAsks': WHATEVER THE INPUT: true; the input reads as it did. -/
def turnAsksSpec : ChangeSpec := { name := "turnAsks", fn := fun _ => fun
  | [d1, d2] => { results := [.lit (.bool true)], args := [d1, d2] }
  | _ => none }
def turnAsksRow : OpenClaim := { program := "ytpgikaeddhaiiaa", sum := "5dd288cc77724003a09de026442a58ffc61f0c98f9140e20950d4905b3188e9d", func := "anamorph/anamorphlaw23.TurnAsks", spec := "turnAsks", unfollowed := true, recurses := true, apart := false }
def TurnAsksSaid : Prop := turnAsksRow.holds Try.pinned (OpenSpec.ofChange turnAsksSpec)

/-- ITS FALSE NEIGHBOUR: 'it returns false'. Refute it at one input. -/
def turnAsksWrong : ChangeSpec := { name := "turnAsks", fn := fun _ => fun
  | [d1, d2] => { results := [.lit (.bool false)], args := [d1, d2] }
  | _ => none }
def TurnAsksWrongFalsely : Prop := turnAsksRow.holds Try.pinned (OpenSpec.ofChange turnAsksWrong)

/-- 'anamorphlaw23.TurnImages': WHATEVER THE INPUT: true; the input reads as it did. -/
def turnImagesSpec : ChangeSpec := { name := "turnImages", fn := fun _ => fun
  | [d1, d2] => { results := [.lit (.bool true)], args := [d1, d2] }
  | _ => none }
def turnImagesRow : OpenClaim := { program := "ytpgikaeddhaiiaa", sum := "5dd288cc77724003a09de026442a58ffc61f0c98f9140e20950d4905b3188e9d", func := "anamorph/anamorphlaw23.TurnImages", spec := "turnImages", unfollowed := true, recurses := true, apart := false }
def TurnImagesSaid : Prop := turnImagesRow.holds Try.pinned (OpenSpec.ofChange turnImagesSpec)

/-- ITS FALSE NEIGHBOUR: 'it returns false'. Refute it at one input. -/
def turnImagesWrong : ChangeSpec := { name := "turnImages", fn := fun _ => fun
  | [d1, d2] => { results := [.lit (.bool false)], args := [d1, d2] }
  | _ => none }
def TurnImagesWrongFalsely : Prop := turnImagesRow.holds Try.pinned (OpenSpec.ofChange turnImagesWrong)

/-- 'anamorphlaw23.TurnThen': WHATEVER THE INPUT: true; the input reads as it did. -/
def turnThenSpec : ChangeSpec := { name := "turnThen", fn := fun _ => fun
  | [d1, d2, d3] => { results := [.lit (.bool true)], args := [d1, d2, d3] }
  | _ => none }
def turnThenRow : OpenClaim := { program := "ytpgikaeddhaiiaa", sum := "5dd288cc77724003a09de026442a58ffc61f0c98f9140e20950d4905b3188e9d", func := "anamorph/anamorphlaw23.TurnThen", spec := "turnThen", unfollowed := true, recurses := true, apart := false }
def TurnThenSaid : Prop := turnThenRow.holds Try.pinned (OpenSpec.ofChange turnThenSpec)

/-- ITS FALSE NEIGHBOUR: 'it returns false'. Refute it at one input. -/
def turnThenWrong : ChangeSpec := { name := "turnThen", fn := fun _ => fun
  | [d1, d2, d3] => { results := [.lit (.bool false)], args := [d1, d2, d3] }
  | _ => none }
def TurnThenWrongFalsely : Prop := turnThenRow.holds Try.pinned (OpenSpec.ofChange turnThenWrong)

/-- 'anamorphlaw09.GridOver': WHATEVER THE INPUT: true; the input reads as it did. -/
def gridOverSpec : ChangeSpec := { name := "gridOver", fn := fun _ => fun
  | [d1, d2, d3] => { results := [.lit (.bool true)], args := [d1, d2, d3] }
  | _ => none }
def gridOverRow : OpenClaim := { program := "ytpgikaeddhaiiaa", sum := "5dd288cc77724003a09de026442a58ffc61f0c98f9140e20950d4905b3188e9d", func := "anamorph/anamorphlaw09.GridOver", spec := "gridOver", apart := false }
def GridOverSaid : Prop := gridOverRow.holds Try.pinned (OpenSpec.ofChange gridOverSpec)

/-- ITS FALSE NEIGHBOUR: 'it returns false'. Refute it at one input. -/
def gridOverWrong : ChangeSpec := { name := "gridOver", fn := fun _ => fun
  | [d1, d2, d3] => { results := [.lit (.bool false)], args := [d1, d2, d3] }
  | _ => none }
def GridOverWrongFalsely : Prop := gridOverRow.holds Try.pinned (OpenSpec.ofChange gridOverWrong)

/-- 'anamorphlaw14.CutOwn': WHATEVER THE INPUT: true; the input reads as it did. -/
def cutOwnSpec : ChangeSpec := { name := "cutOwn", fn := fun _ => fun
  | [d1, d2] => { results := [.lit (.bool true)], args := [d1, d2] }
  | _ => none }
def cutOwnRow : OpenClaim := { program := "ytpgikaeddhaiiaa", sum := "5dd288cc77724003a09de026442a58ffc61f0c98f9140e20950d4905b3188e9d", func := "anamorph/anamorphlaw14.CutOwn", spec := "cutOwn", apart := false }
def CutOwnSaid : Prop := cutOwnRow.holds Try.pinned (OpenSpec.ofChange cutOwnSpec)

/-- ITS FALSE NEIGHBOUR: 'it returns false'. Refute it at one input. -/
def cutOwnWrong : ChangeSpec := { name := "cutOwn", fn := fun _ => fun
  | [d1, d2] => { results := [.lit (.bool false)], args := [d1, d2] }
  | _ => none }
def CutOwnWrongFalsely : Prop := cutOwnRow.holds Try.pinned (OpenSpec.ofChange cutOwnWrong)

/-- 'anamorphlaw14.CutSteps': WHATEVER THE INPUT: true; the input reads as it did. -/
def cutStepsSpec : ChangeSpec := { name := "cutSteps", fn := fun _ => fun
  | [d1, d2] => { results := [.lit (.bool true)], args := [d1, d2] }
  | _ => none }
def cutStepsRow : OpenClaim := { program := "ytpgikaeddhaiiaa", sum := "5dd288cc77724003a09de026442a58ffc61f0c98f9140e20950d4905b3188e9d", func := "anamorph/anamorphlaw14.CutSteps", spec := "cutSteps", apart := false }
def CutStepsSaid : Prop := cutStepsRow.holds Try.pinned (OpenSpec.ofChange cutStepsSpec)

/-- ITS FALSE NEIGHBOUR: 'it returns false'. Refute it at one input. -/
def cutStepsWrong : ChangeSpec := { name := "cutSteps", fn := fun _ => fun
  | [d1, d2] => { results := [.lit (.bool false)], args := [d1, d2] }
  | _ => none }
def CutStepsWrongFalsely : Prop := cutStepsRow.holds Try.pinned (OpenSpec.ofChange cutStepsWrong)

/- THE SECOND FORM. 'bulk': how many values and letters a reading holds, each counted each time it is reached (what is shared counts as often as it is met; a slice's spare places count too). A statement '..UptoSaid' is the law's where the arguments, and the package variables that the reading takes, are together of bulk at most 1048576: NARROWER than '..Said'. Prove '..Said' where nothing that the law and all that it calls make is longer than what came in: it says more and counts as full. Else prove '..UptoSaid'. A law counts once. -/
mutual
def uptoBulk {H : Type} : DataW H → Nat
  | .lit (.string bytes) => bytes.length + 1
  | .lit _ => 1
  | .nil => 1
  | .ptr d => uptoBulk d + 1
  | .slice elems spare => uptoBulkAll elems + uptoBulkAll spare + 1
  | .agg parts => uptoBulkAll parts + 1
  | .iface _ d => uptoBulk d + 1
  | .map entries => uptoBulkEntries entries + 1
  | .held _ => 1
def uptoBulkAll {H : Type} : List (DataW H) → Nat
  | [] => 0
  | d :: r => uptoBulk d + uptoBulkAll r
def uptoBulkEntries {H : Type} : List (Lit × DataW H) → Nat
  | [] => 0
  | x :: r => uptoBulkEntry x + uptoBulkEntries r
def uptoBulkEntry {H : Type} : Lit × DataW H → Nat
  | (.string bytes, d) => bytes.length + uptoBulk d + 1
  | (_, d) => uptoBulk d + 1
 end
def uptoSmall : (H : Type) → List (DataW H) → Bool := fun _ ds => decide (uptoBulkAll ds ≤ 1048576)
def OpenSpec.upto (s : _root_.Go.ChangeSpec) : _root_.Go.OpenSpec := { _root_.Go.OpenSpec.ofChange s with cond := some uptoSmall }

/-- 'anamorphlaw17.CodecNames', WHERE WHAT IT READS IS OF BULK AT MOST 1048576: true; the input reads as it did. -/
def codecNamesUptoRow : OpenClaim := { program := "ytpgikaeddhaiiaa", sum := "5dd288cc77724003a09de026442a58ffc61f0c98f9140e20950d4905b3188e9d", func := "anamorph/anamorphlaw17.CodecNames", spec := "codecNames", unfollowed := true, recurses := true, apart := false, narrowed := true }
def CodecNamesUptoSaid : Prop := codecNamesUptoRow.holds Try.pinned (OpenSpec.upto codecNamesSpec)

/-- 'anamorphlaw07.ImgMade', WHERE WHAT IT READS IS OF BULK AT MOST 1048576: true; the input reads as it did. -/
def imgMadeUptoRow : OpenClaim := { program := "ytpgikaeddhaiiaa", sum := "5dd288cc77724003a09de026442a58ffc61f0c98f9140e20950d4905b3188e9d", func := "anamorph/anamorphlaw07.ImgMade", spec := "imgMade", inPlace := ["internal/bytealg.MakeNoZero"], apart := false, narrowed := true }
def ImgMadeUptoSaid : Prop := imgMadeUptoRow.holds Try.pinned (OpenSpec.upto imgMadeSpec)

/-- 'anamorphlaw10.PermNames', WHERE WHAT IT READS IS OF BULK AT MOST 1048576: true; the input reads as it did. -/
def permNamesUptoRow : OpenClaim := { program := "ytpgikaeddhaiiaa", sum := "5dd288cc77724003a09de026442a58ffc61f0c98f9140e20950d4905b3188e9d", func := "anamorph/anamorphlaw10.PermNames", spec := "permNames", unfollowed := true, recurses := true, apart := false, narrowed := true }
def PermNamesUptoSaid : Prop := permNamesUptoRow.holds Try.pinned (OpenSpec.upto permNamesSpec)

/-- 'anamorphlaw10.PermIs', WHERE WHAT IT READS IS OF BULK AT MOST 1048576: true; the input reads as it did. -/
def permIsUptoRow : OpenClaim := { program := "ytpgikaeddhaiiaa", sum := "5dd288cc77724003a09de026442a58ffc61f0c98f9140e20950d4905b3188e9d", func := "anamorph/anamorphlaw10.PermIs", spec := "permIs", unfollowed := true, recurses := true, apart := false, narrowed := true }
def PermIsUptoSaid : Prop := permIsUptoRow.holds Try.pinned (OpenSpec.upto permIsSpec)

/-- 'anamorphlaw10.PermMakes', WHERE WHAT IT READS IS OF BULK AT MOST 1048576: true; the input reads as it did. -/
def permMakesUptoRow : OpenClaim := { program := "ytpgikaeddhaiiaa", sum := "5dd288cc77724003a09de026442a58ffc61f0c98f9140e20950d4905b3188e9d", func := "anamorph/anamorphlaw10.PermMakes", spec := "permMakes", unfollowed := true, recurses := true, apart := false, narrowed := true }
def PermMakesUptoSaid : Prop := permMakesUptoRow.holds Try.pinned (OpenSpec.upto permMakesSpec)

/-- 'anamorphlaw10.PermTurns', WHERE WHAT IT READS IS OF BULK AT MOST 1048576: true; the input reads as it did. -/
def permTurnsUptoRow : OpenClaim := { program := "ytpgikaeddhaiiaa", sum := "5dd288cc77724003a09de026442a58ffc61f0c98f9140e20950d4905b3188e9d", func := "anamorph/anamorphlaw10.PermTurns", spec := "permTurns", unfollowed := true, recurses := true, apart := false, narrowed := true }
def PermTurnsUptoSaid : Prop := permTurnsUptoRow.holds Try.pinned (OpenSpec.upto permTurnsSpec)

/-- 'anamorphlaw23.TurnAsks', WHERE WHAT IT READS IS OF BULK AT MOST 1048576: true; the input reads as it did. -/
def turnAsksUptoRow : OpenClaim := { program := "ytpgikaeddhaiiaa", sum := "5dd288cc77724003a09de026442a58ffc61f0c98f9140e20950d4905b3188e9d", func := "anamorph/anamorphlaw23.TurnAsks", spec := "turnAsks", unfollowed := true, recurses := true, apart := false, narrowed := true }
def TurnAsksUptoSaid : Prop := turnAsksUptoRow.holds Try.pinned (OpenSpec.upto turnAsksSpec)

/-- 'anamorphlaw23.TurnImages', WHERE WHAT IT READS IS OF BULK AT MOST 1048576: true; the input reads as it did. -/
def turnImagesUptoRow : OpenClaim := { program := "ytpgikaeddhaiiaa", sum := "5dd288cc77724003a09de026442a58ffc61f0c98f9140e20950d4905b3188e9d", func := "anamorph/anamorphlaw23.TurnImages", spec := "turnImages", unfollowed := true, recurses := true, apart := false, narrowed := true }
def TurnImagesUptoSaid : Prop := turnImagesUptoRow.holds Try.pinned (OpenSpec.upto turnImagesSpec)

/-- 'anamorphlaw23.TurnThen', WHERE WHAT IT READS IS OF BULK AT MOST 1048576: true; the input reads as it did. -/
def turnThenUptoRow : OpenClaim := { program := "ytpgikaeddhaiiaa", sum := "5dd288cc77724003a09de026442a58ffc61f0c98f9140e20950d4905b3188e9d", func := "anamorph/anamorphlaw23.TurnThen", spec := "turnThen", unfollowed := true, recurses := true, apart := false, narrowed := true }
def TurnThenUptoSaid : Prop := turnThenUptoRow.holds Try.pinned (OpenSpec.upto turnThenSpec)

/-- 'anamorphlaw09.GridOver', WHERE WHAT IT READS IS OF BULK AT MOST 1048576: true; the input reads as it did. -/
def gridOverUptoRow : OpenClaim := { program := "ytpgikaeddhaiiaa", sum := "5dd288cc77724003a09de026442a58ffc61f0c98f9140e20950d4905b3188e9d", func := "anamorph/anamorphlaw09.GridOver", spec := "gridOver", apart := false, narrowed := true }
def GridOverUptoSaid : Prop := gridOverUptoRow.holds Try.pinned (OpenSpec.upto gridOverSpec)

/-- 'anamorphlaw14.CutOwn', WHERE WHAT IT READS IS OF BULK AT MOST 1048576: true; the input reads as it did. -/
def cutOwnUptoRow : OpenClaim := { program := "ytpgikaeddhaiiaa", sum := "5dd288cc77724003a09de026442a58ffc61f0c98f9140e20950d4905b3188e9d", func := "anamorph/anamorphlaw14.CutOwn", spec := "cutOwn", apart := false, narrowed := true }
def CutOwnUptoSaid : Prop := cutOwnUptoRow.holds Try.pinned (OpenSpec.upto cutOwnSpec)

/-- 'anamorphlaw14.CutSteps', WHERE WHAT IT READS IS OF BULK AT MOST 1048576: true; the input reads as it did. -/
def cutStepsUptoRow : OpenClaim := { program := "ytpgikaeddhaiiaa", sum := "5dd288cc77724003a09de026442a58ffc61f0c98f9140e20950d4905b3188e9d", func := "anamorph/anamorphlaw14.CutSteps", spec := "cutSteps", apart := false, narrowed := true }
def CutStepsUptoSaid : Prop := cutStepsUptoRow.holds Try.pinned (OpenSpec.upto cutStepsSpec)

end Rows
end Go.Proofs.Ytpgikaeddhaiiaa
