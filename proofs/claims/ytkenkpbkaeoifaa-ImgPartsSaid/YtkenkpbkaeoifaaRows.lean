/-
  No cell of these rows narrows 'for every input' (looked for: loops, veiled, ifaces, maps, wideKeys, modest, calm, conditions, laid).
  DERIVED. THE GIVEN ROWS OF THIS SEAT. 12 by the template 'for every input the law returns true; each argument reads behind the call as it read before'; 0 by the template 'total and deterministic' (their statements: YtkenkpbkaeoifaaTotals.lean).
  GIVEN WITH THE SEED: the statements are not yours to turn. If you find one false, say at which input.
  Laid BY PROGRAM, IN A SANDBOX (cutbox-rows.mjs): the forced cells as the released guide's own fill.sh prints them over the translation c9d99f9b17a78b69… (all of the seat's roots in one cut). By AI agents, Wed Nov 11 2026. No macro, syntax, notation, axiom, sorry.
-/
import Derived.Test.YtkenkpbkaeoifaaChecked
import GoSem.Claim
import GoSem.ClaimJoined
import GoSem.ClaimMapViews
import Derived.JoinedTies
import Derived.KernelRfl
namespace Go.Proofs.Ytkenkpbkaeoifaa
/- THE CELL 'sum', in the pinned program and in every row, IS THE sha256 OF THE DUMP (.gsa) THAT YtkenkpbkaeoifaaProg.lean LOADS. Nothing in Lean hashes anything: it is a label: what it is worth is what the hold of that sum in a sandbox is worth. -/
noncomputable def Try.pinned : Pinned := { name := "ytkenkpbkaeoifaa", sum := "c9d99f9b17a78b696a329d34084124e5eeac9f82355a5b149e6fe83b6a6f94ee", checked := Try.checked }
namespace Rows
def none {H : Type} : Left H := { results := [], args := [] }

/-- 'anamorphlaw11.TintJoins': WHATEVER THE INPUT: true; the input reads as it did. -/
def tintJoinsSpec : ChangeSpec := { name := "tintJoins", fn := fun _ => fun
  | [d] => { results := [.lit (.bool true)], args := [d] }
  | _ => none }
def tintJoinsRow : OpenClaim := { program := "ytkenkpbkaeoifaa", sum := "c9d99f9b17a78b696a329d34084124e5eeac9f82355a5b149e6fe83b6a6f94ee", func := "anamorph/anamorphlaw11.TintJoins", spec := "tintJoins", apart := false }
def TintJoinsSaid : Prop := tintJoinsRow.holds Try.pinned (OpenSpec.ofChange tintJoinsSpec)

/-- ITS FALSE NEIGHBOUR: 'it returns false'. Refute it at one input. -/
def tintJoinsWrong : ChangeSpec := { name := "tintJoins", fn := fun _ => fun
  | [d] => { results := [.lit (.bool false)], args := [d] }
  | _ => none }
def TintJoinsWrongFalsely : Prop := tintJoinsRow.holds Try.pinned (OpenSpec.ofChange tintJoinsWrong)

/-- 'anamorphlaw13.DiffThird': WHATEVER THE INPUT: true; the input reads as it did. -/
def diffThirdSpec : ChangeSpec := { name := "diffThird", fn := fun _ => fun
  | [d1, d2, d3] => { results := [.lit (.bool true)], args := [d1, d2, d3] }
  | _ => none }
def diffThirdRow : OpenClaim := { program := "ytkenkpbkaeoifaa", sum := "c9d99f9b17a78b696a329d34084124e5eeac9f82355a5b149e6fe83b6a6f94ee", func := "anamorph/anamorphlaw13.DiffThird", spec := "diffThird", unfollowed := true, recurses := true, apart := false }
def DiffThirdSaid : Prop := diffThirdRow.holds Try.pinned (OpenSpec.ofChange diffThirdSpec)

/-- ITS FALSE NEIGHBOUR: 'it returns false'. Refute it at one input. -/
def diffThirdWrong : ChangeSpec := { name := "diffThird", fn := fun _ => fun
  | [d1, d2, d3] => { results := [.lit (.bool false)], args := [d1, d2, d3] }
  | _ => none }
def DiffThirdWrongFalsely : Prop := diffThirdRow.holds Try.pinned (OpenSpec.ofChange diffThirdWrong)

/-- 'anamorphlaw13.DiffTells': WHATEVER THE INPUT: true; the input reads as it did. -/
def diffTellsSpec : ChangeSpec := { name := "diffTells", fn := fun _ => fun
  | [d1, d2, d3] => { results := [.lit (.bool true)], args := [d1, d2, d3] }
  | _ => none }
def diffTellsRow : OpenClaim := { program := "ytkenkpbkaeoifaa", sum := "c9d99f9b17a78b696a329d34084124e5eeac9f82355a5b149e6fe83b6a6f94ee", func := "anamorph/anamorphlaw13.DiffTells", spec := "diffTells", unfollowed := true, recurses := true, apart := false }
def DiffTellsSaid : Prop := diffTellsRow.holds Try.pinned (OpenSpec.ofChange diffTellsSpec)

/-- ITS FALSE NEIGHBOUR: 'it returns false'. Refute it at one input. -/
def diffTellsWrong : ChangeSpec := { name := "diffTells", fn := fun _ => fun
  | [d1, d2, d3] => { results := [.lit (.bool false)], args := [d1, d2, d3] }
  | _ => none }
def DiffTellsWrongFalsely : Prop := diffTellsRow.holds Try.pinned (OpenSpec.ofChange diffTellsWrong)

/-- 'anamorphlaw11.TintTells': WHATEVER THE INPUT: true; the input reads as it did. -/
def tintTellsSpec : ChangeSpec := { name := "tintTells", fn := fun _ => fun
  | [d1, d2, d3] => { results := [.lit (.bool true)], args := [d1, d2, d3] }
  | _ => none }
def tintTellsRow : OpenClaim := { program := "ytkenkpbkaeoifaa", sum := "c9d99f9b17a78b696a329d34084124e5eeac9f82355a5b149e6fe83b6a6f94ee", func := "anamorph/anamorphlaw11.TintTells", spec := "tintTells", unfollowed := true, recurses := true, apart := false }
def TintTellsSaid : Prop := tintTellsRow.holds Try.pinned (OpenSpec.ofChange tintTellsSpec)

/-- ITS FALSE NEIGHBOUR: 'it returns false'. Refute it at one input. -/
def tintTellsWrong : ChangeSpec := { name := "tintTells", fn := fun _ => fun
  | [d1, d2, d3] => { results := [.lit (.bool false)], args := [d1, d2, d3] }
  | _ => none }
def TintTellsWrongFalsely : Prop := tintTellsRow.holds Try.pinned (OpenSpec.ofChange tintTellsWrong)

/-- 'anamorphlaw11.TintBack': WHATEVER THE INPUT: true; the input reads as it did. -/
def tintBackSpec : ChangeSpec := { name := "tintBack", fn := fun _ => fun
  | [d1, d2] => { results := [.lit (.bool true)], args := [d1, d2] }
  | _ => none }
def tintBackRow : OpenClaim := { program := "ytkenkpbkaeoifaa", sum := "c9d99f9b17a78b696a329d34084124e5eeac9f82355a5b149e6fe83b6a6f94ee", func := "anamorph/anamorphlaw11.TintBack", spec := "tintBack", unfollowed := true, recurses := true, apart := false }
def TintBackSaid : Prop := tintBackRow.holds Try.pinned (OpenSpec.ofChange tintBackSpec)

/-- ITS FALSE NEIGHBOUR: 'it returns false'. Refute it at one input. -/
def tintBackWrong : ChangeSpec := { name := "tintBack", fn := fun _ => fun
  | [d1, d2] => { results := [.lit (.bool false)], args := [d1, d2] }
  | _ => none }
def TintBackWrongFalsely : Prop := tintBackRow.holds Try.pinned (OpenSpec.ofChange tintBackWrong)

/-- 'anamorphlaw23.TurnAsks': WHATEVER THE INPUT: true; the input reads as it did. -/
def turnAsksSpec : ChangeSpec := { name := "turnAsks", fn := fun _ => fun
  | [d1, d2] => { results := [.lit (.bool true)], args := [d1, d2] }
  | _ => none }
def turnAsksRow : OpenClaim := { program := "ytkenkpbkaeoifaa", sum := "c9d99f9b17a78b696a329d34084124e5eeac9f82355a5b149e6fe83b6a6f94ee", func := "anamorph/anamorphlaw23.TurnAsks", spec := "turnAsks", unfollowed := true, recurses := true, apart := false }
def TurnAsksSaid : Prop := turnAsksRow.holds Try.pinned (OpenSpec.ofChange turnAsksSpec)

/-- ITS FALSE NEIGHBOUR: 'it returns false'. Refute it at one input. -/
def turnAsksWrong : ChangeSpec := { name := "turnAsks", fn := fun _ => fun
  | [d1, d2] => { results := [.lit (.bool false)], args := [d1, d2] }
  | _ => none }
def TurnAsksWrongFalsely : Prop := turnAsksRow.holds Try.pinned (OpenSpec.ofChange turnAsksWrong)

/-- 'anamorphlaw07.ImgParts': WHATEVER THE INPUT: true; the input reads as it did. -/
def imgPartsSpec : ChangeSpec := { name := "imgParts", fn := fun _ => fun
  | [d1, d2] => { results := [.lit (.bool true)], args := [d1, d2] }
  | _ => none }
def imgPartsRow : OpenClaim := { program := "ytkenkpbkaeoifaa", sum := "c9d99f9b17a78b696a329d34084124e5eeac9f82355a5b149e6fe83b6a6f94ee", func := "anamorph/anamorphlaw07.ImgParts", spec := "imgParts", unfollowed := true, recurses := true, apart := false }
def ImgPartsSaid : Prop := imgPartsRow.holds Try.pinned (OpenSpec.ofChange imgPartsSpec)

/-- ITS FALSE NEIGHBOUR: 'it returns false'. Refute it at one input. -/
def imgPartsWrong : ChangeSpec := { name := "imgParts", fn := fun _ => fun
  | [d1, d2] => { results := [.lit (.bool false)], args := [d1, d2] }
  | _ => none }
def ImgPartsWrongFalsely : Prop := imgPartsRow.holds Try.pinned (OpenSpec.ofChange imgPartsWrong)

/-- 'anamorphlaw09.GridOver': WHATEVER THE INPUT: true; the input reads as it did. -/
def gridOverSpec : ChangeSpec := { name := "gridOver", fn := fun _ => fun
  | [d1, d2, d3] => { results := [.lit (.bool true)], args := [d1, d2, d3] }
  | _ => none }
def gridOverRow : OpenClaim := { program := "ytkenkpbkaeoifaa", sum := "c9d99f9b17a78b696a329d34084124e5eeac9f82355a5b149e6fe83b6a6f94ee", func := "anamorph/anamorphlaw09.GridOver", spec := "gridOver", apart := false }
def GridOverSaid : Prop := gridOverRow.holds Try.pinned (OpenSpec.ofChange gridOverSpec)

/-- ITS FALSE NEIGHBOUR: 'it returns false'. Refute it at one input. -/
def gridOverWrong : ChangeSpec := { name := "gridOver", fn := fun _ => fun
  | [d1, d2, d3] => { results := [.lit (.bool false)], args := [d1, d2, d3] }
  | _ => none }
def GridOverWrongFalsely : Prop := gridOverRow.holds Try.pinned (OpenSpec.ofChange gridOverWrong)

/-- 'anamorphlaw10.PermIs': WHATEVER THE INPUT: true; the input reads as it did. -/
def permIsSpec : ChangeSpec := { name := "permIs", fn := fun _ => fun
  | [d1, d2, d3] => { results := [.lit (.bool true)], args := [d1, d2, d3] }
  | _ => none }
def permIsRow : OpenClaim := { program := "ytkenkpbkaeoifaa", sum := "c9d99f9b17a78b696a329d34084124e5eeac9f82355a5b149e6fe83b6a6f94ee", func := "anamorph/anamorphlaw10.PermIs", spec := "permIs", unfollowed := true, recurses := true, apart := false }
def PermIsSaid : Prop := permIsRow.holds Try.pinned (OpenSpec.ofChange permIsSpec)

/-- ITS FALSE NEIGHBOUR: 'it returns false'. Refute it at one input. -/
def permIsWrong : ChangeSpec := { name := "permIs", fn := fun _ => fun
  | [d1, d2, d3] => { results := [.lit (.bool false)], args := [d1, d2, d3] }
  | _ => none }
def PermIsWrongFalsely : Prop := permIsRow.holds Try.pinned (OpenSpec.ofChange permIsWrong)

/-- 'anamorphlaw10.PermNames': WHATEVER THE INPUT: true; the input reads as it did. -/
def permNamesSpec : ChangeSpec := { name := "permNames", fn := fun _ => fun
  | [d1, d2] => { results := [.lit (.bool true)], args := [d1, d2] }
  | _ => none }
def permNamesRow : OpenClaim := { program := "ytkenkpbkaeoifaa", sum := "c9d99f9b17a78b696a329d34084124e5eeac9f82355a5b149e6fe83b6a6f94ee", func := "anamorph/anamorphlaw10.PermNames", spec := "permNames", unfollowed := true, recurses := true, apart := false }
def PermNamesSaid : Prop := permNamesRow.holds Try.pinned (OpenSpec.ofChange permNamesSpec)

/-- ITS FALSE NEIGHBOUR: 'it returns false'. Refute it at one input. -/
def permNamesWrong : ChangeSpec := { name := "permNames", fn := fun _ => fun
  | [d1, d2] => { results := [.lit (.bool false)], args := [d1, d2] }
  | _ => none }
def PermNamesWrongFalsely : Prop := permNamesRow.holds Try.pinned (OpenSpec.ofChange permNamesWrong)

/-- 'anamorphlaw31.MipHalves': WHATEVER THE INPUT: true; the input reads as it did. -/
def mipHalvesSpec : ChangeSpec := { name := "mipHalves", fn := fun _ => fun
  | [d1, d2] => { results := [.lit (.bool true)], args := [d1, d2] }
  | _ => none }
def mipHalvesRow : OpenClaim := { program := "ytkenkpbkaeoifaa", sum := "c9d99f9b17a78b696a329d34084124e5eeac9f82355a5b149e6fe83b6a6f94ee", func := "anamorph/anamorphlaw31.MipHalves", spec := "mipHalves", unfollowed := true, recurses := true, apart := false }
def MipHalvesSaid : Prop := mipHalvesRow.holds Try.pinned (OpenSpec.ofChange mipHalvesSpec)

/-- ITS FALSE NEIGHBOUR: 'it returns false'. Refute it at one input. -/
def mipHalvesWrong : ChangeSpec := { name := "mipHalves", fn := fun _ => fun
  | [d1, d2] => { results := [.lit (.bool false)], args := [d1, d2] }
  | _ => none }
def MipHalvesWrongFalsely : Prop := mipHalvesRow.holds Try.pinned (OpenSpec.ofChange mipHalvesWrong)

/-- 'anamorphlaw07.ImgMade': WHATEVER THE INPUT: true; the input reads as it did. -/
def imgMadeSpec : ChangeSpec := { name := "imgMade", fn := fun _ => fun
  | [d1, d2, d3] => { results := [.lit (.bool true)], args := [d1, d2, d3] }
  | _ => none }
def imgMadeRow : OpenClaim := { program := "ytkenkpbkaeoifaa", sum := "c9d99f9b17a78b696a329d34084124e5eeac9f82355a5b149e6fe83b6a6f94ee", func := "anamorph/anamorphlaw07.ImgMade", spec := "imgMade", inPlace := ["internal/bytealg.MakeNoZero"], apart := false }
def ImgMadeSaid : Prop := imgMadeRow.holds Try.pinned (OpenSpec.ofChange imgMadeSpec)

/-- ITS FALSE NEIGHBOUR: 'it returns false'. Refute it at one input. -/
def imgMadeWrong : ChangeSpec := { name := "imgMade", fn := fun _ => fun
  | [d1, d2, d3] => { results := [.lit (.bool false)], args := [d1, d2, d3] }
  | _ => none }
def ImgMadeWrongFalsely : Prop := imgMadeRow.holds Try.pinned (OpenSpec.ofChange imgMadeWrong)

/- THE SECOND FORM. 'bulk': how many values and letters a reading holds, each counted each time it is reached (what is shared counts as often as it is met; a slice's spare places count too). A statement '..UptoSaid' is the law's where the arguments, and the package variables that the reading takes, are together of bulk at most 1048576: NARROWER than '..Said'. Prove '..Said' where nothing that the law and all that it calls make is longer than what came in: it says more and counts as full. Else prove '..UptoSaid'. A law counts once. -/
mutual
def uptoBulk {H : Type} : DataW H → Nat
  | .lit (.string bytes) => bytes.length + 1
  | .lit _ => 1
  | .nil => 1
  | .ptr d => uptoBulk d + 1
  | .slice elems spare => uptoBulkAll elems + uptoBulkAll spare + 1
  | .agg parts => uptoBulkAll parts + 1
  | .iface _ d => uptoBulk d + 1
  | .map entries => uptoBulkEntries entries + 1
  | .held _ => 1
def uptoBulkAll {H : Type} : List (DataW H) → Nat
  | [] => 0
  | d :: r => uptoBulk d + uptoBulkAll r
def uptoBulkEntries {H : Type} : List (Lit × DataW H) → Nat
  | [] => 0
  | x :: r => uptoBulkEntry x + uptoBulkEntries r
def uptoBulkEntry {H : Type} : Lit × DataW H → Nat
  | (.string bytes, d) => bytes.length + uptoBulk d + 1
  | (_, d) => uptoBulk d + 1
 end
def uptoSmall : (H : Type) → List (DataW H) → Bool := fun _ ds => decide (uptoBulkAll ds ≤ 1048576)
def OpenSpec.upto (s : _root_.Go.ChangeSpec) : _root_.Go.OpenSpec := { _root_.Go.OpenSpec.ofChange s with cond := some uptoSmall }

/-- 'anamorphlaw11.TintJoins', WHERE WHAT IT READS IS OF BULK AT MOST 1048576: true; the input reads as it did. -/
def tintJoinsUptoRow : OpenClaim := { program := "ytkenkpbkaeoifaa", sum := "c9d99f9b17a78b696a329d34084124e5eeac9f82355a5b149e6fe83b6a6f94ee", func := "anamorph/anamorphlaw11.TintJoins", spec := "tintJoins", apart := false, narrowed := true }
def TintJoinsUptoSaid : Prop := tintJoinsUptoRow.holds Try.pinned (OpenSpec.upto tintJoinsSpec)

/-- 'anamorphlaw13.DiffThird', WHERE WHAT IT READS IS OF BULK AT MOST 1048576: true; the input reads as it did. -/
def diffThirdUptoRow : OpenClaim := { program := "ytkenkpbkaeoifaa", sum := "c9d99f9b17a78b696a329d34084124e5eeac9f82355a5b149e6fe83b6a6f94ee", func := "anamorph/anamorphlaw13.DiffThird", spec := "diffThird", unfollowed := true, recurses := true, apart := false, narrowed := true }
def DiffThirdUptoSaid : Prop := diffThirdUptoRow.holds Try.pinned (OpenSpec.upto diffThirdSpec)

/-- 'anamorphlaw13.DiffTells', WHERE WHAT IT READS IS OF BULK AT MOST 1048576: true; the input reads as it did. -/
def diffTellsUptoRow : OpenClaim := { program := "ytkenkpbkaeoifaa", sum := "c9d99f9b17a78b696a329d34084124e5eeac9f82355a5b149e6fe83b6a6f94ee", func := "anamorph/anamorphlaw13.DiffTells", spec := "diffTells", unfollowed := true, recurses := true, apart := false, narrowed := true }
def DiffTellsUptoSaid : Prop := diffTellsUptoRow.holds Try.pinned (OpenSpec.upto diffTellsSpec)

/-- 'anamorphlaw11.TintTells', WHERE WHAT IT READS IS OF BULK AT MOST 1048576: true; the input reads as it did. -/
def tintTellsUptoRow : OpenClaim := { program := "ytkenkpbkaeoifaa", sum := "c9d99f9b17a78b696a329d34084124e5eeac9f82355a5b149e6fe83b6a6f94ee", func := "anamorph/anamorphlaw11.TintTells", spec := "tintTells", unfollowed := true, recurses := true, apart := false, narrowed := true }
def TintTellsUptoSaid : Prop := tintTellsUptoRow.holds Try.pinned (OpenSpec.upto tintTellsSpec)

/-- 'anamorphlaw11.TintBack', WHERE WHAT IT READS IS OF BULK AT MOST 1048576: true; the input reads as it did. -/
def tintBackUptoRow : OpenClaim := { program := "ytkenkpbkaeoifaa", sum := "c9d99f9b17a78b696a329d34084124e5eeac9f82355a5b149e6fe83b6a6f94ee", func := "anamorph/anamorphlaw11.TintBack", spec := "tintBack", unfollowed := true, recurses := true, apart := false, narrowed := true }
def TintBackUptoSaid : Prop := tintBackUptoRow.holds Try.pinned (OpenSpec.upto tintBackSpec)

/-- 'anamorphlaw23.TurnAsks', WHERE WHAT IT READS IS OF BULK AT MOST 1048576: true; the input reads as it did. -/
def turnAsksUptoRow : OpenClaim := { program := "ytkenkpbkaeoifaa", sum := "c9d99f9b17a78b696a329d34084124e5eeac9f82355a5b149e6fe83b6a6f94ee", func := "anamorph/anamorphlaw23.TurnAsks", spec := "turnAsks", unfollowed := true, recurses := true, apart := false, narrowed := true }
def TurnAsksUptoSaid : Prop := turnAsksUptoRow.holds Try.pinned (OpenSpec.upto turnAsksSpec)

/-- 'anamorphlaw07.ImgParts', WHERE WHAT IT READS IS OF BULK AT MOST 1048576: true; the input reads as it did. -/
def imgPartsUptoRow : OpenClaim := { program := "ytkenkpbkaeoifaa", sum := "c9d99f9b17a78b696a329d34084124e5eeac9f82355a5b149e6fe83b6a6f94ee", func := "anamorph/anamorphlaw07.ImgParts", spec := "imgParts", unfollowed := true, recurses := true, apart := false, narrowed := true }
def ImgPartsUptoSaid : Prop := imgPartsUptoRow.holds Try.pinned (OpenSpec.upto imgPartsSpec)

/-- 'anamorphlaw09.GridOver', WHERE WHAT IT READS IS OF BULK AT MOST 1048576: true; the input reads as it did. -/
def gridOverUptoRow : OpenClaim := { program := "ytkenkpbkaeoifaa", sum := "c9d99f9b17a78b696a329d34084124e5eeac9f82355a5b149e6fe83b6a6f94ee", func := "anamorph/anamorphlaw09.GridOver", spec := "gridOver", apart := false, narrowed := true }
def GridOverUptoSaid : Prop := gridOverUptoRow.holds Try.pinned (OpenSpec.upto gridOverSpec)

/-- 'anamorphlaw10.PermIs', WHERE WHAT IT READS IS OF BULK AT MOST 1048576: true; the input reads as it did. -/
def permIsUptoRow : OpenClaim := { program := "ytkenkpbkaeoifaa", sum := "c9d99f9b17a78b696a329d34084124e5eeac9f82355a5b149e6fe83b6a6f94ee", func := "anamorph/anamorphlaw10.PermIs", spec := "permIs", unfollowed := true, recurses := true, apart := false, narrowed := true }
def PermIsUptoSaid : Prop := permIsUptoRow.holds Try.pinned (OpenSpec.upto permIsSpec)

/-- 'anamorphlaw10.PermNames', WHERE WHAT IT READS IS OF BULK AT MOST 1048576: true; the input reads as it did. -/
def permNamesUptoRow : OpenClaim := { program := "ytkenkpbkaeoifaa", sum := "c9d99f9b17a78b696a329d34084124e5eeac9f82355a5b149e6fe83b6a6f94ee", func := "anamorph/anamorphlaw10.PermNames", spec := "permNames", unfollowed := true, recurses := true, apart := false, narrowed := true }
def PermNamesUptoSaid : Prop := permNamesUptoRow.holds Try.pinned (OpenSpec.upto permNamesSpec)

/-- 'anamorphlaw31.MipHalves', WHERE WHAT IT READS IS OF BULK AT MOST 1048576: true; the input reads as it did. -/
def mipHalvesUptoRow : OpenClaim := { program := "ytkenkpbkaeoifaa", sum := "c9d99f9b17a78b696a329d34084124e5eeac9f82355a5b149e6fe83b6a6f94ee", func := "anamorph/anamorphlaw31.MipHalves", spec := "mipHalves", unfollowed := true, recurses := true, apart := false, narrowed := true }
def MipHalvesUptoSaid : Prop := mipHalvesUptoRow.holds Try.pinned (OpenSpec.upto mipHalvesSpec)

/-- 'anamorphlaw07.ImgMade', WHERE WHAT IT READS IS OF BULK AT MOST 1048576: true; the input reads as it did. -/
def imgMadeUptoRow : OpenClaim := { program := "ytkenkpbkaeoifaa", sum := "c9d99f9b17a78b696a329d34084124e5eeac9f82355a5b149e6fe83b6a6f94ee", func := "anamorph/anamorphlaw07.ImgMade", spec := "imgMade", inPlace := ["internal/bytealg.MakeNoZero"], apart := false, narrowed := true }
def ImgMadeUptoSaid : Prop := imgMadeUptoRow.holds Try.pinned (OpenSpec.upto imgMadeSpec)

end Rows
end Go.Proofs.Ytkenkpbkaeoifaa
