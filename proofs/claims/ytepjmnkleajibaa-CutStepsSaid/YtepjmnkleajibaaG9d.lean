
/- The laws' own words of the layer grid. No condition. -/
import Derived.Test.YtepjmnkleajibaaG9c
namespace Go.Proofs.Ytepjmnkleajibaa
open Go Go.RowKit
set_option linter.unusedVariables false
set_option linter.unusedSimpArgs false
set_option maxRecDepth 100000

/-- A function of no argument. -/
def sN (v : AV) : PSpec := fun l => match l with | [] => some ([], v) | _ => none
theorem sN_inv {w : AV} {l : List AV} {obs : List Prop} {v : AV} (h : sN w l = some (obs, v)) : l = [] ∧ v = w := by
  unfold sN at h
  split at h
  · simp only [Option.some.injEq, Prod.mk.injEq] at h; exact ⟨rfl, h.2.symm⟩
  · cases h
abbrev gtileS : PSpec := sRI fun g i => .tup [(gtile g i).av, .bool (gis g i)]
end Go.Proofs.Ytepjmnkleajibaa
