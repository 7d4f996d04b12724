
/- The document's tiles of a grid. Condition: the grid is right. -/
import Derived.Test.YtepjmnkleajibaaG9
namespace Go.Proofs.Ytepjmnkleajibaa
open Go Go.RowKit
set_option linter.unusedVariables false
set_option linter.unusedSimpArgs false
set_option maxRecDepth 100000

abbrev rectsA (l : List R4) : AV := .ro 4 l.length (fun j => (l.getD j .zero).av)
def tilesS : PSpec := fun l => match l with | [.agg [.int .i64 a, .int .i64 b, .int .i64 c, .int .i64 d]] => some ([gcheck ⟨a, b, c, d⟩ = 0], rectsA (tilesL ⟨a, b, c, d⟩ (rN ⟨a, b, c, d⟩))) | _ => none

theorem getD_snoc (l : List R4) (x : R4) (i : Nat) (h : i < l.length + 1) : (l ++ [x]).getD i .zero = if i < l.length then l.getD i .zero else x := by
  by_cases hc : i < l.length
  · rw [if_pos hc]; simp [List.getD, List.getElem?_append_left hc]
  · rw [if_neg hc]
    have : i = l.length := by omega
    subst this; simp [List.getD]

end Go.Proofs.Ytepjmnkleajibaa
