
/- The document's columns of a grid. Condition: the grid is right. -/
import Derived.Test.YtepjmnkleajibaaG9b
namespace Go.Proofs.Ytepjmnkleajibaa
open Go Go.RowKit
set_option linter.unusedVariables false
set_option linter.unusedSimpArgs false
set_option maxRecDepth 100000

def rcolsS : PSpec := fun l => match l with | [.agg [.int .i64 a, .int .i64 b, .int .i64 c, .int .i64 d]] => some ([gcheck ⟨a, b, c, d⟩ = 0], .int .i64 (gcols ⟨a, b, c, d⟩)) | _ => none

theorem tiles_len {g : R4} (h : gcheck g = 0) : (tilesL g (rN g)).length ≤ 1073741824 := by
  rw [tilesL_len]
  have := gcount_bd g
  rw [gcount_eq h] at this
  omega
end Go.Proofs.Ytepjmnkleajibaa
