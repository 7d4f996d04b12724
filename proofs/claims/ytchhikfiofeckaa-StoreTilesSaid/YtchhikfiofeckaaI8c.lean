
/- One image put into another: what img.Paste does. No condition. -/
import Derived.Test.YtchhikfiofeckaaI8b
namespace Go.Proofs.Ytchhikfiofeckaa
open Go Go.RowKit
set_option linter.unusedVariables false
set_option linter.unusedSimpArgs false
set_option maxRecDepth 100000

abbrev pasteNilS : PSpec := fun l => match l with
  | [.nilp, .agg [.int .i64 _, .int .i64 _, .int .i64 _, .roi .u8 _], .int .i64 _, .int .i64 _] => some ([], .int .i64 10) | _ => none
def pasteI (w h c : Int) (m : List Int) (v g d : Int) (a : List Int) (x y : Int) : List Int := if pasteC w h c m.length v g d a.length x y = 0 then rowsL m a (v * d).toNat (baseR w c x y) g.toNat else m
theorem paste_eq (w h c : Int) (m : List Int) (v g d : Int) (a : List Int) (x y : Int) : pasteI w h c m v g d a x y = pasteL w h c m v g d a x y := by
  unfold pasteI pasteL
  split
  · rename_i hp
    have hq := paste_inv hp
    obtain ⟨r1, r2, _⟩ := paste_row hq
    rw [r1, step_rows (fun r hr => (r2 r hr).2) r1 g.toNat (Nat.le_refl _)]
  · rfl
def pasteF : FSpec := fun l es => match l, es with
  | [.ptr 0 0, .agg [.int .i64 v, .int .i64 g, .int .i64 d, .roi .u8 a], .int .i64 x, .int .i64 y], [.cells 26 [.int .i64 w, .int .i64 h, .int .i64 c, .sl 1 1 0 n], .ints 5 .u8 m] =>
    some ([n = m.length], .int .i64 (pasteC w h c m.length v g d a.length x y), [some (.cells 26 [.int .i64 w, .int .i64 h, .int .i64 c, .sl 1 1 0 n]), some (.ints 5 .u8 (pasteI w h c m v g d a x y))])
  | _, _ => none
end Go.Proofs.Ytchhikfiofeckaa
