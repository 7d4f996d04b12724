
/- More of the layer img: New, Set, and the law's own words. No condition. -/
import Derived.Test.YtepjmnkleajibaaI7
namespace Go.Proofs.Ytepjmnkleajibaa
open Go Go.RowKit
set_option linter.unusedVariables false
set_option linter.unusedSimpArgs false
set_option maxRecDepth 100000

def newN (w h c : Int) : Nat := if fitsI w h c = 0 then (w * h * c).toNat else 0
abbrev newS : PSpec := sIII fun w h c => .tup [imA (if fitsI w h c = 0 then w else 0) (if fitsI w h c = 0 then h else 0) (if fitsI w h c = 0 then c else 0) (List.replicate (newN w h c) 0), .int .i64 (fitsI w h c)]
theorem new_s : SOK Try.prog 106 newS := by
  refine sok_of (C := mkC 0 [(148, fitsS)] noG) (mkC_ok (pok_cons fits_s pok_nil) noG_ok) rfl mixed ⟨Try.func106, by kernel_rfl, by kernel_rfl, by kernel_rfl⟩ fun l obs v h ho => ?_
  obtain ⟨w, hh, c, rfl, rfl⟩ := sIII_inv h
  clear h ho
  refine ⟨Nat.le_of_ble_eq_true rfl, ?_⟩
  refine ⟨fun h1 => ?_, fun h1 => ?_⟩
  · have h1 : ¬ fitsI w hh c = 0 := of_decide_eq_true h1
    have e : newN w hh c = 0 := if_neg h1
    simp only [if_neg h1, e, List.replicate_zero]
    (repeat' (first | apply And.intro | intro h)); (all_goals (try exact Chk.mk (by kernel_rfl)))
    (all_goals (try first | exact True.intro | exact rfl | exact And.intro rfl rfl | exact And.intro rfl (fun _ _ => rfl)))
  · have h1 : fitsI w hh c = 0 := by simpa using h1
    have hb := fits_inv h1
    have e : newN w hh c = (w * hh * c).toNat := if_pos h1
    simp only [if_pos h1, e]
    obtain ⟨q1, q2⟩ := whc_rng h1
    (repeat' (first | apply And.intro | intro h)); (all_goals (try exact Chk.mk (by kernel_rfl)))
    (all_goals (try first | assumption | exact rfl | exact True.intro | contradiction | (exfalso; simp only [decide_eq_true_eq, decide_eq_false_iff_not, Bool.not_eq_true', Bool.not_eq_false', Bool.and_eq_true, Bool.or_eq_true, Bool.and_eq_false_iff, Bool.or_eq_false_iff, Int.not_lt, Int.not_le, ne_eq, Classical.not_not] at *; omega)))
    · show 0 ≤ w * hh * c; omega
    · exact Int.le_refl _
    · show w * hh * c ≤ 140737488355328; omega
    · show w * hh * c * ((1 : Nat) : Int) ≤ 140737488355328; omega
    · show 0 + (w * hh * c).toNat ≤ (List.replicate (w * hh * c).toNat (0 : Int)).length; simp
    · show List.take (w * hh * c).toNat (List.replicate (w * hh * c).toNat 0) = List.replicate (w * hh * c).toNat 0; simp
    · exact h1.symm
abbrev setNilS : PSpec := fun l => match l with | [.nilp, .int .i64 _, .int .i64 _, .int .i64 _, .int .u8 _] => some ([], .bool false) | _ => none
def setL (w h c x y k v : Int) (p : List Int) : List Int := if isI w h c p.length x y k = true then p.set (plI w c x y k).toNat v else p
def setF : FSpec := fun l es => match l, es with
  | [.ptr 0 0, .int .i64 x, .int .i64 y, .int .i64 k, .int .u8 v], [.cells 40 [.int .i64 w, .int .i64 h, .int .i64 c, .sl 1 1 0 n], .ints 5 .u8 p] =>
    some ([n = p.length], .bool (isI w h c p.length x y k), [some (.cells 40 [.int .i64 w, .int .i64 h, .int .i64 c, .sl 1 1 0 n]), some (.ints 5 .u8 (setL w h c x y k v p))])
  | _, _ => none
abbrev aliveS : PSpec := sN (.bool true)
end Go.Proofs.Ytepjmnkleajibaa
