
/- More answers of the layer rect: Grow, and the document's Area and Around. No condition. -/
import Derived.Test.YtchhikfiofeckaaG9d
namespace Go.Proofs.Ytchhikfiofeckaa
open Go Go.RowKit
set_option linter.unusedVariables false
set_option linter.unusedSimpArgs false
set_option maxRecDepth 100000

section
variable {r : R4}
theorem ra_w (r : R4) : rngI .i64 (r.norm.x1 - r.norm.x0) := by have := R4.norm_bounds r; exact rng64 (by omega) (by omega)
theorem ra_h (r : R4) : rngI .i64 (r.norm.y1 - r.norm.y0) := by have := R4.norm_bounds r; exact rng64 (by omega) (by omega)
theorem ra_td (r : R4) (h : decide (0 < r.norm.y1 - r.norm.y0) = true) : Int.tdiv 9223372036854775807 (r.norm.y1 - r.norm.y0) = 9223372036854775807 / (r.norm.y1 - r.norm.y0) := Int.tdiv_eq_ediv_of_nonneg (by omega)
theorem ra_ne (r : R4) (h : decide (0 < r.norm.y1 - r.norm.y0) = true) (h0 : r.norm.y1 - r.norm.y0 = 0) : False := by
  replace h := of_decide_eq_true h; omega
theorem ra_q (r : R4) (h : decide (0 < r.norm.y1 - r.norm.y0) = true) : rngI .i64 (Int.tdiv 9223372036854775807 (r.norm.y1 - r.norm.y0)) := by
  rw [ra_td r h]
  replace h := of_decide_eq_true h
  have h1 : 0 ≤ 9223372036854775807 / (r.norm.y1 - r.norm.y0) := Int.ediv_nonneg (by omega) (by omega)
  have h2 : 9223372036854775807 / (r.norm.y1 - r.norm.y0) ≤ 9223372036854775807 := Int.ediv_le_self _ (by omega)
  exact rng64 (by omega) (by omega)
theorem ra_v1 (r : R4) (h : decide (0 < r.norm.y1 - r.norm.y0) = true) (hd : decide (Int.tdiv 9223372036854775807 (r.norm.y1 - r.norm.y0) < r.norm.x1 - r.norm.x0) = true) : 9223372036854775807 = r.rarea := by
  rw [ra_td r h] at hd
  exact (if_pos ⟨of_decide_eq_true h, of_decide_eq_true hd⟩).symm
theorem ra_p (r : R4) (h : decide (0 < r.norm.y1 - r.norm.y0) = true) (hd : decide (Int.tdiv 9223372036854775807 (r.norm.y1 - r.norm.y0) < r.norm.x1 - r.norm.x0) = false) : rngI .i64 ((r.norm.x1 - r.norm.x0) * (r.norm.y1 - r.norm.y0)) := by
  rw [ra_td r h] at hd
  replace h := of_decide_eq_true h
  replace hd := of_decide_eq_false hd
  have := R4.norm_bounds r
  have := area_fit (w := r.norm.x1 - r.norm.x0) h (by omega) (by omega)
  exact rng64 (by omega) (by omega)
theorem ra_v2 (r : R4) (h : decide (0 < r.norm.y1 - r.norm.y0) = true) (hd : decide (Int.tdiv 9223372036854775807 (r.norm.y1 - r.norm.y0) < r.norm.x1 - r.norm.x0) = false) : (r.norm.x1 - r.norm.x0) * (r.norm.y1 - r.norm.y0) = r.rarea := by
  rw [ra_td r h] at hd
  exact (if_neg (fun hh => of_decide_eq_false hd hh.2)).symm
theorem ra_h0 (r : R4) (h : decide (0 < r.norm.y1 - r.norm.y0) = false) : r.norm.y1 - r.norm.y0 = 0 := by
  have := R4.norm_bounds r
  replace h := of_decide_eq_false h; omega
theorem ra_p0 (r : R4) (h : decide (0 < r.norm.y1 - r.norm.y0) = false) : rngI .i64 ((r.norm.x1 - r.norm.x0) * (r.norm.y1 - r.norm.y0)) := by
  rw [ra_h0 r h, Int.mul_zero]; exact rng64 (by omega) (by omega)
theorem ra_v3 (r : R4) (h : decide (0 < r.norm.y1 - r.norm.y0) = false) : (r.norm.x1 - r.norm.x0) * (r.norm.y1 - r.norm.y0) = r.rarea :=
  (if_neg (fun hh => of_decide_eq_false h hh.1)).symm
end
theorem rarea_s : SOK Try.prog 125 (sR fun r => .int .i64 r.rarea) := by
  refine sok_of (C := mkC 0 [(115, sR fun r => r.norm.av)] noG)
    (mkC_ok (pok_cons rnorm_s pok_nil) noG_ok) rfl mixed ⟨Try.func125, by kernel_rfl, by kernel_rfl, by kernel_rfl⟩ fun l obs v h _ => ?_
  obtain ⟨r, rfl, rfl⟩ := sR_inv h
  refine ⟨Nat.le_of_ble_eq_true rfl, ?_⟩
  (repeat' (first | apply And.intro | intro h)); (all_goals (try exact Chk.mk (by kernel_rfl)))
  (all_goals (try first | exact True.intro | exact rfl | exact And.intro rfl rfl | exact And.intro rfl (fun _ _ => rfl)))
  · exact ra_w r
  · exact ra_h r
  · rename_i h1; exact ra_ne r h1 h
  · exact ra_q r h
  · rename_i h1; exact ra_v1 r h1 h
  · rename_i h1; exact ra_p r h1 h
  · rename_i h1; exact ra_v2 r h1 h
  · exact ra_p0 r h
  · exact ra_v3 r h
end Go.Proofs.Ytchhikfiofeckaa
