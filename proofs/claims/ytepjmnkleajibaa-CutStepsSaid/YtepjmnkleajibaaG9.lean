
/- What the functions of package grid answer. No condition. -/
import Derived.Test.YtepjmnkleajibaaR6
import Derived.Test.YtepjmnkleajibaaG4
namespace Go.Proofs.Ytepjmnkleajibaa
open Go Go.RowKit
set_option linter.unusedVariables false
set_option linter.unusedSimpArgs false
set_option maxRecDepth 100000

theorem gcheck_s : SOK Try.prog 199 (sR fun g => .int .i64 (gcheck g)) := by
  refine sok_of (C := mkC 0 [] noG) (mkC_ok pok_nil noG_ok) rfl mixed ⟨Try.func199, by kernel_rfl, by kernel_rfl, by kernel_rfl⟩ fun l obs v h _ => ?_
  obtain ⟨r, rfl, rfl⟩ := sR_inv h
  obtain ⟨r0, r1, r2, r3⟩ := r
  refine ⟨Nat.le_of_ble_eq_true rfl, ?_⟩
  (repeat' (first | apply And.intro | intro h)); (all_goals (try exact Chk.mk (by kernel_rfl)))
  all_goals (show _ = gcheck _; simp only [decide_eq_true_eq, decide_eq_false_iff_not, Bool.not_eq_true', Bool.not_eq_false', Bool.and_eq_true, Bool.or_eq_true, Bool.and_eq_false_iff, Bool.or_eq_false_iff, Int.not_lt, Int.not_le, ne_eq, Classical.not_not] at *; unfold gcheck; simp only; (repeat' split) <;> omega)
theorem gright_s : SOK Try.prog 187 (sR fun g => .bool (decide (gcheck g = 0))) := by
  refine sok_of (C := mkC 0 [(199, sR fun g => .int .i64 (gcheck g))] noG) (mkC_ok (pok_cons gcheck_s pok_nil) noG_ok) rfl mixed ⟨Try.func187, by kernel_rfl, by kernel_rfl, by kernel_rfl⟩ fun l obs v h _ => ?_
  obtain ⟨r, rfl, rfl⟩ := sR_inv h
  obtain ⟨r0, r1, r2, r3⟩ := r
  refine ⟨Nat.le_of_ble_eq_true rfl, ?_⟩
  (repeat' (first | apply And.intro | intro h)); (all_goals (try exact Chk.mk (by kernel_rfl)))
  all_goals (show _ = _; rfl)
section
variable {r0 r1 r2 r3 : Int}
theorem gcols_r1 (h : decide (gcheck ⟨r0, r1, r2, r3⟩ = 0) = true) : rngI .i64 (r0 + r2) ∧ rngI .i64 (r0 + r2 - 1) ∧ r2 ≠ 0 ∧ rngI .i64 ((r0 + r2 - 1).tdiv r2) ∧ (r0 + r2 - 1).tdiv r2 = gcols ⟨r0, r1, r2, r3⟩ := by
  have h := of_decide_eq_true h
  have hb := gcheck_inv h
  simp only at hb
  have e : (r0 + r2 - 1).tdiv r2 = gcols ⟨r0, r1, r2, r3⟩ := by rw [Int.tdiv_eq_ediv_of_nonneg (by omega)]; simp [gcols, h]
  have hc := gcols_bd ⟨r0, r1, r2, r3⟩
  exact ⟨rng64 (by omega) (by omega), rng64 (by omega) (by omega), by omega, rng64 (by omega) (by omega), e⟩
theorem gcols_r0 (h : decide (gcheck ⟨r0, r1, r2, r3⟩ = 0) = false) : gcols ⟨r0, r1, r2, r3⟩ = 0 ∧ grows ⟨r0, r1, r2, r3⟩ = 0 := by
  have h := of_decide_eq_false h
  simp [gcols, grows, h]
theorem grows_r1 (h : decide (gcheck ⟨r0, r1, r2, r3⟩ = 0) = true) : rngI .i64 (r1 + r3) ∧ rngI .i64 (r1 + r3 - 1) ∧ r3 ≠ 0 ∧ rngI .i64 ((r1 + r3 - 1).tdiv r3) ∧ (r1 + r3 - 1).tdiv r3 = grows ⟨r0, r1, r2, r3⟩ := by
  have h := of_decide_eq_true h
  have hb := gcheck_inv h
  simp only at hb
  have e : (r1 + r3 - 1).tdiv r3 = grows ⟨r0, r1, r2, r3⟩ := by rw [Int.tdiv_eq_ediv_of_nonneg (by omega)]; simp [grows, h]
  have hc := grows_bd ⟨r0, r1, r2, r3⟩
  exact ⟨rng64 (by omega) (by omega), rng64 (by omega) (by omega), by omega, rng64 (by omega) (by omega), e⟩
end
theorem gcols_s : SOK Try.prog 153 (sR fun g => .int .i64 (gcols g)) := by
  refine sok_of (C := mkC 0 [(187, sR fun g => .bool (decide (gcheck g = 0)))] noG) (mkC_ok (pok_cons gright_s pok_nil) noG_ok) rfl mixed ⟨Try.func153, by kernel_rfl, by kernel_rfl, by kernel_rfl⟩ fun l obs v h _ => ?_
  obtain ⟨r, rfl, rfl⟩ := sR_inv h
  obtain ⟨r0, r1, r2, r3⟩ := r
  refine ⟨Nat.le_of_ble_eq_true rfl, ?_⟩
  refine ⟨fun h1 => ?_, fun h1 => ?_⟩
  · exact (gcols_r0 (by simpa using h1)).1.symm
  · obtain ⟨a1, a2, a3, a4, a5⟩ := gcols_r1 (by simpa using h1)
    exact ⟨a1, a2, a3, a4, a5⟩
theorem grows_s : SOK Try.prog 186 (sR fun g => .int .i64 (grows g)) := by
  refine sok_of (C := mkC 0 [(187, sR fun g => .bool (decide (gcheck g = 0)))] noG) (mkC_ok (pok_cons gright_s pok_nil) noG_ok) rfl mixed ⟨Try.func186, by kernel_rfl, by kernel_rfl, by kernel_rfl⟩ fun l obs v h _ => ?_
  obtain ⟨r, rfl, rfl⟩ := sR_inv h
  obtain ⟨r0, r1, r2, r3⟩ := r
  refine ⟨Nat.le_of_ble_eq_true rfl, ?_⟩
  refine ⟨fun h1 => ?_, fun h1 => ?_⟩
  · exact (gcols_r0 (by simpa using h1)).2.symm
  · obtain ⟨a1, a2, a3, a4, a5⟩ := grows_r1 (by simpa using h1)
    exact ⟨a1, a2, a3, a4, a5⟩
theorem gcount_s : SOK Try.prog 152 (sR fun g => .int .i64 (gcount g)) := by
  refine sok_of (C := mkC 0 [(153, sR fun g => .int .i64 (gcols g)), (186, sR fun g => .int .i64 (grows g))] noG) (mkC_ok (pok_cons gcols_s (pok_cons grows_s pok_nil)) noG_ok) rfl mixed ⟨Try.func152, by kernel_rfl, by kernel_rfl, by kernel_rfl⟩ fun l obs v h _ => ?_
  obtain ⟨r, rfl, rfl⟩ := sR_inv h
  obtain ⟨r0, r1, r2, r3⟩ := r
  have hb := gcount_bd ⟨r0, r1, r2, r3⟩
  refine ⟨Nat.le_of_ble_eq_true rfl, ?_⟩
  exact ⟨⟨by kernel_rfl⟩, (show rngI .i64 (gcount ⟨r0, r1, r2, r3⟩) from rng64 (by omega) (by omega)), rfl⟩
theorem gwhole_s : SOK Try.prog 155 (sR fun g => (R4.mk 0 0 g.x0 g.y0).av) := by
  refine sok_of (C := mkC 0 [] noG) (mkC_ok pok_nil noG_ok) rfl mixed ⟨Try.func155, by kernel_rfl, by kernel_rfl, by kernel_rfl⟩ fun l obs v h _ => ?_
  obtain ⟨r, rfl, rfl⟩ := sR_inv h
  obtain ⟨r0, r1, r2, r3⟩ := r
  refine ⟨Nat.le_of_ble_eq_true rfl, ?_⟩
  exact ⟨rfl, rfl, rfl, rfl⟩
end Go.Proofs.Ytepjmnkleajibaa
