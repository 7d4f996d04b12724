
/- The tiles of a rectangle: both answers are the same. No condition. -/
import Derived.Test.YtpgikaeddhaiiaaGO2
namespace Go.Proofs.Ytpgikaeddhaiiaa
open Go Go.RowKit
set_option linter.unusedVariables false
set_option linter.unusedSimpArgs false
set_option maxRecDepth 100000
set_option maxHeartbeats 4000000

theorem has_iff (r : R4) (x y : Int) : r.has x y = true ↔ r.empty = false ∧ r.x0 ≤ x ∧ x < r.x1 ∧ r.y0 ≤ y ∧ y < r.y1 := by
  simp only [R4.has, Bool.and_eq_true, decide_eq_true_eq, Bool.not_eq_true', and_assoc]
theorem ne_iff (r : R4) : r.empty = false ↔ ∃ x y, r.has x y = true := by
  constructor
  · intro h
    have hb := R4.bounds h
    exact ⟨r.x0, r.y0, (has_iff _ _ _).2 ⟨h, by omega, by omega, by omega, by omega⟩⟩
  · rintro ⟨x, y, h⟩; exact ((has_iff _ _ _).1 h).1
theorem area_iff (r : R4) : (0 < r.rarea) ↔ r.empty = false := by
  have h0 : r.rarea = r.area := R4.rarea_eq r
  have h1 := R4.area_zero r
  have h2 : 0 ≤ r.area := by
    unfold R4.area
    split
    · omega
    · rename_i he
      have hb := R4.bounds (Bool.eq_false_iff.2 he)
      split
      · decide
      · exact Int.mul_nonneg (by omega) (by omega)
  rw [h0]
  cases he : r.empty with
  | true =>
    rw [he] at h1
    have : r.area = 0 := by simpa using h1
    simp [this]
  | false =>
    have := R4.area_pos he
    constructor
    · intro _; rfl
    · intro _; omega
/-- Does tile m share a place with r? -/
def ovF (g r : R4) (m : Nat) : Bool := decide (0 < (((tilesL g (rN g)).getD m .zero).rboth r).rarea)
theorem ovF_iff {g r : R4} (hg : gcheck g = 0) {m : Nat} (hm : m < rN g * cN g) : ovF g r m = true ↔ ∃ x y, r.has x y = true ∧ gin g x y = true ∧ gof g x y = (m : Int) := by
  unfold ovF
  rw [decide_eq_true_eq, R4.rboth_eq, area_iff, ne_iff]
  constructor
  · rintro ⟨x, y, h⟩
    rw [R4.both_has, Bool.and_eq_true] at h
    have := (tile_of hg hm).1 h.1
    exact ⟨x, y, h.2, this.1, this.2⟩
  · rintro ⟨x, y, h1, h2, h3⟩
    refine ⟨x, y, ?_⟩
    rw [R4.both_has, Bool.and_eq_true]
    exact ⟨(tile_of hg hm).2 ⟨h2, h3⟩, h1⟩
theorem over_eq {g r : R4} (hg : gcheck g = 0) : selL (ovF g r) (rN g * cN g) = overL g r := by
  have hi := gcheck_inv hg
  have hc0 := cN_pos hg
  unfold overL
  cases hb : (r.both (gw g)).empty with
  | true =>
    rw [if_neg (fun h => by cases h.2)]
    have key : ∀ k, k ≤ rN g * cN g → selL (ovF g r) k = [] := by
      intro k
      induction k with
      | zero => intro _; rfl
      | succ k ih =>
        intro hk
        have : ¬ ovF g r k = true := fun h => by
          obtain ⟨x, y, h1, h2, h3⟩ := (ovF_iff hg (by omega)).1 h
          have h4 : (r.both (gw g)).has x y = true := by
            rw [R4.both_has, Bool.and_eq_true]
            unfold gin at h2
            rw [Bool.and_eq_true] at h2
            exact ⟨h1, h2.2⟩
          rw [((has_iff _ _ _).1 h4).1] at hb
          cases hb
        rw [selL, ih (by omega), if_neg this, List.nil_append]
    exact key _ (Nat.le_refl _)
  | false =>
    rw [if_pos ⟨hg, rfl⟩]
    obtain ⟨n, X0, X1, Y0, Y1, o1, o2, o3, o4, o5, o6, o7, o8, o9, o10, o11, o12, o13, o14⟩ := ov_num hg hb
    rw [o11, o12, o13, o14]
    have e1 : ((X1 : Int) - X0 + 1).toNat = X1 - X0 + 1 := by omega
    have e2 : ((Y1 : Int) - Y0 + 1).toNat = Y1 - Y0 + 1 := by omega
    rw [e1, e2, Int.toNat_natCast, Int.toNat_natCast, ← o10]
    refine (blk_sel (by omega) (Nat.mul_le_mul_right n (by omega)) fun m hm => ?_).symm
    have hbd := R4.bounds hb
    rw [ovF_iff hg (by rw [← o10]; exact hm)]
    constructor
    · rintro ⟨x, y, h1, h2, h3⟩
      have h4 : (r.both (gw g)).has x y = true := by
        rw [R4.both_has, Bool.and_eq_true]
        have h2' := h2
        unfold gin at h2'
        rw [Bool.and_eq_true] at h2'
        exact ⟨h1, h2'.2⟩
      obtain ⟨_, c1, c2, c3, c4⟩ := (has_iff _ _ _).1 h4
      obtain ⟨X, Y, a1, a2, a3, a4, a5, _, _⟩ := gof_nat h2
      rw [h3, ← o10] at a5
      have em : m = Y * n + X := Int.ofNat.inj a5
      have d1 : m / n = Y := by rw [em, Nat.add_comm, Nat.add_mul_div_right _ _ o2, Nat.div_eq_of_lt (by omega), Nat.zero_add]
      have d2 : m % n = X := by rw [em, Nat.add_comm, Nat.add_mul_mod_self_right, Nat.mod_eq_of_lt (by omega)]
      have l1 := Int.ediv_le_ediv (c := g.x1) (by omega) c1
      have l2 := Int.ediv_le_ediv (c := g.x1) (by omega) (show x ≤ (r.both (gw g)).x1 - 1 by omega)
      have l3 := Int.ediv_le_ediv (c := g.y1) (by omega) c3
      have l4 := Int.ediv_le_ediv (c := g.y1) (by omega) (show y ≤ (r.both (gw g)).y1 - 1 by omega)
      omega
    · rintro ⟨⟨m1, m2⟩, m3, m4⟩
      obtain ⟨Y, hY⟩ : ∃ Y, m / n = Y := ⟨_, rfl⟩
      obtain ⟨X, hX⟩ : ∃ X, m % n = X := ⟨_, rfl⟩
      rw [hY] at m1 m2
      rw [hX] at m3 m4
      have hdm := Nat.div_add_mod m n
      rw [hY, hX, Nat.mul_comm] at hdm
      have q1 := (div_iff (x := (r.both (gw g)).x0) (k := X0) (show 1 ≤ g.x1 by omega)).1 o11
      have q2 := (div_iff (x := (r.both (gw g)).x1 - 1) (k := X1) (show 1 ≤ g.x1 by omega)).1 o12
      have q3 := (div_iff (x := (r.both (gw g)).y0) (k := Y0) (show 1 ≤ g.y1 by omega)).1 o13
      have q4 := (div_iff (x := (r.both (gw g)).y1 - 1) (k := Y1) (show 1 ≤ g.y1 by omega)).1 o14
      have w1 : (X : Int) * g.x1 ≤ (X1 : Int) * g.x1 := Int.mul_le_mul_of_nonneg_right (by omega) (by omega)
      have w2 : (X0 : Int) * g.x1 ≤ (X : Int) * g.x1 := Int.mul_le_mul_of_nonneg_right (by omega) (by omega)
      have w3 : (Y : Int) * g.y1 ≤ (Y1 : Int) * g.y1 := Int.mul_le_mul_of_nonneg_right (by omega) (by omega)
      have w4 : (Y0 : Int) * g.y1 ≤ (Y : Int) * g.y1 := Int.mul_le_mul_of_nonneg_right (by omega) (by omega)
      obtain ⟨x, hx⟩ : ∃ x, x = max (r.both (gw g)).x0 ((X : Int) * g.x1) := ⟨_, rfl⟩
      obtain ⟨y, hy⟩ : ∃ y, y = max (r.both (gw g)).y0 ((Y : Int) * g.y1) := ⟨_, rfl⟩
      have hbh : (r.both (gw g)).has x y = true := (has_iff _ _ _).2 ⟨hb, by omega, by omega, by omega, by omega⟩
      rw [R4.both_has, Bool.and_eq_true] at hbh
      have hin : gin g x y = true := by unfold gin; rw [decide_eq_true hg, Bool.true_and]; exact hbh.2
      refine ⟨x, y, hbh.1, hin, ?_⟩
      obtain ⟨X', Y', a1, a2, a3, a4, a5, _, _⟩ := gof_nat hin
      have r1 : x / g.x1 = X := (div_iff (show 1 ≤ g.x1 by omega)).2 (by omega)
      have r2 : y / g.y1 = Y := (div_iff (show 1 ≤ g.y1 by omega)).2 (by omega)
      rw [a5, ← o10]
      have : X' = X := by omega
      have : Y' = Y := by omega
      subst X' Y'
      rw [hdm]
end Go.Proofs.Ytpgikaeddhaiiaa
