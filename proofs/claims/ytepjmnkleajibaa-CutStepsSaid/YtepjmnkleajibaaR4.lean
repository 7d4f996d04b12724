
/- Rectangles, plainly: no program in sight. -/
import Derived.WalkKit
namespace Go.Proofs.Ytepjmnkleajibaa
set_option linter.unusedVariables false
set_option linter.unusedSimpArgs false

structure R4 where
  x0 : Int
  y0 : Int
  x1 : Int
  y1 : Int

def R4.zero : R4 := ⟨0, 0, 0, 0⟩
@[simp] theorem zero_x0 : R4.zero.x0 = 0 := rfl
@[simp] theorem zero_y0 : R4.zero.y0 = 0 := rfl
@[simp] theorem zero_x1 : R4.zero.x1 = 0 := rfl
@[simp] theorem zero_y1 : R4.zero.y1 = 0 := rfl
def inB (x : Int) : Bool := decide (-2147483648 ≤ x) && decide (x ≤ 2147483648)
def R4.right (r : R4) : Bool := inB r.x0 && inB r.y0 && inB r.x1 && inB r.y1
def R4.empty (r : R4) : Bool := !r.right || decide (r.x1 ≤ r.x0) || decide (r.y1 ≤ r.y0)
def R4.norm (r : R4) : R4 := if r.empty = true then .zero else r
def R4.has (r : R4) (x y : Int) : Bool := !r.empty && decide (r.x0 ≤ x) && decide (x < r.x1) && decide (r.y0 ≤ y) && decide (y < r.y1)
abbrev R4.meet (a b : R4) : R4 := ⟨max a.x0 b.x0, max a.y0 b.y0, min a.x1 b.x1, min a.y1 b.y1⟩
abbrev R4.join (a b : R4) : R4 := ⟨min a.x0 b.x0, min a.y0 b.y0, max a.x1 b.x1, max a.y1 b.y1⟩
def beq8 (a0 a1 a2 a3 b0 b1 b2 b3 : Int) : Bool := a0 == b0 && a1 == b1 && a2 == b2 && a3 == b3
def R4.beq (a b : R4) : Bool := beq8 a.x0 a.y0 a.x1 a.y1 b.x0 b.y0 b.x1 b.y1
def R4.both (a b : R4) : R4 := if a.empty = true then .zero else if b.empty = true then .zero else (a.meet b).norm
def R4.inside (a b : R4) : Bool := a.empty || (a.both b).beq a
def cutI (x : Int) : Int := max (-2147483648) (min x 2147483648)
abbrev R4.fat (r : R4) (k : Int) : R4 := ⟨cutI (r.x0 - k), cutI (r.y0 - k), cutI (r.x1 + k), cutI (r.y1 + k)⟩
def R4.grow (r : R4) (k : Int) : R4 := if r.empty = true then .zero else if inB k = true then (r.fat k).norm else (R4.mk (cutI r.x0) (cutI r.y0) (cutI r.x1) (cutI r.y1)).norm
def R4.area (r : R4) : Int := if r.empty = true then 0 else if 9223372036854775807 / (r.y1 - r.y0) < r.x1 - r.x0 then 9223372036854775807 else (r.x1 - r.x0) * (r.y1 - r.y0)
theorem R4.bounds {r : R4} (h : r.empty = false) : -2147483648 ≤ r.x0 ∧ r.x0 < r.x1 ∧ r.x1 ≤ 2147483648 ∧ -2147483648 ≤ r.y0 ∧ r.y0 < r.y1 ∧ r.y1 ≤ 2147483648 := by
  simp [R4.empty, R4.right, inB] at h
  omega
def R4.around (a b : R4) : R4 := if a.empty = true then b.norm else if b.empty = true then a else a.join b

theorem area_fit {w h : Int} (h0 : 0 < h) (w0 : 0 ≤ w) (hq : w ≤ 9223372036854775807 / h) : 0 ≤ w * h ∧ w * h ≤ 9223372036854775807 :=
  ⟨Int.mul_nonneg w0 (by omega), (Int.le_ediv_iff_mul_le h0).1 hq⟩
def R4.rhas (r : R4) (x y : Int) : Bool := decide (r.norm.x0 ≤ x) && decide (x < r.norm.x1) && decide (r.norm.y0 ≤ y) && decide (y < r.norm.y1)
def R4.rboth (a b : R4) : R4 := (a.norm.meet b.norm).norm
def R4.rarea (r : R4) : Int := if 0 < r.norm.y1 - r.norm.y0 ∧ 9223372036854775807 / (r.norm.y1 - r.norm.y0) < r.norm.x1 - r.norm.x0 then 9223372036854775807 else (r.norm.x1 - r.norm.x0) * (r.norm.y1 - r.norm.y0)
def R4.raround (a b : R4) : R4 := if a.norm.rarea = 0 then b.norm else if b.norm.rarea = 0 then a.norm else a.norm.join b.norm
def R4.rgrow (r : R4) (k : Int) : R4 := if r.norm.rarea = 0 then r.norm else if inB k = true then (r.norm.fat k).norm else (R4.mk (cutI r.norm.x0) (cutI r.norm.y0) (cutI r.norm.x1) (cutI r.norm.y1)).norm
theorem R4.norm_bounds (r : R4) : -2147483648 ≤ r.norm.x0 ∧ r.norm.x0 ≤ r.norm.x1 ∧ r.norm.x1 ≤ 2147483648 ∧ -2147483648 ≤ r.norm.y0 ∧ r.norm.y0 ≤ r.norm.y1 ∧ r.norm.y1 ≤ 2147483648 := by
  cases he : r.empty
  · have := R4.bounds he
    simp only [R4.norm, he, Bool.false_eq_true, if_false]
    omega
  · simp [R4.norm, he]

theorem R4.ext' {a b : R4} (h0 : a.x0 = b.x0) (h1 : a.y0 = b.y0) (h2 : a.x1 = b.x1) (h3 : a.y1 = b.y1) : a = b := by
  cases a; cases b; simp_all
theorem R4.empty_iff (r : R4) : r.empty = false ↔ (-2147483648 ≤ r.x0 ∧ r.x0 < r.x1 ∧ r.x1 ≤ 2147483648 ∧ -2147483648 ≤ r.y0 ∧ r.y0 < r.y1 ∧ r.y1 ≤ 2147483648) := by
  refine ⟨R4.bounds, fun h => ?_⟩
  simp [R4.empty, R4.right, inB]
  omega
theorem R4.norm_of {r : R4} (h : r.empty = false) : r.norm = r := by simp [R4.norm, h]
theorem R4.norm_zero {r : R4} (h : r.empty = true) : r.norm = .zero := by simp [R4.norm, h]
theorem R4.zero_empty : R4.zero.empty = true := by decide
theorem R4.norm_empty (r : R4) : r.norm.empty = r.empty := by
  cases h : r.empty
  · rw [R4.norm_of h, h]
  · rw [R4.norm_zero h, R4.zero_empty]
theorem R4.norm_norm (r : R4) : r.norm.norm = r.norm := by
  cases h : r.empty
  · rw [R4.norm_of h, R4.norm_of h]
  · rw [R4.norm_zero h, R4.norm_zero R4.zero_empty]
theorem R4.beq_self (r : R4) : r.beq r = true := by simp [R4.beq, beq8]
theorem R4.beq_iff (a b : R4) : a.beq b = true ↔ a = b := by
  constructor
  · intro h
    simp [R4.beq, beq8] at h
    exact R4.ext' h.1.1.1 h.1.1.2 h.1.2 h.2
  · rintro rfl; exact a.beq_self
theorem R4.meet_comm (a b : R4) : a.meet b = b.meet a := by simp [R4.meet]; omega
theorem R4.join_comm (a b : R4) : a.join b = b.join a := by simp [R4.join]; omega
theorem R4.both_comm (a b : R4) : b.both a = a.both b := by
  unfold R4.both
  rw [R4.meet_comm b a]
  cases a.empty <;> cases b.empty <;> rfl
theorem R4.around_comm (a b : R4) : b.around a = a.around b := by
  unfold R4.around
  rw [R4.join_comm b a]
  cases ha : a.empty <;> cases hb : b.empty <;> simp [R4.norm, ha, hb]
theorem R4.rboth_eq (a b : R4) : a.rboth b = a.both b := by
  unfold R4.rboth R4.both
  cases ha : a.empty
  · cases hb : b.empty
    · rw [R4.norm_of ha, R4.norm_of hb]; simp
    · rw [R4.norm_zero hb, R4.norm_of ha]
      have hA := (a.empty_iff).1 ha
      simp
      refine R4.norm_zero ?_
      cases h : (a.meet R4.zero).empty
      · have := (R4.empty_iff _).1 h
        simp only [R4.meet, zero_x0, zero_x1, zero_y0, zero_y1] at this
        omega
      · rfl
  · rw [R4.norm_zero ha]
    simp
    refine R4.norm_zero ?_
    cases h : (R4.zero.meet b.norm).empty
    · have := (R4.empty_iff _).1 h
      simp only [R4.meet, zero_x0, zero_x1, zero_y0, zero_y1] at this
      omega
    · rfl
theorem R4.rarea_eq (r : R4) : r.rarea = r.area := by
  unfold R4.rarea R4.area
  cases h : r.empty
  · have := R4.bounds h
    rw [R4.norm_of h]
    by_cases hq : 9223372036854775807 / (r.y1 - r.y0) < r.x1 - r.x0
    · rw [if_pos ⟨by omega, hq⟩]; simp [hq]
    · rw [if_neg (fun hh => hq hh.2)]; simp [hq]
  · rw [R4.norm_zero h]; simp
theorem R4.area_pos {r : R4} (h : r.empty = false) : r.area ≠ 0 := by
  have hb := R4.bounds h
  unfold R4.area
  simp only [h, Bool.false_eq_true, if_false]
  split
  · decide
  · exact Int.ne_of_gt (Int.mul_pos (by omega) (by omega))
theorem R4.area_zero (r : R4) : (r.area == 0) = r.empty := by
  cases h : r.empty
  · simpa using R4.area_pos h
  · simp [R4.area, h]
theorem R4.rarea_norm (r : R4) : (r.norm.rarea = 0) = (r.empty = true) := by
  rw [R4.rarea_eq]
  have := R4.area_zero r.norm
  rw [R4.norm_empty] at this
  rw [← this, beq_iff_eq]
theorem R4.raround_eq (a b : R4) : a.raround b = a.around b := by
  unfold R4.raround R4.around
  simp only [R4.rarea_norm]
  cases ha : a.empty
  · cases hb : b.empty
    · simp [R4.norm_of ha, R4.norm_of hb]
    · simp [R4.norm_of ha]
  · simp
theorem R4.rhas_eq (r : R4) (x y : Int) : r.rhas x y = r.has x y := by
  unfold R4.rhas R4.has
  cases h : r.empty
  · simp [R4.norm_of h]
  · simp [R4.norm_zero h]
theorem R4.rgrow_eq (r : R4) (k : Int) : r.rgrow k = r.grow k := by
  unfold R4.rgrow R4.grow
  simp only [R4.rarea_norm]
  cases h : r.empty
  · simp [R4.norm_of h]
  · simp [R4.norm_zero h]
theorem R4.inside_around (a b : R4) : a.inside (a.around b) = true := by
  unfold R4.inside
  cases ha : a.empty
  · simp only [Bool.false_or]
    rw [R4.beq_iff]
    have hA := R4.bounds ha
    cases hb : b.empty
    · have hB := R4.bounds hb
      have hj : (a.join b).empty = false := (R4.empty_iff _).2 (by simp only [R4.join]; omega)
      have e : a.around b = a.join b := by simp [R4.around, ha, hb]
      rw [e]
      unfold R4.both
      simp only [ha, hj, Bool.false_eq_true, if_false]
      have e2 : a.meet (a.join b) = a := R4.ext' (by simp only [R4.meet, R4.join]; omega) (by simp only [R4.meet, R4.join]; omega) (by simp only [R4.meet, R4.join]; omega) (by simp only [R4.meet, R4.join]; omega)
      rw [e2, R4.norm_of ha]
    · have e : a.around b = a := by simp [R4.around, ha, hb]
      rw [e]
      unfold R4.both
      have e2 : a.meet a = a := R4.ext' (by simp only [R4.meet]; omega) (by simp only [R4.meet]; omega) (by simp only [R4.meet]; omega) (by simp only [R4.meet]; omega)
      simp only [ha, Bool.false_eq_true, if_false, e2, R4.norm_of ha]
  · rfl
theorem R4.inside_around' (a b : R4) : b.inside (a.around b) = true := by
  rw [← R4.around_comm]; exact R4.inside_around b a
theorem R4.inside_both (a b : R4) : (a.both b).inside a = true := by
  unfold R4.inside
  cases h : (a.both b).empty
  · simp only [Bool.false_or]
    rw [R4.beq_iff]
    cases ha : a.empty
    · cases hb : b.empty
      · have e : a.both b = (a.meet b).norm := by simp [R4.both, ha, hb]
        rw [e, R4.norm_empty] at h
        rw [e, R4.norm_of h]
        unfold R4.both
        simp only [h, ha, Bool.false_eq_true, if_false]
        have e2 : (a.meet b).meet a = a.meet b := R4.ext' (by simp only [R4.meet]; omega) (by simp only [R4.meet]; omega) (by simp only [R4.meet]; omega) (by simp only [R4.meet]; omega)
        rw [e2, R4.norm_of h]
      · have e : a.both b = .zero := by simp [R4.both, ha, hb]
        rw [e, R4.zero_empty] at h; cases h
    · have e : a.both b = .zero := by simp [R4.both, ha]
      rw [e, R4.zero_empty] at h; cases h
  · rfl
theorem R4.in_eq (a b : R4) : (a.rarea == 0 || (a.rboth b).beq a.norm) = a.inside b := by
  rw [R4.rarea_eq, R4.area_zero, R4.rboth_eq]
  unfold R4.inside
  cases ha : a.empty
  · rw [R4.norm_of ha]
  · rfl
theorem R4.both_has (a b : R4) (x y : Int) : (a.both b).has x y = (a.has x y && b.has x y) := by
  cases ha : a.empty
  · cases hb : b.empty
    · have e : a.both b = (a.meet b).norm := by simp [R4.both, ha, hb]
      have hA := R4.bounds ha
      have hB := R4.bounds hb
      rw [e, ← R4.rhas_eq]
      unfold R4.rhas R4.has
      rw [R4.norm_norm]
      simp only [ha, hb]
      cases h : (a.meet b).empty
      · rw [R4.norm_of h, Bool.eq_iff_iff]
        simp [R4.meet]
        omega
      · simp only [R4.norm_zero h, zero_x0, zero_x1, zero_y0, zero_y1]
        rw [Bool.eq_iff_iff]
        have hn : ¬ ((a.meet b).empty = false) := by simp [h]
        rw [R4.empty_iff] at hn
        simp only [R4.meet] at hn
        simp
        omega
    · have e : a.both b = .zero := by simp [R4.both, ha, hb]
      rw [e]; simp [R4.has, R4.zero_empty, hb]
  · have e : a.both b = .zero := by simp [R4.both, ha]
    rw [e]; simp [R4.has, R4.zero_empty, ha]
theorem R4.around_has (a b : R4) (x y : Int) (h : a.has x y = true ∨ b.has x y = true) : (a.around b).has x y = true := by
  cases ha : a.empty
  · cases hb : b.empty
    · have e : a.around b = a.join b := by simp [R4.around, ha, hb]
      have hA := R4.bounds ha
      have hB := R4.bounds hb
      have hj : (a.join b).empty = false := (R4.empty_iff _).2 (by simp only [R4.join]; omega)
      rw [e]
      simp [R4.has, ha, hb, hj] at h ⊢
      omega
    · have e : a.around b = a := by simp [R4.around, ha, hb]
      rw [e]
      rcases h with h | h
      · exact h
      · simp [R4.has, hb] at h
  · have e : a.around b = b.norm := by simp [R4.around, ha]
    rcases h with h | h
    · simp [R4.has, ha] at h
    · rw [e]
      cases hb : b.empty
      · rw [R4.norm_of hb]; exact h
      · simp [R4.has, hb] at h
end Go.Proofs.Ytepjmnkleajibaa
