
/- Grids, plainly: each tile by its number, and the tile of a place. -/
import Derived.Test.YtepjmnkleajibaaG4
namespace Go.Proofs.Ytepjmnkleajibaa
set_option linter.unusedVariables false
set_option linter.unusedSimpArgs false

theorem tilesL_get (g : R4) : ∀ (J i : Nat), i < J * cN g → (tilesL g J).getD i .zero = tileAt g (i / cN g) (i % cN g) := by
  intro J
  induction J with
  | zero => intro i h; simp at h
  | succ J ih =>
    intro i h
    rw [← partL_end, partL]
    have hl := tilesL_len g J
    by_cases hc : i < J * cN g
    · rw [← ih i hc]
      simp [List.getD, List.getElem?_append_left (show i < (tilesL g J).length by omega)]
    · rw [Nat.succ_mul] at h
      have h1 : i = (i - J * cN g) + J * cN g := by omega
      have h2 : i - J * cN g < cN g := by omega
      have hz : 0 < cN g := by omega
      have e1 : i / cN g = J := by
        rw [h1, Nat.add_mul_div_right _ _ hz, Nat.div_eq_of_lt h2]; omega
      have e2 : i % cN g = i - J * cN g := by
        conv => lhs; rw [h1]
        rw [Nat.add_mul_mod_self_right, Nat.mod_eq_of_lt h2]
      rw [e1, e2]
      simp only [List.getD, List.getElem?_append_right (show (tilesL g J).length ≤ i by omega), hl, rowL, List.getElem?_map, List.getElem?_range h2]
      rfl

theorem gcount_eq {g : R4} (h : gcheck g = 0) : gcount g = ((rN g * cN g : Nat) : Int) := by
  unfold gcount; rw [← cN_eq h, ← rN_eq h, Int.mul_comm]; rfl
theorem gcount_0 {g : R4} (h : gcheck g ≠ 0) : gcols g = 0 ∧ grows g = 0 ∧ gcount g = 0 := by simp [gcount, gcols, grows, h]
theorem gcount_pos {g : R4} {i : Int} (h : i < gcount g) (h0 : 0 ≤ i) : gcheck g = 0 := by
  by_cases hc : gcheck g = 0
  · exact hc
  · have := (gcount_0 hc).2.2; omega
def gis (g : R4) (i : Int) : Bool := decide (0 ≤ i) && decide (i < gcount g)
def gtile (g : R4) (i : Int) : R4 := if 0 ≤ i ∧ i < gcount g then tileAt g (i.toNat / cN g) (i.toNat % cN g) else .zero
theorem cN_pos {g : R4} (h : gcheck g = 0) : 0 < cN g := by
  have hb := gcheck_inv h
  exact (lt_ceil (k := 0) (by omega) (by omega)).1 (by simp; omega)
theorem gidx {g : R4} {i : Int} (h0 : 0 ≤ i) (h : i < gcount g) : gcheck g = 0 ∧ i.toNat / cN g < rN g ∧ i.toNat % cN g < cN g ∧ i.tmod (gcols g) = ((i.toNat % cN g : Nat) : Int) ∧ i.tdiv (gcols g) = ((i.toNat / cN g : Nat) : Int) := by
  have hg := gcount_pos h h0
  rw [gcount_eq hg] at h
  have hp := cN_pos hg
  refine ⟨hg, ?_, Nat.mod_lt _ hp, ?_, ?_⟩
  · rw [Nat.div_lt_iff_lt_mul hp]; omega
  · rw [← cN_eq hg, Int.tmod_eq_emod_of_nonneg h0]
    conv => lhs; rw [← Int.toNat_of_nonneg h0]
    rfl
  · rw [← cN_eq hg, Int.tdiv_eq_ediv_of_nonneg h0]
    conv => lhs; rw [← Int.toNat_of_nonneg h0]
    rfl
theorem tile_lt {g : R4} (hg : gcheck g = 0) {j k : Nat} (hj : j < rN g) (hk : k < cN g) : (k : Int) * g.x1 < g.x0 ∧ (j : Int) * g.y1 < g.y0 ∧ 0 ≤ (k : Int) * g.x1 ∧ 0 ≤ (j : Int) * g.y1 := by
  have hb := gcheck_inv hg
  exact ⟨(lt_ceil (by omega) (by omega)).2 hk, (lt_ceil (by omega) (by omega)).2 hj, Int.mul_nonneg (by omega) (by omega), Int.mul_nonneg (by omega) (by omega)⟩
theorem tile_both {g : R4} (hg : gcheck g = 0) {j k : Nat} (hj : j < rN g) (hk : k < cN g) : (R4.mk (k * g.x1) (j * g.y1) (k * g.x1 + g.x1) (j * g.y1 + g.y1)).both ⟨0, 0, g.x0, g.y0⟩ = tileAt g j k := by
  have hb := gcheck_inv hg
  have ht := tile_lt hg hj hk
  unfold tileAt
  generalize (k : Int) * g.x1 = a at *
  generalize (j : Int) * g.y1 = b at *
  obtain ⟨W, H, TW, TH⟩ := g
  simp only at *
  have e1 : max a 0 = a := by omega
  have e2 : max b 0 = b := by omega
  simp only [R4.both, R4.norm, R4.empty, R4.right, inB, R4.meet, e1, e2]
  have d1 : decide (-2147483648 ≤ a) = true := by simp; omega
  have d2 : decide (a ≤ 2147483648) = true := by simp; omega
  have d3 : decide (-2147483648 ≤ b) = true := by simp; omega
  have d4 : decide (b ≤ 2147483648) = true := by simp; omega
  have d5 : decide (-2147483648 ≤ a + TW) = true := by simp; omega
  have d6 : decide (a + TW ≤ 2147483648) = true := by simp; omega
  have d7 : decide (-2147483648 ≤ b + TH) = true := by simp; omega
  have d8 : decide (b + TH ≤ 2147483648) = true := by simp; omega
  have d9 : decide (a + TW ≤ a) = false := by simp; omega
  have d10 : decide (b + TH ≤ b) = false := by simp; omega
  have d11 : decide (-2147483648 ≤ W) = true := by simp; omega
  have d12 : decide (W ≤ 2147483648) = true := by simp; omega
  have d13 : decide (-2147483648 ≤ H) = true := by simp; omega
  have d14 : decide (H ≤ 2147483648) = true := by simp; omega
  have d15 : decide (W ≤ 0) = false := by simp; omega
  have d16 : decide (H ≤ 0) = false := by simp; omega
  have d17 : decide (-2147483648 ≤ min (a + TW) W) = true := by simp; omega
  have d18 : decide (min (a + TW) W ≤ 2147483648) = true := by simp; omega
  have d19 : decide (-2147483648 ≤ min (b + TH) H) = true := by simp; omega
  have d20 : decide (min (b + TH) H ≤ 2147483648) = true := by simp; omega
  have d21 : decide (min (a + TW) W ≤ a) = false := by simp; omega
  have d22 : decide (min (b + TH) H ≤ b) = false := by simp; omega
  simp only [d1, d2, d3, d4, d5, d6, d7, d8, d9, d10, d11, d12, d13, d14, d15, d16, d17, d18, d19, d20, d21, d22]
  rfl

/-! ### The tile of a place -/
def gof (g : R4) (x y : Int) : Int := if gcheck g = 0 ∧ (R4.mk 0 0 g.x0 g.y0).has x y = true then y.tdiv g.y1 * gcols g + x.tdiv g.x1 else 0
def gin (g : R4) (x y : Int) : Bool := decide (gcheck g = 0) && (R4.mk 0 0 g.x0 g.y0).has x y
theorem whole_has {g : R4} (hg : gcheck g = 0) {x y : Int} : (R4.mk 0 0 g.x0 g.y0).has x y = true ↔ 0 ≤ x ∧ x < g.x0 ∧ 0 ≤ y ∧ y < g.y0 := by
  have hb := gcheck_inv hg
  simp only [R4.has, R4.empty, R4.right, inB, Bool.and_eq_true, Bool.not_eq_true', Bool.or_eq_false_iff, Bool.not_eq_false', decide_eq_true_eq, decide_eq_false_iff_not]
  omega
theorem gof_nat {g : R4} {x y : Int} (h : gin g x y = true) : ∃ X Y : Nat, x / g.x1 = X ∧ y / g.y1 = Y ∧ X < cN g ∧ Y < rN g ∧ gof g x y = ((Y * cN g + X : Nat) : Int) ∧ x.tdiv g.x1 = X ∧ y.tdiv g.y1 = Y := by
  simp only [gin, Bool.and_eq_true, decide_eq_true_eq] at h
  obtain ⟨hg, hh⟩ := h
  have hw := (whole_has hg).1 hh
  have hb := gcheck_inv hg
  have x0 : 0 ≤ x / g.x1 := Int.ediv_nonneg (by omega) (by omega)
  have y0 : 0 ≤ y / g.y1 := Int.ediv_nonneg (by omega) (by omega)
  have x2 : x / g.x1 * g.x1 ≤ x := Int.ediv_mul_le _ (by omega)
  have y2 : y / g.y1 * g.y1 ≤ y := Int.ediv_mul_le _ (by omega)
  have ex : x.tdiv g.x1 = x / g.x1 := Int.tdiv_eq_ediv_of_nonneg (by omega)
  have ey : y.tdiv g.y1 = y / g.y1 := Int.tdiv_eq_ediv_of_nonneg (by omega)
  obtain ⟨X, hX⟩ := Int.eq_ofNat_of_zero_le x0
  obtain ⟨Y, hY⟩ := Int.eq_ofNat_of_zero_le y0
  rw [hX] at x2; rw [hY] at y2
  refine ⟨X, Y, hX, hY, ?_, ?_, ?_, ex.trans hX, ey.trans hY⟩
  · exact (lt_ceil (by omega) (by omega)).1 (by omega)
  · exact (lt_ceil (by omega) (by omega)).1 (by omega)
  · unfold gof
    rw [if_pos ⟨hg, hh⟩, ex, ey, hX, hY, ← cN_eq hg]
    rfl
theorem gof_bd {g : R4} {x y : Int} (h : gin g x y = true) : 0 ≤ gof g x y ∧ gof g x y < gcount g := by
  obtain ⟨X, Y, _, _, hX, hY, e, _, _⟩ := gof_nat h
  have hg : gcheck g = 0 := by simp only [gin, Bool.and_eq_true, decide_eq_true_eq] at h; exact h.1
  rw [e, gcount_eq hg]
  have : (Y + 1) * cN g ≤ rN g * cN g := Nat.mul_le_mul_right _ hY
  rw [Nat.succ_mul] at this
  omega
theorem gof_0 {g : R4} {x y : Int} (h : gin g x y = false) : gof g x y = 0 := by
  unfold gof
  rw [if_neg]
  intro hc
  simp [gin, hc.1, hc.2] at h
theorem tile_has {g : R4} (hg : gcheck g = 0) {j k : Nat} (hj : j < rN g) (hk : k < cN g) {x y : Int} : (tileAt g j k).has x y = true ↔ (k * g.x1 ≤ x ∧ x < k * g.x1 + g.x1 ∧ x < g.x0) ∧ (j * g.y1 ≤ y ∧ y < j * g.y1 + g.y1 ∧ y < g.y0) := by
  have hb := gcheck_inv hg
  have ht := tile_lt hg hj hk
  unfold tileAt
  generalize (k : Int) * g.x1 = a at *
  generalize (j : Int) * g.y1 = b at *
  simp only [R4.has, R4.empty, R4.right, inB, Bool.and_eq_true, Bool.not_eq_true', Bool.or_eq_false_iff, Bool.not_eq_false', decide_eq_true_eq, decide_eq_false_iff_not]
  omega
theorem div_iff {x a : Int} {k : Nat} (ha : 1 ≤ a) : x / a = k ↔ k * a ≤ x ∧ x < k * a + a := by
  constructor
  · intro h
    have h1 := Int.ediv_mul_le x (show a ≠ 0 by omega)
    have h2 := Int.lt_ediv_add_one_mul_self x (show 0 < a by omega)
    rw [h] at h1 h2
    rw [Int.add_mul] at h2
    omega
  · intro ⟨h1, h2⟩
    have h3 : (k : Int) ≤ x / a := (Int.le_ediv_iff_mul_le (by omega)).2 h1
    have h4 : x / a < k + 1 := (Int.ediv_lt_iff_lt_mul (by omega)).2 (by rw [Int.add_mul]; omega)
    omega
theorem tile_of {g : R4} (hg : gcheck g = 0) {i : Nat} (hi : i < rN g * cN g) {x y : Int} : ((tilesL g (rN g)).getD i .zero).has x y = true ↔ gin g x y = true ∧ gof g x y = i := by
  have hb := gcheck_inv hg
  have hp := cN_pos hg
  have hj : i / cN g < rN g := (Nat.div_lt_iff_lt_mul hp).2 hi
  have hk : i % cN g < cN g := Nat.mod_lt _ hp
  rw [tilesL_get g _ _ hi, tile_has hg hj hk]
  have ht := tile_lt hg hj hk
  constructor
  · rintro ⟨⟨h1, h2, h3⟩, h4, h5, h6⟩
    have hin : gin g x y = true := by
      simp only [gin, Bool.and_eq_true, decide_eq_true_eq]
      exact ⟨hg, (whole_has hg).2 ⟨by omega, h3, by omega, h6⟩⟩
    obtain ⟨X, Y, e1, e2, _, _, e, _, _⟩ := gof_nat hin
    have f1 := (div_iff (by omega)).2 ⟨h1, h2⟩
    have f2 := (div_iff (by omega)).2 ⟨h4, h5⟩
    rw [e1] at f1; rw [e2] at f2
    have f1 : X = i % cN g := by omega
    have f2 : Y = i / cN g := by omega
    refine ⟨hin, ?_⟩
    rw [e, f1, f2, Nat.mul_comm, Nat.div_add_mod]
  · rintro ⟨hin, hof⟩
    obtain ⟨X, Y, e1, e2, hX, hY, e, _, _⟩ := gof_nat hin
    have hw := (whole_has hg).1 (by simp only [gin, Bool.and_eq_true] at hin; exact hin.2)
    rw [e] at hof
    have hof : Y * cN g + X = i := by omega
    have f1 : i % cN g = X := by rw [← hof, Nat.mul_comm, Nat.mul_add_mod, Nat.mod_eq_of_lt hX]
    have f2 : i / cN g = Y := by rw [← hof, Nat.mul_comm, Nat.mul_add_div hp, Nat.div_eq_of_lt hX]; omega
    rw [f1, f2]
    have g1 := (div_iff (by omega)).1 e1
    have g2 := (div_iff (by omega)).1 e2
    omega
def soonG (g : R4) : Bool := decide (gcheck g ≠ 0) || decide ((g.x0.tdiv g.x1 + 1) * (g.y0.tdiv g.y1 + 1) ≤ 3000)
end Go.Proofs.Ytepjmnkleajibaa
