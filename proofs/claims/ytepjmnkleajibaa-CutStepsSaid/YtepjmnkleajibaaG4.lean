
/- Grids, plainly: no program in sight. -/
import Derived.Test.YtepjmnkleajibaaR4
namespace Go.Proofs.Ytepjmnkleajibaa
set_option linter.unusedVariables false
set_option linter.unusedSimpArgs false

/-- A grid is told by four numbers: W, H, TW, TH. -/
def gcheck (g : R4) : Int := if 32768 < g.x0 ∨ 32768 < g.y0 then 30 else if g.x0 < 1 ∨ g.y0 < 1 then 12 else if g.x1 < 1 ∨ 4096 < g.x1 ∨ g.y1 < 1 ∨ 4096 < g.y1 then 10 else 0
def gcols (g : R4) : Int := if gcheck g = 0 then (g.x0 + g.x1 - 1) / g.x1 else 0
def grows (g : R4) : Int := if gcheck g = 0 then (g.y0 + g.y1 - 1) / g.y1 else 0
theorem gcheck_inv {g : R4} (h : gcheck g = 0) : 1 ≤ g.x0 ∧ g.x0 ≤ 32768 ∧ 1 ≤ g.y0 ∧ g.y0 ≤ 32768 ∧ 1 ≤ g.x1 ∧ g.x1 ≤ 4096 ∧ 1 ≤ g.y1 ∧ g.y1 ≤ 4096 := by
  unfold gcheck at h
  split at h
  · cases h
  · split at h
    · cases h
    · split at h
      · cases h
      · omega
theorem gcols_bd (g : R4) : 0 ≤ gcols g ∧ gcols g ≤ 32768 := by
  unfold gcols
  split
  · rename_i h
    have := gcheck_inv h
    constructor
    · exact Int.ediv_nonneg (by omega) (by omega)
    · have h1 : (g.x0 + g.x1 - 1) / g.x1 < 32769 := by
        rw [Int.ediv_lt_iff_lt_mul (by omega)]
        have : 32769 * g.x1 = 32768 * g.x1 + g.x1 := by omega
        have h2 : g.x0 ≤ g.x0 * g.x1 := by
          have := Int.mul_le_mul_of_nonneg_left (show (1 : Int) ≤ g.x1 by omega) (show 0 ≤ g.x0 by omega)
          omega
        have h3 : 32768 ≤ 32768 * g.x1 := by omega
        omega
      omega
  · omega
theorem grows_bd (g : R4) : 0 ≤ grows g ∧ grows g ≤ 32768 := by
  unfold grows
  split
  · rename_i h
    have := gcheck_inv h
    constructor
    · exact Int.ediv_nonneg (by omega) (by omega)
    · have h1 : (g.y0 + g.y1 - 1) / g.y1 < 32769 := by
        rw [Int.ediv_lt_iff_lt_mul (by omega)]
        have : 32769 * g.y1 = 32768 * g.y1 + g.y1 := by omega
        have h2 : g.y0 ≤ g.y0 * g.y1 := by
          have := Int.mul_le_mul_of_nonneg_left (show (1 : Int) ≤ g.y1 by omega) (show 0 ≤ g.y0 by omega)
          omega
        have h3 : 32768 ≤ 32768 * g.y1 := by omega
        omega
      omega
  · omega
def gcount (g : R4) : Int := gcols g * grows g
theorem gcount_bd (g : R4) : 0 ≤ gcount g ∧ gcount g ≤ 1073741824 := by
  have h1 := gcols_bd g
  have h2 := grows_bd g
  constructor
  · exact Int.mul_nonneg h1.1 h2.1
  · have := Int.mul_le_mul h1.2 h2.2 h2.1 (by omega)
    unfold gcount; omega

/-! ### Tiles -/
theorem lt_ceil {a b : Int} {k : Nat} (hb : 1 ≤ b) (ha : 1 ≤ a) : (k : Int) * b < a ↔ k < ((a + b - 1) / b).toNat := by
  have h0 : 0 ≤ (a + b - 1) / b := Int.ediv_nonneg (by omega) (by omega)
  have h1 : (k : Int) < (a + b - 1) / b ↔ (k : Int) * b < a := by
    rw [← Int.add_one_le_iff, Int.le_ediv_iff_mul_le (by omega), Int.add_mul]
    omega
  rw [← h1]
  omega
def cN (g : R4) : Nat := ((g.x0 + g.x1 - 1) / g.x1).toNat
def rN (g : R4) : Nat := ((g.y0 + g.y1 - 1) / g.y1).toNat
def tileAt (g : R4) (j k : Nat) : R4 := ⟨k * g.x1, j * g.y1, min (k * g.x1 + g.x1) g.x0, min (j * g.y1 + g.y1) g.y0⟩
def rowL (g : R4) (j k : Nat) : List R4 := (List.range k).map (tileAt g j)
def tilesL (g : R4) (j : Nat) : List R4 := (List.range j).flatMap fun i => rowL g i (cN g)
def partL (g : R4) (j k : Nat) : List R4 := tilesL g j ++ rowL g j k
theorem partL_zero (g : R4) (j : Nat) : partL g j 0 = tilesL g j := by simp [partL, rowL]
theorem partL_end (g : R4) (j : Nat) : partL g j (cN g) = tilesL g (j + 1) := by simp [partL, tilesL, List.range_succ]
theorem partL_succ (g : R4) (j k : Nat) : partL g j (k + 1) = partL g j k ++ [tileAt g j k] := by simp [partL, rowL, List.range_succ]
theorem tilesL_zero (g : R4) : tilesL g 0 = [] := rfl
theorem tilesL_len (g : R4) (j : Nat) : (tilesL g j).length = j * cN g := by
  induction j with
  | zero => simp [tilesL]
  | succ j ih => rw [← partL_end, partL, List.length_append, ih, rowL]; simp [Nat.succ_mul]
theorem partL_len (g : R4) (j k : Nat) : (partL g j k).length = j * cN g + k := by simp [partL, tilesL_len, rowL]
theorem cN_eq {g : R4} (h : gcheck g = 0) : (cN g : Int) = gcols g := by
  have h0 := gcols_bd g
  unfold gcols at h0 ⊢
  rw [if_pos h] at h0 ⊢
  unfold cN; omega
theorem rN_eq {g : R4} (h : gcheck g = 0) : (rN g : Int) = grows g := by
  have h0 := grows_bd g
  unfold grows at h0 ⊢
  rw [if_pos h] at h0 ⊢
  unfold rN; omega
theorem partL_bd {g : R4} (h : gcheck g = 0) {j k : Nat} (hj : j < rN g) (hk : k < cN g) : (partL g j k).length + 1 ≤ 1073741824 := by
  have h1 := gcols_bd g
  have h2 := grows_bd g
  have e1 := cN_eq h
  have e2 := rN_eq h
  rw [partL_len]
  have h3 : (j + 1) * cN g ≤ 32768 * 32768 := Nat.mul_le_mul (by omega) (by omega)
  rw [Nat.succ_mul] at h3
  omega
end Go.Proofs.Ytepjmnkleajibaa
