/- Texts laid together. No condition. -/
import Derived.WalkKit
import Derived.Test.YtgbekbofeaoniaaA
import Derived.Test.YtgbekbofeaoniaaFi
import Derived.Test.YtgbekbofeaoniaaU
import Derived.Test.YtgbekbofeaoniaaE19
import Derived.Test.YtgbekbofeaoniaaE20
import Derived.Test.YtgbekbofeaoniaaFTl
import Derived.Test.YtgbekbofeaoniaaE21
namespace Go.Proofs.Ytgbekbofeaoniaa
theorem oT {p : Prop} [Decidable p] (h : decide p = true) : p := of_decide_eq_true h
theorem oF {p : Prop} [Decidable p] (h : decide p = false) : ¬ p := of_decide_eq_false h
theorem oA {p : Prop} [Decidable p] : (decide p = true) = p := decide_eq_true_eq
theorem oB {p : Prop} [Decidable p] : decide p = false ↔ ¬ p := decide_eq_false_iff_not
theorem oD : (∀ (p : Prop) [Decidable p], (decide p = true) = p) ∧ (∀ (p : Prop) [Decidable p], decide p = false ↔ ¬ p) ∧ ((∀ b : Bool, ((!b) = true) = (b = false)) ∧ (∀ b : Bool, ((!b) = false) = (b = true)) ∧ (∀ a b : Bool, ((a && b) = true) = (a = true ∧ b = true)) ∧ (∀ a b : Bool, ((a || b) = true) = (a = true ∨ b = true)) ∧ (∀ a b : Bool, ((a && b) = false) = (a = false ∨ b = false)) ∧ (∀ a b : Bool, ((a || b) = false) = (a = false ∧ b = false)) ∧ (∀ a b : Int, (¬ a < b) = (b ≤ a)) ∧ (∀ a b : Int, (¬ a ≤ b) = (b < a))) ∧ ((∀ p : Prop, (¬ ¬ p) = p) ∧ (true = false) = False ∧ (false = true) = False ∧ (∀ p : Prop, (p ∨ False) = p) ∧ (∀ p : Prop, (False ∨ p) = p) ∧ (∀ p : Prop, (p ∧ True) = p) ∧ (∀ p : Prop, (True ∧ p) = p) ∧ (¬ True) = False ∧ (¬ False) = True) := ⟨fun _ _ => oA, fun _ _ => oB, dh1, dh0⟩
theorem xF {x : Bool} (h : x = true) (k : x = false) : False := Bool.noConfusion (Eq.trans (Eq.symm h) k)
theorem xI {x : Bool} {A B : Prop} (f : x = true → A) (g : x = false → B) : (x = true → A) ∧ (x = false → B) := ⟨f, g⟩
theorem xT {x : Bool} (h : x = false) (k : x = true) : False := Bool.noConfusion (Eq.trans (Eq.symm h) k)
theorem oZ {p : Prop} (h : p := by (first | exact Chk.mk (by kernel_rfl) | exact True.intro | with_reducible assumption | exact rng64 (by omega) (by omega) | omega | (dsimp only; omega) | (show (_ : Nat) ≤ _; omega) | (simp only [ll1, ll2, ll0]; first | done | omega) | (dsimp only; simp only [ll1, ll2, ll0]; omega))) : p := h
theorem oX (h : False := by first | omega | contradiction | exact xF hfk (by with_reducible assumption) | exact xT hfk (by with_reducible assumption)) {p : Prop} : p := h.elim
theorem oY {p : Prop} (h : p := by first | with_reducible rfl | with_reducible assumption | omega | (simp only [ll1, ll2, ll0]; omega)) : p := h
theorem oW {p : Prop} (h : p := by first | with_reducible assumption | omega | (intro j hj; exact rfl)) : p := h
end Go.Proofs.Ytgbekbofeaoniaa
set_option maxRecDepth 100000
set_option maxHeartbeats 4000000
set_option linter.unusedVariables false
set_option linter.unusedSimpArgs false
namespace Go.Proofs.Ytgbekbofeaoniaa
structure R4 where
  x0 : Int
  y0 : Int
  x1 : Int
  y1 : Int
def R4.zero : R4 := ⟨0, 0, 0, 0⟩
@[simp] theorem zero_x0 : R4.zero.x0 = 0 := rfl
@[simp] theorem zero_y0 : R4.zero.y0 = 0 := rfl
@[simp] theorem zero_x1 : R4.zero.x1 = 0 := rfl
@[simp] theorem zero_y1 : R4.zero.y1 = 0 := rfl
def inB (x : Int) : Bool := decide (-2147483648 ≤ x) && decide (x ≤ 2147483648)
def R4.right (r : R4) : Bool := inB r.x0 && inB r.y0 && inB r.x1 && inB r.y1
def R4.empty (r : R4) : Bool := !r.right || decide (r.x1 ≤ r.x0) || decide (r.y1 ≤ r.y0)
def R4.norm (r : R4) : R4 := if r.empty = true then .zero else r
def R4.has (r : R4) (x y : Int) : Bool := !r.empty && decide (r.x0 ≤ x) && decide (x < r.x1) && decide (r.y0 ≤ y) && decide (y < r.y1)
abbrev R4.meet (a b : R4) : R4 := ⟨max a.x0 b.x0, max a.y0 b.y0, min a.x1 b.x1, min a.y1 b.y1⟩
def beq8 (a0 a1 a2 a3 b0 b1 b2 b3 : Int) : Bool := a0 == b0 && a1 == b1 && a2 == b2 && a3 == b3
def R4.beq (a b : R4) : Bool := beq8 a.x0 a.y0 a.x1 a.y1 b.x0 b.y0 b.x1 b.y1
def R4.both (a b : R4) : R4 := if a.empty = true then .zero else if b.empty = true then .zero else (a.meet b).norm
def R4.inside (a b : R4) : Bool := a.empty || (a.both b).beq a
def R4.area (r : R4) : Int := if r.empty = true then 0 else if 9223372036854775807 / (r.y1 - r.y0) < r.x1 - r.x0 then 9223372036854775807 else (r.x1 - r.x0) * (r.y1 - r.y0)
theorem R4.bounds {r : R4} (h : r.empty = false) : -2147483648 ≤ r.x0 ∧ r.x0 < r.x1 ∧ r.x1 ≤ 2147483648 ∧ -2147483648 ≤ r.y0 ∧ r.y0 < r.y1 ∧ r.y1 ≤ 2147483648 := by
  simp [R4.empty, R4.right, inB] at h
  omega
def R4.rboth (a b : R4) : R4 := (a.norm.meet b.norm).norm
def R4.rarea (r : R4) : Int := if 0 < r.norm.y1 - r.norm.y0 ∧ 9223372036854775807 / (r.norm.y1 - r.norm.y0) < r.norm.x1 - r.norm.x0 then 9223372036854775807 else (r.norm.x1 - r.norm.x0) * (r.norm.y1 - r.norm.y0)
theorem R4.ext' {a b : R4} (h0 : a.x0 = b.x0) (h1 : a.y0 = b.y0) (h2 : a.x1 = b.x1) (h3 : a.y1 = b.y1) : a = b := by
  cases a; cases b; simp_all
theorem R4.empty_iff (r : R4) : r.empty = false ↔ (-2147483648 ≤ r.x0 ∧ r.x0 < r.x1 ∧ r.x1 ≤ 2147483648 ∧ -2147483648 ≤ r.y0 ∧ r.y0 < r.y1 ∧ r.y1 ≤ 2147483648) := by
  refine ⟨R4.bounds, fun h => ?_⟩
  simp [R4.empty, R4.right, inB]
  omega
theorem R4.norm_of {r : R4} (h : r.empty = false) : r.norm = r := by simp [R4.norm, h]
theorem R4.norm_zero {r : R4} (h : r.empty = true) : r.norm = .zero := by simp [R4.norm, h]
theorem R4.beq_self (r : R4) : r.beq r = true := by simp [R4.beq, beq8]
theorem R4.beq_iff (a b : R4) : a.beq b = true ↔ a = b := by
  constructor
  · intro h
    simp [R4.beq, beq8] at h
    exact R4.ext' h.1.1.1 h.1.1.2 h.1.2 h.2
  · rintro rfl; exact a.beq_self
theorem R4.rboth_eq (a b : R4) : a.rboth b = a.both b := by
  unfold R4.rboth R4.both
  cases ha : a.empty
  · cases hb : b.empty
    · rw [R4.norm_of ha, R4.norm_of hb]; simp
    · rw [R4.norm_zero hb, R4.norm_of ha]
      have hA := (a.empty_iff).1 ha
      simp
      refine R4.norm_zero ?_
      cases h : (a.meet R4.zero).empty
      · have := (R4.empty_iff _).1 h
        simp only [R4.meet, zero_x0, zero_x1, zero_y0, zero_y1] at this
        omega
      · rfl
  · rw [R4.norm_zero ha]
    simp
    refine R4.norm_zero ?_
    cases h : (R4.zero.meet b.norm).empty
    · have := (R4.empty_iff _).1 h
      simp only [R4.meet, zero_x0, zero_x1, zero_y0, zero_y1] at this
      omega
    · rfl
theorem R4.rarea_eq (r : R4) : r.rarea = r.area := by
  unfold R4.rarea R4.area
  cases h : r.empty
  · have := R4.bounds h
    rw [R4.norm_of h]
    by_cases hq : 9223372036854775807 / (r.y1 - r.y0) < r.x1 - r.x0
    · rw [if_pos ⟨by omega, hq⟩]; simp [hq]
    · rw [if_neg (fun hh => hq hh.2)]; simp [hq]
  · rw [R4.norm_zero h]; simp
theorem R4.area_pos {r : R4} (h : r.empty = false) : r.area ≠ 0 := by
  have hb := R4.bounds h
  unfold R4.area
  simp only [h, Bool.false_eq_true, if_false]
  split
  · decide
  · exact Int.ne_of_gt (Int.mul_pos (by omega) (by omega))
end Go.Proofs.Ytgbekbofeaoniaa
namespace Go.Proofs.Ytgbekbofeaoniaa
open Go Go.RowKit
abbrev R4.av (r : R4) : AV := .agg [.int .i64 r.x0, .int .i64 r.y0, .int .i64 r.x1, .int .i64 r.y1]
def sI (f : Int → AV) : PSpec := fun l => match l with | [.int .i64 x] => some ([], f x) | _ => none
def sR (f : R4 → AV) : PSpec := fun l => match l with | [.agg [.int .i64 a, .int .i64 b, .int .i64 c, .int .i64 d]] => some ([], f ⟨a, b, c, d⟩) | _ => none
def sRI (f : R4 → Int → AV) : PSpec := fun l => match l with | [.agg [.int .i64 a, .int .i64 b, .int .i64 c, .int .i64 d], .int .i64 x] => some ([], f ⟨a, b, c, d⟩ x) | _ => none
def sRR (f : R4 → R4 → AV) : PSpec := fun l => match l with
  | [.agg [.int .i64 a, .int .i64 b, .int .i64 c, .int .i64 d], .agg [.int .i64 p, .int .i64 q, .int .i64 r, .int .i64 s]] => some ([], f ⟨a, b, c, d⟩ ⟨p, q, r, s⟩)
  | _ => none
theorem sI_inv {f : Int → AV} {l : List AV} {obs : List Prop} {v : AV} (h : sI f l = some (obs, v)) : ∃ x, l = [.int .i64 x] ∧ v = f x := by
  unfold sI at h; split at h
  · simp at h; exact ⟨_, rfl, h.2.symm⟩
  · cases h
theorem sR_inv {f : R4 → AV} {l : List AV} {obs : List Prop} {v : AV} (h : sR f l = some (obs, v)) : ∃ r : R4, l = [r.av] ∧ v = f r := by
  unfold sR at h; split at h
  · simp at h; exact ⟨⟨_, _, _, _⟩, rfl, h.2.symm⟩
  · cases h
theorem sRI_inv {f : R4 → Int → AV} {l : List AV} {obs : List Prop} {v : AV} (h : sRI f l = some (obs, v)) : ∃ (r : R4) (x : Int), l = [r.av, .int .i64 x] ∧ v = f r x := by
  unfold sRI at h; split at h
  · simp at h; exact ⟨⟨_, _, _, _⟩, _, rfl, h.2.symm⟩
  · cases h
theorem sRR_inv {f : R4 → R4 → AV} {l : List AV} {obs : List Prop} {v : AV} (h : sRR f l = some (obs, v)) : ∃ r s : R4, l = [r.av, s.av] ∧ v = f r s := by
  unfold sRR at h; split at h
  · simp at h; exact ⟨⟨_, _, _, _⟩, ⟨_, _, _, _⟩, rfl, h.2.symm⟩
  · cases h
section
variable {r0 r1 r2 r3 k : Int}
end
theorem in_s : SOK Try.prog 100 (sI fun x => .bool (inB x)) := by
  refine sok_of (C := mkC 0 [] noG) (mkC_ok pok_nil noG_ok) rfl mixed ⟨Try.func100, by kernel_rfl, by kernel_rfl, by kernel_rfl⟩ fun l obs v h _ => ?_
  obtain ⟨x, rfl, rfl⟩ := sI_inv h
  skip
  refine ⟨Nat.le_of_ble_eq_true rfl, ?_⟩
  (repeat' (first | apply And.intro | intro h)); (all_goals (try exact Chk.mk (by kernel_rfl)))
  all_goals (show _ = _; (try simp_all [inB]); (try omega))
theorem right_s : SOK Try.prog 91 (sR fun r => .bool r.right) := by
  refine sok_of (C := mkC 0 [(100, sI fun x => .bool (inB x))] noG) (mkC_ok (pok_cons in_s pok_nil) noG_ok) rfl mixed ⟨Try.func91, by kernel_rfl, by kernel_rfl, by kernel_rfl⟩ fun l obs v h _ => ?_
  obtain ⟨r, rfl, rfl⟩ := sR_inv h
  obtain ⟨r0, r1, r2, r3⟩ := r
  refine ⟨Nat.le_of_ble_eq_true rfl, ?_⟩
  (repeat' (first | apply And.intro | intro h)); (all_goals (try exact Chk.mk (by kernel_rfl)))
  all_goals (show _ = _; (try simp_all [R4.right]); (try omega))
theorem empty_s : SOK Try.prog 69 (sR fun r => .bool r.empty) := by
  refine sok_of (C := mkC 0 [(91, sR fun r => .bool r.right)] noG) (mkC_ok (pok_cons right_s pok_nil) noG_ok) rfl mixed ⟨Try.func69, by kernel_rfl, by kernel_rfl, by kernel_rfl⟩ fun l obs v h _ => ?_
  obtain ⟨r, rfl, rfl⟩ := sR_inv h
  obtain ⟨r0, r1, r2, r3⟩ := r
  refine ⟨Nat.le_of_ble_eq_true rfl, ?_⟩
  (repeat' (first | apply And.intro | intro h)); (all_goals (try exact Chk.mk (by kernel_rfl)))
  all_goals (show _ = _; (try simp_all [R4.empty]); (try omega))
theorem norm_s : SOK Try.prog 99 (sR fun r => r.norm.av) := by
  refine sok_of (C := mkC 0 [(69, sR fun r => .bool r.empty)] noG) (mkC_ok (pok_cons empty_s pok_nil) noG_ok) rfl mixed ⟨Try.func99, by kernel_rfl, by kernel_rfl, by kernel_rfl⟩ fun l obs v h _ => ?_
  obtain ⟨r, rfl, rfl⟩ := sR_inv h
  obtain ⟨r0, r1, r2, r3⟩ := r
  refine ⟨Nat.le_of_ble_eq_true rfl, ?_⟩
  (repeat' (first | apply And.intro | intro h)); (all_goals (try exact Chk.mk (by kernel_rfl)))
  all_goals (show _ = _; (try simp_all [R4.norm, R4.zero]); (try omega))
theorem both_s : SOK Try.prog 83 (sRR fun a b => (a.both b).av) := by
  refine sok_of (C := mkC 0 [(69, sR fun r => .bool r.empty), (99, sR fun r => r.norm.av)] noG) (mkC_ok (pok_cons empty_s (pok_cons norm_s pok_nil)) noG_ok) rfl mixed ⟨Try.func83, by kernel_rfl, by kernel_rfl, by kernel_rfl⟩ fun l obs v h _ => ?_
  obtain ⟨a, b, rfl, rfl⟩ := sRR_inv h
  obtain ⟨a0, a1, a2, a3⟩ := a; obtain ⟨b0, b1, b2, b3⟩ := b
  refine ⟨Nat.le_of_ble_eq_true rfl, ?_⟩
  (repeat' (first | apply And.intro | intro h)); (all_goals (try exact Chk.mk (by kernel_rfl)))
  all_goals (show _ = _; (try simp_all [R4.both, R4.zero]); (try omega))
theorem inside_s : SOK Try.prog 87 (sRR fun a b => .bool (a.inside b)) := by
  refine sok_of (C := mkC 0 [(69, sR fun r => .bool r.empty), (83, sRR fun a b => (a.both b).av)] noG) (mkC_ok (pok_cons empty_s (pok_cons both_s pok_nil)) noG_ok) rfl mixed ⟨Try.func87, by kernel_rfl, by kernel_rfl, by kernel_rfl⟩ fun l obs v h _ => ?_
  obtain ⟨a, b, rfl, rfl⟩ := sRR_inv h
  obtain ⟨a0, a1, a2, a3⟩ := a; obtain ⟨b0, b1, b2, b3⟩ := b
  refine ⟨Nat.le_of_ble_eq_true rfl, ?_⟩
  (repeat' (first | apply And.intro | intro h)); (all_goals (try exact Chk.mk (by kernel_rfl)))
  all_goals (show _ = _; (try simp_all [R4.inside, R4.beq, beq8, Bool.and_assoc]); (try (rw [Bool.eq_iff_iff]; simp)))
end Go.Proofs.Ytgbekbofeaoniaa
namespace Go.Proofs.Ytgbekbofeaoniaa
def gcheck (g : R4) : Int := if 32768 < g.x0 ∨ 32768 < g.y0 then 30 else if g.x0 < 1 ∨ g.y0 < 1 then 12 else if g.x1 < 1 ∨ 4096 < g.x1 ∨ g.y1 < 1 ∨ 4096 < g.y1 then 10 else 0
def gcols (g : R4) : Int := if gcheck g = 0 then (g.x0 + g.x1 - 1) / g.x1 else 0
def grows (g : R4) : Int := if gcheck g = 0 then (g.y0 + g.y1 - 1) / g.y1 else 0
theorem gcheck_inv {g : R4} (h : gcheck g = 0) : 1 ≤ g.x0 ∧ g.x0 ≤ 32768 ∧ 1 ≤ g.y0 ∧ g.y0 ≤ 32768 ∧ 1 ≤ g.x1 ∧ g.x1 ≤ 4096 ∧ 1 ≤ g.y1 ∧ g.y1 ≤ 4096 := by
  unfold gcheck at h
  split at h
  · cases h
  · split at h
    · cases h
    · split at h
      · cases h
      · omega
theorem gcols_bd (g : R4) : 0 ≤ gcols g ∧ gcols g ≤ 32768 := by
  unfold gcols
  split
  · rename_i h
    have := gcheck_inv h
    constructor
    · exact Int.ediv_nonneg (by omega) (by omega)
    · have h1 : (g.x0 + g.x1 - 1) / g.x1 < 32769 := by
        rw [Int.ediv_lt_iff_lt_mul (by omega)]
        have : 32769 * g.x1 = 32768 * g.x1 + g.x1 := by omega
        have h2 : g.x0 ≤ g.x0 * g.x1 := by
          have := Int.mul_le_mul_of_nonneg_left (show (1 : Int) ≤ g.x1 by omega) (show 0 ≤ g.x0 by omega)
          omega
        have h3 : 32768 ≤ 32768 * g.x1 := by omega
        omega
      omega
  · omega
theorem grows_bd (g : R4) : 0 ≤ grows g ∧ grows g ≤ 32768 := by
  unfold grows
  split
  · rename_i h
    have := gcheck_inv h
    constructor
    · exact Int.ediv_nonneg (by omega) (by omega)
    · have h1 : (g.y0 + g.y1 - 1) / g.y1 < 32769 := by
        rw [Int.ediv_lt_iff_lt_mul (by omega)]
        have : 32769 * g.y1 = 32768 * g.y1 + g.y1 := by omega
        have h2 : g.y0 ≤ g.y0 * g.y1 := by
          have := Int.mul_le_mul_of_nonneg_left (show (1 : Int) ≤ g.y1 by omega) (show 0 ≤ g.y0 by omega)
          omega
        have h3 : 32768 ≤ 32768 * g.y1 := by omega
        omega
      omega
  · omega
def gcount (g : R4) : Int := gcols g * grows g
theorem gcount_bd (g : R4) : 0 ≤ gcount g ∧ gcount g ≤ 1073741824 := by
  have h1 := gcols_bd g
  have h2 := grows_bd g
  constructor
  · exact Int.mul_nonneg h1.1 h2.1
  · have := Int.mul_le_mul h1.2 h2.2 h2.1 (by omega)
    unfold gcount; omega
theorem lt_ceil {a b : Int} {k : Nat} (hb : 1 ≤ b) (ha : 1 ≤ a) : (k : Int) * b < a ↔ k < ((a + b - 1) / b).toNat := by
  have h0 : 0 ≤ (a + b - 1) / b := Int.ediv_nonneg (by omega) (by omega)
  have h1 : (k : Int) < (a + b - 1) / b ↔ (k : Int) * b < a := by
    rw [← Int.add_one_le_iff, Int.le_ediv_iff_mul_le (by omega), Int.add_mul]
    omega
  rw [← h1]
  omega
def cN (g : R4) : Nat := ((g.x0 + g.x1 - 1) / g.x1).toNat
def rN (g : R4) : Nat := ((g.y0 + g.y1 - 1) / g.y1).toNat
def tileAt (g : R4) (j k : Nat) : R4 := ⟨k * g.x1, j * g.y1, min (k * g.x1 + g.x1) g.x0, min (j * g.y1 + g.y1) g.y0⟩
def rowL (g : R4) (j k : Nat) : List R4 := (List.range k).map (tileAt g j)
def tilesL (g : R4) (j : Nat) : List R4 := (List.range j).flatMap fun i => rowL g i (cN g)
def partL (g : R4) (j k : Nat) : List R4 := tilesL g j ++ rowL g j k
theorem partL_end (g : R4) (j : Nat) : partL g j (cN g) = tilesL g (j + 1) := by simp [partL, tilesL, List.range_succ]
theorem tilesL_len (g : R4) (j : Nat) : (tilesL g j).length = j * cN g := by
  induction j with
  | zero => simp [tilesL]
  | succ j ih => rw [← partL_end, partL, List.length_append, ih, rowL]; simp [Nat.succ_mul]
theorem cN_eq {g : R4} (h : gcheck g = 0) : (cN g : Int) = gcols g := by
  have h0 := gcols_bd g
  unfold gcols at h0 ⊢
  rw [if_pos h] at h0 ⊢
  unfold cN; omega
theorem rN_eq {g : R4} (h : gcheck g = 0) : (rN g : Int) = grows g := by
  have h0 := grows_bd g
  unfold grows at h0 ⊢
  rw [if_pos h] at h0 ⊢
  unfold rN; omega
end Go.Proofs.Ytgbekbofeaoniaa
namespace Go.Proofs.Ytgbekbofeaoniaa
open Go Go.RowKit
theorem gcheck_s : SOK Try.prog 103 (sR fun g => .int .i64 (gcheck g)) := by
  refine sok_of (C := mkC 0 [] noG) (mkC_ok pok_nil noG_ok) rfl mixed ⟨Try.func103, by kernel_rfl, by kernel_rfl, by kernel_rfl⟩ fun l obs v h _ => ?_
  obtain ⟨r, rfl, rfl⟩ := sR_inv h
  obtain ⟨r0, r1, r2, r3⟩ := r
  refine ⟨Nat.le_of_ble_eq_true rfl, ?_⟩
  (repeat' (first | apply And.intro | intro h)); (all_goals (try exact Chk.mk (by kernel_rfl)))
  all_goals (show _ = gcheck _; simp only [decide_eq_true_eq, decide_eq_false_iff_not, Bool.not_eq_true', Bool.not_eq_false', Bool.and_eq_true, Bool.or_eq_true, Bool.and_eq_false_iff, Bool.or_eq_false_iff, Int.not_lt, Int.not_le, ne_eq, Classical.not_not] at *; unfold gcheck; simp only; (repeat' split) <;> omega)
theorem gright_s : SOK Try.prog 98 (sR fun g => .bool (decide (gcheck g = 0))) := by
  refine sok_of (C := mkC 0 [(103, sR fun g => .int .i64 (gcheck g))] noG) (mkC_ok (pok_cons gcheck_s pok_nil) noG_ok) rfl mixed ⟨Try.func98, by kernel_rfl, by kernel_rfl, by kernel_rfl⟩ fun l obs v h _ => ?_
  obtain ⟨r, rfl, rfl⟩ := sR_inv h
  obtain ⟨r0, r1, r2, r3⟩ := r
  refine ⟨Nat.le_of_ble_eq_true rfl, ?_⟩
  (repeat' (first | apply And.intro | intro h)); (all_goals (try exact Chk.mk (by kernel_rfl)))
  all_goals (show _ = _; rfl)
section
variable {r0 r1 r2 r3 : Int}
theorem gcols_r1 (h : decide (gcheck ⟨r0, r1, r2, r3⟩ = 0) = true) : rngI .i64 (r0 + r2) ∧ rngI .i64 (r0 + r2 - 1) ∧ r2 ≠ 0 ∧ rngI .i64 ((r0 + r2 - 1).tdiv r2) ∧ (r0 + r2 - 1).tdiv r2 = gcols ⟨r0, r1, r2, r3⟩ := by
  have h := of_decide_eq_true h
  have hb := gcheck_inv h
  simp only at hb
  have e : (r0 + r2 - 1).tdiv r2 = gcols ⟨r0, r1, r2, r3⟩ := by rw [Int.tdiv_eq_ediv_of_nonneg (by omega)]; simp [gcols, h]
  have hc := gcols_bd ⟨r0, r1, r2, r3⟩
  exact ⟨rng64 (by omega) (by omega), rng64 (by omega) (by omega), by omega, rng64 (by omega) (by omega), e⟩
theorem gcols_r0 (h : decide (gcheck ⟨r0, r1, r2, r3⟩ = 0) = false) : gcols ⟨r0, r1, r2, r3⟩ = 0 ∧ grows ⟨r0, r1, r2, r3⟩ = 0 := by
  have h := of_decide_eq_false h
  simp [gcols, grows, h]
theorem grows_r1 (h : decide (gcheck ⟨r0, r1, r2, r3⟩ = 0) = true) : rngI .i64 (r1 + r3) ∧ rngI .i64 (r1 + r3 - 1) ∧ r3 ≠ 0 ∧ rngI .i64 ((r1 + r3 - 1).tdiv r3) ∧ (r1 + r3 - 1).tdiv r3 = grows ⟨r0, r1, r2, r3⟩ := by
  have h := of_decide_eq_true h
  have hb := gcheck_inv h
  simp only at hb
  have e : (r1 + r3 - 1).tdiv r3 = grows ⟨r0, r1, r2, r3⟩ := by rw [Int.tdiv_eq_ediv_of_nonneg (by omega)]; simp [grows, h]
  have hc := grows_bd ⟨r0, r1, r2, r3⟩
  exact ⟨rng64 (by omega) (by omega), rng64 (by omega) (by omega), by omega, rng64 (by omega) (by omega), e⟩
end
theorem gcols_s : SOK Try.prog 82 (sR fun g => .int .i64 (gcols g)) := by
  refine sok_of (C := mkC 0 [(98, sR fun g => .bool (decide (gcheck g = 0)))] noG) (mkC_ok (pok_cons gright_s pok_nil) noG_ok) rfl mixed ⟨Try.func82, by kernel_rfl, by kernel_rfl, by kernel_rfl⟩ fun l obs v h _ => ?_
  obtain ⟨r, rfl, rfl⟩ := sR_inv h
  obtain ⟨r0, r1, r2, r3⟩ := r
  refine ⟨Nat.le_of_ble_eq_true rfl, ?_⟩
  refine ⟨fun h1 => ?_, fun h1 => ?_⟩
  · exact (gcols_r0 (by simpa using h1)).1.symm
  · obtain ⟨a1, a2, a3, a4, a5⟩ := gcols_r1 (by simpa using h1)
    exact ⟨a1, a2, a3, a4, a5⟩
theorem grows_s : SOK Try.prog 97 (sR fun g => .int .i64 (grows g)) := by
  refine sok_of (C := mkC 0 [(98, sR fun g => .bool (decide (gcheck g = 0)))] noG) (mkC_ok (pok_cons gright_s pok_nil) noG_ok) rfl mixed ⟨Try.func97, by kernel_rfl, by kernel_rfl, by kernel_rfl⟩ fun l obs v h _ => ?_
  obtain ⟨r, rfl, rfl⟩ := sR_inv h
  obtain ⟨r0, r1, r2, r3⟩ := r
  refine ⟨Nat.le_of_ble_eq_true rfl, ?_⟩
  refine ⟨fun h1 => ?_, fun h1 => ?_⟩
  · exact (gcols_r0 (by simpa using h1)).2.symm
  · obtain ⟨a1, a2, a3, a4, a5⟩ := grows_r1 (by simpa using h1)
    exact ⟨a1, a2, a3, a4, a5⟩
theorem gcount_s : SOK Try.prog 81 (sR fun g => .int .i64 (gcount g)) := by
  refine sok_of (C := mkC 0 [(82, sR fun g => .int .i64 (gcols g)), (97, sR fun g => .int .i64 (grows g))] noG) (mkC_ok (pok_cons gcols_s (pok_cons grows_s pok_nil)) noG_ok) rfl mixed ⟨Try.func81, by kernel_rfl, by kernel_rfl, by kernel_rfl⟩ fun l obs v h _ => ?_
  obtain ⟨r, rfl, rfl⟩ := sR_inv h
  obtain ⟨r0, r1, r2, r3⟩ := r
  have hb := gcount_bd ⟨r0, r1, r2, r3⟩
  refine ⟨Nat.le_of_ble_eq_true rfl, ?_⟩
  exact ⟨⟨by kernel_rfl⟩, (show rngI .i64 (gcount ⟨r0, r1, r2, r3⟩) from rng64 (by omega) (by omega)), rfl⟩
theorem gwhole_s : SOK Try.prog 84 (sR fun g => (R4.mk 0 0 g.x0 g.y0).av) := by
  refine sok_of (C := mkC 0 [] noG) (mkC_ok pok_nil noG_ok) rfl mixed ⟨Try.func84, by kernel_rfl, by kernel_rfl, by kernel_rfl⟩ fun l obs v h _ => ?_
  obtain ⟨r, rfl, rfl⟩ := sR_inv h
  obtain ⟨r0, r1, r2, r3⟩ := r
  refine ⟨Nat.le_of_ble_eq_true rfl, ?_⟩
  exact ⟨rfl, rfl, rfl, rfl⟩
end Go.Proofs.Ytgbekbofeaoniaa
namespace Go.Proofs.Ytgbekbofeaoniaa
theorem tilesL_get (g : R4) : ∀ (J i : Nat), i < J * cN g → (tilesL g J).getD i .zero = tileAt g (i / cN g) (i % cN g) := by
  intro J
  induction J with
  | zero => intro i h; simp at h
  | succ J ih =>
    intro i h
    rw [← partL_end, partL]
    have hl := tilesL_len g J
    by_cases hc : i < J * cN g
    · rw [← ih i hc]
      simp [List.getD, List.getElem?_append_left (show i < (tilesL g J).length by omega)]
    · rw [Nat.succ_mul] at h
      have h1 : i = (i - J * cN g) + J * cN g := by omega
      have h2 : i - J * cN g < cN g := by omega
      have hz : 0 < cN g := by omega
      have e1 : i / cN g = J := by
        rw [h1, Nat.add_mul_div_right _ _ hz, Nat.div_eq_of_lt h2]; omega
      have e2 : i % cN g = i - J * cN g := by
        conv => lhs; rw [h1]
        rw [Nat.add_mul_mod_self_right, Nat.mod_eq_of_lt h2]
      rw [e1, e2]
      simp only [List.getD, List.getElem?_append_right (show (tilesL g J).length ≤ i by omega), hl, rowL, List.getElem?_map, List.getElem?_range h2]
      rfl
theorem gcount_eq {g : R4} (h : gcheck g = 0) : gcount g = ((rN g * cN g : Nat) : Int) := by
  unfold gcount; rw [← cN_eq h, ← rN_eq h, Int.mul_comm]; rfl
theorem gcount_0 {g : R4} (h : gcheck g ≠ 0) : gcols g = 0 ∧ grows g = 0 ∧ gcount g = 0 := by simp [gcount, gcols, grows, h]
theorem gcount_pos {g : R4} {i : Int} (h : i < gcount g) (h0 : 0 ≤ i) : gcheck g = 0 := by
  by_cases hc : gcheck g = 0
  · exact hc
  · have := (gcount_0 hc).2.2; omega
def gis (g : R4) (i : Int) : Bool := decide (0 ≤ i) && decide (i < gcount g)
def gtile (g : R4) (i : Int) : R4 := if 0 ≤ i ∧ i < gcount g then tileAt g (i.toNat / cN g) (i.toNat % cN g) else .zero
theorem cN_pos {g : R4} (h : gcheck g = 0) : 0 < cN g := by
  have hb := gcheck_inv h
  exact (lt_ceil (k := 0) (by omega) (by omega)).1 (by simp; omega)
theorem gidx {g : R4} {i : Int} (h0 : 0 ≤ i) (h : i < gcount g) : gcheck g = 0 ∧ i.toNat / cN g < rN g ∧ i.toNat % cN g < cN g ∧ i.tmod (gcols g) = ((i.toNat % cN g : Nat) : Int) ∧ i.tdiv (gcols g) = ((i.toNat / cN g : Nat) : Int) := by
  have hg := gcount_pos h h0
  rw [gcount_eq hg] at h
  have hp := cN_pos hg
  refine ⟨hg, ?_, Nat.mod_lt _ hp, ?_, ?_⟩
  · rw [Nat.div_lt_iff_lt_mul hp]; omega
  · rw [← cN_eq hg, Int.tmod_eq_emod_of_nonneg h0]
    conv => lhs; rw [← Int.toNat_of_nonneg h0]
    rfl
  · rw [← cN_eq hg, Int.tdiv_eq_ediv_of_nonneg h0]
    conv => lhs; rw [← Int.toNat_of_nonneg h0]
    rfl
theorem tile_lt {g : R4} (hg : gcheck g = 0) {j k : Nat} (hj : j < rN g) (hk : k < cN g) : (k : Int) * g.x1 < g.x0 ∧ (j : Int) * g.y1 < g.y0 ∧ 0 ≤ (k : Int) * g.x1 ∧ 0 ≤ (j : Int) * g.y1 := by
  have hb := gcheck_inv hg
  exact ⟨(lt_ceil (by omega) (by omega)).2 hk, (lt_ceil (by omega) (by omega)).2 hj, Int.mul_nonneg (by omega) (by omega), Int.mul_nonneg (by omega) (by omega)⟩
theorem tile_both {g : R4} (hg : gcheck g = 0) {j k : Nat} (hj : j < rN g) (hk : k < cN g) : (R4.mk (k * g.x1) (j * g.y1) (k * g.x1 + g.x1) (j * g.y1 + g.y1)).both ⟨0, 0, g.x0, g.y0⟩ = tileAt g j k := by
  have hb := gcheck_inv hg
  have ht := tile_lt hg hj hk
  unfold tileAt
  generalize (k : Int) * g.x1 = a at *
  generalize (j : Int) * g.y1 = b at *
  obtain ⟨W, H, TW, TH⟩ := g
  simp only at *
  have e1 : max a 0 = a := by omega
  have e2 : max b 0 = b := by omega
  simp only [R4.both, R4.norm, R4.empty, R4.right, inB, R4.meet, e1, e2]
  have d1 : decide (-2147483648 ≤ a) = true := by simp; omega
  have d2 : decide (a ≤ 2147483648) = true := by simp; omega
  have d3 : decide (-2147483648 ≤ b) = true := by simp; omega
  have d4 : decide (b ≤ 2147483648) = true := by simp; omega
  have d5 : decide (-2147483648 ≤ a + TW) = true := by simp; omega
  have d6 : decide (a + TW ≤ 2147483648) = true := by simp; omega
  have d7 : decide (-2147483648 ≤ b + TH) = true := by simp; omega
  have d8 : decide (b + TH ≤ 2147483648) = true := by simp; omega
  have d9 : decide (a + TW ≤ a) = false := by simp; omega
  have d10 : decide (b + TH ≤ b) = false := by simp; omega
  have d11 : decide (-2147483648 ≤ W) = true := by simp; omega
  have d12 : decide (W ≤ 2147483648) = true := by simp; omega
  have d13 : decide (-2147483648 ≤ H) = true := by simp; omega
  have d14 : decide (H ≤ 2147483648) = true := by simp; omega
  have d15 : decide (W ≤ 0) = false := by simp; omega
  have d16 : decide (H ≤ 0) = false := by simp; omega
  have d17 : decide (-2147483648 ≤ min (a + TW) W) = true := by simp; omega
  have d18 : decide (min (a + TW) W ≤ 2147483648) = true := by simp; omega
  have d19 : decide (-2147483648 ≤ min (b + TH) H) = true := by simp; omega
  have d20 : decide (min (b + TH) H ≤ 2147483648) = true := by simp; omega
  have d21 : decide (min (a + TW) W ≤ a) = false := by simp; omega
  have d22 : decide (min (b + TH) H ≤ b) = false := by simp; omega
  simp only [d1, d2, d3, d4, d5, d6, d7, d8, d9, d10, d11, d12, d13, d14, d15, d16, d17, d18, d19, d20, d21, d22]
  rfl
def gof (g : R4) (x y : Int) : Int := if gcheck g = 0 ∧ (R4.mk 0 0 g.x0 g.y0).has x y = true then y.tdiv g.y1 * gcols g + x.tdiv g.x1 else 0
def gin (g : R4) (x y : Int) : Bool := decide (gcheck g = 0) && (R4.mk 0 0 g.x0 g.y0).has x y
theorem whole_has {g : R4} (hg : gcheck g = 0) {x y : Int} : (R4.mk 0 0 g.x0 g.y0).has x y = true ↔ 0 ≤ x ∧ x < g.x0 ∧ 0 ≤ y ∧ y < g.y0 := by
  have hb := gcheck_inv hg
  simp only [R4.has, R4.empty, R4.right, inB, Bool.and_eq_true, Bool.not_eq_true', Bool.or_eq_false_iff, Bool.not_eq_false', decide_eq_true_eq, decide_eq_false_iff_not]
  omega
theorem gof_nat {g : R4} {x y : Int} (h : gin g x y = true) : ∃ X Y : Nat, x / g.x1 = X ∧ y / g.y1 = Y ∧ X < cN g ∧ Y < rN g ∧ gof g x y = ((Y * cN g + X : Nat) : Int) ∧ x.tdiv g.x1 = X ∧ y.tdiv g.y1 = Y := by
  simp only [gin, Bool.and_eq_true, decide_eq_true_eq] at h
  obtain ⟨hg, hh⟩ := h
  have hw := (whole_has hg).1 hh
  have hb := gcheck_inv hg
  have x0 : 0 ≤ x / g.x1 := Int.ediv_nonneg (by omega) (by omega)
  have y0 : 0 ≤ y / g.y1 := Int.ediv_nonneg (by omega) (by omega)
  have x2 : x / g.x1 * g.x1 ≤ x := Int.ediv_mul_le _ (by omega)
  have y2 : y / g.y1 * g.y1 ≤ y := Int.ediv_mul_le _ (by omega)
  have ex : x.tdiv g.x1 = x / g.x1 := Int.tdiv_eq_ediv_of_nonneg (by omega)
  have ey : y.tdiv g.y1 = y / g.y1 := Int.tdiv_eq_ediv_of_nonneg (by omega)
  obtain ⟨X, hX⟩ := Int.eq_ofNat_of_zero_le x0
  obtain ⟨Y, hY⟩ := Int.eq_ofNat_of_zero_le y0
  rw [hX] at x2; rw [hY] at y2
  refine ⟨X, Y, hX, hY, ?_, ?_, ?_, ex.trans hX, ey.trans hY⟩
  · exact (lt_ceil (by omega) (by omega)).1 (by omega)
  · exact (lt_ceil (by omega) (by omega)).1 (by omega)
  · unfold gof
    rw [if_pos ⟨hg, hh⟩, ex, ey, hX, hY, ← cN_eq hg]
    rfl
theorem gof_bd {g : R4} {x y : Int} (h : gin g x y = true) : 0 ≤ gof g x y ∧ gof g x y < gcount g := by
  obtain ⟨X, Y, _, _, hX, hY, e, _, _⟩ := gof_nat h
  have hg : gcheck g = 0 := by simp only [gin, Bool.and_eq_true, decide_eq_true_eq] at h; exact h.1
  rw [e, gcount_eq hg]
  have : (Y + 1) * cN g ≤ rN g * cN g := Nat.mul_le_mul_right _ hY
  rw [Nat.succ_mul] at this
  omega
theorem tile_has {g : R4} (hg : gcheck g = 0) {j k : Nat} (hj : j < rN g) (hk : k < cN g) {x y : Int} : (tileAt g j k).has x y = true ↔ (k * g.x1 ≤ x ∧ x < k * g.x1 + g.x1 ∧ x < g.x0) ∧ (j * g.y1 ≤ y ∧ y < j * g.y1 + g.y1 ∧ y < g.y0) := by
  have hb := gcheck_inv hg
  have ht := tile_lt hg hj hk
  unfold tileAt
  generalize (k : Int) * g.x1 = a at *
  generalize (j : Int) * g.y1 = b at *
  simp only [R4.has, R4.empty, R4.right, inB, Bool.and_eq_true, Bool.not_eq_true', Bool.or_eq_false_iff, Bool.not_eq_false', decide_eq_true_eq, decide_eq_false_iff_not]
  omega
theorem div_iff {x a : Int} {k : Nat} (ha : 1 ≤ a) : x / a = k ↔ k * a ≤ x ∧ x < k * a + a := by
  constructor
  · intro h
    have h1 := Int.ediv_mul_le x (show a ≠ 0 by omega)
    have h2 := Int.lt_ediv_add_one_mul_self x (show 0 < a by omega)
    rw [h] at h1 h2
    rw [Int.add_mul] at h2
    omega
  · intro ⟨h1, h2⟩
    have h3 : (k : Int) ≤ x / a := (Int.le_ediv_iff_mul_le (by omega)).2 h1
    have h4 : x / a < k + 1 := (Int.ediv_lt_iff_lt_mul (by omega)).2 (by rw [Int.add_mul]; omega)
    omega
theorem tile_of {g : R4} (hg : gcheck g = 0) {i : Nat} (hi : i < rN g * cN g) {x y : Int} : ((tilesL g (rN g)).getD i .zero).has x y = true ↔ gin g x y = true ∧ gof g x y = i := by
  have hb := gcheck_inv hg
  have hp := cN_pos hg
  have hj : i / cN g < rN g := (Nat.div_lt_iff_lt_mul hp).2 hi
  have hk : i % cN g < cN g := Nat.mod_lt _ hp
  rw [tilesL_get g _ _ hi, tile_has hg hj hk]
  have ht := tile_lt hg hj hk
  constructor
  · rintro ⟨⟨h1, h2, h3⟩, h4, h5, h6⟩
    have hin : gin g x y = true := by
      simp only [gin, Bool.and_eq_true, decide_eq_true_eq]
      exact ⟨hg, (whole_has hg).2 ⟨by omega, h3, by omega, h6⟩⟩
    obtain ⟨X, Y, e1, e2, _, _, e, _, _⟩ := gof_nat hin
    have f1 := (div_iff (by omega)).2 ⟨h1, h2⟩
    have f2 := (div_iff (by omega)).2 ⟨h4, h5⟩
    rw [e1] at f1; rw [e2] at f2
    have f1 : X = i % cN g := by omega
    have f2 : Y = i / cN g := by omega
    refine ⟨hin, ?_⟩
    rw [e, f1, f2, Nat.mul_comm, Nat.div_add_mod]
  · rintro ⟨hin, hof⟩
    obtain ⟨X, Y, e1, e2, hX, hY, e, _, _⟩ := gof_nat hin
    have hw := (whole_has hg).1 (by simp only [gin, Bool.and_eq_true] at hin; exact hin.2)
    rw [e] at hof
    have hof : Y * cN g + X = i := by omega
    have f1 : i % cN g = X := by rw [← hof, Nat.mul_comm, Nat.mul_add_mod, Nat.mod_eq_of_lt hX]
    have f2 : i / cN g = Y := by rw [← hof, Nat.mul_comm, Nat.mul_add_div hp, Nat.div_eq_of_lt hX]; omega
    rw [f1, f2]
    have g1 := (div_iff (by omega)).1 e1
    have g2 := (div_iff (by omega)).1 e2
    omega
end Go.Proofs.Ytgbekbofeaoniaa
namespace Go.Proofs.Ytgbekbofeaoniaa
open Go Go.RowKit
theorem gtile_s : SOK Try.prog 64 (sRI fun g i => .tup [(gtile g i).av, .bool (gis g i)]) := by
  refine sok_of (C := mkC 0 [(82, sR fun g => .int .i64 (gcols g)), (81, sR fun g => .int .i64 (gcount g)), (84, sR fun g => (R4.mk 0 0 g.x0 g.y0).av), (83, sRR fun a b => (a.both b).av)] noG)
    (mkC_ok (pok_cons gcols_s (pok_cons gcount_s (pok_cons gwhole_s (pok_cons both_s pok_nil)))) noG_ok) rfl mixed ⟨Try.func64, by kernel_rfl, by kernel_rfl, by kernel_rfl⟩ fun l obs v h _ => ?_
  obtain ⟨r, i, rfl, rfl⟩ := sRI_inv h
  obtain ⟨r0, r1, r2, r3⟩ := r
  refine ⟨Nat.le_of_ble_eq_true rfl, ?_⟩
  refine ⟨fun h1 => ?_, fun h1 => ⟨fun h2 => ?_, fun h2 => ?_⟩⟩
  · have h1 : i < 0 := of_decide_eq_true h1
    have e1 : gtile ⟨r0, r1, r2, r3⟩ i = .zero := if_neg (by omega)
    have e2 : gis ⟨r0, r1, r2, r3⟩ i = false := by simp [gis]; omega
    rw [e1, e2]
    (repeat' (first | apply And.intro | intro h)); (all_goals (try exact Chk.mk (by kernel_rfl)))
    (all_goals (try first | exact True.intro | exact rfl | exact And.intro rfl rfl | exact And.intro rfl (fun _ _ => rfl)))
  · have h1 : ¬ i < 0 := of_decide_eq_false h1
    have h2 : gcount ⟨r0, r1, r2, r3⟩ ≤ i := of_decide_eq_true h2
    have e1 : gtile ⟨r0, r1, r2, r3⟩ i = .zero := if_neg (by omega)
    have e2 : gis ⟨r0, r1, r2, r3⟩ i = false := by simp [gis]; omega
    rw [e1, e2]
    (repeat' (first | apply And.intro | intro h)); (all_goals (try exact Chk.mk (by kernel_rfl)))
    (all_goals (try first | exact True.intro | exact rfl | exact And.intro rfl rfl | exact And.intro rfl (fun _ _ => rfl)))
  · have h1 : ¬ i < 0 := of_decide_eq_false h1
    have h2 : ¬ gcount ⟨r0, r1, r2, r3⟩ ≤ i := of_decide_eq_false h2
    have e2 : gis ⟨r0, r1, r2, r3⟩ i = true := by simp [gis]; omega
    obtain ⟨hg, hj, hk, e3, e4⟩ := gidx (g := ⟨r0, r1, r2, r3⟩) (i := i) (by omega) (by omega)
    have e1 : gtile ⟨r0, r1, r2, r3⟩ i = tileAt ⟨r0, r1, r2, r3⟩ (i.toNat / cN ⟨r0, r1, r2, r3⟩) (i.toNat % cN ⟨r0, r1, r2, r3⟩) := if_pos (by omega)
    have hb := gcheck_inv hg
    have ht := tile_lt hg hj hk
    have hbt := tile_both hg hj hk
    rw [e2, e1, ← hbt]
    simp only at hb ht ⊢
    generalize i.toNat / cN ⟨r0, r1, r2, r3⟩ = J at *
    generalize i.toNat % cN ⟨r0, r1, r2, r3⟩ = K at *
    have hcp := cN_pos hg
    have hc0 : gcols ⟨r0, r1, r2, r3⟩ ≠ 0 := by rw [← cN_eq hg]; omega
    have q1 : rngI .i64 (i.tmod (gcols ⟨r0, r1, r2, r3⟩) * r2) := by rw [e3]; exact rng64 (by omega) (by omega)
    have q2 : rngI .i64 (i.tdiv (gcols ⟨r0, r1, r2, r3⟩)) := by
      rw [e4]
      have := grows_bd ⟨r0, r1, r2, r3⟩
      rw [← rN_eq hg] at this
      exact rng64 (by omega) (by omega)
    have q3 : rngI .i64 (i.tdiv (gcols ⟨r0, r1, r2, r3⟩) * r3) := by rw [e4]; exact rng64 (by omega) (by omega)
    have q4 : rngI .i64 (i.tmod (gcols ⟨r0, r1, r2, r3⟩) * r2 + r2) := by rw [e3]; exact rng64 (by omega) (by omega)
    have q5 : rngI .i64 (i.tdiv (gcols ⟨r0, r1, r2, r3⟩) * r3 + r3) := by rw [e4]; exact rng64 (by omega) (by omega)
    rw [← e3, ← e4]
    refine ⟨⟨by kernel_rfl⟩, hc0, q1, hc0, q2, q3, ?_⟩
    (repeat' (first | apply And.intro | intro h)); (all_goals (try exact Chk.mk (by kernel_rfl)))
    (all_goals (try first | exact True.intro | exact rfl | exact And.intro rfl rfl | exact And.intro rfl (fun _ _ => rfl)))
    · exact q4
    · exact q5
end Go.Proofs.Ytgbekbofeaoniaa
namespace Go.Proofs.Ytgbekbofeaoniaa
open Go Go.RowKit
def sN (v : AV) : PSpec := fun l => match l with | [] => some ([], v) | _ => none
theorem sN_inv {w : AV} {l : List AV} {obs : List Prop} {v : AV} (h : sN w l = some (obs, v)) : l = [] ∧ v = w := by
  unfold sN at h
  split at h
  · simp only [Option.some.injEq, Prod.mk.injEq] at h; exact ⟨rfl, h.2.symm⟩
  · cases h
end Go.Proofs.Ytgbekbofeaoniaa
namespace Go.Proofs.Ytgbekbofeaoniaa
open Go Go.RowKit
def fitsI (w h c : Int) : Int := if c ≠ 1 ∧ c ≠ 3 ∧ c ≠ 4 then 10 else if 32768 < w ∨ 32768 < h ∨ (0 < w ∧ 0 < h ∧ 4194304 < w * h) then 30 else if w < 1 ∨ h < 1 then 12 else 0
def imCheck (w h c n : Int) : Int := if fitsI w h c ≠ 0 then fitsI w h c else if n ≠ w * h * c then 12 else 0
theorem fits_inv {w h c : Int} (hf : fitsI w h c = 0) : (c = 1 ∨ c = 3 ∨ c = 4) ∧ 1 ≤ w ∧ w ≤ 32768 ∧ 1 ≤ h ∧ h ≤ 32768 ∧ w * h ≤ 4194304 ∧ 0 ≤ w * h ∧ 0 ≤ w * h * c ∧ w * h * c ≤ 16777216 := by
  unfold fitsI at hf
  split at hf
  · cases hf
  · split at hf
    · cases hf
    · split at hf
      · cases hf
      · rename_i h1 h2 h3
        have h4 : 0 ≤ w * h := Int.mul_nonneg (by omega) (by omega)
        have h5 : 0 ≤ w * h * c := Int.mul_nonneg h4 (by omega)
        have h6 : w * h ≤ 4194304 := by omega
        have h7 : w * h * c ≤ 4194304 * 4 := Int.mul_le_mul h6 (by omega) (by omega) (by omega)
        omega
theorem check_inv {w h c n : Int} (hf : imCheck w h c n = 0) : fitsI w h c = 0 ∧ n = w * h * c := by
  unfold imCheck at hf
  split at hf
  · rename_i h1; exact absurd hf h1
  · rename_i h1
    split at hf
    · cases hf
    · rename_i h2; exact ⟨by omega, by omega⟩
def inI (w h c x y k : Int) : Bool := decide (0 ≤ x) && decide (x < w) && decide (0 ≤ y) && decide (y < h) && decide (0 ≤ k) && decide (k < c)
def plI (w c x y k : Int) : Int := (y * w + x) * c + k
theorem in_inv {w h c x y k : Int} (hi : inI w h c x y k = true) : 0 ≤ x ∧ x < w ∧ 0 ≤ y ∧ y < h ∧ 0 ≤ k ∧ k < c := by
  simp only [inI, Bool.and_eq_true, decide_eq_true_eq] at hi; omega
theorem pl_bd {w h c x y k : Int} (hf : fitsI w h c = 0) (hi : inI w h c x y k = true) :
    (0 ≤ y * w ∧ y * w ≤ 4194304) ∧ (0 ≤ y * w + x ∧ y * w + x < w * h) ∧ (0 ≤ (y * w + x) * c ∧ (y * w + x) * c ≤ 16777216) ∧ 0 ≤ plI w c x y k ∧ plI w c x y k < w * h * c := by
  have hb := fits_inv hf
  have hh := in_inv hi
  have h1 : 0 ≤ y * w := Int.mul_nonneg (by omega) (by omega)
  have h2 : (y + 1) * w ≤ h * w := Int.mul_le_mul_of_nonneg_right (by omega) (by omega)
  rw [Int.add_mul, Int.one_mul, Int.mul_comm h w] at h2
  have h3 : 0 ≤ (y * w + x) * c := Int.mul_nonneg (by omega) (by omega)
  have h4 : (y * w + x + 1) * c ≤ w * h * c := Int.mul_le_mul_of_nonneg_right (by omega) (by omega)
  rw [Int.add_mul, Int.one_mul] at h4
  unfold plI
  omega
theorem in_of {w h c x y k : Int} (hi : 0 ≤ x ∧ x < w ∧ 0 ≤ y ∧ y < h ∧ 0 ≤ k ∧ k < c) : inI w h c x y k = true := by
  simp only [inI, Bool.and_eq_true, decide_eq_true_eq]; omega
theorem pl_rng {w h c x y k : Int} (hf : fitsI w h c = 0) (hi : inI w h c x y k = true) : rngI .i64 (y * w) ∧ rngI .i64 (y * w + x) ∧ rngI .i64 ((y * w + x) * c) ∧ rngI .i64 ((y * w + x) * c + k) := by
  have hb := pl_bd hf hi
  have hc := fits_inv hf
  unfold plI at hb
  exact ⟨rng64 (by omega) (by omega), rng64 (by omega) (by omega), rng64 (by omega) (by omega), rng64 (by omega) (by omega)⟩
def sIII (f : Int → Int → Int → AV) : PSpec := fun l => match l with | [.int .i64 a, .int .i64 b, .int .i64 c] => some ([], f a b c) | _ => none
theorem sIII_inv {f : Int → Int → Int → AV} {l : List AV} {obs : List Prop} {v : AV} (h : sIII f l = some (obs, v)) : ∃ a b c, l = [.int .i64 a, .int .i64 b, .int .i64 c] ∧ v = f a b c := by
  unfold sIII at h
  split at h
  · simp only [Option.some.injEq, Prod.mk.injEq] at h; exact ⟨_, _, _, rfl, h.2.symm⟩
  · cases h
abbrev imA (w h c : Int) (l : List Int) : AV := .agg [.int .i64 w, .int .i64 h, .int .i64 c, .roi .u8 l]
def sM (ob : Int → Int → Int → List Int → List Prop) (f : Int → Int → Int → List Int → AV) : PSpec := fun l => match l with | [.agg [.int .i64 w, .int .i64 h, .int .i64 c, .roi .u8 p]] => some (ob w h c p, f w h c p) | _ => none
theorem sM_inv {ob : Int → Int → Int → List Int → List Prop} {f : Int → Int → Int → List Int → AV} {l : List AV} {obs : List Prop} {v : AV} (h : sM ob f l = some (obs, v)) : ∃ w hh c p, l = [imA w hh c p] ∧ obs = ob w hh c p ∧ v = f w hh c p := by
  unfold sM at h
  split at h
  · simp only [Option.some.injEq, Prod.mk.injEq] at h; exact ⟨_, _, _, _, rfl, h.1.symm, h.2.symm⟩
  · cases h
def sMI (ob : Int → Int → Int → List Int → Int → List Prop) (f : Int → Int → Int → List Int → Int → AV) : PSpec := fun l => match l with | [.agg [.int .i64 w, .int .i64 h, .int .i64 c, .roi .u8 p], .int .i64 x] => some (ob w h c p x, f w h c p x) | _ => none
theorem sMI_inv {ob : Int → Int → Int → List Int → Int → List Prop} {f : Int → Int → Int → List Int → Int → AV} {l : List AV} {obs : List Prop} {v : AV} (h : sMI ob f l = some (obs, v)) : ∃ w hh c p x, l = [imA w hh c p, .int .i64 x] ∧ obs = ob w hh c p x ∧ v = f w hh c p x := by
  unfold sMI at h
  split at h
  · simp only [Option.some.injEq, Prod.mk.injEq] at h; exact ⟨_, _, _, _, _, rfl, h.1.symm, h.2.symm⟩
  · cases h
def sM3 (ob : Int → Int → Int → List Int → Int → Int → Int → List Prop) (f : Int → Int → Int → List Int → Int → Int → Int → AV) : PSpec := fun l => match l with | [.agg [.int .i64 w, .int .i64 h, .int .i64 c, .roi .u8 p], .int .i64 x, .int .i64 y, .int .i64 k] => some (ob w h c p x y k, f w h c p x y k) | _ => none
theorem sM3_inv {ob : Int → Int → Int → List Int → Int → Int → Int → List Prop} {f : Int → Int → Int → List Int → Int → Int → Int → AV} {l : List AV} {obs : List Prop} {v : AV} (h : sM3 ob f l = some (obs, v)) : ∃ w hh c p x y k, l = [imA w hh c p, .int .i64 x, .int .i64 y, .int .i64 k] ∧ obs = ob w hh c p x y k ∧ v = f w hh c p x y k := by
  unfold sM3 at h
  split at h
  · simp only [Option.some.injEq, Prod.mk.injEq] at h; exact ⟨_, _, _, _, _, _, _, rfl, h.1.symm, h.2.symm⟩
  · cases h
theorem wh_rng {w h : Int} (h1 : decide (32768 < w) = false) (h2 : decide (32768 < h) = false) (h3 : decide (0 < w) = true) (h4 : decide (0 < h) = true) : rngI .i64 (w * h) := by
  replace h1 := of_decide_eq_false h1
  replace h2 := of_decide_eq_false h2
  replace h3 := of_decide_eq_true h3
  replace h4 := of_decide_eq_true h4
  have h5 : 0 ≤ w * h := Int.mul_nonneg (by omega) (by omega)
  have h6 : w * h ≤ 32768 * 32768 := Int.mul_le_mul (by omega) (by omega) (by omega) (by omega)
  exact rng64 (by omega) (by omega)
theorem fits_s : SOK Try.prog 80 (sIII fun w h c => .int .i64 (fitsI w h c)) := by
  refine sok_of (C := mkC 0 [] noG) (mkC_ok pok_nil noG_ok) rfl mixed ⟨Try.func80, by kernel_rfl, by kernel_rfl, by kernel_rfl⟩ fun l obs v h _ => ?_
  obtain ⟨w, hh, c, rfl, rfl⟩ := sIII_inv h
  clear h
  refine ⟨Nat.le_of_ble_eq_true rfl, ?_⟩
  (repeat' (first | apply And.intro | intro h)); (all_goals (try exact Chk.mk (by kernel_rfl)))
  all_goals first | exact wh_rng (by assumption) (by assumption) (by assumption) (by assumption) | (show _ = fitsI _ _ _; simp only [decide_eq_true_eq, decide_eq_false_iff_not, Bool.not_eq_true', Bool.not_eq_false', Bool.and_eq_true, Bool.or_eq_true, Bool.and_eq_false_iff, Bool.or_eq_false_iff, Int.not_lt, Int.not_le, ne_eq, Classical.not_not] at *; unfold fitsI; (repeat' split) <;> first | rfl | omega)
theorem rfits_s : SOK Try.prog 56 (sIII fun w h c => .int .i64 (fitsI w h c)) := by
  refine sok_of (C := mkC 0 [] noG) (mkC_ok pok_nil noG_ok) rfl mixed ⟨Try.func56, by kernel_rfl, by kernel_rfl, by kernel_rfl⟩ fun l obs v h _ => ?_
  obtain ⟨w, hh, c, rfl, rfl⟩ := sIII_inv h
  clear h
  refine ⟨Nat.le_of_ble_eq_true rfl, ?_⟩
  (repeat' (first | apply And.intro | intro h)); (all_goals (try exact Chk.mk (by kernel_rfl)))
  all_goals first | exact wh_rng (by assumption) (by assumption) (by assumption) (by assumption) | (show _ = fitsI _ _ _; simp only [decide_eq_true_eq, decide_eq_false_iff_not, Bool.not_eq_true', Bool.not_eq_false', Bool.and_eq_true, Bool.or_eq_true, Bool.and_eq_false_iff, Bool.or_eq_false_iff, Int.not_lt, Int.not_le, ne_eq, Classical.not_not] at *; unfold fitsI; (repeat' split) <;> first | rfl | omega)
abbrev fitsS : PSpec := sIII fun w h c => .int .i64 (fitsI w h c)
abbrev checkS : PSpec := sM (fun _ _ _ _ => []) fun w h c p => .int .i64 (imCheck w h c p.length)
theorem whc_rng {w h c : Int} (hf : fitsI w h c = 0) : rngI .i64 (w * h) ∧ rngI .i64 (w * h * c) := by
  have hb := fits_inv hf
  exact ⟨rng64 (by omega) (by omega), rng64 (by omega) (by omega)⟩
theorem check_s : SOK Try.prog 51 checkS := by
  refine sok_of (C := mkC 0 [(80, fitsS)] noG) (mkC_ok (pok_cons fits_s pok_nil) noG_ok) rfl mixed ⟨Try.func51, by kernel_rfl, by kernel_rfl, by kernel_rfl⟩ fun l obs v h _ => ?_
  obtain ⟨w, hh, c, p, rfl, rfl, rfl⟩ := sM_inv h
  clear h
  refine ⟨Nat.le_of_ble_eq_true rfl, ?_⟩
  refine ⟨fun h1 => ?_, fun h1 => ?_⟩
  · have h1 : ¬ fitsI w hh c = 0 := of_decide_eq_true h1
    have e : imCheck w hh c p.length = fitsI w hh c := if_pos h1
    rw [e]
    (repeat' (first | apply And.intro | intro h)); (all_goals (try exact Chk.mk (by kernel_rfl)))
    (all_goals (try first | exact True.intro | exact rfl | exact And.intro rfl rfl | exact And.intro rfl (fun _ _ => rfl)))
  · have h1 : fitsI w hh c = 0 := by simpa using h1
    have hr := whc_rng h1
    refine ⟨hr.1, hr.2, fun h2 => ?_, fun h2 => ?_⟩
    · have e : imCheck w hh c p.length = 12 := by unfold imCheck; rw [if_neg (by omega), if_pos (of_decide_eq_true h2)]
      rw [e]
      (repeat' (first | apply And.intro | intro h)); (all_goals (try exact Chk.mk (by kernel_rfl)))
      (all_goals (try first | exact True.intro | exact rfl | exact And.intro rfl rfl | exact And.intro rfl (fun _ _ => rfl)))
    · have e : imCheck w hh c p.length = 0 := by unfold imCheck; rw [if_neg (by omega), if_neg (of_decide_eq_false h2)]
      rw [e]
      (repeat' (first | apply And.intro | intro h)); (all_goals (try exact Chk.mk (by kernel_rfl)))
      (all_goals (try first | exact True.intro | exact rfl | exact And.intro rfl rfl | exact And.intro rfl (fun _ _ => rfl)))
theorem rcheck7_s : SOK Try.prog 19 checkS := by
  refine sok_of (C := mkC 0 [(56, fitsS)] noG) (mkC_ok (pok_cons rfits_s pok_nil) noG_ok) rfl mixed ⟨Try.func19, by kernel_rfl, by kernel_rfl, by kernel_rfl⟩ fun l obs v h _ => ?_
  obtain ⟨w, hh, c, p, rfl, rfl, rfl⟩ := sM_inv h
  clear h
  refine ⟨Nat.le_of_ble_eq_true rfl, ?_⟩
  refine ⟨fun h1 => ?_, fun h1 => ?_⟩
  · have h1 : fitsI w hh c = 0 := of_decide_eq_true h1
    have hr := whc_rng h1
    refine ⟨hr.1, hr.2, fun h2 => ?_, fun h2 => ?_⟩
    · have e : imCheck w hh c p.length = 12 := by unfold imCheck; rw [if_neg (by omega), if_pos (of_decide_eq_true h2)]
      rw [e]
      (repeat' (first | apply And.intro | intro h)); (all_goals (try exact Chk.mk (by kernel_rfl)))
      (all_goals (try first | exact True.intro | exact rfl | exact And.intro rfl rfl | exact And.intro rfl (fun _ _ => rfl)))
    · have e : imCheck w hh c p.length = fitsI w hh c := by unfold imCheck; rw [if_neg (by omega), if_neg (of_decide_eq_false h2), h1]
      rw [e]
      (repeat' (first | apply And.intro | intro h)); (all_goals (try exact Chk.mk (by kernel_rfl)))
      (all_goals (try first | exact True.intro | exact rfl | exact And.intro rfl rfl | exact And.intro rfl (fun _ _ => rfl)))
  · have h1 : ¬ fitsI w hh c = 0 := of_decide_eq_false h1
    have e : imCheck w hh c p.length = fitsI w hh c := if_pos h1
    rw [e]
    (repeat' (first | apply And.intro | intro h)); (all_goals (try exact Chk.mk (by kernel_rfl)))
    (all_goals (try first | exact True.intro | exact rfl | exact And.intro rfl rfl | exact And.intro rfl (fun _ _ => rfl)))
abbrev fewS : PSpec := sMI (fun _ _ _ _ _ => []) fun w h c p x => .bool (decide ((p.length : Int) ≤ x))
theorem few_s : SOK Try.prog 16 fewS := by
  refine sok_of (C := mkC 0 [] noG) (mkC_ok pok_nil noG_ok) rfl mixed ⟨Try.func16, by kernel_rfl, by kernel_rfl, by kernel_rfl⟩ fun l obs v h _ => ?_
  obtain ⟨w, hh, c, p, x, rfl, rfl, rfl⟩ := sMI_inv h
  clear h
  refine ⟨Nat.le_of_ble_eq_true rfl, ?_⟩
  (repeat' (first | apply And.intro | intro h)); (all_goals (try exact Chk.mk (by kernel_rfl)))
  (all_goals (try first | exact True.intro | exact rfl | exact And.intro rfl rfl | exact And.intro rfl (fun _ _ => rfl)))
def rplI (w h c n x y k : Int) : Int := if imCheck w h c n = 0 ∧ inI w h c x y k = true then plI w c x y k else -1
abbrev rplS : PSpec := sM3 (fun _ _ _ _ _ _ _ => []) fun w h c p x y k => .int .i64 (rplI w h c p.length x y k)
theorem rplace_s : SOK Try.prog 58 rplS := by
  refine sok_of (C := mkC 0 [(19, checkS)] noG) (mkC_ok (pok_cons rcheck7_s pok_nil) noG_ok) rfl mixed ⟨Try.func58, by kernel_rfl, by kernel_rfl, by kernel_rfl⟩ fun l obs v h _ => ?_
  obtain ⟨w, hh, c, p, x, y, k, rfl, rfl, rfl⟩ := sM3_inv h
  clear h
  refine ⟨Nat.le_of_ble_eq_true rfl, ?_⟩
  by_cases hin : imCheck w hh c p.length = 0 ∧ inI w hh c x y k = true
  · have e : rplI w hh c p.length x y k = plI w c x y k := if_pos hin
    obtain ⟨q1, q2, q3, q4⟩ := pl_rng (check_inv hin.1).1 hin.2
    have hi := in_inv hin.2
    have hz := hin.1
    rw [e]
    clear e hin
    (repeat' (first | apply And.intro | intro h)); (all_goals (try exact Chk.mk (by kernel_rfl)))
    (all_goals (try first | assumption | exact rfl | exact True.intro | contradiction | (exfalso; simp only [decide_eq_true_eq, decide_eq_false_iff_not, Bool.not_eq_true', Bool.not_eq_false', Bool.and_eq_true, Bool.or_eq_true, Bool.and_eq_false_iff, Bool.or_eq_false_iff, Int.not_lt, Int.not_le, ne_eq, Classical.not_not] at *; omega)))
  · have e : rplI w hh c p.length x y k = -1 := if_neg hin
    rw [e]
    replace hin : ¬ (imCheck w hh c p.length = 0 ∧ 0 ≤ x ∧ x < w ∧ 0 ≤ y ∧ y < hh ∧ 0 ≤ k ∧ k < c) := fun h => hin ⟨h.1, in_of h.2⟩
    clear e
    (repeat' (first | apply And.intro | intro h)); (all_goals (try exact Chk.mk (by kernel_rfl)))
    (all_goals (try first | assumption | exact rfl | exact True.intro | contradiction | (exfalso; simp only [decide_eq_true_eq, decide_eq_false_iff_not, Bool.not_eq_true', Bool.not_eq_false', Bool.and_eq_true, Bool.or_eq_true, Bool.and_eq_false_iff, Bool.or_eq_false_iff, Int.not_lt, Int.not_le, ne_eq, Classical.not_not] at *; omega)))
abbrev vplS : PSpec := sM3 (fun w h c p x y k => [fitsI w h c = 0]) fun w h c p x y k => .tup [.int .i64 (if inI w h c x y k = true then plI w c x y k else 0), .bool (inI w h c x y k)]
theorem vplace_s : SOK Try.prog 88 vplS := by
  refine sok_of (C := mkC 0 [] noG) (mkC_ok pok_nil noG_ok) rfl mixed ⟨Try.func88, by kernel_rfl, by kernel_rfl, by kernel_rfl⟩ fun l obs v h ho => ?_
  obtain ⟨w, hh, c, p, x, y, k, rfl, rfl, rfl⟩ := sM3_inv h
  clear h
  have hf : fitsI w hh c = 0 := ho _ (by simp)
  clear ho
  refine ⟨Nat.le_of_ble_eq_true rfl, ?_⟩
  by_cases hin : inI w hh c x y k = true
  · obtain ⟨q1, q2, q3, q4⟩ := pl_rng hf hin
    have hi := in_inv hin
    rw [if_pos hin, hin]
    clear hin
    (repeat' (first | apply And.intro | intro h)); (all_goals (try exact Chk.mk (by kernel_rfl)))
    (all_goals (try first | assumption | exact rfl | exact True.intro | contradiction | (exfalso; simp only [decide_eq_true_eq, decide_eq_false_iff_not, Bool.not_eq_true', Bool.not_eq_false', Bool.and_eq_true, Bool.or_eq_true, Bool.and_eq_false_iff, Bool.or_eq_false_iff, Int.not_lt, Int.not_le, ne_eq, Classical.not_not] at *; omega)))
  · rw [if_neg hin, Bool.eq_false_iff.2 hin]
    replace hin : ¬ (0 ≤ x ∧ x < w ∧ 0 ≤ y ∧ y < hh ∧ 0 ≤ k ∧ k < c) := fun h => hin (in_of h)
    (repeat' (first | apply And.intro | intro h)); (all_goals (try exact Chk.mk (by kernel_rfl)))
    (all_goals (try first | assumption | exact rfl | exact True.intro | contradiction | (exfalso; simp only [decide_eq_true_eq, decide_eq_false_iff_not, Bool.not_eq_true', Bool.not_eq_false', Bool.and_eq_true, Bool.or_eq_true, Bool.and_eq_false_iff, Bool.or_eq_false_iff, Int.not_lt, Int.not_le, ne_eq, Classical.not_not] at *; omega)))
def sB (ob : List Int → List Prop) (f : List Int → AV) : PSpec := fun l => match l with | [.roi .u8 p] => some (ob p, f p) | _ => none
theorem sB_inv {ob : List Int → List Prop} {f : List Int → AV} {l : List AV} {obs : List Prop} {v : AV} (h : sB ob f l = some (obs, v)) : ∃ p, l = [.roi .u8 p] ∧ obs = ob p ∧ v = f p := by
  unfold sB at h
  split at h
  · simp only [Option.some.injEq, Prod.mk.injEq] at h; exact ⟨_, rfl, h.1.symm, h.2.symm⟩
  · cases h
abbrev cloneS : PSpec := sB (fun p => [p.length ≤ 140737488355328]) fun p => .roi .u8 p
theorem clone_s : SOK Try.prog 55 cloneS := by
  refine sok_of (C := mkC 0 [] noG) (mkC_ok pok_nil noG_ok) rfl mixed ⟨Try.func55, by kernel_rfl, by kernel_rfl, by kernel_rfl⟩ fun l obs v h ho => ?_
  obtain ⟨p, rfl, rfl, rfl⟩ := sB_inv h
  have hl : p.length ≤ 140737488355328 := ho _ (by simp)
  clear h ho
  refine ⟨Nat.le_of_ble_eq_true rfl, ?_⟩
  refine fun b hb => ⟨fun h1 => ?_, fun h1 => ?_⟩
  · rw [hb h1]
    (repeat' (first | apply And.intro | intro h)); (all_goals (try exact Chk.mk (by kernel_rfl)))
    (all_goals (try first | exact True.intro | exact rfl | exact And.intro rfl rfl | exact And.intro rfl (fun _ _ => rfl)))
  · (repeat' (first | apply And.intro | intro h)); (all_goals (try exact Chk.mk (by kernel_rfl)))
    (all_goals (try first | exact True.intro | exact rfl | exact And.intro rfl rfl | exact And.intro rfl (fun _ _ => rfl)))
    · show (((0 : Nat) : Int) + (p.length : Int)) * ((1 : Nat) : Int) ≤ 140737488355328; omega
    · show 0 + p.length ≤ 140737488355328; omega
    · show 0 + (0 + p.length) ≤ p.length; omega
    · show List.take (0 + p.length) p = p; simp
end Go.Proofs.Ytgbekbofeaoniaa
namespace Go.Proofs.Ytgbekbofeaoniaa
def stepL (m a : List Int) (n : Nat) (b : Nat → Nat) : Nat → List Int
  | 0 => m
  | i + 1 => (stepL m a n b i).set (b (i / n) + i % n) (a.getD i 0)
def rowsL (m a : List Int) (n : Nat) (b : Nat → Nat) : Nat → List Int
  | 0 => m
  | r + 1 => (rowsL m a n b r).take (b r) ++ ((a.drop (r * n)).take n ++ (rowsL m a n b r).drop (b r + n))
theorem stepL_len (m a : List Int) (n : Nat) (b : Nat → Nat) (i : Nat) : (stepL m a n b i).length = m.length := by
  induction i with
  | zero => rfl
  | succ i ih => simp [stepL, ih]
theorem get_splice {l v : List Int} {o t : Nat} (ho : o + t ≤ l.length) (hv : v.length = t) (j : Nat) : (l.take o ++ (v ++ l.drop (o + t)))[j]? = if j < o then l[j]? else if j < o + t then v[j - o]? else l[j]? := by
  have e1 : (l.take o).length = o := by simp; omega
  rw [List.getElem?_append, e1]
  by_cases h1 : j < o
  · rw [if_pos h1, if_pos h1, List.getElem?_take_of_lt h1]
  · rw [if_neg h1, if_neg h1, List.getElem?_append, hv]
    by_cases h2 : j < o + t
    · rw [if_pos (by omega), if_pos h2]
    · rw [if_neg (by omega), if_neg h2, List.getElem?_drop]
      congr 1; omega
theorem step_in {m a : List Int} {n : Nat} {b : Nat → Nat} {R r : Nat} (hb : ∀ r, r < R → b r + n ≤ m.length) (ha : a.length = R * n) (hr : r < R) :
    ∀ t, t ≤ n → stepL m a n b (r * n + t) = (stepL m a n b (r * n)).take (b r) ++ ((a.drop (r * n)).take t ++ (stepL m a n b (r * n)).drop (b r + t)) := by
  intro t
  have hl := stepL_len m a n b (r * n)
  have hbr := hb r hr
  have har : r * n + n ≤ a.length := by rw [ha, ← Nat.succ_mul]; exact Nat.mul_le_mul_right _ hr
  induction t with
  | zero => intro _; simp
  | succ t ih =>
    intro ht
    have ih := ih (by omega)
    have e1 : (r * n + t) / n = r := by rw [Nat.mul_comm, Nat.mul_add_div (by omega), Nat.div_eq_of_lt (by omega)]; omega
    have e2 : (r * n + t) % n = t := by rw [Nat.mul_comm, Nat.mul_add_mod, Nat.mod_eq_of_lt (by omega)]
    show (stepL m a n b (r * n + t)).set (b ((r * n + t) / n) + (r * n + t) % n) (a.getD (r * n + t) 0) = _
    rw [e1, e2, ih]
    generalize hL : stepL m a n b (r * n) = L at *
    have v1 : ((a.drop (r * n)).take t).length = t := by simp; omega
    have v2 : ((a.drop (r * n)).take (t + 1)).length = t + 1 := by simp; omega
    refine List.ext_getElem? fun j => ?_
    rw [get_splice (by omega) v2, List.getElem?_set, get_splice (by omega) v1]
    have hlen : (L.take (b r) ++ ((a.drop (r * n)).take t ++ L.drop (b r + t))).length = L.length := by simp; omega
    rw [hlen]
    by_cases h1 : b r + t = j
    · rw [if_pos h1, if_pos (by omega), if_neg (by omega), if_pos (by omega)]
      have h2 : j - b r = t := by omega
      rw [h2, List.getElem?_take_of_lt (by omega), List.getElem?_drop]
      simp [List.getD, show r * n + t < a.length by omega]
    · rw [if_neg h1]
      by_cases h2 : j < b r
      · rw [if_pos h2, if_pos h2]
      · rw [if_neg h2, if_neg h2]
        by_cases h3 : j < b r + t
        · rw [if_pos h3, if_pos (by omega), List.getElem?_take_of_lt (by omega), List.getElem?_take_of_lt (by omega)]
        · rw [if_neg h3, if_neg (by omega)]
theorem step_rows {m a : List Int} {n : Nat} {b : Nat → Nat} {R : Nat} (hb : ∀ r, r < R → b r + n ≤ m.length) (ha : a.length = R * n) : ∀ r, r ≤ R → stepL m a n b (r * n) = rowsL m a n b r := by
  intro r
  induction r with
  | zero => intro _; simp [stepL, rowsL]
  | succ r ih =>
    intro hr
    rw [Nat.succ_mul, step_in hb ha (by omega) n (Nat.le_refl _), ih (by omega)]
    rfl
def pasteC (w h c n v g d k x y : Int) : Int := if imCheck w h c n ≠ 0 then imCheck w h c n else if imCheck v g d k ≠ 0 then imCheck v g d k else if c ≠ d then 10 else if x < 0 ∨ y < 0 ∨ w - v < x ∨ h - g < y then 11 else 0
def baseR (w c x y : Int) (r : Nat) : Nat := (((y + r) * w + x) * c).toNat
def pasteL (w h c : Int) (m : List Int) (v g d : Int) (a : List Int) (x y : Int) : List Int := if pasteC w h c m.length v g d a.length x y = 0 then stepL m a (v * d).toNat (baseR w c x y) a.length else m
structure POKI (w h c : Int) (m : List Int) (v g d : Int) (a : List Int) (x y : Int) : Prop where
  f1 : fitsI w h c = 0
  f2 : fitsI v g d = 0
  l1 : (m.length : Int) = w * h * c
  l2 : (a.length : Int) = v * g * d
  cd : c = d
  x0 : 0 ≤ x
  y0 : 0 ≤ y
  x1 : x + v ≤ w
  y1 : y + g ≤ h
theorem paste_inv {w h c : Int} {m : List Int} {v g d : Int} {a : List Int} {x y : Int} (hp : pasteC w h c m.length v g d a.length x y = 0) : POKI w h c m v g d a x y := by
  unfold pasteC at hp
  split at hp
  · rename_i h1; exact absurd hp h1
  · rename_i h1
    split at hp
    · rename_i h2; exact absurd hp h2
    · rename_i h2
      split at hp
      · cases hp
      · rename_i h3
        split at hp
        · cases hp
        · rename_i h4
          have c1 := check_inv (show imCheck w h c m.length = 0 by omega)
          have c2 := check_inv (show imCheck v g d a.length = 0 by omega)
          exact ⟨c1.1, c2.1, c1.2, c2.2, by omega, by omega, by omega, by omega, by omega⟩
theorem paste_row {w h c : Int} {m : List Int} {v g d : Int} {a : List Int} {x y : Int} (hp : POKI w h c m v g d a x y) : a.length = g.toNat * (v * d).toNat ∧ (∀ r, r < g.toNat → ((baseR w c x y r : Nat) : Int) = ((y + r) * w + x) * c ∧ baseR w c x y r + (v * d).toNat ≤ m.length) ∧ 0 ≤ v * d ∧ v * d ≤ 131072 ∧ 0 < v * d := by
  have b1 := fits_inv hp.f1
  have b2 := fits_inv hp.f2
  have f1 := hp.f1
  obtain ⟨_, _, l1, l2, cd, x0, y0, x1, y1⟩ := hp
  have h0 : 0 < v * d := Int.mul_pos (by omega) (by omega)
  have h1 : v * d ≤ 32768 * 4 := Int.mul_le_mul (by omega) (by omega) (by omega) (by omega)
  refine ⟨?_, fun r hr => ?_, by omega, by omega, h0⟩
  · have : ((g.toNat * (v * d).toNat : Nat) : Int) = a.length := by
      rw [Int.natCast_mul, Int.toNat_of_nonneg (by omega), Int.toNat_of_nonneg (by omega), l2, Int.mul_comm v g, Int.mul_assoc]
    omega
  · have hin : inI w h c x (y + r) 0 = true := in_of (by omega)
    have hpb := pl_bd f1 hin
    have hin2 : inI w h c (x + v - 1) (y + r) (c - 1) = true := in_of (by omega)
    have hpb2 := pl_bd f1 hin2
    unfold plI at hpb hpb2
    have e1 : ((baseR w c x y r : Nat) : Int) = ((y + r) * w + x) * c := by
      unfold baseR; omega
    refine ⟨e1, ?_⟩
    have e2 : ((y + r) * w + (x + v - 1)) * c + (c - 1) + 1 = ((y + r) * w + x) * c + v * d := by
      subst cd
      have : (y + r) * w + (x + v - 1) = ((y + r) * w + x) + (v - 1) := by omega
      rw [this, Int.add_mul _ (v - 1) c, Int.sub_mul]
      omega
    omega
theorem paste_idx {w h c : Int} {m : List Int} {v g d : Int} {a : List Int} {x y : Int} (hp : POKI w h c m v g d a x y) {i : Nat} (hi : i < a.length) :
    ∃ col row k : Nat, ((i : Int).tdiv d).tmod v = col ∧ ((i : Int).tdiv d).tdiv v = row ∧ (i : Int).tmod d = k ∧ inI w h c (x + col) (y + row) k = true ∧ plI w c (x + col) (y + row) k = ((baseR w c x y (i / (v * d).toNat) + i % (v * d).toNat : Nat) : Int) ∧ (col : Int) < v ∧ (row : Int) < g ∧ (k : Int) < d := by
  have b1 := fits_inv hp.f1
  have b2 := fits_inv hp.f2
  obtain ⟨r1, r2, r3, r4, r5⟩ := paste_row hp
  obtain ⟨_, _, l1, l2, cd, x0, y0, x1, y1⟩ := hp
  obtain ⟨V, rfl⟩ := Int.eq_ofNat_of_zero_le (show 0 ≤ v by omega)
  obtain ⟨D, rfl⟩ := Int.eq_ofNat_of_zero_le (show 0 ≤ d by omega)
  obtain ⟨G, rfl⟩ := Int.eq_ofNat_of_zero_le (show 0 ≤ g by omega)
  have hV : 0 < V := by omega
  have hD : 0 < D := by omega
  have en : (((V : Nat) : Int) * ((D : Nat) : Int)).toNat = V * D := by rw [← Int.natCast_mul]; rfl
  rw [en] at r1 r2 ⊢
  have eG : ((G : Nat) : Int).toNat = G := rfl
  rw [eG] at r1 r2
  have e1 : (i : Int).tdiv (D : Nat) = ((i / D : Nat) : Int) := by rw [Int.tdiv_eq_ediv_of_nonneg (Int.natCast_nonneg _)]; rfl
  have e2 : (i : Int).tmod (D : Nat) = ((i % D : Nat) : Int) := by rw [Int.tmod_eq_emod_of_nonneg (Int.natCast_nonneg _)]; rfl
  have e3 : ((i / D : Nat) : Int).tmod (V : Nat) = ((i / D % V : Nat) : Int) := by rw [Int.tmod_eq_emod_of_nonneg (Int.natCast_nonneg _)]; rfl
  have e4 : ((i / D : Nat) : Int).tdiv (V : Nat) = ((i / D / V : Nat) : Int) := by rw [Int.tdiv_eq_ediv_of_nonneg (Int.natCast_nonneg _)]; rfl
  have m1 : i / D % V < V := Nat.mod_lt _ hV
  have m2 : i % D < D := Nat.mod_lt _ hD
  have d1 : i / D / V = i / (V * D) := by rw [Nat.div_div_eq_div_mul, Nat.mul_comm]
  have m3 : i / (V * D) < G := by rw [Nat.div_lt_iff_lt_mul (Nat.mul_pos hV hD)]; omega
  have n1 : ((i / D % V : Nat) : Int) < V := Int.ofNat_lt.2 m1
  have n2 : ((i % D : Nat) : Int) < D := Int.ofNat_lt.2 m2
  have n3 : ((i / D / V : Nat) : Int) < G := Int.ofNat_lt.2 (by rw [d1]; exact m3)
  have z1 : (0 : Int) ≤ ((i / D % V : Nat) : Int) := Int.natCast_nonneg _
  have z2 : (0 : Int) ≤ ((i % D : Nat) : Int) := Int.natCast_nonneg _
  have z3 : (0 : Int) ≤ ((i / D / V : Nat) : Int) := Int.natCast_nonneg _
  refine ⟨i / D % V, i / D / V, i % D, by rw [e1, e3], by rw [e1, e4], e2, ?_, ?_, n1, n3, n2⟩
  · generalize ((i / D % V : Nat) : Int) = A at *
    generalize ((i / D / V : Nat) : Int) = B at *
    generalize ((i % D : Nat) : Int) = E at *
    exact in_of (by omega)
  have q := (r2 (i / (V * D)) m3).1
  rw [Int.natCast_add, q, ← d1]
  unfold plI
  have e5 : i % (V * D) = i / D % V * D + i % D := by
    rw [Nat.mul_comm V D, Nat.mod_mul, Nat.mul_comm D (i / D % V)]; omega
  rw [e5, Int.natCast_add, Int.natCast_mul]
  subst cd
  have : (y + ((i / D / V : Nat) : Int)) * w + (x + ((i / D % V : Nat) : Int)) = ((y + ((i / D / V : Nat) : Int)) * w + x) + ((i / D % V : Nat) : Int) := by omega
  rw [this, Int.add_mul]
  omega
end Go.Proofs.Ytgbekbofeaoniaa
namespace Go.Proofs.Ytgbekbofeaoniaa
open Go Go.RowKit
def sMM (f : Int → Int → Int → List Int → Int → Int → Int → List Int → AV) : PSpec := fun l => match l with
  | [.agg [.int .i64 w, .int .i64 h, .int .i64 c, .roi .u8 p], .agg [.int .i64 v, .int .i64 g, .int .i64 d, .roi .u8 q]] => some ([p.length ≤ 1152921504606846975], f w h c p v g d q) | _ => none
theorem sMM_inv {f : Int → Int → Int → List Int → Int → Int → Int → List Int → AV} {l : List AV} {obs : List Prop} {v : AV} (h : sMM f l = some (obs, v)) : ∃ w hh c p w' h' c' q, l = [imA w hh c p, imA w' h' c' q] ∧ obs = [p.length ≤ 1152921504606846975] ∧ v = f w hh c p w' h' c' q := by
  unfold sMM at h
  split at h
  · simp only [Option.some.injEq, Prod.mk.injEq] at h; exact ⟨_, _, _, _, _, _, _, _, rfl, h.1.symm, h.2.symm⟩
  · cases h
def sameM (w h c : Int) (p : List Int) (v g d : Int) (q : List Int) : Bool := decide (w = v ∧ h = g ∧ c = d ∧ p = q)
abbrev sameS : PSpec := sMM fun w h c p v g d q => .bool (sameM w h c p v g d q)
theorem list_getD {p q : List Int} (hl : p.length = q.length) (h : ∀ j, j < p.length → p.getD j 0 = q.getD j 0) : p = q := by
  refine List.ext_getElem hl fun j h1 h2 => ?_
  have := h j h1
  simpa [List.getD, h1, h2] using this
theorem rsame_s : SOK Try.prog 22 sameS := by
  refine sok_of (C := mkC 0 [] noG) (mkC_ok pok_nil noG_ok) rfl mixed ⟨Try.func22, by kernel_rfl, by kernel_rfl, by kernel_rfl⟩ fun l obs v h ho => ?_
  obtain ⟨w, hh, c, p, v, g, d, q, rfl, rfl, rfl⟩ := sMM_inv h
  have fit : p.length ≤ 1152921504606846975 := ho _ (by simp)
  clear h ho
  refine ⟨Nat.le_of_ble_eq_true rfl, ?_⟩
  by_cases hd : w = v ∧ hh = g ∧ c = d ∧ p.length = q.length
  · obtain ⟨rfl, rfl, rfl, hl⟩ := hd
    have hl2 : (p.length : Int) = q.length := by omega
    (repeat (first | (refine ⟨fun hh => absurd hh ?prx, fun _ => ?_⟩; (case prx => (simp [hl, hl2]; done))) | (refine ⟨fun _ => ?_, fun hh => absurd hh ?prx⟩; (case prx => (simp [hl, hl2]; done))) | (refine ⟨?prx, ?_⟩; (case prx => (first | exact Chk.mk (by kernel_rfl) | exact rfl | exact rfl)))))
    refine ⟨Nat, fun i => [(2, .ptr 0 0), (3, .ptr 1 0), (5, .int .i64 i)], fun i => ⟨2, [(0, some (.cells 40 [.int .i64 w, .int .i64 hh, .int .i64 c, .roi .u8 p])), (1, some (.cells 40 [.int .i64 w, .int .i64 hh, .int .i64 c, .roi .u8 q]))]⟩,
      fun i => i ≤ p.length ∧ ∀ j, j < i → p.getD j 0 = q.getD j 0, fun i => p.length - i, ⟨0, [some 0, some 1], ⟨Nat.zero_le _, fun j hj => by omega⟩, ?_⟩, fun i hi => ?_⟩
    · (repeat' (first | apply And.intro | intro h)); (all_goals (try exact Chk.mk (by kernel_rfl)))
      (all_goals (try first | exact True.intro | exact rfl | exact And.intro rfl rfl | exact And.intro rfl (fun _ _ => rfl)))
    refine ⟨fun hy => ?_, fun hy => ?_⟩
    · replace hy : (i : Int) < (p.length : Int) := of_decide_eq_true hy
      have hb := hi.2
      have b1 : 0 ≤ (i : Int) ∧ (i : Int) < (p.length : Int) := ⟨by omega, hy⟩
      have b2 : 0 ≤ (i : Int) ∧ (i : Int) < (q.length : Int) := ⟨by omega, by omega⟩
      have q1 : rngI .i64 ((i : Int) + 1) := rng64 (by omega) (by have := fit; omega)
      refine ⟨⟨by kernel_rfl⟩, b1, b2, fun h5 => ?_, fun h5 => ?_⟩
      · have h5 : ¬ p.getD i 0 = q.getD i 0 := of_decide_eq_true h5
        have e : sameM w hh c p w hh c q = false := by
          simp only [sameM, decide_eq_false_iff_not]
          rintro ⟨_, _, _, h4⟩
          exact h5 (by rw [h4])
        rw [e]
        (repeat' (first | apply And.intro | intro h)); (all_goals (try exact Chk.mk (by kernel_rfl)))
        (all_goals (try first | assumption | exact rfl | exact True.intro | contradiction | (exfalso; simp only [decide_eq_true_eq, decide_eq_false_iff_not, Bool.not_eq_true', Bool.not_eq_false', Bool.and_eq_true, Bool.or_eq_true, Bool.and_eq_false_iff, Bool.or_eq_false_iff, Int.not_lt, Int.not_le, ne_eq, Classical.not_not] at *; omega)))
      · have h5 : p.getD i 0 = q.getD i 0 := by simpa using h5
        refine ⟨q1, i + 1, [some 0, some 1], ⟨by omega, fun j hj => ?_⟩, (by show p.length - (i + 1) < p.length - i; omega), ?_⟩
        · by_cases hji : j = i
          · rw [hji]; exact h5
          · exact hb j (by omega)
        · (repeat' (first | apply And.intro | intro h)); (all_goals (try exact Chk.mk (by kernel_rfl)))
          (all_goals (try first | exact True.intro | exact rfl | exact And.intro rfl rfl | exact And.intro rfl (fun _ _ => rfl)))
    · replace hy : ¬ (i : Int) < (p.length : Int) := of_decide_eq_false hy
      have e : sameM w hh c p w hh c q = true := by
        have := list_getD hl (fun j hj => hi.2 j (by omega))
        simp [sameM, this]
      rw [e]
      (repeat' (first | apply And.intro | intro h)); (all_goals (try exact Chk.mk (by kernel_rfl)))
      (all_goals (try first | assumption | exact rfl | exact True.intro | contradiction | (exfalso; simp only [decide_eq_true_eq, decide_eq_false_iff_not, Bool.not_eq_true', Bool.not_eq_false', Bool.and_eq_true, Bool.or_eq_true, Bool.and_eq_false_iff, Bool.or_eq_false_iff, Int.not_lt, Int.not_le, ne_eq, Classical.not_not] at *; omega)))
  · have e : sameM w hh c p v g d q = false := by
      simp only [sameM, decide_eq_false_iff_not]
      rintro ⟨h1, h2, h3, h4⟩
      exact hd ⟨h1, h2, h3, by rw [h4]⟩
    rw [e]
    (repeat' (first | apply And.intro | intro h)); (all_goals (try exact Chk.mk (by kernel_rfl)))
    (all_goals (try first | assumption | exact rfl | exact True.intro | contradiction | (exfalso; simp only [decide_eq_true_eq, decide_eq_false_iff_not, Bool.not_eq_true', Bool.not_eq_false', Bool.and_eq_true, Bool.or_eq_true, Bool.and_eq_false_iff, Bool.or_eq_false_iff, Int.not_lt, Int.not_le, ne_eq, Classical.not_not] at *; omega)))
def madeF : FSpec := fun l es => match l, es with
  | [.int .i64 w, .int .i64 h, .int .i64 c, .sl 0 1 0 n], [.ints 5 .u8 p] => some ([], .agg [.int .i64 w, .int .i64 h, .int .i64 c, .sl 0 1 0 n], [some (.ints 5 .u8 p)])
  | _, _ => none
theorem made_g : GSOK Try.prog 59 (fG madeF) := by
  refine fok (S := []) (G := noG) pok_nil noG_ok ⟨Try.func59, by kernel_rfl, by kernel_rfl, by kernel_rfl⟩ fun l es obs v es' h ho => ?_
  unfold madeF at h
  split at h
  · rename_i w hh c n p
    simp only [Option.some.injEq, Prod.mk.injEq] at h
    obtain ⟨rfl, rfl, rfl⟩ := h
    refine ⟨Nat.le_of_ble_eq_true rfl, ?_⟩
    refine ⟨[some 0], ?_⟩
    (repeat' (first | apply And.intro | intro h)); (all_goals (try exact Chk.mk (by kernel_rfl)))
    (all_goals (try first | assumption | exact rfl | exact True.intro | contradiction | (exfalso; simp only [decide_eq_true_eq, decide_eq_false_iff_not, Bool.not_eq_true', Bool.not_eq_false', Bool.and_eq_true, Bool.or_eq_true, Bool.and_eq_false_iff, Bool.or_eq_false_iff, Int.not_lt, Int.not_le, ne_eq, Classical.not_not] at *; omega)))
  · cases h
abbrev pasteS : PSpec := fun l => match l with
  | [.agg [.int .i64 w, .int .i64 h, .int .i64 c, .roi .u8 m], .agg [.int .i64 v, .int .i64 g, .int .i64 d, .roi .u8 a], .int .i64 x, .int .i64 y] =>
    some ([], .tup [imA w h c (pasteL w h c m v g d a x y), .int .i64 (pasteC w h c m.length v g d a.length x y)])
  | _ => none
theorem rpaste_s : SOK Try.prog 33 pasteS := by
  refine sok_of (C := mkK 0 [(19, checkS), (58, rplS)] (glook [(59, fG madeF)]) [11]) (mkK_ok (pok_cons rcheck7_s (pok_cons rplace_s pok_nil)) (gl_cons made_g gl_nil)) rfl mixed ⟨Try.func33, by kernel_rfl, by kernel_rfl, by kernel_rfl⟩ fun l obs v h ho => ?_
  unfold pasteS at h
  split at h
  · rename_i w hh c m v g d a x y
    simp only [Option.some.injEq, Prod.mk.injEq] at h
    obtain ⟨rfl, rfl⟩ := h
    clear ho
    refine ⟨Nat.le_of_ble_eq_true rfl, ?_⟩
    by_cases hp : pasteC w hh c m.length v g d a.length x y = 0
    · have hq := paste_inv hp
      have e : pasteL w hh c m v g d a x y = stepL m a (v * d).toNat (baseR w c x y) a.length := if_pos hp
      rw [e, hp]
      have c1 : imCheck w hh c m.length = 0 := by unfold imCheck; rw [if_neg (by rw [hq.f1]; decide), if_neg (by have := hq.l1; omega)]
      have c2 : imCheck v g d a.length = 0 := by unfold imCheck; rw [if_neg (by rw [hq.f2]; decide), if_neg (by have := hq.l2; omega)]
      have cd := hq.cd
      subst cd
      have x0 := hq.x0
      have y0 := hq.y0
      have b1 := fits_inv hq.f1
      have b2 := fits_inv hq.f2
      have l1 := hq.l1
      have x1 := hq.x1
      have y1 := hq.y1
      have q1 : rngI .i64 (w - v) := rng64 (by omega) (by omega)
      have q2 : rngI .i64 (hh - g) := rng64 (by omega) (by omega)
      have x3 : ¬ x < 0 := by omega
      have y3 : ¬ y < 0 := by omega
      have x4 : ¬ w - v < x := by omega
      have y4 : ¬ hh - g < y := by omega
      (repeat (first | (refine ⟨fun hh => absurd hh ?prx, fun _ => ?_⟩; (case prx => (simp [c1, c2, x3, y3, x4, y4]; done))) | (refine ⟨fun _ => ?_, fun hh => absurd hh ?prx⟩; (case prx => (simp [c1, c2, x3, y3, x4, y4]; done))) | (refine ⟨?prx, ?_⟩; (case prx => (first | exact Chk.mk (by kernel_rfl) | exact rfl | (first | exact q1 | exact q2))))))
      refine ⟨?o1, ?o2, ?_⟩
      · show (((0 : Nat) : Int) + (m.length : Int)) * ((1 : Nat) : Int) ≤ 140737488355328; omega
      · show 0 + m.length ≤ 140737488355328; omega
      refine ⟨[(2, .int .i64 x), (3, .int .i64 y), (4, .ptr 0 0), (5, .ptr 1 0), (8, .ptr 2 0), (12, .sl 3 1 0 m.length)],
        ⟨4, [(0, some (.cells 40 [.int .i64 w, .int .i64 hh, .int .i64 c, .roi .u8 m])), (1, some (.cells 40 [.int .i64 v, .int .i64 g, .int .i64 c, .roi .u8 a])), (2, some (.cells 40 [.int .i64 0, .int .i64 0, .int .i64 0, .nils])), (3, some (.ints 5 .u8 m))]⟩, [some 0, some 1, some 2, some 4], ?_, ?_⟩
      · (repeat' (first | apply And.intro | intro h)); (all_goals (try exact Chk.mk (by kernel_rfl)))
        (all_goals (try first | exact True.intro | exact rfl | exact And.intro rfl rfl | exact And.intro rfl (fun _ _ => rfl)))
        exact Nat.zero_add _
      refine ⟨Nat, fun i => [(2, .int .i64 x), (3, .int .i64 y), (4, .ptr 0 0), (5, .ptr 1 0), (8, .ptr 2 0), (12, .sl 3 1 0 m.length), (13, .int .i64 i)],
        fun i => ⟨4, [(0, some (.cells 40 [.int .i64 w, .int .i64 hh, .int .i64 c, .roi .u8 m])), (1, some (.cells 40 [.int .i64 v, .int .i64 g, .int .i64 c, .roi .u8 a])), (2, some (.cells 40 [.int .i64 0, .int .i64 0, .int .i64 0, .nils])), (3, some (.ints 5 .u8 (stepL m a (v * c).toNat (baseR w c x y) i)))]⟩,
        fun i => i ≤ a.length, fun i => a.length - i, ⟨0, [some 0, some 1, some 2, some 3], Nat.zero_le _, ?_⟩, fun i hi => ?_⟩
      · (repeat' (first | apply And.intro | intro h)); (all_goals (try exact Chk.mk (by kernel_rfl)))
        (all_goals (try first | exact True.intro | exact rfl | exact And.intro rfl rfl | exact And.intro rfl (fun _ _ => rfl)))
      refine ⟨fun hy => ?_, fun hy => ?_⟩
      · replace hy : (i : Int) < (a.length : Int) := of_decide_eq_true hy
        have hl2 := hq.l2
        obtain ⟨col, row, k, g1, g2, g3, g4, g5, g6, g7, g8⟩ := paste_idx hq (i := i) (by omega)
        have gi := in_inv g4
        have hpb := pl_bd hq.f1 g4
        have hr : rplI w hh c m.length (x + col) (y + row) k = plI w c (x + col) (y + row) k := if_pos ⟨c1, g4⟩
        have hP : rplI w hh c m.length (x + ((i : Int).tdiv c).tmod v) (y + ((i : Int).tdiv c).tdiv v) ((i : Int).tmod c) = ((baseR w c x y (i / (v * c).toNat) + i % (v * c).toNat : Nat) : Int) := by
          rw [g1, g2, g3, hr, g5]
        have hP2 : baseR w c x y (i / (v * c).toNat) + i % (v * c).toNat < m.length := by omega
        have hsl := stepL_len m a (v * c).toNat (baseR w c x y) i
        have hst : stepL m a (v * c).toNat (baseR w c x y) (i + 1) = (stepL m a (v * c).toNat (baseR w c x y) i).set (baseR w c x y (i / (v * c).toNat) + i % (v * c).toNat) (a.getD i 0) := rfl
        generalize baseR w c x y (i / (v * c).toNat) + i % (v * c).toNat = PP at *
        have o1 : c ≠ 0 := by omega
        have o3 : v ≠ 0 := by omega
        have z1 : 0 ≤ (i : Int).tdiv c ∧ (i : Int).tdiv c ≤ i := by
          rw [Int.tdiv_eq_ediv_of_nonneg (by omega)]
          exact ⟨Int.ediv_nonneg (by omega) (by omega), Int.ediv_le_self _ (by omega)⟩
        have o2 : rngI .i64 ((i : Int).tdiv c) := rng64 (by omega) (by omega)
        have o4 : rngI .i64 (((i : Int).tdiv c).tdiv v) := by rw [g2]; exact rng64 (by omega) (by omega)
        have o5 : rngI .i64 (x + ((i : Int).tdiv c).tmod v) := by rw [g1]; exact rng64 (by omega) (by omega)
        have o6 : rngI .i64 (y + ((i : Int).tdiv c).tdiv v) := by rw [g2]; exact rng64 (by omega) (by omega)
        have o7 : 0 ≤ (i : Int) ∧ (i : Int) < (a.length : Int) := ⟨by omega, hy⟩
        have o8 : 0 ≤ rplI w hh c m.length (x + ((i : Int).tdiv c).tmod v) (y + ((i : Int).tdiv c).tdiv v) ((i : Int).tmod c) ∧ rplI w hh c m.length (x + ((i : Int).tdiv c).tmod v) (y + ((i : Int).tdiv c).tdiv v) ((i : Int).tmod c) < (m.length : Int) := by rw [hP]; omega
        have o9 : 0 + (rplI w hh c m.length (x + ((i : Int).tdiv c).tmod v) (y + ((i : Int).tdiv c).tdiv v) ((i : Int).tmod c)).toNat < (stepL m a (v * c).toNat (baseR w c x y) i).length := by rw [hP, hsl]; omega
        have oq : rngI .i64 ((i : Int) + 1) := rng64 (by omega) (by omega)
        (repeat (first | (refine ⟨fun hh => absurd hh ?prx, fun _ => ?_⟩; (case prx => (simp [o1]; done))) | (refine ⟨fun _ => ?_, fun hh => absurd hh ?prx⟩; (case prx => (simp [o1]; done))) | (refine ⟨?prx, ?_⟩; (case prx => (first | exact Chk.mk (by kernel_rfl) | exact rfl | (first | exact o1 | exact o3 | exact o2 | exact o4 | exact o5 | exact o6 | exact o7 | exact o8 | exact o9 | exact oq))))))
        refine ⟨i + 1, [some 0, some 1, some 2, some 3], (by show i + 1 ≤ a.length; omega), (by show a.length - (i + 1) < a.length - i; omega), ?_⟩
        (repeat' (first | apply And.intro | intro h)); (all_goals (try exact Chk.mk (by kernel_rfl)))
        (all_goals (try first | exact True.intro | exact rfl | exact And.intro rfl rfl | exact And.intro rfl (fun _ _ => rfl)))
        show (stepL m a (v * c).toNat (baseR w c x y) i).set (0 + (rplI w hh c m.length (x + ((i : Int).tdiv c).tmod v) (y + ((i : Int).tdiv c).tdiv v) ((i : Int).tmod c)).toNat) (a.getD i 0) = _
        rw [hP, hst, Nat.zero_add]; rfl
      · replace hy : ¬ (i : Int) < (a.length : Int) := of_decide_eq_false hy
        have ei : i = a.length := by have : i ≤ a.length := hi; omega
        subst ei
        refine ⟨[3], ⟨by kernel_rfl⟩, ?_⟩
        have hsl := stepL_len m a (v * c).toNat (baseR w c x y) a.length
        have hL : List.take m.length (List.drop 0 (stepL m a (v * c).toNat (baseR w c x y) a.length)) = stepL m a (v * c).toNat (baseR w c x y) a.length := by
          rw [← hsl]; simp
        refine ⟨by show 0 + m.length ≤ _; omega, ?_⟩
        exact ⟨⟨rfl, rfl, rfl, hL⟩, rfl⟩
    · have e : pasteL w hh c m v g d a x y = m := if_neg hp
      rw [e]
      by_cases k1 : imCheck w hh c m.length = 0
      · by_cases k2 : imCheck v g d a.length = 0
        · by_cases k3 : c = d
          · subst k3
            have b1 := fits_inv (check_inv k1).1
            have b2 := fits_inv (check_inv k2).1
            have q1 : rngI .i64 (w - v) := rng64 (by omega) (by omega)
            have q2 : rngI .i64 (hh - g) := rng64 (by omega) (by omega)
            have k4 : x < 0 ∨ y < 0 ∨ w - v < x ∨ hh - g < y := by
              refine Classical.byContradiction fun hn => hp ?_
              simp [pasteC, k1, k2]; omega
            have e2 : pasteC w hh c m.length v g c a.length x y = 11 := by simp [pasteC, k1, k2, k4]
            rw [e2]
            (repeat (first | (refine ⟨fun hh => absurd hh ?prx, fun _ => ?_⟩; (case prx => (simp [k1, k2]; done))) | (refine ⟨fun _ => ?_, fun hh => absurd hh ?prx⟩; (case prx => (simp [k1, k2]; done))) | (refine ⟨?prx, ?_⟩; (case prx => (first | exact Chk.mk (by kernel_rfl) | exact rfl | (first | exact q1 | exact q2))))))
            (repeat' (first | apply And.intro | intro h)); (all_goals (try exact Chk.mk (by kernel_rfl)))
            (all_goals (try first | assumption | exact rfl | exact True.intro | contradiction | (exfalso; simp only [decide_eq_true_eq, decide_eq_false_iff_not, Bool.not_eq_true', Bool.not_eq_false', Bool.and_eq_true, Bool.or_eq_true, Bool.and_eq_false_iff, Bool.or_eq_false_iff, Int.not_lt, Int.not_le, ne_eq, Classical.not_not] at *; omega)))
          · have e2 : pasteC w hh c m.length v g d a.length x y = 10 := by simp [pasteC, k1, k2, k3]
            rw [e2]
            (repeat (first | (refine ⟨fun hh => absurd hh ?prx, fun _ => ?_⟩; (case prx => (simp [k1, k2, k3]; done))) | (refine ⟨fun _ => ?_, fun hh => absurd hh ?prx⟩; (case prx => (simp [k1, k2, k3]; done))) | (refine ⟨?prx, ?_⟩; (case prx => (first | exact Chk.mk (by kernel_rfl) | exact rfl | exact rfl)))))
            (repeat' (first | apply And.intro | intro h)); (all_goals (try exact Chk.mk (by kernel_rfl)))
            (all_goals (try first | assumption | exact rfl | exact True.intro | contradiction | (exfalso; simp only [decide_eq_true_eq, decide_eq_false_iff_not, Bool.not_eq_true', Bool.not_eq_false', Bool.and_eq_true, Bool.or_eq_true, Bool.and_eq_false_iff, Bool.or_eq_false_iff, Int.not_lt, Int.not_le, ne_eq, Classical.not_not] at *; omega)))
        · have e2 : pasteC w hh c m.length v g d a.length x y = imCheck v g d a.length := by simp [pasteC, k1, k2]
          rw [e2]
          (repeat (first | (refine ⟨fun hh => absurd hh ?prx, fun _ => ?_⟩; (case prx => (simp [k1, k2]; done))) | (refine ⟨fun _ => ?_, fun hh => absurd hh ?prx⟩; (case prx => (simp [k1, k2]; done))) | (refine ⟨?prx, ?_⟩; (case prx => (first | exact Chk.mk (by kernel_rfl) | exact rfl | exact rfl)))))
          (repeat' (first | apply And.intro | intro h)); (all_goals (try exact Chk.mk (by kernel_rfl)))
          (all_goals (try first | assumption | exact rfl | exact True.intro | contradiction | (exfalso; simp only [decide_eq_true_eq, decide_eq_false_iff_not, Bool.not_eq_true', Bool.not_eq_false', Bool.and_eq_true, Bool.or_eq_true, Bool.and_eq_false_iff, Bool.or_eq_false_iff, Int.not_lt, Int.not_le, ne_eq, Classical.not_not] at *; omega)))
      · have e2 : pasteC w hh c m.length v g d a.length x y = imCheck w hh c m.length := by simp [pasteC, k1]
        rw [e2]
        (repeat (first | (refine ⟨fun hh => absurd hh ?prx, fun _ => ?_⟩; (case prx => (simp [k1]; done))) | (refine ⟨fun _ => ?_, fun hh => absurd hh ?prx⟩; (case prx => (simp [k1]; done))) | (refine ⟨?prx, ?_⟩; (case prx => (first | exact Chk.mk (by kernel_rfl) | exact rfl | exact rfl)))))
        (repeat' (first | apply And.intro | intro h)); (all_goals (try exact Chk.mk (by kernel_rfl)))
        (all_goals (try first | assumption | exact rfl | exact True.intro | contradiction | (exfalso; simp only [decide_eq_true_eq, decide_eq_false_iff_not, Bool.not_eq_true', Bool.not_eq_false', Bool.and_eq_true, Bool.or_eq_true, Bool.and_eq_false_iff, Bool.or_eq_false_iff, Int.not_lt, Int.not_le, ne_eq, Classical.not_not] at *; omega)))
  · cases h
end Go.Proofs.Ytgbekbofeaoniaa
namespace Go.Proofs.Ytgbekbofeaoniaa
open Go Go.RowKit
abbrev Lm (L : List Im) (i : Nat) : Im := L.getD i Im.z
def imgC (L : List Im) (i : Nat) : Int := if imCheck (Lm L i).w (Lm L i).h (Lm L i).c (Lm L i).p.length ≠ 0 then imCheck (Lm L i).w (Lm L i).h (Lm L i).c (Lm L i).p.length else if (Lm L i).c ≠ (Lm L 0).c then 10 else 0
def imgsC (L : List Im) : Nat → Int
  | 0 => 0
  | i + 1 => if imgsC L i ≠ 0 then imgsC L i else imgC L i
theorem imgsC_keep {L : List Im} {i n : Nat} (h : imgsC L i ≠ 0) (hn : i ≤ n) : imgsC L n = imgsC L i := by
  induction n with
  | zero => obtain rfl : i = 0 := by omega
            rfl
  | succ n ih =>
    by_cases e : i = n + 1
    · rw [e]
    · have := ih (by omega)
      show (if imgsC L n ≠ 0 then imgsC L n else imgC L n) = imgsC L i
      rw [this, if_pos h]
theorem imgsC_all {L : List Im} : ∀ {n : Nat}, imgsC L n = 0 → ∀ j, j < n → imgC L j = 0
  | n + 1, h, j, hj => by
    have h0 : imgsC L n = 0 := Classical.byContradiction fun k => by
      have := imgsC_keep k (Nat.le_succ n)
      exact k (this ▸ h)
    by_cases e : j = n
    · subst e
      unfold imgsC at h
      rw [if_neg (fun k => k h0)] at h
      exact h
    · exact imgsC_all h0 j (by omega)
theorem imgsC_first {L : List Im} {i n : Nat} (h : imgsC L i = 0) (h1 : imgC L i ≠ 0) (hi : i < n) : imgsC L n = imgC L i := by
  have e : imgsC L (i + 1) = imgC L i := if_neg (fun k => k h)
  rw [← e]
  exact imgsC_keep (by rw [e]; exact h1) hi
theorem imgsC_next {L : List Im} {i : Nat} (h : imgsC L i = 0) (h1 : imgC L i = 0) : imgsC L (i + 1) = 0 := by
  unfold imgsC
  rw [if_neg (fun k => k h), h1]
theorem imgC_cases (L : List Im) (i : Nat) : (imgC L i = 0 ∧ imCheck (Lm L i).w (Lm L i).h (Lm L i).c (Lm L i).p.length = 0 ∧ (Lm L i).c = (Lm L 0).c) ∨
    (imCheck (Lm L i).w (Lm L i).h (Lm L i).c (Lm L i).p.length ≠ 0 ∧ imgC L i = imCheck (Lm L i).w (Lm L i).h (Lm L i).c (Lm L i).p.length) ∨
    (imCheck (Lm L i).w (Lm L i).h (Lm L i).c (Lm L i).p.length = 0 ∧ (Lm L i).c ≠ (Lm L 0).c ∧ imgC L i = 10) := by
  unfold imgC
  by_cases h : imCheck (Lm L i).w (Lm L i).h (Lm L i).c (Lm L i).p.length = 0
  · by_cases g : (Lm L i).c = (Lm L 0).c
    · exact .inl ⟨by rw [if_neg (fun k => k h), if_neg (fun k => k g)], h, g⟩
    · exact .inr (.inr ⟨h, g, by rw [if_neg (fun k => k h), if_pos g]⟩)
  · exact .inr (.inl ⟨h, if_pos h⟩)
def imagesC (L : List Im) : Int := if L.length = 0 then 60 else imgsC L L.length
theorem imagesC_ok {L : List Im} (h : imagesC L = 0) : 0 < L.length ∧ imgsC L L.length = 0 ∧ ∀ j, j < L.length → imCheck (Lm L j).w (Lm L j).h (Lm L j).c (Lm L j).p.length = 0 ∧ (Lm L j).c = (Lm L 0).c := by
  unfold imagesC at h
  split at h
  · omega
  · refine ⟨by omega, h, fun j hj => ?_⟩
    have := imgsC_all h j hj
    rcases imgC_cases L j with k | k | k
    · exact k.2
    · exact absurd (k.2 ▸ this) k.1
    · have := k.2.2; omega
structure LenOK (n : Nat) : Prop where
  le : n ≤ 9223372036854775807
theorem LenOK.rng {n i : Nat} (h : LenOK n) (hi : i < n) : rngI .i64 ((i : Int) + 1) := by
  have := h.le
  exact rng64 (by omega) (by omega)
abbrev sIms (L : List Im) (ob : List Prop) (v : AV) : PSpec := fun l => match l with
  | [.ro 4 n get] => some ((n = L.length) :: (∀ j, j < n → get j = (Lm L j).av) :: ob, v) | _ => none
theorem sIms_inv {L : List Im} {ob : List Prop} {v : AV} {l : List AV} {obs : List Prop} {v' : AV} (h : sIms L ob v l = some (obs, v')) (ho : ∀ p ∈ obs, p) : ∃ get, l = [.ro 4 L.length get] ∧ (∀ j, j < L.length → get j = (Lm L j).av) ∧ v' = v ∧ ∀ p ∈ ob, p := by
  unfold sIms at h
  split at h
  · simp only [Option.some.injEq, Prod.mk.injEq] at h
    obtain ⟨rfl, rfl⟩ := h
    rename_i n get
    obtain rfl : n = L.length := ho (n = L.length) List.mem_cons_self
    exact ⟨_, rfl, ho (∀ j, j < L.length → get j = (Lm L j).av) (List.mem_cons_of_mem _ List.mem_cons_self), rfl, fun p hp => ho p (List.mem_cons_of_mem _ (List.mem_cons_of_mem _ hp))⟩
  · cases h
theorem rimages_s (L : List Im) : SOK Try.prog 61 (sIms L [LenOK L.length] (.int .i64 (imagesC L))) := by
  refine sok_of (C := mkK 0 [(19, checkS)] noG [0]) (mkK_ok (pok_cons rcheck7_s pok_nil) noG_ok) rfl mixed ⟨Try.func61, by kernel_rfl, by kernel_rfl, by kernel_rfl⟩ fun l obs v h ho => ?_
  obtain ⟨get, rfl, hg, rfl, hL⟩ := sIms_inv h ho
  have hL : LenOK L.length := hL _ List.mem_cons_self
  refine ⟨Nat.le_of_ble_eq_true rfl, ?_⟩
  refine ⟨[(0, imsA L), (2, .int .i64 0)], ⟨0, []⟩, [], ?_, ?_⟩
  · (repeat' (first | (refine And.intro ?_ ?_) | exact True.intro | (show _ = _; with_reducible rfl) | exact Chk.mk (by kernel_rfl)))
    exact hg
  by_cases h0 : L.length = 0
  · have e : imagesC L = 60 := if_pos h0
    (repeat' (first | (refine xI (fun hfk => ?_) (fun hfk => ?_) <;> ((try (first | replace hfk := oT hfk | replace hfk := oF hfk | simp only [oD, ne_eq, reduceCtorEq] at hfk)); (try exact oX))) | (refine And.intro ?ob ?_; (case ob => (exact oZ))) | exact True.intro | (show _ = _; first | exact oY | (exact e.symm; done) | exact rfl) | exact oW | (apply And.intro)))
  have e : imagesC L = imgsC L L.length := if_neg h0
  (repeat' (first | (refine xI (fun hfk => ?_) (fun hfk => ?_) <;> ((try (first | replace hfk := oT hfk | replace hfk := oF hfk | simp only [oD, ne_eq, reduceCtorEq] at hfk)); (try exact oX))) | (refine And.intro ?ob ?_; (case ob => (exact oZ))) | exact True.intro | (show _ = _; first | exact oY | exact rfl) | exact oW | (apply And.intro)))
  refine ⟨Nat, fun i => [(0, imsA L), (2, .int .i64 0), (3, .int .i64 (i : Int))], fun i => ⟨0, []⟩, fun i => i ≤ L.length ∧ imgsC L i = 0, fun i => L.length - i, ⟨0, [], ⟨Nat.zero_le _, rfl⟩, ?_⟩, fun i hi => ?_⟩
  · (repeat' (first | (refine And.intro ?_ ?_) | exact True.intro | (show _ = _; with_reducible rfl) | exact Chk.mk (by kernel_rfl)))
    all_goals first | (intro j hj; rfl) | rfl
  obtain ⟨hi, hz⟩ := hi
  by_cases hlt : i < L.length
  · have hrr := hL.rng hlt
    have g1 : L.getD (i : Int).toNat Im.z = Lm L i := rfl
    rcases imgC_cases L i with ⟨k0, k1, k2⟩ | ⟨k1, k2⟩ | ⟨k1, k2, k3⟩
    · have k1' : imCheck (L.getD (i : Int).toNat Im.z).w (L.getD (i : Int).toNat Im.z).h (L.getD (i : Int).toNat Im.z).c (L.getD (i : Int).toNat Im.z).p.length = 0 := k1
      have k2' : (L.getD (i : Int).toNat Im.z).c = (L.getD (Int.toNat 0) Im.z).c := k2
      (repeat' (first | (refine xI (fun hfk => ?_) (fun hfk => ?_) <;> ((try (first | replace hfk := oT hfk | replace hfk := oF hfk | simp only [oD, ne_eq, reduceCtorEq] at hfk)); (try exact oX))) | (refine And.intro ?ob ?_; (case ob => (exact oZ))) | exact True.intro | (show _ = _; first | exact oY | exact rfl) | exact oW | (apply And.intro)))
      (refine ⟨i + 1, [], ?_, ?mu, ?_⟩; (case mu => ((try dsimp only); omega)))
      · exact ⟨hlt, imgsC_next hz k0⟩
      (repeat' (first | (refine And.intro ?_ ?_) | exact True.intro | (show _ = _; with_reducible rfl) | exact Chk.mk (by kernel_rfl)))
      all_goals first | (intro j hj; rfl) | (show (_ : Int) = _; omega) | rfl
    · have k1' : imCheck (L.getD (i : Int).toNat Im.z).w (L.getD (i : Int).toNat Im.z).h (L.getD (i : Int).toNat Im.z).c (L.getD (i : Int).toNat Im.z).p.length ≠ 0 := k1
      have e2 : imCheck (L.getD (i : Int).toNat Im.z).w (L.getD (i : Int).toNat Im.z).h (L.getD (i : Int).toNat Im.z).c (L.getD (i : Int).toNat Im.z).p.length = imagesC L := by
        rw [e, imgsC_first hz (by rw [k2]; exact k1) hlt, k2]; rfl
      (repeat' (first | (refine xI (fun hfk => ?_) (fun hfk => ?_) <;> ((try (first | replace hfk := oT hfk | replace hfk := oF hfk | simp only [oD, ne_eq, reduceCtorEq] at hfk)); (try exact oX))) | (refine And.intro ?ob ?_; (case ob => (exact oZ))) | exact True.intro | (show _ = _; first | exact oY | (exact e2; done) | exact rfl) | exact oW | (apply And.intro)))
    · have k1' : imCheck (L.getD (i : Int).toNat Im.z).w (L.getD (i : Int).toNat Im.z).h (L.getD (i : Int).toNat Im.z).c (L.getD (i : Int).toNat Im.z).p.length = 0 := k1
      have k2' : ¬ (L.getD (i : Int).toNat Im.z).c = (L.getD (Int.toNat 0) Im.z).c := k2
      have e2 : (10 : Int) = imagesC L := by
        rw [e, imgsC_first hz (by rw [k3]; decide) hlt, k3]
      (repeat' (first | (refine xI (fun hfk => ?_) (fun hfk => ?_) <;> ((try (first | replace hfk := oT hfk | replace hfk := oF hfk | simp only [oD, ne_eq, reduceCtorEq] at hfk)); (try exact oX))) | (refine And.intro ?ob ?_; (case ob => (exact oZ))) | exact True.intro | (show _ = _; first | exact oY | (exact e2; done) | exact rfl) | exact oW | (apply And.intro)))
  · have e2 : (0 : Int) = imagesC L := by
      have : i = L.length := by omega
      rw [e, ← this, hz]
    (repeat' (first | (refine xI (fun hfk => ?_) (fun hfk => ?_) <;> ((try (first | replace hfk := oT hfk | replace hfk := oF hfk | simp only [oD, ne_eq, reduceCtorEq] at hfk)); (try exact oX))) | (refine And.intro ?ob ?_; (case ob => (exact oZ))) | exact True.intro | (show _ = _; first | exact oY | (exact e2; done) | exact rfl) | exact oW | (apply And.intro)))
def fewL (L : List Im) : Bool := decide (∀ j, j < L.length → (Lm L j).p.length ≤ 2000) && decide (L.length ≤ 6)
theorem few41_s (L : List Im) : SOK Try.prog 26 (sIms L [LenOK L.length] (.bool (fewL L))) := by
  refine sok_of (C := mkK 0 [(16, fewS)] noG [0]) (mkK_ok (pok_cons few_s pok_nil) noG_ok) rfl mixed ⟨Try.func26, by kernel_rfl, by kernel_rfl, by kernel_rfl⟩ fun l obs v h ho => ?_
  obtain ⟨get, rfl, hg, rfl, hL⟩ := sIms_inv h ho
  have hL : LenOK L.length := hL _ List.mem_cons_self
  refine ⟨Nat.le_of_ble_eq_true rfl, ?_⟩
  refine ⟨[(0, imsA L), (2, .fls)], ⟨0, []⟩, [], ?_, ?_⟩
  · (repeat' (first | (refine And.intro ?_ ?_) | exact True.intro | (show _ = _; with_reducible rfl) | exact Chk.mk (by kernel_rfl)))
    exact hg
  (repeat' (first | (refine xI (fun hfk => ?_) (fun hfk => ?_) <;> ((try (first | replace hfk := oT hfk | replace hfk := oF hfk | simp only [oD, ne_eq, reduceCtorEq] at hfk)); (try exact oX))) | (refine And.intro ?ob ?_; (case ob => (exact oZ))) | exact True.intro | (show _ = _; first | exact oY | exact rfl) | exact oW | (apply And.intro)))
  refine ⟨Nat, fun i => [(0, imsA L), (2, .fls), (5, imsA L), (6, .int .i64 (L.length : Int)), (7, .int .i64 (i : Int))], fun i => ⟨0, []⟩, fun i => i ≤ L.length ∧ ∀ j, j < i → (Lm L j).p.length ≤ 2000, fun i => L.length - i, ⟨0, [], ⟨Nat.zero_le _, fun j hj => by omega⟩, ?_⟩, fun i hi => ?_⟩
  · (repeat' (first | (refine And.intro ?_ ?_) | exact True.intro | (show _ = _; with_reducible rfl) | exact Chk.mk (by kernel_rfl)))
    all_goals first | (intro j hj; rfl) | rfl
  obtain ⟨hi, hz⟩ := hi
  by_cases hlt : i < L.length
  · have hrr := hL.rng hlt
    by_cases hs : (Lm L i).p.length ≤ 2000
    · have hs' : ((L.getD (i : Int).toNat Im.z).p.length : Int) ≤ 2000 := by have : (L.getD (i : Int).toNat Im.z).p.length ≤ 2000 := hs; omega
      (repeat' (first | (refine xI (fun hfk => ?_) (fun hfk => ?_) <;> ((try (first | replace hfk := oT hfk | replace hfk := oF hfk | simp only [oD, ne_eq, reduceCtorEq] at hfk)); (try exact oX))) | (refine And.intro ?ob ?_; (case ob => (exact oZ))) | exact True.intro | (show _ = _; first | exact oY | exact rfl) | exact oW | (apply And.intro)))
      (refine ⟨i + 1, [], ?_, ?mu, ?_⟩; (case mu => ((try dsimp only); omega)))
      · refine ⟨hlt, fun j hj => ?_⟩
        by_cases e : j = i
        · rw [e]; exact hs
        · exact hz j (by omega)
      (repeat' (first | (refine And.intro ?_ ?_) | exact True.intro | (show _ = _; with_reducible rfl) | exact Chk.mk (by kernel_rfl)))
      all_goals first | (intro j hj; rfl) | (show (_ : Int) = _; omega) | rfl
    · have hs' : ¬ ((L.getD (i : Int).toNat Im.z).p.length : Int) ≤ 2000 := by have : ¬ (L.getD (i : Int).toNat Im.z).p.length ≤ 2000 := hs; omega
      have e : fewL L = false := by
        unfold fewL
        rw [decide_eq_false (fun k => hs (k i hlt))]; rfl
      (repeat' (first | (refine xI (fun hfk => ?_) (fun hfk => ?_) <;> ((try (first | replace hfk := oT hfk | replace hfk := oF hfk | simp only [oD, ne_eq, reduceCtorEq] at hfk)); (try exact oX))) | (refine And.intro ?ob ?_; (case ob => (exact oZ))) | exact True.intro | (show _ = _; first | exact oY | (exact e.symm; done) | exact rfl) | exact oW | (apply And.intro)))
  · have e : decide ((L.length : Int) ≤ 6) = fewL L := by
      unfold fewL
      rw [decide_eq_true (fun j hj => hz j (by omega)), Bool.true_and]
      exact decide_eq_decide.2 (by omega)
    (repeat' (first | (refine xI (fun hfk => ?_) (fun hfk => ?_) <;> ((try (first | replace hfk := oT hfk | replace hfk := oF hfk | simp only [oD, ne_eq, reduceCtorEq] at hfk)); (try exact oX))) | (refine And.intro ?ob ?_; (case ob => (exact oZ))) | exact True.intro | (show _ = _; first | exact oY | (exact e; done) | exact rfl) | exact oW | (apply And.intro)))
def storeC (L : List Im) (tw th : Int) : Int := if imagesC L ≠ 0 then imagesC L else if tw < 1 ∨ 4096 < tw ∨ th < 1 ∨ 4096 < th then 10 else 0
abbrev sIms2 (L : List Im) (ob : Int → Int → List Prop) (f : Int → Int → AV) : PSpec := fun l => match l with
  | [.ro 4 n get, .int .i64 tw, .int .i64 th] => some ((n = L.length) :: (∀ j, j < n → get j = (Lm L j).av) :: ob tw th, f tw th) | _ => none
theorem sIms2_inv {L : List Im} {ob : Int → Int → List Prop} {f : Int → Int → AV} {l : List AV} {obs : List Prop} {v' : AV} (h : sIms2 L ob f l = some (obs, v')) (ho : ∀ p ∈ obs, p) : ∃ get tw th, l = [.ro 4 L.length get, .int .i64 tw, .int .i64 th] ∧ (∀ j, j < L.length → get j = (Lm L j).av) ∧ v' = f tw th ∧ ∀ p ∈ ob tw th, p := by
  unfold sIms2 at h
  split at h
  · simp only [Option.some.injEq, Prod.mk.injEq] at h
    obtain ⟨rfl, rfl⟩ := h
    rename_i n get tw th
    obtain rfl : n = L.length := ho (n = L.length) List.mem_cons_self
    exact ⟨_, _, _, rfl, ho (∀ j, j < L.length → get j = (Lm L j).av) (List.mem_cons_of_mem _ List.mem_cons_self), rfl, fun p hp => ho p (List.mem_cons_of_mem _ (List.mem_cons_of_mem _ hp))⟩
  · cases h
theorem rcheck41_s (L : List Im) : SOK Try.prog 28 (sIms2 L (fun _ _ => [LenOK L.length]) fun tw th => .int .i64 (storeC L tw th)) := by
  refine sok_of (C := mkK 0 [(61, sIms L [LenOK L.length] (.int .i64 (imagesC L)))] noG [0]) (mkK_ok (pok_cons (rimages_s L) pok_nil) noG_ok) rfl mixed ⟨Try.func28, by kernel_rfl, by kernel_rfl, by kernel_rfl⟩ fun l obs v h ho => ?_
  obtain ⟨get, tw, th, rfl, hg, rfl, hL⟩ := sIms2_inv h ho
  have hL : LenOK L.length := hL _ List.mem_cons_self
  refine ⟨Nat.le_of_ble_eq_true rfl, ?_⟩
  refine ⟨[(0, imsA L), (1, .int .i64 tw), (2, .int .i64 th), (6, .int .i64 0)], ⟨0, []⟩, [], ?_, ?_⟩
  · (repeat' (first | (refine And.intro ?_ ?_) | exact True.intro | (show _ = _; with_reducible rfl) | exact Chk.mk (by kernel_rfl)))
    exact hg
  by_cases hk : imagesC L = 0
  · by_cases ht : tw < 1 ∨ 4096 < tw ∨ th < 1 ∨ 4096 < th
    · have e : storeC L tw th = 10 := by unfold storeC; rw [if_neg (fun k => k hk), if_pos ht]
      (repeat' (first | (refine xI (fun hfk => ?_) (fun hfk => ?_) <;> ((try (first | replace hfk := oT hfk | replace hfk := oF hfk | simp only [oD, ne_eq, reduceCtorEq] at hfk)); (try exact oX))) | (refine And.intro ?ob ?_; (case ob => (exact oZ))) | exact True.intro | (show _ = _; first | exact oY | (exact e.symm; done) | exact rfl) | exact oW | (apply And.intro)))
    · have e : storeC L tw th = 0 := by unfold storeC; rw [if_neg (fun k => k hk), if_neg ht]
      (repeat' (first | (refine xI (fun hfk => ?_) (fun hfk => ?_) <;> ((try (first | replace hfk := oT hfk | replace hfk := oF hfk | simp only [oD, ne_eq, reduceCtorEq] at hfk)); (try exact oX))) | (refine And.intro ?ob ?_; (case ob => (exact oZ))) | exact True.intro | (show _ = _; first | exact oY | (exact e.symm; done) | exact rfl) | exact oW | (apply And.intro)))
  · have e : storeC L tw th = imagesC L := if_pos hk
    (repeat' (first | (refine xI (fun hfk => ?_) (fun hfk => ?_) <;> ((try (first | replace hfk := oT hfk | replace hfk := oF hfk | simp only [oD, ne_eq, reduceCtorEq] at hfk)); (try exact oX))) | (refine And.intro ?ob ?_; (case ob => (exact oZ))) | exact True.intro | (show _ = _; first | exact oY | (exact e.symm; done) | exact rfl) | exact oW | (apply And.intro)))
end Go.Proofs.Ytgbekbofeaoniaa
namespace Go.Proofs.Ytgbekbofeaoniaa
open Go Go.RowKit
theorem sampleOf_s (L : List Im) : SOK Try.prog 60 (sIms L [L.length ≤ 6] (.tup [.any, .int .i64 (imagesC L)])) := by
  refine sok_of (C := mkK 0 [(51, checkS), (55, cloneS)] noG [0, 6]) (mkK_ok (pok_cons check_s (pok_cons clone_s pok_nil)) noG_ok) rfl mixed ⟨Try.func60, by kernel_rfl, by kernel_rfl, by kernel_rfl⟩ fun l obs v h ho => ?_
  obtain ⟨get, rfl, hg, rfl, hL⟩ := sIms_inv h ho
  have hL : L.length ≤ 6 := hL _ List.mem_cons_self
  refine ⟨Nat.le_of_ble_eq_true rfl, ?_⟩
  refine ⟨[(0, imsA L)], ⟨0, []⟩, [], ?_, ?_⟩
  · (repeat' (first | (refine And.intro ?_ ?_) | exact True.intro | (show _ = _; with_reducible rfl) | exact Chk.mk (by kernel_rfl)))
    exact hg
  by_cases h0 : L.length = 0
  · have e : imagesC L = 60 := if_pos h0
    (repeat' (first | (refine xI (fun hfk => ?_) (fun hfk => ?_) <;> ((try (first | replace hfk := oT hfk | replace hfk := oF hfk | simp only [oD, ne_eq, reduceCtorEq] at hfk)); (try exact oX))) | (refine And.intro ?ob ?_; (case ob => (exact oZ))) | exact True.intro | (show _ = _; first | exact oY | (exact e.symm; done) | exact rfl) | exact oW | (apply And.intro)))
  have e : imagesC L = imgsC L L.length := if_neg h0
  (repeat' (first | (refine xI (fun hfk => ?_) (fun hfk => ?_) <;> ((try (first | replace hfk := oT hfk | replace hfk := oF hfk | simp only [oD, ne_eq, reduceCtorEq] at hfk)); (try exact oX))) | (refine And.intro ?ob ?_; (case ob => (exact oZ))) | exact True.intro | (show _ = _; first | exact oY | exact rfl) | exact oW | (apply And.intro)))
  refine ⟨Nat, fun i => [(0, imsA L), (4, .sl 0 4 0 i), (11, imsA L), (12, .int .i64 (L.length : Int)), (13, .int .i64 (i : Int))], fun i => ⟨1, [(0, some (.recs 40 4 i (fun j => (Lm L j).av)))]⟩, fun i => i ≤ L.length ∧ imgsC L i = 0, fun i => L.length - i, ⟨0, [none], ⟨Nat.zero_le _, rfl⟩, ?_⟩, fun i hi => ?_⟩
  · (repeat' (first | (refine And.intro ?_ ?_) | exact True.intro | (show _ = _; with_reducible rfl) | exact Chk.mk (by kernel_rfl)))
    all_goals first | (intro j hj; rfl) | rfl
  obtain ⟨hi, hz⟩ := hi
  by_cases hlt : i < L.length
  · obtain ⟨x, hx⟩ : ∃ x, L.getD (i : Int).toNat Im.z = x := ⟨_, rfl⟩
    have hx' : Lm L i = x := hx
    have hcs := imgC_cases L i
    rw [hx'] at hcs
    (repeat' (first | (refine xI (fun hfk => ?_) (fun hfk => ?_) <;> ((try (first | replace hfk := oT hfk | replace hfk := oF hfk | simp only [oD, ne_eq, reduceCtorEq] at hfk)); (try exact oX))) | (refine And.intro ?ob ?_; (case ob => (exact oZ))) | exact True.intro | (show _ = _; first | exact oY | exact rfl) | exact oW | (apply And.intro)))
    refine ⟨[(0, imsA L), (4, .sl 0 4 0 i), (6, .ptr 1 0), (11, imsA L), (12, .int .i64 (L.length : Int)), (13, .int .i64 (i : Int))],
      ⟨2, [(0, some (.recs 40 4 i (fun j => (Lm L j).av))), (1, some (.cells 40 [.int .i64 x.w, .int .i64 x.h, .int .i64 x.c, .roi .u8 x.p]))]⟩, [some 0, some 1], ?_, ?_⟩
    · (repeat' (first | (refine And.intro ?_ ?_) | exact True.intro | (show _ = _; with_reducible rfl) | exact Chk.mk (by kernel_rfl)))
      all_goals first
        | exact congrArg Im.w hx
        | exact congrArg Im.h hx
        | exact congrArg Im.c hx
        | exact congrArg Im.p hx
        | (intro j hj; rfl)
    rcases hcs with ⟨k0, k1, k2⟩ | ⟨k1, k2⟩ | ⟨k1, k2, k3⟩
    · have k2' : x.c = (L.getD (Int.toNat 0) Im.z).c := k2
      obtain ⟨hf, hl⟩ := check_inv k1
      have hb := fits_inv hf
      (repeat' (first | (refine xI (fun hfk => ?_) (fun hfk => ?_) <;> ((try (first | replace hfk := oT hfk | replace hfk := oF hfk | simp only [oD, ne_eq, reduceCtorEq] at hfk)); (try exact oX))) | (refine And.intro ?ob ?_; (case ob => (exact oZ))) | exact True.intro | (show _ = _; first | exact oY | exact rfl) | exact oW | (apply And.intro)))
      (refine ⟨i + 1, [some 3], ?_, ?mu, ?_⟩; (case mu => ((try dsimp only); omega)))
      · exact ⟨hlt, imgsC_next hz k0⟩
      (repeat' (first | (refine xI (fun hfk => ?_) (fun hfk => ?_) <;> ((try (first | replace hfk := oT hfk | replace hfk := oF hfk | simp only [oD, ne_eq, reduceCtorEq] at hfk)); (try exact oX))) | (refine And.intro ?ob ?_; (case ob => (exact oZ))) | exact True.intro | (show _ = _; first | exact oY | exact rfl) | exact oW | (apply And.intro)))
      intro j hj
      by_cases h : j < i
      · simp only [if_pos h]
      · obtain rfl : j = i := by have : j < i + 1 := hj; omega
        simp only [if_neg h, Nat.sub_self]
        rw [hx']
        rfl
    · have e2 : imCheck x.w x.h x.c x.p.length = imagesC L := by
        rw [e, imgsC_first hz (by rw [k2]; exact k1) hlt, k2]
      (repeat' (first | (refine xI (fun hfk => ?_) (fun hfk => ?_) <;> ((try (first | replace hfk := oT hfk | replace hfk := oF hfk | simp only [oD, ne_eq, reduceCtorEq] at hfk)); (try exact oX))) | (refine And.intro ?ob ?_; (case ob => (exact oZ))) | exact True.intro | (show _ = _; first | exact oY | (exact e2; done) | exact rfl) | exact oW | (apply And.intro)))
    · have k2' : ¬ x.c = (L.getD (Int.toNat 0) Im.z).c := k2
      have e2 : (10 : Int) = imagesC L := by
        rw [e, imgsC_first hz (by rw [k3]; decide) hlt, k3]
      (repeat' (first | (refine xI (fun hfk => ?_) (fun hfk => ?_) <;> ((try (first | replace hfk := oT hfk | replace hfk := oF hfk | simp only [oD, ne_eq, reduceCtorEq] at hfk)); (try exact oX))) | (refine And.intro ?ob ?_; (case ob => (exact oZ))) | exact True.intro | (show _ = _; first | exact oY | (exact e2; done) | exact rfl) | exact oW | (apply And.intro)))
  · have e2 : (0 : Int) = imagesC L := by
      have : i = L.length := by omega
      rw [e, ← this, hz]
    (repeat' (first | (refine xI (fun hfk => ?_) (fun hfk => ?_) <;> ((try (first | replace hfk := oT hfk | replace hfk := oF hfk | simp only [oD, ne_eq, reduceCtorEq] at hfk)); (try exact oX))) | (refine And.intro ?ob ?_; (case ob => (exact oZ))) | exact True.intro | (show _ = _; first | exact oY | (exact e2; done) | exact rfl) | exact oW | (apply And.intro)))
abbrev stA (L : List Im) (tw th n : Int) : Ent := .cells 126 [.sl 1 4 0 L.length, .int .i64 tw, .int .i64 th, .int .i64 n]
abbrev rowA (L : List Im) (i : Nat) : Ent := .recs 40 4 i (fun j => (Lm L j).av)
def newStF (L : List Im) : FSpec := fun l es => match l, es with
  | [.ro 4 n get, .int .i64 tw, .int .i64 th], [] => some ([n = L.length, ∀ j, j < n → get j = (Lm L j).av, L.length ≤ 6, storeC L tw th = 0], .tup [.ptr 0 0, .int .i64 0], [some (stA L tw th 0), some (rowA L L.length)])
  | _, _ => none
theorem storeC_ok {L : List Im} {tw th : Int} (h : storeC L tw th = 0) : imagesC L = 0 ∧ 1 ≤ tw ∧ tw ≤ 4096 ∧ 1 ≤ th ∧ th ≤ 4096 := by
  unfold storeC at h
  split at h
  · rename_i k; exact absurd h k
  · rename_i k
    split at h
    · omega
    · exact ⟨Classical.not_not.1 k, by omega, by omega, by omega, by omega⟩
theorem newSt_g (L : List Im) : GSOK Try.prog 27 (fG (newStF L)) := by
  refine fokK [0, 9] (S := [(60, sIms L [L.length ≤ 6] (.tup [.any, .int .i64 (imagesC L)])), (55, cloneS)]) (G := noG) (pok_cons (sampleOf_s L) (pok_cons clone_s pok_nil)) noG_ok ⟨Try.func27, by kernel_rfl, by kernel_rfl, by kernel_rfl⟩ fun l es obs v es' h ho => ?_
  (unfold newStF at h; split at h; rotate_left; (focus (cases h)); rename_i n get tw th; simp only [Option.some.injEq, Prod.mk.injEq] at h; obtain ⟨rfl, rfl, rfl⟩ := h; simp only [List.mem_cons, List.not_mem_nil, or_false, forall_eq_or_imp, forall_eq, false_implies, implies_true] at ho)
  obtain ⟨rfl, hg, h6, hk⟩ := ho
  obtain ⟨hi, t1, t2, t3, t4⟩ := storeC_ok hk
  obtain ⟨p0, p1, p2⟩ := imagesC_ok hi
  refine ⟨Nat.le_of_ble_eq_true rfl, ?_⟩
  refine ⟨[(0, imsA L), (1, .int .i64 tw), (2, .int .i64 th)], ⟨0, []⟩, [], ?_, ?_⟩
  · (repeat' (first | (refine And.intro ?_ ?_) | exact True.intro | (show _ = _; with_reducible rfl) | exact Chk.mk (by kernel_rfl)))
    exact hg
  (repeat' (first | (refine xI (fun hfk => ?_) (fun hfk => ?_) <;> ((try (first | replace hfk := oT hfk | replace hfk := oF hfk | simp only [oD, ne_eq, reduceCtorEq] at hfk)); (try exact oX))) | (refine And.intro ?ob ?_; (case ob => (exact oZ))) | exact True.intro | (show _ = _; first | exact oY | exact rfl) | exact oW | (apply And.intro)))
  refine ⟨Nat, fun i => [(10, .ptr 0 0), (39, imsA L), (40, .int .i64 (L.length : Int)), (41, .int .i64 (i : Int))], fun i => ⟨2, [(0, some (.cells 126 [.sl 1 4 0 i, .int .i64 tw, .int .i64 th, .int .i64 0])), (1, some (rowA L i))]⟩, fun i => i ≤ L.length, fun i => L.length - i, ⟨0, [some 0, none], Nat.zero_le _, ?_⟩, fun i hi => ?_⟩
  · (repeat' (first | (refine And.intro ?_ ?_) | exact True.intro | (show _ = _; with_reducible rfl) | exact Chk.mk (by kernel_rfl)))
    all_goals first | (intro j hj; rfl) | rfl
  have hi : i ≤ L.length := hi
  by_cases hlt : i < L.length
  · obtain ⟨x, hx⟩ : ∃ x, L.getD (i : Int).toNat Im.z = x := ⟨_, rfl⟩
    have hx' : Lm L i = x := hx
    have hc := (p2 i hlt).1
    rw [hx'] at hc
    obtain ⟨hf, hl⟩ := check_inv hc
    have hb := fits_inv hf
    (repeat' (first | (refine xI (fun hfk => ?_) (fun hfk => ?_) <;> ((try (first | replace hfk := oT hfk | replace hfk := oF hfk | simp only [oD, ne_eq, reduceCtorEq] at hfk)); (try exact oX))) | (refine And.intro ?ob ?_; (case ob => (exact oZ))) | exact True.intro | (show _ = _; first | exact oY | exact rfl) | exact oW | (apply And.intro)))
    refine ⟨[(10, .ptr 0 0), (12, .ptr 2 0), (39, imsA L), (40, .int .i64 (L.length : Int)), (41, .int .i64 (i : Int))],
      ⟨3, [(0, some (.cells 126 [.sl 1 4 0 i, .int .i64 tw, .int .i64 th, .int .i64 0])), (1, some (rowA L i)), (2, some (.cells 40 [.int .i64 x.w, .int .i64 x.h, .int .i64 x.c, .roi .u8 x.p]))]⟩, [some 0, some 1, some 2], ?_, ?_⟩
    · (repeat' (first | (refine And.intro ?_ ?_) | exact True.intro | (show _ = _; with_reducible rfl) | exact Chk.mk (by kernel_rfl)))
      all_goals first
        | exact congrArg Im.w hx
        | exact congrArg Im.h hx
        | exact congrArg Im.c hx
        | exact congrArg Im.p hx
        | (intro j hj; rfl)
    (repeat' (first | (refine xI (fun hfk => ?_) (fun hfk => ?_) <;> ((try (first | replace hfk := oT hfk | replace hfk := oF hfk | simp only [oD, ne_eq, reduceCtorEq] at hfk)); (try exact oX))) | (refine And.intro ?ob ?_; (case ob => (exact oZ))) | exact True.intro | (show _ = _; first | exact oY | exact rfl) | exact oW | (apply And.intro)))
    (refine ⟨i + 1, [some 0, some 4], ?_, ?mu, ?_⟩; (case mu => ((try dsimp only); omega)))
    · exact hlt
    (repeat' (first | (refine xI (fun hfk => ?_) (fun hfk => ?_) <;> ((try (first | replace hfk := oT hfk | replace hfk := oF hfk | simp only [oD, ne_eq, reduceCtorEq] at hfk)); (try exact oX))) | (refine And.intro ?ob ?_; (case ob => (exact oZ))) | exact True.intro | (show _ = _; first | exact oY | exact rfl) | exact oW | (apply And.intro)))
    · intro j hj
      by_cases h : j < i
      · simp only [if_pos h]
      · obtain rfl : j = i := by have : j < i + 1 := hj; omega
        simp only [if_neg h, Nat.sub_self]
        rw [hx']
        rfl
  · obtain rfl : i = L.length := by omega
    (repeat' (first | (refine xI (fun hfk => ?_) (fun hfk => ?_) <;> ((try (first | replace hfk := oT hfk | replace hfk := oF hfk | simp only [oD, ne_eq, reduceCtorEq] at hfk)); (try exact oX))) | (refine And.intro ?ob ?_; (case ob => (exact oZ))) | exact True.intro | (show _ = _; first | exact oY | exact rfl) | exact oW | (apply And.intro)))
    refine ⟨[some 0, some 1], ?_⟩
    (repeat' (first | (refine xI (fun hfk => ?_) (fun hfk => ?_) <;> ((try (first | replace hfk := oT hfk | replace hfk := oF hfk | simp only [oD, ne_eq, reduceCtorEq] at hfk)); (try exact oX))) | (refine And.intro ?ob ?_; (case ob => (exact oZ))) | exact True.intro | (show _ = _; first | exact oY | exact rfl) | exact oW | (apply And.intro)))
end Go.Proofs.Ytgbekbofeaoniaa
namespace Go.Proofs.Ytgbekbofeaoniaa
open Go Go.RowKit
def inL (L : List Im) (k : Int) : Bool := decide (0 ≤ k) && decide (k < (L.length : Int))
def stG (L : List Im) (tw th k : Int) : R4 := if inL L k = true then ⟨(Lm L k.toNat).w, (Lm L k.toNat).h, tw, th⟩ else .zero
theorem inL_iff {L : List Im} {k : Int} : inL L k = true ↔ 0 ≤ k ∧ k < (L.length : Int) := by simp [inL]
theorem stG_in {L : List Im} {tw th k : Int} (h : inL L k = true) : stG L tw th k = ⟨(Lm L k.toNat).w, (Lm L k.toNat).h, tw, th⟩ := if_pos h
theorem stG_out {L : List Im} {tw th k : Int} (h : inL L k = false) : stG L tw th k = .zero := if_neg (by rw [h]; decide)
abbrev sSt (L : List Im) (f : Int → Int → Int → AV) : PSpec := fun l => match l with
  | [.rop (.agg [.ro 4 n get, .int .i64 tw, .int .i64 th, .int .i64 c])] => some ([n = L.length, get = fun j => (Lm L j).av], f tw th c) | _ => none
abbrev sStK (L : List Im) (f : Int → Int → Int → Int → AV) : PSpec := fun l => match l with
  | [.rop (.agg [.ro 4 n get, .int .i64 tw, .int .i64 th, .int .i64 c]), .int .i64 k] => some ([n = L.length, get = fun j => (Lm L j).av], f tw th c k) | _ => none
abbrev sStT (L : List Im) (f : Int → Int → Int → Int → Int → AV) : PSpec := fun l => match l with
  | [.rop (.agg [.ro 4 n get, .int .i64 tw, .int .i64 th, .int .i64 c]), .agg [.int .i64 k, .int .i64 i]] => some ([n = L.length, get = fun j => (Lm L j).av], f tw th c k i) | _ => none
abbrev levelsS (L : List Im) : PSpec := sSt L fun _ _ _ => .int .i64 L.length
theorem levels_s (L : List Im) : SOK Try.prog 63 (levelsS L) := by
  refine sok_of (C := mkC 0 [] noG) (mkC_ok pok_nil noG_ok) rfl mixed ⟨Try.func63, by kernel_rfl, by kernel_rfl, by kernel_rfl⟩ fun l obs v h ho => ?_
  unfold levelsS at h
  (unfold sSt at h; split at h; rotate_left; (focus (cases h)); rename_i n get tw th c; simp only [Option.some.injEq, Prod.mk.injEq] at h; obtain ⟨rfl, rfl⟩ := h; simp only [List.mem_cons, List.not_mem_nil, or_false, forall_eq_or_imp, forall_eq, false_implies, implies_true] at ho)
  obtain ⟨rfl, rfl⟩ := ho
  refine ⟨Nat.le_of_ble_eq_true rfl, ?_⟩
  (repeat' (first | (refine xI (fun hfk => ?_) (fun hfk => ?_) <;> ((try (first | replace hfk := oT hfk | replace hfk := oF hfk | simp only [oD, ne_eq, reduceCtorEq] at hfk)); (try exact oX))) | (refine And.intro ?ob ?_; (case ob => (exact oZ))) | exact True.intro | (show _ = _; first | exact oY | exact rfl) | exact oW | (apply And.intro)))
abbrev isS41 (L : List Im) : PSpec := sStK L fun _ _ _ k => .bool (inL L k)
theorem is41_s (L : List Im) : SOK Try.prog 85 (isS41 L) := by
  refine sok_of (C := mkC 0 [(63, levelsS L)] noG) (mkC_ok (pok_cons (levels_s L) pok_nil) noG_ok) rfl mixed ⟨Try.func85, by kernel_rfl, by kernel_rfl, by kernel_rfl⟩ fun l obs v h ho => ?_
  unfold isS41 at h
  (unfold sStK at h; split at h; rotate_left; (focus (cases h)); rename_i n get tw th c k; simp only [Option.some.injEq, Prod.mk.injEq] at h; obtain ⟨rfl, rfl⟩ := h; simp only [List.mem_cons, List.not_mem_nil, or_false, forall_eq_or_imp, forall_eq, false_implies, implies_true] at ho)
  obtain ⟨rfl, rfl⟩ := ho
  refine ⟨Nat.le_of_ble_eq_true rfl, ?_⟩
  by_cases h0 : 0 ≤ k
  · have e : decide (k < (L.length : Int)) = inL L k := by unfold inL; rw [decide_eq_true h0, Bool.true_and]
    (repeat' (first | (refine xI (fun hfk => ?_) (fun hfk => ?_) <;> ((try (first | replace hfk := oT hfk | replace hfk := oF hfk | simp only [oD, ne_eq, reduceCtorEq] at hfk)); (try exact oX))) | (refine And.intro ?ob ?_; (case ob => (exact oZ))) | exact True.intro | (show _ = _; first | exact oY | (exact e; done) | exact rfl) | exact oW | (apply And.intro)))
  · have e : false = inL L k := by unfold inL; rw [decide_eq_false h0, Bool.false_and]
    (repeat' (first | (refine xI (fun hfk => ?_) (fun hfk => ?_) <;> ((try (first | replace hfk := oT hfk | replace hfk := oF hfk | simp only [oD, ne_eq, reduceCtorEq] at hfk)); (try exact oX))) | (refine And.intro ?ob ?_; (case ob => (exact oZ))) | exact True.intro | (show _ = _; first | exact oY | (exact e; done) | exact rfl) | exact oW | (apply And.intro)))
def szW (L : List Im) (k : Int) : Int := if inL L k = true then (Lm L k.toNat).w else 0
def szH (L : List Im) (k : Int) : Int := if inL L k = true then (Lm L k.toNat).h else 0
abbrev sizeS41 (L : List Im) : PSpec := sStK L fun _ _ _ k => .tup [.int .i64 (szW L k), .int .i64 (szH L k)]
theorem size41_s (L : List Im) : SOK Try.prog 86 (sizeS41 L) := by
  refine sok_of (C := mkC 0 [(85, isS41 L)] noG) (mkC_ok (pok_cons (is41_s L) pok_nil) noG_ok) rfl mixed ⟨Try.func86, by kernel_rfl, by kernel_rfl, by kernel_rfl⟩ fun l obs v h ho => ?_
  unfold sizeS41 at h
  (unfold sStK at h; split at h; rotate_left; (focus (cases h)); rename_i n get tw th c k; simp only [Option.some.injEq, Prod.mk.injEq] at h; obtain ⟨rfl, rfl⟩ := h; simp only [List.mem_cons, List.not_mem_nil, or_false, forall_eq_or_imp, forall_eq, false_implies, implies_true] at ho)
  obtain ⟨rfl, rfl⟩ := ho
  refine ⟨Nat.le_of_ble_eq_true rfl, ?_⟩
  cases hi : inL L k with
  | true =>
    have hb := inL_iff.1 hi
    have e1 : szW L k = (Lm L k.toNat).w := if_pos hi
    have e2 : szH L k = (Lm L k.toNat).h := if_pos hi
    (repeat' (first | (refine xI (fun hfk => ?_) (fun hfk => ?_) <;> ((try (first | replace hfk := oT hfk | replace hfk := oF hfk | simp only [oD, ne_eq, reduceCtorEq] at hfk)); (try exact oX))) | (refine And.intro ?ob ?_; (case ob => (exact oZ))) | exact True.intro | (show _ = _; first | exact oY | ((first | exact e1.symm | exact e2.symm); done) | exact rfl) | exact oW | (apply And.intro)))
  | false =>
    have e1 : szW L k = 0 := if_neg (by rw [hi]; decide)
    have e2 : szH L k = 0 := if_neg (by rw [hi]; decide)
    (repeat' (first | (refine xI (fun hfk => ?_) (fun hfk => ?_) <;> ((try (first | replace hfk := oT hfk | replace hfk := oF hfk | simp only [oD, ne_eq, reduceCtorEq] at hfk)); (try exact oX))) | (refine And.intro ?ob ?_; (case ob => (exact oZ))) | exact True.intro | (show _ = _; first | exact oY | ((first | exact e1.symm | exact e2.symm); done) | exact rfl) | exact oW | (apply And.intro)))
abbrev gridS41 (L : List Im) : PSpec := sStK L fun tw th _ k => (stG L tw th k).av
theorem grid41_s (L : List Im) : SOK Try.prog 65 (gridS41 L) := by
  refine sok_of (C := mkC 0 [(85, isS41 L), (86, sizeS41 L)] noG) (mkC_ok (pok_cons (is41_s L) (pok_cons (size41_s L) pok_nil)) noG_ok) rfl mixed ⟨Try.func65, by kernel_rfl, by kernel_rfl, by kernel_rfl⟩ fun l obs v h ho => ?_
  unfold gridS41 at h
  (unfold sStK at h; split at h; rotate_left; (focus (cases h)); rename_i n get tw th c k; simp only [Option.some.injEq, Prod.mk.injEq] at h; obtain ⟨rfl, rfl⟩ := h; simp only [List.mem_cons, List.not_mem_nil, or_false, forall_eq_or_imp, forall_eq, false_implies, implies_true] at ho)
  obtain ⟨rfl, rfl⟩ := ho
  refine ⟨Nat.le_of_ble_eq_true rfl, ?_⟩
  cases hi : inL L k with
  | true =>
    rw [stG_in hi]
    have e1 : szW L k = (Lm L k.toNat).w := if_pos hi
    have e2 : szH L k = (Lm L k.toNat).h := if_pos hi
    (repeat' (first | (refine xI (fun hfk => ?_) (fun hfk => ?_) <;> ((try (first | replace hfk := oT hfk | replace hfk := oF hfk | simp only [oD, ne_eq, reduceCtorEq] at hfk)); (try exact oX))) | (refine And.intro ?ob ?_; (case ob => (exact oZ))) | exact True.intro | (show _ = _; first | exact oY | ((first | exact e1 | exact e2); done) | exact rfl) | exact oW | (apply And.intro)))
  | false =>
    rw [stG_out hi]
    (repeat' (first | (refine xI (fun hfk => ?_) (fun hfk => ?_) <;> ((try (first | replace hfk := oT hfk | replace hfk := oF hfk | simp only [oD, ne_eq, reduceCtorEq] at hfk)); (try exact oX))) | (refine And.intro ?ob ?_; (case ob => (exact oZ))) | exact True.intro | (show _ = _; first | exact oY | exact rfl) | exact oW | (apply And.intro)))
abbrev tilesS41 (L : List Im) : PSpec := sStK L fun tw th _ k => .int .i64 (gcount (stG L tw th k))
theorem tiles41_s (L : List Im) : SOK Try.prog 62 (tilesS41 L) := by
  refine sok_of (C := mkC 0 [(65, gridS41 L), (81, sR fun g => .int .i64 (gcount g))] noG) (mkC_ok (pok_cons (grid41_s L) (pok_cons gcount_s pok_nil)) noG_ok) rfl mixed ⟨Try.func62, by kernel_rfl, by kernel_rfl, by kernel_rfl⟩ fun l obs v h ho => ?_
  unfold tilesS41 at h
  (unfold sStK at h; split at h; rotate_left; (focus (cases h)); rename_i n get tw th c k; simp only [Option.some.injEq, Prod.mk.injEq] at h; obtain ⟨rfl, rfl⟩ := h; simp only [List.mem_cons, List.not_mem_nil, or_false, forall_eq_or_imp, forall_eq, false_implies, implies_true] at ho)
  obtain ⟨rfl, rfl⟩ := ho
  refine ⟨Nat.le_of_ble_eq_true rfl, ?_⟩
  (repeat' (first | (refine xI (fun hfk => ?_) (fun hfk => ?_) <;> ((try (first | replace hfk := oT hfk | replace hfk := oF hfk | simp only [oD, ne_eq, reduceCtorEq] at hfk)); (try exact oX))) | (refine And.intro ?ob ?_; (case ob => (exact oZ))) | exact True.intro | (show _ = _; first | exact oY | exact rfl) | exact oW | (apply And.intro)))
abbrev placeS41 (L : List Im) : PSpec := sStT L fun tw th _ k i => .tup [(gtile (stG L tw th k) i).av, .bool (gis (stG L tw th k) i)]
theorem place41_s (L : List Im) : SOK Try.prog 31 (placeS41 L) := by
  refine sok_of (C := mkC 0 [(65, gridS41 L), (64, sRI fun g i => .tup [(gtile g i).av, .bool (gis g i)])] noG) (mkC_ok (pok_cons (grid41_s L) (pok_cons gtile_s pok_nil)) noG_ok) rfl mixed ⟨Try.func31, by kernel_rfl, by kernel_rfl, by kernel_rfl⟩ fun l obs v h ho => ?_
  unfold placeS41 at h
  (unfold sStT at h; split at h; rotate_left; (focus (cases h)); rename_i n get tw th c k i; simp only [Option.some.injEq, Prod.mk.injEq] at h; obtain ⟨rfl, rfl⟩ := h; simp only [List.mem_cons, List.not_mem_nil, or_false, forall_eq_or_imp, forall_eq, false_implies, implies_true] at ho)
  obtain ⟨rfl, rfl⟩ := ho
  refine ⟨Nat.le_of_ble_eq_true rfl, ?_⟩
  (repeat' (first | (refine xI (fun hfk => ?_) (fun hfk => ?_) <;> ((try (first | replace hfk := oT hfk | replace hfk := oF hfk | simp only [oD, ne_eq, reduceCtorEq] at hfk)); (try exact oX))) | (refine And.intro ?ob ?_; (case ob => (exact oZ))) | exact True.intro | (show _ = _; first | exact oY | exact rfl) | exact oW | (apply And.intro)))
end Go.Proofs.Ytgbekbofeaoniaa
namespace Go.Proofs.Ytgbekbofeaoniaa
open Go Go.RowKit
abbrev newStBad (L : List Im) : PSpec := fun l => match l with
  | [.ro 4 n get, .int .i64 tw, .int .i64 th] => some ([n = L.length, ∀ j, j < n → get j = (Lm L j).av, L.length ≤ 6, storeC L tw th ≠ 0], .tup [.nilp, .int .i64 (storeC L tw th)])
  | _ => none
theorem newStBad_s (L : List Im) : SOK Try.prog 27 (newStBad L) := by
  refine sok_of (C := mkK 0 [(60, sIms L [L.length ≤ 6] (.tup [.any, .int .i64 (imagesC L)]))] noG [0]) (mkK_ok (pok_cons (sampleOf_s L) pok_nil) noG_ok) rfl mixed ⟨Try.func27, by kernel_rfl, by kernel_rfl, by kernel_rfl⟩ fun l obs v h ho => ?_
  (unfold newStBad at h; split at h; rotate_left; (focus (cases h)); rename_i n get tw th; simp only [Option.some.injEq, Prod.mk.injEq] at h; obtain ⟨rfl, rfl⟩ := h; simp only [List.mem_cons, List.not_mem_nil, or_false, forall_eq_or_imp, forall_eq, false_implies, implies_true] at ho)
  obtain ⟨rfl, hg, h6, hk⟩ := ho
  refine ⟨Nat.le_of_ble_eq_true rfl, ?_⟩
  refine ⟨[(0, imsA L), (1, .int .i64 tw), (2, .int .i64 th)], ⟨0, []⟩, [], ?_, ?_⟩
  · (repeat' (first | (refine And.intro ?_ ?_) | exact True.intro | (show _ = _; with_reducible rfl) | exact Chk.mk (by kernel_rfl)))
    exact hg
  by_cases hi : imagesC L = 0
  · have ht : tw < 1 ∨ 4096 < tw ∨ th < 1 ∨ 4096 < th := Classical.byContradiction fun k => hk (by unfold storeC; rw [if_neg (fun q => q hi), if_neg k])
    have e : storeC L tw th = 10 := by unfold storeC; rw [if_neg (fun k => k hi), if_pos ht]
    (repeat' (first | (refine xI (fun hfk => ?_) (fun hfk => ?_) <;> ((try (first | replace hfk := oT hfk | replace hfk := oF hfk | simp only [oD, ne_eq, reduceCtorEq] at hfk)); (try exact oX))) | (refine And.intro ?ob ?_; (case ob => (exact oZ))) | exact True.intro | (show _ = _; first | exact oY | (exact e.symm; done) | exact rfl) | exact oW | (apply And.intro)))
  · have e : storeC L tw th = imagesC L := if_pos hi
    (repeat' (first | (refine xI (fun hfk => ?_) (fun hfk => ?_) <;> ((try (first | replace hfk := oT hfk | replace hfk := oF hfk | simp only [oD, ne_eq, reduceCtorEq] at hfk)); (try exact oX))) | (refine And.intro ?ob ?_; (case ob => (exact oZ))) | exact True.intro | (show _ = _; first | exact oY | (exact e.symm; done) | exact rfl) | exact oW | (apply And.intro)))
abbrev levelsN : PSpec := fun l => match l with | [.nilp] => some ([], .int .i64 0) | _ => none
theorem levelsN_s : SOK Try.prog 63 levelsN := by
  refine sok_of (C := mkC 0 [] noG) (mkC_ok pok_nil noG_ok) rfl mixed ⟨Try.func63, by kernel_rfl, by kernel_rfl, by kernel_rfl⟩ fun l obs v h ho => ?_
  unfold levelsN at h
  split at h <;> cases h
  refine ⟨Nat.le_of_ble_eq_true rfl, ?_⟩
  (repeat' (first | (refine xI (fun hfk => ?_) (fun hfk => ?_) <;> ((try (first | replace hfk := oT hfk | replace hfk := oF hfk | simp only [oD, ne_eq, reduceCtorEq] at hfk)); (try exact oX))) | (refine And.intro ?ob ?_; (case ob => (exact oZ))) | exact True.intro | (show _ = _; first | exact oY | exact rfl) | exact oW | (apply And.intro)))
def L41 : List Im := [⟨3, 3, 1, List.replicate 9 0⟩]
theorem alive41_s : SOK Try.prog 30 (sN (.bool true)) := by
  refine sok_of (C := mkC 0 [(62, tilesS41 L41)] (glook [(27, frzG (fG (newStF L41)))])) (mkC_ok (pok_cons (tiles41_s L41) pok_nil) (gl_cons (gfrz (newSt_g L41)) gl_nil)) rfl mixed ⟨Try.func30, by kernel_rfl, by kernel_rfl, by kernel_rfl⟩ fun l obs v h ho => ?_
  obtain ⟨rfl, rfl⟩ := sN_inv h
  refine ⟨Nat.le_of_ble_eq_true rfl, ?_⟩
  have k1 : storeC L41 2 2 = 0 := by decide
  have k2 : gcount (stG L41 2 2 0) = 4 := by decide
  have k3 : decide (gcount (stG L41 2 2 0) = 4) = true := decide_eq_true k2
  have k4 : L41.length ≤ 6 := by decide
  have e : (fun j => (fun j => (Lm L41 j).av) (0 + j)) = fun j => (Lm L41 j).av := funext fun j => by rw [Nat.zero_add]
  (repeat' (first | (refine xI (fun hfk => ?_) (fun hfk => ?_) <;> ((try (first | replace hfk := oT hfk | replace hfk := oF hfk | simp only [oD, ne_eq, reduceCtorEq] at hfk)); (try exact oX))) | (refine And.intro ?ob ?_; (case ob => (exact oZ))) | exact True.intro | (show _ = _; first | exact oY | exact rfl) | exact oW | (apply And.intro)))
  (refine ⟨[], ⟨by kernel_rfl⟩, ?_⟩)
  refine ⟨rfl, fun j hj => ?_, k4, k1, ?_⟩
  · obtain rfl : j = 0 := by omega
    rfl
  (repeat' (first | (refine xI (fun hfk => ?_) (fun hfk => ?_) <;> ((try (first | replace hfk := oT hfk | replace hfk := oF hfk | simp only [oD, ne_eq, reduceCtorEq] at hfk)); (try exact oX))) | (refine And.intro ?ob ?_; (case ob => (exact oZ))) | exact True.intro | (show _ = _; first | exact oY | ((first | exact e | exact k3 | exact k3.symm); done) | exact rfl) | exact oW | (apply And.intro)))
end Go.Proofs.Ytgbekbofeaoniaa
namespace Go.Proofs.Ytgbekbofeaoniaa
open Go Go.RowKit
theorem lenOK_of {L : List Im} {r : List AV} {W : World} {cl : List Value} (hc : CRel noN W NoO (imsA L :: r) cl) : LenOK L.length := by
  obtain ⟨h1, h2⟩ := hc
  cases cl with
  | nil => simp at h1
  | cons v cl =>
    have h : Rep noN W NoO (.ro 4 L.length (fun j => (L.getD j Im.z).av)) v := h2 0 _ v rfl rfl
    revert h
    generalize L.length = n
    generalize (fun j => (L.getD j Im.z).av) = get
    intro h
    cases h with
    | ronil => exact ⟨by omega⟩
    | roz => exact ⟨by omega⟩
    | ro _ _ _ b off c vals hn2 hc2 => exact ⟨by unfold maxLen at hc2; omega⟩
theorem grid_ok {L : List Im} {tw th k : Int} (hs : storeC L tw th = 0) (hk : inL L k = true) : gcheck (stG L tw th k) = 0 ∧ gcheck ⟨(Lm L k.toNat).w, (Lm L k.toNat).h, tw, th⟩ = 0 := by
  obtain ⟨h1, h2, h3, h4, h5⟩ := storeC_ok hs
  obtain ⟨_, _, h6⟩ := imagesC_ok h1
  have hb := inL_iff.1 hk
  obtain ⟨hf, _⟩ := check_inv (h6 k.toNat (by omega)).1
  have hb := fits_inv hf
  rw [stG_in hk]
  have : gcheck ⟨(Lm L k.toNat).w, (Lm L k.toNat).h, tw, th⟩ = 0 := by
    unfold gcheck
    dsimp only
    rw [if_neg (by omega), if_neg (by omega), if_neg (by omega)]
  exact ⟨this, this⟩
end Go.Proofs.Ytgbekbofeaoniaa
namespace Go.Proofs.Ytgbekbofeaoniaa
open Go Go.RowKit
def pasteI (w h c : Int) (m : List Int) (v g d : Int) (a : List Int) (x y : Int) : List Int := if pasteC w h c m.length v g d a.length x y = 0 then rowsL m a (v * d).toNat (baseR w c x y) g.toNat else m
theorem paste_eq (w h c : Int) (m : List Int) (v g d : Int) (a : List Int) (x y : Int) : pasteI w h c m v g d a x y = pasteL w h c m v g d a x y := by
  unfold pasteI pasteL
  split
  · rename_i hp
    have hq := paste_inv hp
    obtain ⟨r1, r2, _⟩ := paste_row hq
    rw [r1, step_rows (fun r hr => (r2 r hr).2) r1 g.toNat (Nat.le_refl _)]
  · rfl
end Go.Proofs.Ytgbekbofeaoniaa
namespace Go.Proofs.Ytgbekbofeaoniaa
open Go Go.RowKit
def cropB (w h : Int) (r : R4) : Bool := !r.empty && r.inside ⟨0, 0, w, h⟩
def cropC (w h c n : Int) (r : R4) : Int := if imCheck w h c n ≠ 0 then imCheck w h c n else if cropB w h r = true then 0 else 11
def cropN (c : Int) (r : R4) : Nat := ((r.x1 - r.x0) * c).toNat
def cropP (w c : Int) (r : R4) (k : Nat) : Nat := (((r.y0 + k) * w + r.x0) * c).toNat
def cropL (w c : Int) (p : List Int) (r : R4) : Nat → List Int
  | 0 => []
  | k + 1 => cropL w c p r k ++ (p.take (cropP w c r k + cropN c r)).drop (cropP w c r k)
structure CropOK (w h c : Int) (p : List Int) (r : R4) : Prop where
  i : imCheck w h c p.length = 0
  f : fitsI w h c = 0
  l : (p.length : Int) = w * h * c
  e : r.empty = false
  s : r.inside ⟨0, 0, w, h⟩ = true
  b : 0 ≤ r.x0 ∧ r.x0 < r.x1 ∧ r.x1 ≤ w ∧ 0 ≤ r.y0 ∧ r.y0 < r.y1 ∧ r.y1 ≤ h
  m : r.rboth ⟨0, 0, w, h⟩ = r
  a : r.rarea ≠ 0
theorem crop_ok {w h c : Int} {p : List Int} {r : R4} (hc : cropC w h c p.length r = 0) : CropOK w h c p r := by
  unfold cropC at hc
  split at hc
  · omega
  · rename_i k1
    have k1 : imCheck w h c p.length = 0 := by omega
    split at hc
    · rename_i k2
      simp only [cropB, Bool.and_eq_true, Bool.not_eq_true'] at k2
      have z := check_inv k1
      have y := fits_inv z.1
      have hb : r.both ⟨0, 0, w, h⟩ = r := by
        have := k2.2
        simp only [R4.inside, k2.1, Bool.false_or] at this
        exact (R4.beq_iff _ _).1 this
      have hm := R4.rboth_eq r ⟨0, 0, w, h⟩
      have ha : r.rarea ≠ 0 := by rw [R4.rarea_eq]; exact R4.area_pos k2.1
      refine ⟨k1, z.1, z.2, k2.1, k2.2, ?_, by rw [hm, hb], ha⟩
      have e2 : (R4.mk 0 0 w h).empty = false := (R4.empty_iff _).2 (by dsimp only; omega)
      have hb' := hb
      unfold R4.both at hb'
      simp only [k2.1, e2, Bool.false_eq_true, if_false] at hb'
      have bd := (R4.empty_iff _).1 k2.1
      unfold R4.norm at hb'
      split at hb'
      · have h0 := congrArg R4.x0 hb'
        have h1 := congrArg R4.x1 hb'
        simp at h0 h1
        omega
      · have h0 := congrArg R4.x0 hb'
        have h1 := congrArg R4.x1 hb'
        have h2 := congrArg R4.y0 hb'
        have h3 := congrArg R4.y1 hb'
        simp only at h0 h1 h2 h3
        omega
    · omega
theorem CropOK.row {w h c : Int} {p : List Int} {r : R4} (H : CropOK w h c p r) {k : Nat} (hk : (k : Int) < r.y1 - r.y0) :
    inI w h c r.x0 (r.y0 + k) 0 = true ∧ inI w h c (r.x1 - 1) (r.y0 + k) 0 = true ∧ plI w c r.x0 (r.y0 + k) 0 = (cropP w c r k : Int) ∧ plI w c (r.x1 - 1) (r.y0 + k) 0 + c = (cropP w c r k + cropN c r : Nat) ∧ cropP w c r k + cropN c r ≤ p.length ∧ (r.x1 - r.x0) * c = (cropN c r : Int) := by
  have b := H.b
  have y := fits_inv H.f
  have i1 : inI w h c r.x0 (r.y0 + k) 0 = true := by simp [inI]; omega
  have i2 : inI w h c (r.x1 - 1) (r.y0 + k) 0 = true := by simp [inI]; omega
  have p1 := pl_bd H.f i1
  have p2 := pl_bd H.f i2
  have e0 : 0 ≤ (r.x1 - r.x0) * c := Int.mul_nonneg (by omega) (by omega)
  have e1 : (cropN c r : Int) = (r.x1 - r.x0) * c := by unfold cropN; omega
  have e2 : (cropP w c r k : Int) = ((r.y0 + k) * w + r.x0) * c := by unfold cropP; omega
  have q : plI w c (r.x1 - 1) (r.y0 + k) 0 + c = plI w c r.x0 (r.y0 + k) 0 + (r.x1 - r.x0) * c := by
    unfold plI
    simp only [Int.sub_mul, Int.add_mul, Int.one_mul]; omega
  have e3 : plI w c r.x0 (r.y0 + k) 0 = ((r.y0 + k) * w + r.x0) * c := by unfold plI; omega
  have l := H.l
  refine ⟨i1, i2, by rw [e2, e3], by omega, ?_, e1.symm⟩
  have p3 : (plI w c (r.x1 - 1) (r.y0 + k) 0) + c ≤ w * h * c := by
    have e4 : plI w c (r.x1 - 1) (r.y0 + k) 0 = ((r.y0 + k) * w + (r.x1 - 1)) * c := by unfold plI; omega
    have : ((r.y0 + k) * w + (r.x1 - 1) + 1) * c ≤ w * h * c := Int.mul_le_mul_of_nonneg_right (by omega) (by omega)
    rw [Int.add_mul _ 1, Int.one_mul] at this
    omega
  omega
theorem CropOK.len {w h c : Int} {p : List Int} {r : R4} (H : CropOK w h c p r) : ∀ k : Nat, (k : Int) ≤ r.y1 - r.y0 → (cropL w c p r k).length = k * cropN c r
  | 0, _ => by simp [cropL]
  | k + 1, hk => by
    have ih := H.len k (by omega)
    have rw1 := H.row (k := k) (by omega)
    simp only [cropL, List.length_append, ih, List.length_drop, List.length_take, Nat.add_mul, Nat.one_mul]
    omega
end Go.Proofs.Ytgbekbofeaoniaa
namespace Go.Proofs.Ytgbekbofeaoniaa
open Go Go.RowKit
theorem CropOK.fit {w h c : Int} {p : List Int} {r : R4} (H : CropOK w h c p r) {k : Nat} (hk : (k : Int) ≤ r.y1 - r.y0) : k * cropN c r ≤ 16777216 := by
  have b := H.b
  have y := fits_inv H.f
  have n0 : 0 ≤ (r.x1 - r.x0) * c := Int.mul_nonneg (by omega) (by omega)
  have n1 : (cropN c r : Int) = (r.x1 - r.x0) * c := by unfold cropN; omega
  have a1 : (r.x1 - r.x0) * (r.y1 - r.y0) ≤ w * h := Int.mul_le_mul (by omega) (by omega) (by omega) (by omega)
  have a2 : (r.x1 - r.x0) * (r.y1 - r.y0) * c ≤ w * h * c := Int.mul_le_mul_of_nonneg_right a1 (by omega)
  have a3 : (k : Int) * ((r.x1 - r.x0) * c) ≤ (r.y1 - r.y0) * ((r.x1 - r.x0) * c) := Int.mul_le_mul_of_nonneg_right hk n0
  have a4 : (r.y1 - r.y0) * ((r.x1 - r.x0) * c) = (r.x1 - r.x0) * (r.y1 - r.y0) * c := by rw [Int.mul_comm (r.x1 - r.x0) (r.y1 - r.y0), Int.mul_assoc]
  have a5 : ((k * cropN c r : Nat) : Int) = (k : Int) * ((r.x1 - r.x0) * c) := by rw [Int.natCast_mul, n1]
  omega
abbrev vpl1S : PSpec := fun l => match l with
  | [.agg [.int .i64 w, .int .i64 h, .int .i64 c, .roi .u8 p], .int .i64 x, .int .i64 y, .int .i64 k] => some ([fitsI w h c = 0, inI w h c x y k = true], .tup [.int .i64 (plI w c x y k), .bool true]) | _ => none
theorem vpl1_s : SOK Try.prog 88 vpl1S := by
  refine sok_weak vplace_s fun l obs v h ho => ?_
  (unfold vpl1S at h; split at h; rotate_left; (focus (cases h)); rename_i w hgt c p x y k; simp only [Option.some.injEq, Prod.mk.injEq] at h; obtain ⟨rfl, rfl⟩ := h; simp only [List.mem_cons, List.not_mem_nil, or_false, forall_eq_or_imp, forall_eq, false_implies, implies_true] at ho)
  obtain ⟨h1, h2⟩ := ho
  refine ⟨[fitsI w hgt c = 0], by simp [vplS, sM3, h2], ?_⟩
  intro x hx
  simp only [List.mem_cons, List.not_mem_nil, or_false] at hx
  subst hx; exact h1
def cropF : FSpec := fun l es => match l, es with
  | [.agg [.int .i64 w, .int .i64 h, .int .i64 c, .roi .u8 p], .agg [.int .i64 x0, .int .i64 y0, .int .i64 x1, .int .i64 y1]], [] => some ([cropC w h c p.length ⟨x0, y0, x1, y1⟩ = 0],
    .tup [.agg [.int .i64 (x1 - x0), .int .i64 (y1 - y0), .int .i64 c, .sl 0 1 0 ((y1 - y0).toNat * cropN c ⟨x0, y0, x1, y1⟩)], .int .i64 0], [some (.ints 5 .u8 (cropL w c p ⟨x0, y0, x1, y1⟩ (y1 - y0).toNat))])
  | _, _ => none
set_option maxHeartbeats 4000000 in
theorem crop_g : GSOK Try.prog 66 (fG cropF) := by
  refine fok (S := [(51, checkS), (69, sR fun r => .bool r.empty), (87, sRR fun a b => .bool (a.inside b)), (88, vpl1S)]) (G := noG) (pok_cons check_s (pok_cons empty_s (pok_cons inside_s (pok_cons vpl1_s pok_nil)))) noG_ok ⟨Try.func66, by kernel_rfl, by kernel_rfl, by kernel_rfl⟩ fun l es obs v es' h ho => ?_
  (unfold cropF at h; split at h; rotate_left; (focus (cases h)); rename_i w hgt c p x0 y0 x1 y1; simp only [Option.some.injEq, Prod.mk.injEq] at h; obtain ⟨rfl, rfl, rfl⟩ := h; simp only [List.mem_cons, List.not_mem_nil, or_false, forall_eq_or_imp, forall_eq, false_implies, implies_true] at ho)
  have H := crop_ok ho
  have H1 := H.i
  have H2 := H.f
  have H3 := H.e
  have H4 := H.s
  have H5 := H.b
  have H6 := fits_inv H.f
  have H7 := H.l
  dsimp only at H5
  refine ⟨Nat.le_of_ble_eq_true rfl, ?_⟩
  (repeat' (first | (refine xI (fun hfk => ?_) (fun hfk => ?_) <;> ((try (first | replace hfk := oT hfk | replace hfk := oF hfk | simp only [oD, ne_eq, reduceCtorEq] at hfk)); (try exact oX))) | (refine And.intro ?ob ?_; (case ob => (exact oZ))) | exact True.intro | (show _ = _; first | exact oY | exact rfl) | exact oW | (apply And.intro)))
  refine ⟨Nat, fun i => [(2, .ptr 0 0), (3, .ptr 1 0), (4, .ptr 2 0), (5, .int .i64 0), (7, .ptr 3 0), (8, .fn 88 1 [.agg [.int .i64 w, .int .i64 hgt, .int .i64 c, .roi .u8 p]]), (9, .int .i64 (y0 + (i : Int)))],
      fun i => ⟨5, [(0, some (.cells 40 [.int .i64 w, .int .i64 hgt, .int .i64 c, .roi .u8 p])), (1, some (.cells 64 [.int .i64 x0, .int .i64 y0, .int .i64 x1, .int .i64 y1])), (2, some (.cells 40 [.int .i64 0, .int .i64 0, .int .i64 0, .nils])), (3, some (.cells 40 [.int .i64 (x1 - x0), .int .i64 (y1 - y0), .int .i64 c, .sl 4 1 0 (i * cropN c ⟨x0, y0, x1, y1⟩)])), (4, some (.ints 5 .u8 (cropL w c p ⟨x0, y0, x1, y1⟩ i)))]⟩,
      fun i => i ≤ (y1 - y0).toNat, fun i => (y1 - y0).toNat - i, ⟨0, [some 0, some 1, some 2, some 3, none], by omega, ?_⟩, fun i hi => ?_⟩
  · (repeat' (first | (refine xI (fun hfk => ?_) (fun hfk => ?_) <;> ((try (first | replace hfk := oT hfk | replace hfk := oF hfk | simp only [oD, ne_eq, reduceCtorEq] at hfk)); (try exact oX))) | (refine And.intro ?ob ?_; (case ob => (exact oZ))) | exact True.intro | (show _ = _; first | exact oY | (simp; done) | exact rfl) | exact oW | (apply And.intro)))
  have hi : i ≤ (y1 - y0).toNat := hi
  have cl := H.len i (by dsimp only; omega)
  refine ⟨fun hy => ?_, fun hy => ?_⟩
  · replace hy := of_decide_eq_true hy
    obtain ⟨i1, i2, p1, p2, p3, p4⟩ := H.row (k := i) (by dsimp only; omega)
    have ft := H.fit (k := i + 1) (by dsimp only; omega)
    have ps := H.len (i + 1) (by dsimp only; omega)
    rw [Nat.add_mul, Nat.one_mul] at ps ft
    dsimp only at i1 i2 p1 p2 p4
    have e1 : plI w c x0 (y0 + ↑i) 0 = (cropP w c ⟨x0, y0, x1, y1⟩ i : Int) := p1
    have e2 : (plI w c x0 (y0 + ↑i) 0).toNat = cropP w c ⟨x0, y0, x1, y1⟩ i := by rw [e1]; rfl
    have e3 : (plI w c x0 (y0 + ↑i) 0 + (x1 - x0) * c).toNat = cropP w c ⟨x0, y0, x1, y1⟩ i + cropN c ⟨x0, y0, x1, y1⟩ := by rw [e1, p4]; omega
    have e4 : (List.drop (cropP w c ⟨x0, y0, x1, y1⟩ i) (List.take (cropP w c ⟨x0, y0, x1, y1⟩ i + cropN c ⟨x0, y0, x1, y1⟩) p)).length = cropN c ⟨x0, y0, x1, y1⟩ := by
      simp only [List.length_drop, List.length_take]; omega
    have e5 := e4
    rw [← e3, ← e2] at e5
    have z : (i + 1) * cropN c ⟨x0, y0, x1, y1⟩ = i * cropN c ⟨x0, y0, x1, y1⟩ + cropN c ⟨x0, y0, x1, y1⟩ := by rw [Nat.add_mul, Nat.one_mul]
    (repeat' (first | (refine xI (fun hfk => ?_) (fun hfk => ?_) <;> ((try (first | replace hfk := oT hfk | replace hfk := oF hfk | simp only [oD, ne_eq, reduceCtorEq] at hfk)); (try exact oX))) | (refine And.intro ?ob ?_; (case ob => (exact oZ))) | exact True.intro | (show _ = _; first | exact oY | exact rfl) | exact oW | (apply And.intro)))
    (refine ⟨i + 1, [some 0, some 1, some 2, some 3, some 5], ?_, ?mu, ?_⟩; (case mu => ((try dsimp only); omega)))
    · show i + 1 ≤ _; omega
    (repeat' (first | (refine And.intro ?_ ?_) | exact True.intro | (show _ = _; with_reducible rfl) | exact Chk.mk (by kernel_rfl)))
    · show (_ : Int) = _; omega
    · show (_ : Nat) = _; omega
    · show _ = _; rw [e2, e3]; rfl
  · obtain rfl : i = (y1 - y0).toNat := by have := of_decide_eq_false hy; omega
    (repeat' (first | (refine xI (fun hfk => ?_) (fun hfk => ?_) <;> ((try (first | replace hfk := oT hfk | replace hfk := oF hfk | simp only [oD, ne_eq, reduceCtorEq] at hfk)); (try exact oX))) | (refine And.intro ?ob ?_; (case ob => (exact oZ))) | exact True.intro | (show _ = _; first | exact oY | exact rfl) | exact oW | (apply And.intro) | (refine ⟨[some 4], ?_⟩) | fail))
end Go.Proofs.Ytgbekbofeaoniaa
namespace Go.Proofs.Ytgbekbofeaoniaa
open Go Go.RowKit
def tC (L : List Im) (tw th k i : Int) : Int := if gis (stG L tw th k) i = true then (Lm L k.toNat).c else 0
def tP (L : List Im) (tw th k i : Int) : List Int := if gis (stG L tw th k) i = true then cropL (Lm L k.toNat).w (Lm L k.toNat).c (Lm L k.toNat).p (gtile (stG L tw th k) i) ((gtile (stG L tw th k) i).y1 - (gtile (stG L tw th k) i).y0).toNat else []
theorem gcount_zero : gcount R4.zero = 0 := by decide
theorem gis_in {L : List Im} {tw th k i : Int} (h : gis (stG L tw th k) i = true) : inL L k = true := by
  cases hk : inL L k with
  | true => rfl
  | false =>
    rw [stG_out hk] at h
    unfold gis at h
    rw [gcount_zero] at h
    simp only [Bool.and_eq_true, decide_eq_true_eq] at h
    omega
theorem gis_out {g : R4} {i : Int} (h : gis g i = false) : gtile g i = R4.zero := by
  unfold gtile
  rw [if_neg]
  intro k
  unfold gis at h
  rw [decide_eq_true k.1, decide_eq_true k.2] at h
  cases h
theorem gis_iff {g : R4} {i : Int} : gis g i = true ↔ 0 ≤ i ∧ i < gcount g := by simp [gis]
theorem tile_in {L : List Im} {tw th k i : Int} (hs : storeC L tw th = 0) (h : gis (stG L tw th k) i = true) :
    cropC (Lm L k.toNat).w (Lm L k.toNat).h (Lm L k.toNat).c (Lm L k.toNat).p.length (gtile (stG L tw th k) i) = 0 := by
  have hk := gis_in h
  obtain ⟨g1, g2⟩ := grid_ok hs hk
  obtain ⟨h1, _⟩ := storeC_ok hs
  obtain ⟨_, _, h6⟩ := imagesC_ok h1
  have hkb := inL_iff.1 hk
  have hc := (h6 k.toNat (by omega)).1
  obtain ⟨q0, q1⟩ := gis_iff.1 h
  obtain ⟨_, j1, j2, _, _⟩ := gidx q0 q1
  have lt := tile_lt g1 j1 j2
  have hb := gcheck_inv g1
  have eT : gtile (stG L tw th k) i = tileAt (stG L tw th k) (i.toNat / cN (stG L tw th k)) (i.toNat % cN (stG L tw th k)) := if_pos ⟨q0, q1⟩
  rw [eT]
  have ew : (stG L tw th k).x0 = (Lm L k.toNat).w := by rw [stG_in hk]
  have eh : (stG L tw th k).y0 = (Lm L k.toNat).h := by rw [stG_in hk]
  rw [← ew, ← eh] at hc ⊢
  generalize stG L tw th k = g at *
  generalize i.toNat / cN g = J at *
  generalize i.toNat % cN g = K at *
  obtain ⟨X, hX⟩ : ∃ X, (K : Int) * g.x1 = X := ⟨_, rfl⟩
  obtain ⟨Y, hY⟩ : ∃ Y, (J : Int) * g.y1 = Y := ⟨_, rfl⟩
  unfold tileAt
  rw [hX, hY]
  rw [hX, hY] at lt
  have e1 : (R4.mk X Y (min (X + g.x1) g.x0) (min (Y + g.y1) g.y0)).empty = false := (R4.empty_iff _).2 (by dsimp only; omega)
  have e2 : (R4.mk 0 0 g.x0 g.y0).empty = false := (R4.empty_iff _).2 (by dsimp only; omega)
  unfold cropC
  rw [if_neg (fun q => q hc), if_pos]
  unfold cropB R4.inside
  rw [e1, Bool.not_false, Bool.true_and, Bool.false_or, R4.beq_iff]
  unfold R4.both
  rw [e1, e2]
  simp only [Bool.false_eq_true, if_false]
  have e3 : R4.meet (R4.mk X Y (min (X + g.x1) g.x0) (min (Y + g.y1) g.y0)) (R4.mk 0 0 g.x0 g.y0) = R4.mk X Y (min (X + g.x1) g.x0) (min (Y + g.y1) g.y0) := by
    unfold R4.meet
    dsimp only
    congr 1 <;> omega
  first
    | (show (R4.meet _ _).norm = _; rw [e3, R4.norm_of e1])
    | (rw [e3]; unfold R4.norm; rw [e1]; rfl)
def fetF (L : List Im) : FSpec := fun l es => match l, es with
  | [.ptr 0 0, .agg [.int .i64 k, .int .i64 i]], [.cells t [.sl 1 4 0 n, .int .i64 tw, .int .i64 th, .int .i64 c], .recs e 4 m get] =>
    some ([t = 126, e = 40, n = L.length, m = L.length, get = fun j => (Lm L j).av, storeC L tw th = 0, 0 ≤ c, c ≤ 1000000000000],
      .tup [.agg [.int .i64 ((gtile (stG L tw th k) i).x1 - (gtile (stG L tw th k) i).x0), .int .i64 ((gtile (stG L tw th k) i).y1 - (gtile (stG L tw th k) i).y0), .int .i64 (tC L tw th k i), .sl 2 1 0 (tP L tw th k i).length], .int .i64 (if gis (stG L tw th k) i = true then 0 else 11)],
      [some (.cells t [.sl 1 4 0 n, .int .i64 tw, .int .i64 th, .int .i64 (if gis (stG L tw th k) i = true then c + 1 else c)]), some (.recs e 4 m get), some (.ints 5 .u8 (tP L tw th k i))])
  | _, _ => none
theorem fet_g (L : List Im) : GSOK Try.prog 32 (fG (fetF L)) := by
  refine fokD [7] (S := [(31, placeS41 L)]) (G := noG) (D := [(66, cropF)]) (pok_cons (place41_s L) pok_nil) noG_ok (dl_cons crop_g dl_nil) ⟨Try.func32, by kernel_rfl, by kernel_rfl, by kernel_rfl⟩ fun l es obs v es' h ho => ?_
  (unfold fetF at h; split at h; rotate_left; (focus (cases h)); rename_i k i t n tw th c e m get; simp only [Option.some.injEq, Prod.mk.injEq] at h; obtain ⟨rfl, rfl, rfl⟩ := h; simp only [List.mem_cons, List.not_mem_nil, or_false, forall_eq_or_imp, forall_eq, false_implies, implies_true] at ho)
  obtain ⟨rfl, rfl, rfl, rfl, rfl, hs, c0, c1⟩ := ho
  refine ⟨Nat.le_of_ble_eq_true rfl, ?_⟩
  cases hi : gis (stG L tw th k) i with
  | true =>
    have hk := gis_in hi
    have hkb := inL_iff.1 hk
    have hcr := tile_in hs hi
    have ec : tC L tw th k i = (Lm L k.toNat).c := if_pos hi
    have ep : tP L tw th k i = cropL (Lm L k.toNat).w (Lm L k.toNat).c (Lm L k.toNat).p (gtile (stG L tw th k) i) ((gtile (stG L tw th k) i).y1 - (gtile (stG L tw th k) i).y0).toNat := if_pos hi
    have hH := crop_ok hcr
    have hln := hH.len ((gtile (stG L tw th k) i).y1 - (gtile (stG L tw th k) i).y0).toNat (by have := hH.b; omega)
    have el : ((gtile (stG L tw th k) i).y1 - (gtile (stG L tw th k) i).y0).toNat * cropN (Lm L k.toNat).c (gtile (stG L tw th k) i) = (tP L tw th k i).length := by rw [ep, hln]
    have hz : 0 + k.toNat = k.toNat := Nat.zero_add _
    have hcr0 : cropC (Lm L (0 + k.toNat)).w (Lm L (0 + k.toNat)).h (Lm L (0 + k.toNat)).c (Lm L (0 + k.toNat)).p.length (gtile (stG L tw th k) i) = 0 := by rw [hz]; exact hcr
    have ec0 : (Lm L (0 + k.toNat)).c = tC L tw th k i := by rw [hz, ec]
    have ep0 : cropL (Lm L (0 + k.toNat)).w (Lm L (0 + k.toNat)).c (Lm L (0 + k.toNat)).p (gtile (stG L tw th k) i) ((gtile (stG L tw th k) i).y1 - (gtile (stG L tw th k) i).y0).toNat = tP L tw th k i := by rw [hz, ep]
    have el0 : ((gtile (stG L tw th k) i).y1 - (gtile (stG L tw th k) i).y0).toNat * cropN (Lm L (0 + k.toNat)).c (gtile (stG L tw th k) i) = (tP L tw th k i).length := by rw [hz, el]
    (repeat' (first | (refine xI (fun hfk => ?_) (fun hfk => ?_) <;> ((try (first | replace hfk := oT hfk | replace hfk := oF hfk | simp only [oD, ne_eq, reduceCtorEq] at hfk)); (try exact oX))) | (refine And.intro ?ob ?_; (case ob => (exact oZ))) | exact True.intro | (show _ = _; first | exact oY | exact rfl) | exact oW | (apply And.intro)))
    refine ⟨[(4, .ptr 2 0), (5, .int .i64 0)],
      ⟨4, [(0, some (.cells 126 [.sl 1 4 0 L.length, .int .i64 tw, .int .i64 th, .int .i64 (c + 1)])), (1, some (rowA L L.length)), (2, some (.cells 40 [.int .i64 ((gtile (stG L tw th k) i).x1 - (gtile (stG L tw th k) i).x0), .int .i64 ((gtile (stG L tw th k) i).y1 - (gtile (stG L tw th k) i).y0), .int .i64 (tC L tw th k i), .sl 3 1 0 (tP L tw th k i).length])), (3, some (.ints 5 .u8 (tP L tw th k i)))]⟩, [some 0, some 1, some 3, some 5], ?_, ?_⟩
    · (repeat' (first | (refine And.intro ?_ ?_) | exact True.intro | (show _ = _; with_reducible rfl) | exact Chk.mk (by kernel_rfl)))
      all_goals first | exact ec0 | exact el0 | exact ep0 | (intro j hj; rfl) | rfl
    (repeat' (first | (refine xI (fun hfk => ?_) (fun hfk => ?_) <;> ((try (first | replace hfk := oT hfk | replace hfk := oF hfk | simp only [oD, ne_eq, reduceCtorEq] at hfk)); (try exact oX))) | (refine And.intro ?ob ?_; (case ob => (exact oZ))) | exact True.intro | (show _ = _; first | exact oY | exact rfl) | exact oW | (apply And.intro)))
    refine ⟨[some 0, some 1, some 3], ?_⟩
    (repeat' (first | (refine xI (fun hfk => ?_) (fun hfk => ?_) <;> ((try (first | replace hfk := oT hfk | replace hfk := oF hfk | simp only [oD, ne_eq, reduceCtorEq] at hfk)); (try exact oX))) | (refine And.intro ?ob ?_; (case ob => (exact oZ))) | exact True.intro | (show _ = _; first | exact oY | exact rfl) | exact oW | (apply And.intro)))
  | false =>
    have e1 := gis_out hi
    have ec : tC L tw th k i = 0 := if_neg (by rw [hi]; decide)
    have ep : tP L tw th k i = [] := if_neg (by rw [hi]; decide)
    have el : (tP L tw th k i).length = 0 := by rw [ep]; rfl
    have ex : (gtile (stG L tw th k) i).x1 - (gtile (stG L tw th k) i).x0 = 0 := by rw [e1]; rfl
    have ey : (gtile (stG L tw th k) i).y1 - (gtile (stG L tw th k) i).y0 = 0 := by rw [e1]; rfl
    (repeat' (first | (refine xI (fun hfk => ?_) (fun hfk => ?_) <;> ((try (first | replace hfk := oT hfk | replace hfk := oF hfk | simp only [oD, ne_eq, reduceCtorEq] at hfk)); (try exact oX))) | (refine And.intro ?ob ?_; (case ob => (exact oZ))) | exact True.intro | (show _ = _; first | exact oY | exact rfl) | exact oW | (apply And.intro)))
    refine ⟨[some 0, some 1, none], ?_⟩
    (repeat' (first | (refine xI (fun hfk => ?_) (fun hfk => ?_) <;> ((try (first | replace hfk := oT hfk | replace hfk := oF hfk | simp only [oD, ne_eq, reduceCtorEq] at hfk)); (try exact oX))) | (refine And.intro ?ob ?_; (case ob => (exact oZ))) | exact True.intro | (show _ = _; first | exact oY | ((first | exact ec.symm | exact ep | exact ep.symm | exact el.symm | exact el | exact ex.symm | exact ey.symm | rfl); done) | exact rfl) | exact oW | (apply And.intro)))
end Go.Proofs.Ytgbekbofeaoniaa
namespace Go.Proofs.Ytgbekbofeaoniaa
open Go Go.RowKit
abbrev sN1 (v : AV) : PSpec := fun l => match l with | [.nilp] => some ([], v) | _ => none
theorem allN_s : SOK Try.prog 29 (sN1 .nils) := by
  refine sok_of (C := mkC 0 [(63, levelsN)] noG) (mkC_ok (pok_cons levelsN_s pok_nil) noG_ok) rfl mixed ⟨Try.func29, by kernel_rfl, by kernel_rfl, by kernel_rfl⟩ fun l obs v h ho => ?_
  unfold sN1 at h
  split at h <;> cases h
  refine ⟨Nat.le_of_ble_eq_true rfl, ?_⟩
  (repeat' (first | (refine xI (fun hfk => ?_) (fun hfk => ?_) <;> ((try (first | replace hfk := oT hfk | replace hfk := oF hfk | simp only [oD, ne_eq, reduceCtorEq] at hfk)); (try exact oX))) | (refine And.intro ?ob ?_; (case ob => (exact oZ))) | exact True.intro | (show _ = _; first | exact oY | exact rfl) | exact oW | (apply And.intro)))
  refine ⟨Nat, fun i => [(2, .nils), (3, .nils), (10, .int .i64 0), (11, .int .i64 0)], fun i => ⟨0, []⟩, fun i => True, fun i => 0, ⟨0, [], trivial, ?_⟩, fun i hi => ?_⟩
  · (repeat' (first | (refine xI (fun hfk => ?_) (fun hfk => ?_) <;> ((try (first | replace hfk := oT hfk | replace hfk := oF hfk | simp only [oD, ne_eq, reduceCtorEq] at hfk)); (try exact oX))) | (refine And.intro ?ob ?_; (case ob => (exact oZ))) | exact True.intro | (show _ = _; first | exact oY | exact rfl) | exact oW | (apply And.intro)))
  (repeat' (first | (refine xI (fun hfk => ?_) (fun hfk => ?_) <;> ((try (first | replace hfk := oT hfk | replace hfk := oF hfk | simp only [oD, ne_eq, reduceCtorEq] at hfk)); (try exact oX))) | (refine And.intro ?ob ?_; (case ob => (exact oZ))) | exact True.intro | (show _ = _; first | exact oY | exact rfl) | exact oW | (apply And.intro)))
end Go.Proofs.Ytgbekbofeaoniaa
namespace Go.Proofs.Ytgbekbofeaoniaa
open Go Go.RowKit
def dstr (T : TypeId → Option TI) (o : Op) (e : Env) (H : AH) : DR := match o with
  | .convert s d x => (match tdq T s, tdq T d, evA e x with
    | .slice es, .str, some v => (match tdq T es, intsOfA H .u8 v with
      | .int .u8, some (obs, l) => some (obs, .str (l.map fun n => UInt8.ofNat n.toNat), [], H.nx)
      | _, _ => none)
    | .str, .slice el, some (.str z) => (match tdq T el with
      | .int .u8 => some ([z.length ≤ 140737488355328], .sl H.nx 1 0 z.length, [(H.nx, some (.ints el .u8 (z.map fun c => (c.toNat : Int))))], H.nx + 1)
      | _ => none)
    | _, _, _ => none)
  | _ => none
def dX5 (T : TypeId → Option TI) (o : Op) (e : Env) (H : AH) : DR := match dstr T o e H with | some r => some r | none => dX4 T o e H
theorem dstr_congr {T : TypeId → Option TI} {o : Op} {e e' : Env} {H : AH} (h : ∀ x ∈ o.operands.toList, evA e x = evA e' x) : dstr T o e H = dstr T o e' H := by
  unfold dstr
  split
  · rename_i s d x
    rw [h x (by simp [Op.operands])]
  · rfl
theorem copyok5 {C : Ctx} (hC : C.X = xop4 C.T) (hD : C.DX = dX5 C.T) : CopyOK C := by
  have c4 := copyok4 (C := { C with X := xop4 C.T, DX := dX4 C.T }) rfl rfl
  refine ⟨fun o e e' H h => by
    have := c4.congr o e e' H h
    rw [hD]; unfold dX5; rw [dstr_congr h]
    show _ = (match dstr C.T o e' H with | some r => some r | none => dX4 C.T o e' H)
    rw [show dX4 C.T o e H = dX4 C.T o e' H from this], ?_⟩
  intro o e H obs v δ nx K h ho hK
  rw [hC]
  rw [hD] at h
  unfold dX5 at h
  split at h
  · rename_i r hr
    cases h
    unfold dstr at hr
    split at hr
    · rename_i s d x
      split at hr
      · rename_i es u hs hd hx
        split at hr
        · rename_i obs' l he hi
          cases hr
          have hb : rowB C.T (.convert s d x) e H = false := by
            unfold rowB
            simp only [hs, hd, hx]
          show xop4 C.T _ e H K
          unfold xop4
          rw [hb]
          show xop2 C.T _ e H K
          unfold xop2
          simp only [xsB2]
          unfold xop
          simp only [hx]
          unfold aconvX
          simp only [hs, hd, he, hi]
          exact obl_intro ho hK
        · cases hr
      · rename_i el z hs hd hx
        split at hr
        · rename_i he
          cases hr
          have hb : rowB C.T (.convert s d x) e H = true := by
            unfold rowB
            simp only [hs, hd, hx]
          show xop4 C.T _ e H K
          unfold xop4
          rw [hb]
          show rowX C.T _ e H K
          unfold rowX
          simp only [hx]
          unfold convS
          simp only [hs, hd, he]
          exact ⟨ho _ (by simp), hK⟩
        · cases hr
      · cases hr
    · cases hr
  · exact c4.out o e H obs v δ nx K h ho hK
noncomputable def mkT (p : Nat) (S : List (FuncId × PSpec)) (G : FuncId → Option GSpec) (D0 D : List (FuncId × FSpec)) (cuts : List Nat) : Ctx := ⟨p, tlook tt, slook S, dG (D0 ++ D) G, xsE (tlook tt), xop4 (tlook tt), fun i => cuts.any (Nat.beq i), dXD (D0 ++ D), dXN0 D0 D, dX5 (tlook tt)⟩
end Go.Proofs.Ytgbekbofeaoniaa

