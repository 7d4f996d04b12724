/- Texts laid together. No condition. -/
import Derived.WalkKit
import Derived.Test.YtdiflkabpjnncaaA
import Derived.Test.YtdiflkabpjnncaaFi
import Derived.Test.YtdiflkabpjnncaaU
import Derived.Test.YtdiflkabpjnncaaE19
import Derived.Test.YtdiflkabpjnncaaE21
namespace Go.Proofs.Ytdiflkabpjnncaa
theorem oT {p : Prop} [Decidable p] (h : decide p = true) : p := of_decide_eq_true h
theorem oF {p : Prop} [Decidable p] (h : decide p = false) : ¬ p := of_decide_eq_false h
theorem oA {p : Prop} [Decidable p] : (decide p = true) = p := decide_eq_true_eq
theorem oB {p : Prop} [Decidable p] : decide p = false ↔ ¬ p := decide_eq_false_iff_not
theorem oD : (∀ (p : Prop) [Decidable p], (decide p = true) = p) ∧ (∀ (p : Prop) [Decidable p], decide p = false ↔ ¬ p) ∧ ((∀ b : Bool, ((!b) = true) = (b = false)) ∧ (∀ b : Bool, ((!b) = false) = (b = true)) ∧ (∀ a b : Bool, ((a && b) = true) = (a = true ∧ b = true)) ∧ (∀ a b : Bool, ((a || b) = true) = (a = true ∨ b = true)) ∧ (∀ a b : Bool, ((a && b) = false) = (a = false ∨ b = false)) ∧ (∀ a b : Bool, ((a || b) = false) = (a = false ∧ b = false)) ∧ (∀ a b : Int, (¬ a < b) = (b ≤ a)) ∧ (∀ a b : Int, (¬ a ≤ b) = (b < a))) ∧ ((∀ p : Prop, (¬ ¬ p) = p) ∧ (true = false) = False ∧ (false = true) = False ∧ (∀ p : Prop, (p ∨ False) = p) ∧ (∀ p : Prop, (False ∨ p) = p) ∧ (∀ p : Prop, (p ∧ True) = p) ∧ (∀ p : Prop, (True ∧ p) = p) ∧ (¬ True) = False ∧ (¬ False) = True) := ⟨fun _ _ => oA, fun _ _ => oB, dh1, dh0⟩
theorem xF {x : Bool} (h : x = true) (k : x = false) : False := Bool.noConfusion (Eq.trans (Eq.symm h) k)
theorem xI {x : Bool} {A B : Prop} (f : x = true → A) (g : x = false → B) : (x = true → A) ∧ (x = false → B) := ⟨f, g⟩
theorem xT {x : Bool} (h : x = false) (k : x = true) : False := Bool.noConfusion (Eq.trans (Eq.symm h) k)
theorem oZ {p : Prop} (h : p := by (first | exact Chk.mk (by kernel_rfl) | exact True.intro | with_reducible assumption | exact rng64 (by omega) (by omega) | omega | (dsimp only; omega) | (show (_ : Nat) ≤ _; omega) | (simp only [ll1, ll2, ll0]; first | done | omega) | (dsimp only; simp only [ll1, ll2, ll0]; omega))) : p := h
theorem oX (h : False := by first | omega | contradiction | exact xF hfk (by with_reducible assumption) | exact xT hfk (by with_reducible assumption)) {p : Prop} : p := h.elim
theorem oY {p : Prop} (h : p := by first | with_reducible rfl | with_reducible assumption | omega | (simp only [ll1, ll2, ll0]; omega)) : p := h
theorem oW {p : Prop} (h : p := by first | with_reducible assumption | omega | (intro j hj; exact rfl)) : p := h
end Go.Proofs.Ytdiflkabpjnncaa
set_option maxRecDepth 100000
set_option maxHeartbeats 4000000
set_option linter.unusedVariables false
set_option linter.unusedSimpArgs false
namespace Go.Proofs.Ytdiflkabpjnncaa
structure R4 where
  x0 : Int
  y0 : Int
  x1 : Int
  y1 : Int
def R4.zero : R4 := ⟨0, 0, 0, 0⟩
@[simp] theorem zero_x0 : R4.zero.x0 = 0 := rfl
@[simp] theorem zero_y0 : R4.zero.y0 = 0 := rfl
@[simp] theorem zero_x1 : R4.zero.x1 = 0 := rfl
@[simp] theorem zero_y1 : R4.zero.y1 = 0 := rfl
def inB (x : Int) : Bool := decide (-2147483648 ≤ x) && decide (x ≤ 2147483648)
def R4.right (r : R4) : Bool := inB r.x0 && inB r.y0 && inB r.x1 && inB r.y1
def R4.empty (r : R4) : Bool := !r.right || decide (r.x1 ≤ r.x0) || decide (r.y1 ≤ r.y0)
def R4.has (r : R4) (x y : Int) : Bool := !r.empty && decide (r.x0 ≤ x) && decide (x < r.x1) && decide (r.y0 ≤ y) && decide (y < r.y1)
def beq8 (a0 a1 a2 a3 b0 b1 b2 b3 : Int) : Bool := a0 == b0 && a1 == b1 && a2 == b2 && a3 == b3
def R4.beq (a b : R4) : Bool := beq8 a.x0 a.y0 a.x1 a.y1 b.x0 b.y0 b.x1 b.y1
theorem R4.ext' {a b : R4} (h0 : a.x0 = b.x0) (h1 : a.y0 = b.y0) (h2 : a.x1 = b.x1) (h3 : a.y1 = b.y1) : a = b := by
  cases a; cases b; simp_all
theorem R4.beq_self (r : R4) : r.beq r = true := by simp [R4.beq, beq8]
theorem R4.beq_iff (a b : R4) : a.beq b = true ↔ a = b := by
  constructor
  · intro h
    simp [R4.beq, beq8] at h
    exact R4.ext' h.1.1.1 h.1.1.2 h.1.2 h.2
  · rintro rfl; exact a.beq_self
end Go.Proofs.Ytdiflkabpjnncaa
namespace Go.Proofs.Ytdiflkabpjnncaa
open Go Go.RowKit
abbrev R4.av (r : R4) : AV := .agg [.int .i64 r.x0, .int .i64 r.y0, .int .i64 r.x1, .int .i64 r.y1]
section
variable {r0 r1 r2 r3 k : Int}
end
end Go.Proofs.Ytdiflkabpjnncaa
namespace Go.Proofs.Ytdiflkabpjnncaa
open Go Go.RowKit
def sN (v : AV) : PSpec := fun l => match l with | [] => some ([], v) | _ => none
theorem sN_inv {w : AV} {l : List AV} {obs : List Prop} {v : AV} (h : sN w l = some (obs, v)) : l = [] ∧ v = w := by
  unfold sN at h
  split at h
  · simp only [Option.some.injEq, Prod.mk.injEq] at h; exact ⟨rfl, h.2.symm⟩
  · cases h
end Go.Proofs.Ytdiflkabpjnncaa
namespace Go.Proofs.Ytdiflkabpjnncaa
open Go Go.RowKit
def fitsI (w h c : Int) : Int := if c ≠ 1 ∧ c ≠ 3 ∧ c ≠ 4 then 10 else if 32768 < w ∨ 32768 < h ∨ (0 < w ∧ 0 < h ∧ 4194304 < w * h) then 30 else if w < 1 ∨ h < 1 then 12 else 0
def imCheck (w h c n : Int) : Int := if fitsI w h c ≠ 0 then fitsI w h c else if n ≠ w * h * c then 12 else 0
theorem fits_inv {w h c : Int} (hf : fitsI w h c = 0) : (c = 1 ∨ c = 3 ∨ c = 4) ∧ 1 ≤ w ∧ w ≤ 32768 ∧ 1 ≤ h ∧ h ≤ 32768 ∧ w * h ≤ 4194304 ∧ 0 ≤ w * h ∧ 0 ≤ w * h * c ∧ w * h * c ≤ 16777216 := by
  unfold fitsI at hf
  split at hf
  · cases hf
  · split at hf
    · cases hf
    · split at hf
      · cases hf
      · rename_i h1 h2 h3
        have h4 : 0 ≤ w * h := Int.mul_nonneg (by omega) (by omega)
        have h5 : 0 ≤ w * h * c := Int.mul_nonneg h4 (by omega)
        have h6 : w * h ≤ 4194304 := by omega
        have h7 : w * h * c ≤ 4194304 * 4 := Int.mul_le_mul h6 (by omega) (by omega) (by omega)
        omega
theorem check_inv {w h c n : Int} (hf : imCheck w h c n = 0) : fitsI w h c = 0 ∧ n = w * h * c := by
  unfold imCheck at hf
  split at hf
  · rename_i h1; exact absurd hf h1
  · rename_i h1
    split at hf
    · cases hf
    · rename_i h2; exact ⟨by omega, by omega⟩
def inI (w h c x y k : Int) : Bool := decide (0 ≤ x) && decide (x < w) && decide (0 ≤ y) && decide (y < h) && decide (0 ≤ k) && decide (k < c)
def plI (w c x y k : Int) : Int := (y * w + x) * c + k
theorem in_inv {w h c x y k : Int} (hi : inI w h c x y k = true) : 0 ≤ x ∧ x < w ∧ 0 ≤ y ∧ y < h ∧ 0 ≤ k ∧ k < c := by
  simp only [inI, Bool.and_eq_true, decide_eq_true_eq] at hi; omega
theorem pl_bd {w h c x y k : Int} (hf : fitsI w h c = 0) (hi : inI w h c x y k = true) :
    (0 ≤ y * w ∧ y * w ≤ 4194304) ∧ (0 ≤ y * w + x ∧ y * w + x < w * h) ∧ (0 ≤ (y * w + x) * c ∧ (y * w + x) * c ≤ 16777216) ∧ 0 ≤ plI w c x y k ∧ plI w c x y k < w * h * c := by
  have hb := fits_inv hf
  have hh := in_inv hi
  have h1 : 0 ≤ y * w := Int.mul_nonneg (by omega) (by omega)
  have h2 : (y + 1) * w ≤ h * w := Int.mul_le_mul_of_nonneg_right (by omega) (by omega)
  rw [Int.add_mul, Int.one_mul, Int.mul_comm h w] at h2
  have h3 : 0 ≤ (y * w + x) * c := Int.mul_nonneg (by omega) (by omega)
  have h4 : (y * w + x + 1) * c ≤ w * h * c := Int.mul_le_mul_of_nonneg_right (by omega) (by omega)
  rw [Int.add_mul, Int.one_mul] at h4
  unfold plI
  omega
theorem in_of {w h c x y k : Int} (hi : 0 ≤ x ∧ x < w ∧ 0 ≤ y ∧ y < h ∧ 0 ≤ k ∧ k < c) : inI w h c x y k = true := by
  simp only [inI, Bool.and_eq_true, decide_eq_true_eq]; omega
theorem pl_rng {w h c x y k : Int} (hf : fitsI w h c = 0) (hi : inI w h c x y k = true) : rngI .i64 (y * w) ∧ rngI .i64 (y * w + x) ∧ rngI .i64 ((y * w + x) * c) ∧ rngI .i64 ((y * w + x) * c + k) := by
  have hb := pl_bd hf hi
  have hc := fits_inv hf
  unfold plI at hb
  exact ⟨rng64 (by omega) (by omega), rng64 (by omega) (by omega), rng64 (by omega) (by omega), rng64 (by omega) (by omega)⟩
def sIII (f : Int → Int → Int → AV) : PSpec := fun l => match l with | [.int .i64 a, .int .i64 b, .int .i64 c] => some ([], f a b c) | _ => none
theorem sIII_inv {f : Int → Int → Int → AV} {l : List AV} {obs : List Prop} {v : AV} (h : sIII f l = some (obs, v)) : ∃ a b c, l = [.int .i64 a, .int .i64 b, .int .i64 c] ∧ v = f a b c := by
  unfold sIII at h
  split at h
  · simp only [Option.some.injEq, Prod.mk.injEq] at h; exact ⟨_, _, _, rfl, h.2.symm⟩
  · cases h
abbrev imA (w h c : Int) (l : List Int) : AV := .agg [.int .i64 w, .int .i64 h, .int .i64 c, .roi .u8 l]
def sM (ob : Int → Int → Int → List Int → List Prop) (f : Int → Int → Int → List Int → AV) : PSpec := fun l => match l with | [.agg [.int .i64 w, .int .i64 h, .int .i64 c, .roi .u8 p]] => some (ob w h c p, f w h c p) | _ => none
theorem sM_inv {ob : Int → Int → Int → List Int → List Prop} {f : Int → Int → Int → List Int → AV} {l : List AV} {obs : List Prop} {v : AV} (h : sM ob f l = some (obs, v)) : ∃ w hh c p, l = [imA w hh c p] ∧ obs = ob w hh c p ∧ v = f w hh c p := by
  unfold sM at h
  split at h
  · simp only [Option.some.injEq, Prod.mk.injEq] at h; exact ⟨_, _, _, _, rfl, h.1.symm, h.2.symm⟩
  · cases h
def sMI (ob : Int → Int → Int → List Int → Int → List Prop) (f : Int → Int → Int → List Int → Int → AV) : PSpec := fun l => match l with | [.agg [.int .i64 w, .int .i64 h, .int .i64 c, .roi .u8 p], .int .i64 x] => some (ob w h c p x, f w h c p x) | _ => none
theorem sMI_inv {ob : Int → Int → Int → List Int → Int → List Prop} {f : Int → Int → Int → List Int → Int → AV} {l : List AV} {obs : List Prop} {v : AV} (h : sMI ob f l = some (obs, v)) : ∃ w hh c p x, l = [imA w hh c p, .int .i64 x] ∧ obs = ob w hh c p x ∧ v = f w hh c p x := by
  unfold sMI at h
  split at h
  · simp only [Option.some.injEq, Prod.mk.injEq] at h; exact ⟨_, _, _, _, _, rfl, h.1.symm, h.2.symm⟩
  · cases h
def sM3 (ob : Int → Int → Int → List Int → Int → Int → Int → List Prop) (f : Int → Int → Int → List Int → Int → Int → Int → AV) : PSpec := fun l => match l with | [.agg [.int .i64 w, .int .i64 h, .int .i64 c, .roi .u8 p], .int .i64 x, .int .i64 y, .int .i64 k] => some (ob w h c p x y k, f w h c p x y k) | _ => none
theorem sM3_inv {ob : Int → Int → Int → List Int → Int → Int → Int → List Prop} {f : Int → Int → Int → List Int → Int → Int → Int → AV} {l : List AV} {obs : List Prop} {v : AV} (h : sM3 ob f l = some (obs, v)) : ∃ w hh c p x y k, l = [imA w hh c p, .int .i64 x, .int .i64 y, .int .i64 k] ∧ obs = ob w hh c p x y k ∧ v = f w hh c p x y k := by
  unfold sM3 at h
  split at h
  · simp only [Option.some.injEq, Prod.mk.injEq] at h; exact ⟨_, _, _, _, _, _, _, rfl, h.1.symm, h.2.symm⟩
  · cases h
theorem wh_rng {w h : Int} (h1 : decide (32768 < w) = false) (h2 : decide (32768 < h) = false) (h3 : decide (0 < w) = true) (h4 : decide (0 < h) = true) : rngI .i64 (w * h) := by
  replace h1 := of_decide_eq_false h1
  replace h2 := of_decide_eq_false h2
  replace h3 := of_decide_eq_true h3
  replace h4 := of_decide_eq_true h4
  have h5 : 0 ≤ w * h := Int.mul_nonneg (by omega) (by omega)
  have h6 : w * h ≤ 32768 * 32768 := Int.mul_le_mul (by omega) (by omega) (by omega) (by omega)
  exact rng64 (by omega) (by omega)
theorem fits_s : SOK Try.prog 23 (sIII fun w h c => .int .i64 (fitsI w h c)) := by
  refine sok_of (C := mkC 0 [] noG) (mkC_ok pok_nil noG_ok) rfl mixed ⟨Try.func23, by kernel_rfl, by kernel_rfl, by kernel_rfl⟩ fun l obs v h _ => ?_
  obtain ⟨w, hh, c, rfl, rfl⟩ := sIII_inv h
  clear h
  refine ⟨Nat.le_of_ble_eq_true rfl, ?_⟩
  (repeat' (first | apply And.intro | intro h)); (all_goals (try exact Chk.mk (by kernel_rfl)))
  all_goals first | exact wh_rng (by assumption) (by assumption) (by assumption) (by assumption) | (show _ = fitsI _ _ _; simp only [decide_eq_true_eq, decide_eq_false_iff_not, Bool.not_eq_true', Bool.not_eq_false', Bool.and_eq_true, Bool.or_eq_true, Bool.and_eq_false_iff, Bool.or_eq_false_iff, Int.not_lt, Int.not_le, ne_eq, Classical.not_not] at *; unfold fitsI; (repeat' split) <;> first | rfl | omega)
theorem rfits_s : SOK Try.prog 19 (sIII fun w h c => .int .i64 (fitsI w h c)) := by
  refine sok_of (C := mkC 0 [] noG) (mkC_ok pok_nil noG_ok) rfl mixed ⟨Try.func19, by kernel_rfl, by kernel_rfl, by kernel_rfl⟩ fun l obs v h _ => ?_
  obtain ⟨w, hh, c, rfl, rfl⟩ := sIII_inv h
  clear h
  refine ⟨Nat.le_of_ble_eq_true rfl, ?_⟩
  (repeat' (first | apply And.intro | intro h)); (all_goals (try exact Chk.mk (by kernel_rfl)))
  all_goals first | exact wh_rng (by assumption) (by assumption) (by assumption) (by assumption) | (show _ = fitsI _ _ _; simp only [decide_eq_true_eq, decide_eq_false_iff_not, Bool.not_eq_true', Bool.not_eq_false', Bool.and_eq_true, Bool.or_eq_true, Bool.and_eq_false_iff, Bool.or_eq_false_iff, Int.not_lt, Int.not_le, ne_eq, Classical.not_not] at *; unfold fitsI; (repeat' split) <;> first | rfl | omega)
abbrev fitsS : PSpec := sIII fun w h c => .int .i64 (fitsI w h c)
abbrev checkS : PSpec := sM (fun _ _ _ _ => []) fun w h c p => .int .i64 (imCheck w h c p.length)
theorem whc_rng {w h c : Int} (hf : fitsI w h c = 0) : rngI .i64 (w * h) ∧ rngI .i64 (w * h * c) := by
  have hb := fits_inv hf
  exact ⟨rng64 (by omega) (by omega), rng64 (by omega) (by omega)⟩
theorem check_s : SOK Try.prog 14 checkS := by
  refine sok_of (C := mkC 0 [(23, fitsS)] noG) (mkC_ok (pok_cons fits_s pok_nil) noG_ok) rfl mixed ⟨Try.func14, by kernel_rfl, by kernel_rfl, by kernel_rfl⟩ fun l obs v h _ => ?_
  obtain ⟨w, hh, c, p, rfl, rfl, rfl⟩ := sM_inv h
  clear h
  refine ⟨Nat.le_of_ble_eq_true rfl, ?_⟩
  refine ⟨fun h1 => ?_, fun h1 => ?_⟩
  · have h1 : ¬ fitsI w hh c = 0 := of_decide_eq_true h1
    have e : imCheck w hh c p.length = fitsI w hh c := if_pos h1
    rw [e]
    (repeat' (first | apply And.intro | intro h)); (all_goals (try exact Chk.mk (by kernel_rfl)))
    (all_goals (try first | exact True.intro | exact rfl | exact And.intro rfl rfl | exact And.intro rfl (fun _ _ => rfl)))
  · have h1 : fitsI w hh c = 0 := by simpa using h1
    have hr := whc_rng h1
    refine ⟨hr.1, hr.2, fun h2 => ?_, fun h2 => ?_⟩
    · have e : imCheck w hh c p.length = 12 := by unfold imCheck; rw [if_neg (by omega), if_pos (of_decide_eq_true h2)]
      rw [e]
      (repeat' (first | apply And.intro | intro h)); (all_goals (try exact Chk.mk (by kernel_rfl)))
      (all_goals (try first | exact True.intro | exact rfl | exact And.intro rfl rfl | exact And.intro rfl (fun _ _ => rfl)))
    · have e : imCheck w hh c p.length = 0 := by unfold imCheck; rw [if_neg (by omega), if_neg (of_decide_eq_false h2)]
      rw [e]
      (repeat' (first | apply And.intro | intro h)); (all_goals (try exact Chk.mk (by kernel_rfl)))
      (all_goals (try first | exact True.intro | exact rfl | exact And.intro rfl rfl | exact And.intro rfl (fun _ _ => rfl)))
theorem rcheck7_s : SOK Try.prog 7 checkS := by
  refine sok_of (C := mkC 0 [(19, fitsS)] noG) (mkC_ok (pok_cons rfits_s pok_nil) noG_ok) rfl mixed ⟨Try.func7, by kernel_rfl, by kernel_rfl, by kernel_rfl⟩ fun l obs v h _ => ?_
  obtain ⟨w, hh, c, p, rfl, rfl, rfl⟩ := sM_inv h
  clear h
  refine ⟨Nat.le_of_ble_eq_true rfl, ?_⟩
  refine ⟨fun h1 => ?_, fun h1 => ?_⟩
  · have h1 : fitsI w hh c = 0 := of_decide_eq_true h1
    have hr := whc_rng h1
    refine ⟨hr.1, hr.2, fun h2 => ?_, fun h2 => ?_⟩
    · have e : imCheck w hh c p.length = 12 := by unfold imCheck; rw [if_neg (by omega), if_pos (of_decide_eq_true h2)]
      rw [e]
      (repeat' (first | apply And.intro | intro h)); (all_goals (try exact Chk.mk (by kernel_rfl)))
      (all_goals (try first | exact True.intro | exact rfl | exact And.intro rfl rfl | exact And.intro rfl (fun _ _ => rfl)))
    · have e : imCheck w hh c p.length = fitsI w hh c := by unfold imCheck; rw [if_neg (by omega), if_neg (of_decide_eq_false h2), h1]
      rw [e]
      (repeat' (first | apply And.intro | intro h)); (all_goals (try exact Chk.mk (by kernel_rfl)))
      (all_goals (try first | exact True.intro | exact rfl | exact And.intro rfl rfl | exact And.intro rfl (fun _ _ => rfl)))
  · have h1 : ¬ fitsI w hh c = 0 := of_decide_eq_false h1
    have e : imCheck w hh c p.length = fitsI w hh c := if_pos h1
    rw [e]
    (repeat' (first | apply And.intro | intro h)); (all_goals (try exact Chk.mk (by kernel_rfl)))
    (all_goals (try first | exact True.intro | exact rfl | exact And.intro rfl rfl | exact And.intro rfl (fun _ _ => rfl)))
abbrev fewS : PSpec := sMI (fun _ _ _ _ _ => []) fun w h c p x => .bool (decide ((p.length : Int) ≤ x))
theorem few_s : SOK Try.prog 4 fewS := by
  refine sok_of (C := mkC 0 [] noG) (mkC_ok pok_nil noG_ok) rfl mixed ⟨Try.func4, by kernel_rfl, by kernel_rfl, by kernel_rfl⟩ fun l obs v h _ => ?_
  obtain ⟨w, hh, c, p, x, rfl, rfl, rfl⟩ := sMI_inv h
  clear h
  refine ⟨Nat.le_of_ble_eq_true rfl, ?_⟩
  (repeat' (first | apply And.intro | intro h)); (all_goals (try exact Chk.mk (by kernel_rfl)))
  (all_goals (try first | exact True.intro | exact rfl | exact And.intro rfl rfl | exact And.intro rfl (fun _ _ => rfl)))
def rplI (w h c n x y k : Int) : Int := if imCheck w h c n = 0 ∧ inI w h c x y k = true then plI w c x y k else -1
abbrev rplS : PSpec := sM3 (fun _ _ _ _ _ _ _ => []) fun w h c p x y k => .int .i64 (rplI w h c p.length x y k)
theorem rplace_s : SOK Try.prog 21 rplS := by
  refine sok_of (C := mkC 0 [(7, checkS)] noG) (mkC_ok (pok_cons rcheck7_s pok_nil) noG_ok) rfl mixed ⟨Try.func21, by kernel_rfl, by kernel_rfl, by kernel_rfl⟩ fun l obs v h _ => ?_
  obtain ⟨w, hh, c, p, x, y, k, rfl, rfl, rfl⟩ := sM3_inv h
  clear h
  refine ⟨Nat.le_of_ble_eq_true rfl, ?_⟩
  by_cases hin : imCheck w hh c p.length = 0 ∧ inI w hh c x y k = true
  · have e : rplI w hh c p.length x y k = plI w c x y k := if_pos hin
    obtain ⟨q1, q2, q3, q4⟩ := pl_rng (check_inv hin.1).1 hin.2
    have hi := in_inv hin.2
    have hz := hin.1
    rw [e]
    clear e hin
    (repeat' (first | apply And.intro | intro h)); (all_goals (try exact Chk.mk (by kernel_rfl)))
    (all_goals (try first | assumption | exact rfl | exact True.intro | contradiction | (exfalso; simp only [decide_eq_true_eq, decide_eq_false_iff_not, Bool.not_eq_true', Bool.not_eq_false', Bool.and_eq_true, Bool.or_eq_true, Bool.and_eq_false_iff, Bool.or_eq_false_iff, Int.not_lt, Int.not_le, ne_eq, Classical.not_not] at *; omega)))
  · have e : rplI w hh c p.length x y k = -1 := if_neg hin
    rw [e]
    replace hin : ¬ (imCheck w hh c p.length = 0 ∧ 0 ≤ x ∧ x < w ∧ 0 ≤ y ∧ y < hh ∧ 0 ≤ k ∧ k < c) := fun h => hin ⟨h.1, in_of h.2⟩
    clear e
    (repeat' (first | apply And.intro | intro h)); (all_goals (try exact Chk.mk (by kernel_rfl)))
    (all_goals (try first | assumption | exact rfl | exact True.intro | contradiction | (exfalso; simp only [decide_eq_true_eq, decide_eq_false_iff_not, Bool.not_eq_true', Bool.not_eq_false', Bool.and_eq_true, Bool.or_eq_true, Bool.and_eq_false_iff, Bool.or_eq_false_iff, Int.not_lt, Int.not_le, ne_eq, Classical.not_not] at *; omega)))
end Go.Proofs.Ytdiflkabpjnncaa
namespace Go.Proofs.Ytdiflkabpjnncaa
open Go Go.RowKit
theorem tdL (q : List Int) : List.take q.length (List.drop 0 q) = q := by simp
def cloneF : FSpec := fun l es => match l, es with
  | [.roi .u8 p], [] => some ([p.length ≤ 140737488355328], .sl 0 1 0 p.length, [some (.ints 5 .u8 p)])
  | [.sl 0 1 o n], [.ints 5 .u8 p] => some ([o + n ≤ p.length, n ≤ 140737488355328], .sl 1 1 0 n, [some (.ints 5 .u8 p), some (.ints 5 .u8 ((p.drop o).take n))])
  | _, _ => none
theorem clone_g : GSOK Try.prog 18 (fG cloneF) := by
  refine fok (S := []) (G := noG) pok_nil noG_ok ⟨Try.func18, by kernel_rfl, by kernel_rfl, by kernel_rfl⟩ fun l es obs v es' h ho => ?_
  unfold cloneF at h
  split at h
  · rename_i p
    simp only [Option.some.injEq, Prod.mk.injEq] at h
    obtain ⟨rfl, rfl, rfl⟩ := h
    have hl : p.length ≤ 140737488355328 := ho _ (by simp)
    clear ho
    refine ⟨Nat.le_of_ble_eq_true rfl, ?_⟩
    refine fun b hb => ⟨fun h1 => ?_, fun h1 => ?_⟩
    · rw [hb h1]
      refine ⟨[none], ?_⟩
      (repeat' (first | apply And.intro | intro h)); (all_goals (try exact Chk.mk (by kernel_rfl)))
      (all_goals (try first | assumption | exact rfl | exact True.intro | contradiction | (exfalso; simp only [decide_eq_true_eq, decide_eq_false_iff_not, Bool.not_eq_true', Bool.not_eq_false', Bool.and_eq_true, Bool.or_eq_true, Bool.and_eq_false_iff, Bool.or_eq_false_iff, Int.not_lt, Int.not_le, ne_eq, Classical.not_not] at *; omega)))
    · (repeat' (first | apply And.intro | intro h)); (all_goals (try exact Chk.mk (by kernel_rfl)))
      (all_goals (try first | assumption | exact rfl | exact True.intro | contradiction | (exfalso; simp only [decide_eq_true_eq, decide_eq_false_iff_not, Bool.not_eq_true', Bool.not_eq_false', Bool.and_eq_true, Bool.or_eq_true, Bool.and_eq_false_iff, Bool.or_eq_false_iff, Int.not_lt, Int.not_le, ne_eq, Classical.not_not] at *; omega)))
      · show (((0 : Nat) : Int) + (p.length : Int)) * ((1 : Nat) : Int) ≤ 140737488355328; omega
      · show 0 + p.length ≤ 140737488355328; omega
      · refine ⟨[some 1], ?_⟩
        (repeat' (first | apply And.intro | intro h)); (all_goals (try exact Chk.mk (by kernel_rfl)))
        (all_goals (try first | assumption | exact rfl | exact True.intro | contradiction | (exfalso; simp only [decide_eq_true_eq, decide_eq_false_iff_not, Bool.not_eq_true', Bool.not_eq_false', Bool.and_eq_true, Bool.or_eq_true, Bool.and_eq_false_iff, Bool.or_eq_false_iff, Int.not_lt, Int.not_le, ne_eq, Classical.not_not] at *; omega)))
        · show 0 + p.length = p.length; omega
  · rename_i o n p
    simp only [Option.some.injEq, Prod.mk.injEq] at h
    obtain ⟨rfl, rfl, rfl⟩ := h
    have hl : o + n ≤ p.length := ho _ (by simp)
    have hl2 : n ≤ 140737488355328 := ho _ (by simp)
    clear ho
    refine ⟨Nat.le_of_ble_eq_true rfl, ?_⟩
    refine fun b hb => ⟨fun h1 => ?_, fun h1 => ?_⟩
    · have hn := hb h1
      subst hn
      refine ⟨[some 0, none], ?_⟩
      (repeat' (first | apply And.intro | intro h)); (all_goals (try exact Chk.mk (by kernel_rfl)))
      (all_goals (try first | assumption | exact rfl | exact True.intro | contradiction | (exfalso; simp only [decide_eq_true_eq, decide_eq_false_iff_not, Bool.not_eq_true', Bool.not_eq_false', Bool.and_eq_true, Bool.or_eq_true, Bool.and_eq_false_iff, Bool.or_eq_false_iff, Int.not_lt, Int.not_le, ne_eq, Classical.not_not] at *; omega)))
    · have e : (List.take n (List.drop o p)).length = n := by simp; omega
      (repeat' (first | apply And.intro | intro h)); (all_goals (try exact Chk.mk (by kernel_rfl)))
      (all_goals (try first | assumption | exact rfl | exact True.intro | contradiction | (exfalso; simp only [decide_eq_true_eq, decide_eq_false_iff_not, Bool.not_eq_true', Bool.not_eq_false', Bool.and_eq_true, Bool.or_eq_true, Bool.and_eq_false_iff, Bool.or_eq_false_iff, Int.not_lt, Int.not_le, ne_eq, Classical.not_not] at *; omega)))
      · show (((0 : Nat) : Int) + ((List.take n (List.drop o p)).length : Int)) * ((1 : Nat) : Int) ≤ 140737488355328; omega
      · show 0 + (List.take n (List.drop o p)).length ≤ 140737488355328; omega
      · refine ⟨[some 0, some 2], ?_⟩
        (repeat' (first | apply And.intro | intro h)); (all_goals (try exact Chk.mk (by kernel_rfl)))
        (all_goals (try first | assumption | exact rfl | exact True.intro | contradiction | (exfalso; simp only [decide_eq_true_eq, decide_eq_false_iff_not, Bool.not_eq_true', Bool.not_eq_false', Bool.and_eq_true, Bool.or_eq_true, Bool.and_eq_false_iff, Bool.or_eq_false_iff, Int.not_lt, Int.not_le, ne_eq, Classical.not_not] at *; omega)))
        · show 0 + (List.take n (List.drop o p)).length = n; omega
  · cases h
end Go.Proofs.Ytdiflkabpjnncaa
namespace Go.Proofs.Ytdiflkabpjnncaa
open Go Go.RowKit
def sMM (f : Int → Int → Int → List Int → Int → Int → Int → List Int → AV) : PSpec := fun l => match l with
  | [.agg [.int .i64 w, .int .i64 h, .int .i64 c, .roi .u8 p], .agg [.int .i64 v, .int .i64 g, .int .i64 d, .roi .u8 q]] => some ([p.length ≤ 1152921504606846975], f w h c p v g d q) | _ => none
theorem sMM_inv {f : Int → Int → Int → List Int → Int → Int → Int → List Int → AV} {l : List AV} {obs : List Prop} {v : AV} (h : sMM f l = some (obs, v)) : ∃ w hh c p w' h' c' q, l = [imA w hh c p, imA w' h' c' q] ∧ obs = [p.length ≤ 1152921504606846975] ∧ v = f w hh c p w' h' c' q := by
  unfold sMM at h
  split at h
  · simp only [Option.some.injEq, Prod.mk.injEq] at h; exact ⟨_, _, _, _, _, _, _, _, rfl, h.1.symm, h.2.symm⟩
  · cases h
def sameM (w h c : Int) (p : List Int) (v g d : Int) (q : List Int) : Bool := decide (w = v ∧ h = g ∧ c = d ∧ p = q)
abbrev sameS : PSpec := sMM fun w h c p v g d q => .bool (sameM w h c p v g d q)
theorem list_getD {p q : List Int} (hl : p.length = q.length) (h : ∀ j, j < p.length → p.getD j 0 = q.getD j 0) : p = q := by
  refine List.ext_getElem hl fun j h1 h2 => ?_
  have := h j h1
  simpa [List.getD, h1, h2] using this
theorem rsame_s : SOK Try.prog 10 sameS := by
  refine sok_of (C := mkC 0 [] noG) (mkC_ok pok_nil noG_ok) rfl mixed ⟨Try.func10, by kernel_rfl, by kernel_rfl, by kernel_rfl⟩ fun l obs v h ho => ?_
  obtain ⟨w, hh, c, p, v, g, d, q, rfl, rfl, rfl⟩ := sMM_inv h
  have fit : p.length ≤ 1152921504606846975 := ho _ (by simp)
  clear h ho
  refine ⟨Nat.le_of_ble_eq_true rfl, ?_⟩
  by_cases hd : w = v ∧ hh = g ∧ c = d ∧ p.length = q.length
  · obtain ⟨rfl, rfl, rfl, hl⟩ := hd
    have hl2 : (p.length : Int) = q.length := by omega
    (repeat (first | (refine ⟨fun hh => absurd hh ?prx, fun _ => ?_⟩; (case prx => (simp [hl, hl2]; done))) | (refine ⟨fun _ => ?_, fun hh => absurd hh ?prx⟩; (case prx => (simp [hl, hl2]; done))) | (refine ⟨?prx, ?_⟩; (case prx => (first | exact Chk.mk (by kernel_rfl) | exact rfl | exact rfl)))))
    refine ⟨Nat, fun i => [(2, .ptr 0 0), (3, .ptr 1 0), (5, .int .i64 i)], fun i => ⟨2, [(0, some (.cells 24 [.int .i64 w, .int .i64 hh, .int .i64 c, .roi .u8 p])), (1, some (.cells 24 [.int .i64 w, .int .i64 hh, .int .i64 c, .roi .u8 q]))]⟩,
      fun i => i ≤ p.length ∧ ∀ j, j < i → p.getD j 0 = q.getD j 0, fun i => p.length - i, ⟨0, [some 0, some 1], ⟨Nat.zero_le _, fun j hj => by omega⟩, ?_⟩, fun i hi => ?_⟩
    · (repeat' (first | apply And.intro | intro h)); (all_goals (try exact Chk.mk (by kernel_rfl)))
      (all_goals (try first | exact True.intro | exact rfl | exact And.intro rfl rfl | exact And.intro rfl (fun _ _ => rfl)))
    refine ⟨fun hy => ?_, fun hy => ?_⟩
    · replace hy : (i : Int) < (p.length : Int) := of_decide_eq_true hy
      have hb := hi.2
      have b1 : 0 ≤ (i : Int) ∧ (i : Int) < (p.length : Int) := ⟨by omega, hy⟩
      have b2 : 0 ≤ (i : Int) ∧ (i : Int) < (q.length : Int) := ⟨by omega, by omega⟩
      have q1 : rngI .i64 ((i : Int) + 1) := rng64 (by omega) (by have := fit; omega)
      refine ⟨⟨by kernel_rfl⟩, b1, b2, fun h5 => ?_, fun h5 => ?_⟩
      · have h5 : ¬ p.getD i 0 = q.getD i 0 := of_decide_eq_true h5
        have e : sameM w hh c p w hh c q = false := by
          simp only [sameM, decide_eq_false_iff_not]
          rintro ⟨_, _, _, h4⟩
          exact h5 (by rw [h4])
        rw [e]
        (repeat' (first | apply And.intro | intro h)); (all_goals (try exact Chk.mk (by kernel_rfl)))
        (all_goals (try first | assumption | exact rfl | exact True.intro | contradiction | (exfalso; simp only [decide_eq_true_eq, decide_eq_false_iff_not, Bool.not_eq_true', Bool.not_eq_false', Bool.and_eq_true, Bool.or_eq_true, Bool.and_eq_false_iff, Bool.or_eq_false_iff, Int.not_lt, Int.not_le, ne_eq, Classical.not_not] at *; omega)))
      · have h5 : p.getD i 0 = q.getD i 0 := by simpa using h5
        refine ⟨q1, i + 1, [some 0, some 1], ⟨by omega, fun j hj => ?_⟩, (by show p.length - (i + 1) < p.length - i; omega), ?_⟩
        · by_cases hji : j = i
          · rw [hji]; exact h5
          · exact hb j (by omega)
        · (repeat' (first | apply And.intro | intro h)); (all_goals (try exact Chk.mk (by kernel_rfl)))
          (all_goals (try first | exact True.intro | exact rfl | exact And.intro rfl rfl | exact And.intro rfl (fun _ _ => rfl)))
    · replace hy : ¬ (i : Int) < (p.length : Int) := of_decide_eq_false hy
      have e : sameM w hh c p w hh c q = true := by
        have := list_getD hl (fun j hj => hi.2 j (by omega))
        simp [sameM, this]
      rw [e]
      (repeat' (first | apply And.intro | intro h)); (all_goals (try exact Chk.mk (by kernel_rfl)))
      (all_goals (try first | assumption | exact rfl | exact True.intro | contradiction | (exfalso; simp only [decide_eq_true_eq, decide_eq_false_iff_not, Bool.not_eq_true', Bool.not_eq_false', Bool.and_eq_true, Bool.or_eq_true, Bool.and_eq_false_iff, Bool.or_eq_false_iff, Int.not_lt, Int.not_le, ne_eq, Classical.not_not] at *; omega)))
  · have e : sameM w hh c p v g d q = false := by
      simp only [sameM, decide_eq_false_iff_not]
      rintro ⟨h1, h2, h3, h4⟩
      exact hd ⟨h1, h2, h3, by rw [h4]⟩
    rw [e]
    (repeat' (first | apply And.intro | intro h)); (all_goals (try exact Chk.mk (by kernel_rfl)))
    (all_goals (try first | assumption | exact rfl | exact True.intro | contradiction | (exfalso; simp only [decide_eq_true_eq, decide_eq_false_iff_not, Bool.not_eq_true', Bool.not_eq_false', Bool.and_eq_true, Bool.or_eq_true, Bool.and_eq_false_iff, Bool.or_eq_false_iff, Int.not_lt, Int.not_le, ne_eq, Classical.not_not] at *; omega)))
def madeF : FSpec := fun l es => match l, es with
  | [.int .i64 w, .int .i64 h, .int .i64 c, .sl 0 1 0 n], [.ints 5 .u8 p] => some ([], .agg [.int .i64 w, .int .i64 h, .int .i64 c, .sl 0 1 0 n], [some (.ints 5 .u8 p)])
  | _, _ => none
theorem made_g : GSOK Try.prog 22 (fG madeF) := by
  refine fok (S := []) (G := noG) pok_nil noG_ok ⟨Try.func22, by kernel_rfl, by kernel_rfl, by kernel_rfl⟩ fun l es obs v es' h ho => ?_
  unfold madeF at h
  split at h
  · rename_i w hh c n p
    simp only [Option.some.injEq, Prod.mk.injEq] at h
    obtain ⟨rfl, rfl, rfl⟩ := h
    refine ⟨Nat.le_of_ble_eq_true rfl, ?_⟩
    refine ⟨[some 0], ?_⟩
    (repeat' (first | apply And.intro | intro h)); (all_goals (try exact Chk.mk (by kernel_rfl)))
    (all_goals (try first | assumption | exact rfl | exact True.intro | contradiction | (exfalso; simp only [decide_eq_true_eq, decide_eq_false_iff_not, Bool.not_eq_true', Bool.not_eq_false', Bool.and_eq_true, Bool.or_eq_true, Bool.and_eq_false_iff, Bool.or_eq_false_iff, Int.not_lt, Int.not_le, ne_eq, Classical.not_not] at *; omega)))
  · cases h
end Go.Proofs.Ytdiflkabpjnncaa
namespace Go.Proofs.Ytdiflkabpjnncaa
open Go Go.RowKit
def newF : FSpec := fun l es => match l, es with
  | [.int .i64 w, .int .i64 h, .int .i64 c], [] => some ([fitsI w h c = 0], .tup [.agg [.int .i64 w, .int .i64 h, .int .i64 c, .sl 0 1 0 (w * h * c).toNat], .int .i64 0], [some (.ints 5 .u8 (List.replicate (w * h * c).toNat 0))])
  | _, _ => none
theorem new_g : GSOK Try.prog 15 (fG newF) := by
  refine fok (S := [(23, fitsS)]) (G := noG) (pok_cons fits_s pok_nil) noG_ok ⟨Try.func15, by kernel_rfl, by kernel_rfl, by kernel_rfl⟩ fun l es obs v es' h ho => ?_
  unfold newF at h
  split at h
  · rename_i w hh c
    simp only [Option.some.injEq, Prod.mk.injEq] at h
    obtain ⟨rfl, rfl, rfl⟩ := h
    have h1 : fitsI w hh c = 0 := ho _ (by simp)
    clear ho
    have hb := fits_inv h1
    obtain ⟨q1, q2⟩ := whc_rng h1
    refine ⟨Nat.le_of_ble_eq_true rfl, ?_⟩
    have o1 : 0 ≤ w * hh * c ∧ w * hh * c ≤ w * hh * c ∧ w * hh * c ≤ 140737488355328 ∧ w * hh * c * ((1 : Nat) : Int) ≤ 140737488355328 := by omega
    (repeat (first | (refine ⟨fun hh => absurd hh ?prx, fun _ => ?_⟩; (case prx => (simp [h1]; done))) | (refine ⟨fun _ => ?_, fun hh => absurd hh ?prx⟩; (case prx => (simp [h1]; done))) | (refine ⟨?prx, ?_⟩; (case prx => (first | exact Chk.mk (by kernel_rfl) | exact rfl | (first | exact q1 | exact q2 | exact o1))))))
    refine ⟨[some 1], ⟨by kernel_rfl⟩, ⟨⟨rfl, rfl, rfl, rfl, rfl⟩, rfl⟩, rfl, True.intro⟩
  · cases h
end Go.Proofs.Ytdiflkabpjnncaa
namespace Go.Proofs.Ytdiflkabpjnncaa
open Go Go.RowKit
def mapL (g : Nat → Int) (m : Nat) : List Int := (List.range m).map g
theorem mapL_len (g : Nat → Int) (m : Nat) : (mapL g m).length = m := by simp [mapL]
theorem mapL_succ (g : Nat → Int) (m : Nat) : mapL g (m + 1) = mapL g m ++ [g m] := by simp [mapL, List.range_succ]
end Go.Proofs.Ytdiflkabpjnncaa
namespace Go.Proofs.Ytdiflkabpjnncaa
open Go Go.RowKit
def hv (x : Int) : Int := (x + 1) / 2
abbrev hvS : PSpec := fun l => match l with | [.int .i64 x] => some ([0 ≤ x, x ≤ 100000], .int .i64 (hv x)) | _ => none
theorem hv_s : SOK Try.prog 16 hvS := by
  refine sok_of (C := mkC 0 [] noG) (mkC_ok pok_nil noG_ok) rfl mixed ⟨Try.func16, by kernel_rfl, by kernel_rfl, by kernel_rfl⟩ fun l obs v h ho => ?_
  (unfold hvS at h; split at h; rotate_left; (focus (cases h)); rename_i x; simp only [Option.some.injEq, Prod.mk.injEq] at h; obtain ⟨rfl, rfl⟩ := h; simp only [List.mem_cons, List.not_mem_nil, or_false, forall_eq_or_imp, forall_eq, false_implies, implies_true] at ho)
  obtain ⟨h0, h1⟩ := ho
  have e : Int.tdiv (x + 1) 2 = hv x := Int.tdiv_eq_ediv_of_nonneg (by omega)
  have r : rngI .i64 (Int.tdiv (x + 1) 2) := by rw [e]; unfold hv; exact rng64 (by omega) (by omega)
  refine ⟨Nat.le_of_ble_eq_true rfl, ?_⟩
  (repeat' (first | (refine xI (fun hfk => ?_) (fun hfk => ?_) <;> ((try (first | replace hfk := oT hfk | replace hfk := oF hfk | simp only [oD, ne_eq, reduceCtorEq] at hfk)); (try exact oX))) | (refine And.intro ?ob ?_; (case ob => (exact oZ))) | exact True.intro | (show _ = _; first | exact oY | (exact e; done) | exact rfl) | exact oW | (apply And.intro)))
def col4 (w x n : Int) : Int := min (2 * x + n.tmod 2) (w - 1)
def row4 (h y n : Int) : Int := min (2 * y + n.tdiv 2) (h - 1)
def px4 (w h c : Int) (p : List Int) (x y k n : Int) : Int := p.getD ((row4 h y n * w + col4 w x n) * c + k).toNat 0
def sum4 (w h c : Int) (p : List Int) (x y k : Int) : Nat → Int
  | 0 => 2
  | n + 1 => sum4 w h c p x y k n + px4 w h c p x y k (n : Int)
def v4 (w h c : Int) (p : List Int) (x y k : Int) : Int := sum4 w h c p x y k 4 / 4
structure At31 (w h c : Int) (p : List Int) (x y k : Int) : Prop where
  fit : fitsI w h c = 0
  len : (p.length : Int) = w * h * c
  byt : Bytes p
  x0 : 0 ≤ x
  x1 : x < hv w
  y0 : 0 ≤ y
  y1 : y < hv h
  k0 : 0 ≤ k
  k1 : k < c
theorem At31.inI {w h c : Int} {p : List Int} {x y k : Int} (H : At31 w h c p x y k) {n : Nat} (hn : n < 4) : inI w h c (col4 w x n) (row4 h y n) k = true := by
  have hb := fits_inv H.fit
  have := H.x0; have := H.x1; have := H.y0; have := H.y1; have := H.k0; have := H.k1
  have m : Int.tmod (n : Int) 2 = ((n % 2 : Nat) : Int) := rfl
  have d : Int.tdiv (n : Int) 2 = ((n / 2 : Nat) : Int) := rfl
  unfold hv at *
  unfold Go.Proofs.Ytdiflkabpjnncaa.inI col4 row4
  rw [m, d]
  simp only [Bool.and_eq_true, decide_eq_true_eq]
  omega
theorem At31.px {w h c : Int} {p : List Int} {x y k : Int} (H : At31 w h c p x y k) {n : Nat} (hn : n < 4) : px4 w h c p x y k n ∈ p := by
  have := pl_bd H.fit (H.inI hn)
  unfold plI at this
  have hl := H.len
  unfold px4
  have hlt : ((row4 h y n * w + col4 w x n) * c + k).toNat < p.length := by omega
  simp only [List.getD, List.getElem?_eq_getElem hlt, Option.getD_some]
  exact List.getElem_mem hlt
theorem At31.sum_bd {w h c : Int} {p : List Int} {x y k : Int} (H : At31 w h c p x y k) : ∀ {n : Nat}, n ≤ 4 → 2 ≤ sum4 w h c p x y k n ∧ sum4 w h c p x y k n ≤ 2 + 255 * n
  | 0, _ => by unfold sum4; omega
  | n + 1, hn => by
    have ih := H.sum_bd (n := n) (by omega)
    have := H.byt _ (H.px (n := n) (by omega))
    unfold sum4
    omega
abbrev at31S : PSpec := fun l => match l with | [.agg [.int .i64 w, .int .i64 h, .int .i64 c, .roi .u8 p], .int .i64 x, .int .i64 y, .int .i64 k] => some ([At31 w h c p x y k], .int .u8 (v4 w h c p x y k)) | _ => none
theorem at31_s : SOK Try.prog 17 at31S := by
  refine sok_of (C := mkC 0 [] noG) (mkC_ok pok_nil noG_ok) rfl mixed ⟨Try.func17, by kernel_rfl, by kernel_rfl, by kernel_rfl⟩ fun l obs v h ho => ?_
  (unfold at31S at h; split at h; rotate_left; (focus (cases h)); rename_i w hh c p x y k; simp only [Option.some.injEq, Prod.mk.injEq] at h; obtain ⟨rfl, rfl⟩ := h; simp only [List.mem_cons, List.not_mem_nil, or_false, forall_eq_or_imp, forall_eq, false_implies, implies_true] at ho)
  have H := ho
  have hb := fits_inv H.fit
  have b1 := H.x0; have b2 := H.x1; have b3 := H.y0; have b4 := H.y1; have b5 := H.k0; have b6 := H.k1
  have w1 : hv w ≤ 16384 := by unfold hv; omega
  have w2 : hv hh ≤ 16384 := by unfold hv; omega
  refine ⟨Nat.le_of_ble_eq_true rfl, ?_⟩
  (repeat' (first | (refine xI (fun hfk => ?_) (fun hfk => ?_) <;> ((try (first | replace hfk := oT hfk | replace hfk := oF hfk | simp only [oD, ne_eq, reduceCtorEq] at hfk)); (try exact oX))) | (refine And.intro ?ob ?_; (case ob => (exact oZ))) | exact True.intro | (show _ = _; first | exact oY | exact rfl) | exact oW | (apply And.intro)))
  refine ⟨Nat, fun i => [(2, .int .i64 y), (3, .int .i64 k), (1, .int .i64 x), (4, .ptr 0 0), (9, .int .i64 (sum4 w hh c p x y k i)), (13, .int .i64 (i : Int))],
      fun i => ⟨1, [(0, some (.cells 42 [.int .i64 w, .int .i64 hh, .int .i64 c, .roi .u8 p]))]⟩, fun i => i ≤ 4, fun i => 4 - i, ⟨0, [some 0], by omega, ?_⟩, fun i hi => ?_⟩
  · (repeat' (first | (refine xI (fun hfk => ?_) (fun hfk => ?_) <;> ((try (first | replace hfk := oT hfk | replace hfk := oF hfk | simp only [oD, ne_eq, reduceCtorEq] at hfk)); (try exact oX))) | (refine And.intro ?ob ?_; (case ob => (exact oZ))) | exact True.intro | (show _ = _; first | exact oY | exact rfl) | exact oW | (apply And.intro)))
  have hi : i ≤ 4 := hi
  have sb := H.sum_bd hi
  by_cases hlt : i < 4
  · have m : Int.tmod (i : Int) 2 = ((i % 2 : Nat) : Int) := rfl
    have d : Int.tdiv (i : Int) 2 = ((i / 2 : Nat) : Int) := rfl
    have hin := H.inI hlt
    have hbd := pl_bd H.fit hin
    have hrg := pl_rng H.fit hin
    obtain ⟨r1, r2, r3, r4⟩ := hrg
    unfold plI at hbd
    simp only [col4, row4] at hbd r1 r2 r3 r4
    have hl := H.len
    have pb := H.byt _ (H.px hlt)
    have pr : rngI .i64 (p.getD (((min (2 * y + Int.tdiv (i : Int) 2) (hh - 1)) * w + (min (2 * x + Int.tmod (i : Int) 2) (w - 1))) * c + k).toNat 0) := by
      unfold px4 col4 row4 at pb
      exact rng64 (by omega) (by omega)
    have sr : rngI .i64 (sum4 w hh c p x y k i + p.getD (((min (2 * y + Int.tdiv (i : Int) 2) (hh - 1)) * w + (min (2 * x + Int.tmod (i : Int) 2) (w - 1))) * c + k).toNat 0) := by
      unfold px4 col4 row4 at pb
      exact rng64 (by omega) (by omega)
    (repeat' (first | (refine xI (fun hfk => ?_) (fun hfk => ?_) <;> ((try (first | replace hfk := oT hfk | replace hfk := oF hfk | simp only [oD, ne_eq, reduceCtorEq] at hfk)); (try exact oX))) | (refine And.intro ?ob ?_; (case ob => (exact oZ))) | exact True.intro | (show _ = _; first | exact oY | exact rfl) | exact oW | (apply And.intro)))
    (refine ⟨i + 1, [some 0], ?_, ?mu, ?_⟩; (case mu => ((try dsimp only); omega)))
    · exact hlt
    (repeat' (first | (refine xI (fun hfk => ?_) (fun hfk => ?_) <;> ((try (first | replace hfk := oT hfk | replace hfk := oF hfk | simp only [oD, ne_eq, reduceCtorEq] at hfk)); (try exact oX))) | (refine And.intro ?ob ?_; (case ob => (exact oZ))) | exact True.intro | (show _ = _; first | exact oY | exact rfl) | exact oW | (apply And.intro)))
  · obtain rfl : i = 4 := by omega
    have e : Int.tdiv (sum4 w hh c p x y k 4) 4 = v4 w hh c p x y k := Int.tdiv_eq_ediv_of_nonneg (by omega)
    have r : rngI .i64 (Int.tdiv (sum4 w hh c p x y k 4) 4) := by rw [e]; unfold v4; exact rng64 (by omega) (by omega)
    have e2 : IntKind.u8.wrap (Int.tdiv (sum4 w hh c p x y k 4) 4) = v4 w hh c p x y k := by rw [e]; unfold v4; exact w8 (by omega) (by omega)
    (repeat' (first | (refine xI (fun hfk => ?_) (fun hfk => ?_) <;> ((try (first | replace hfk := oT hfk | replace hfk := oF hfk | simp only [oD, ne_eq, reduceCtorEq] at hfk)); (try exact oX))) | (refine And.intro ?ob ?_; (case ob => (exact oZ))) | exact True.intro | (show _ = _; first | exact oY | (exact e2; done) | exact rfl) | exact oW | (apply And.intro)))
def hg (w h c : Int) (p : List Int) (i : Nat) : Int := v4 w h c p (Int.tmod (Int.tdiv (i : Int) c) (hv w)) (Int.tdiv (Int.tdiv (i : Int) c) (hv w)) (Int.tmod (i : Int) c)
def hN (w h c : Int) : Nat := (hv w * hv h * c).toNat
def halfP (w h c : Int) (p : List Int) : List Int := mapL (hg w h c p) (hN w h c)
def halfI (m : Im) : Im := ⟨hv m.w, hv m.h, m.c, halfP m.w m.h m.c m.p⟩
theorem half_fits {w h c : Int} (hf : fitsI w h c = 0) : fitsI (hv w) (hv h) c = 0 ∧ 1 ≤ hv w ∧ hv w ≤ 16384 ∧ 1 ≤ hv h ∧ hv h ≤ 16384 := by
  have hb := fits_inv hf
  have w0 : 1 ≤ hv w ∧ hv w ≤ w ∧ hv w ≤ 16384 := by unfold hv; omega
  have h0 : 1 ≤ hv h ∧ hv h ≤ h ∧ hv h ≤ 16384 := by unfold hv; omega
  refine ⟨?_, by omega, by omega, by omega, by omega⟩
  have hm : hv w * hv h ≤ w * h := Int.mul_le_mul w0.2.1 h0.2.1 (by omega) (by omega)
  unfold fitsI
  rw [if_neg (by omega), if_neg (by omega), if_neg (by omega)]
theorem half_at {w h c : Int} {p : List Int} (hf : fitsI w h c = 0) (hl : (p.length : Int) = w * h * c) (hp : Bytes p) {i : Nat} (hi : i < hN w h c) :
    At31 w h c p (Int.tmod (Int.tdiv (i : Int) c) (hv w)) (Int.tdiv (Int.tdiv (i : Int) c) (hv w)) (Int.tmod (i : Int) c) := by
  have hb := fits_inv hf
  obtain ⟨hf2, w1, w2, h1, h2⟩ := half_fits hf
  have hb2 := fits_inv hf2
  obtain ⟨C, rfl⟩ := Int.eq_ofNat_of_zero_le (show 0 ≤ c by omega)
  obtain ⟨U, hU⟩ := Int.eq_ofNat_of_zero_le (show 0 ≤ hv w by omega)
  obtain ⟨V, hV⟩ := Int.eq_ofNat_of_zero_le (show 0 ≤ hv h by omega)
  unfold hN at hi
  rw [hU, hV] at hi
  have e : ((U : Int) * (V : Int) * (C : Int)).toNat = U * V * C := by rw [← Int.natCast_mul, ← Int.natCast_mul, Int.toNat_natCast]
  rw [e] at hi
  have c0 : 0 < C := by omega
  have u0 : 0 < U := by omega
  have d1 : i / C < U * V := Nat.div_lt_of_lt_mul (by rw [Nat.mul_comm]; exact hi)
  have d2 : i / C / U < V := Nat.div_lt_of_lt_mul d1
  have e1 : Int.tdiv (i : Int) (C : Int) = ((i / C : Nat) : Int) := rfl
  rw [hU, e1]
  have e2 : Int.tmod ((i / C : Nat) : Int) (U : Int) = ((i / C % U : Nat) : Int) := rfl
  have e3 : Int.tdiv ((i / C : Nat) : Int) (U : Int) = ((i / C / U : Nat) : Int) := rfl
  have e4 : Int.tmod (i : Int) (C : Int) = ((i % C : Nat) : Int) := rfl
  rw [e2, e3, e4]
  have m1 := Nat.mod_lt (i / C) u0
  have m2 := Nat.mod_lt i c0
  exact ⟨hf, hl, hp, Int.natCast_nonneg _, by rw [hU]; exact Int.ofNat_lt.2 m1, Int.natCast_nonneg _, by rw [hV]; exact Int.ofNat_lt.2 d2, Int.natCast_nonneg _, Int.ofNat_lt.2 m2⟩
theorem halfP_len {w h c : Int} {p : List Int} : (halfP w h c p).length = hN w h c := mapL_len _ _
theorem set_next {g : Nat → Int} {i N : Nat} {v : Int} (hi : i < N) (hv : v = g i) : (mapL g i ++ List.replicate (N - i) 0).set i v = mapL g (i + 1) ++ List.replicate (N - (i + 1)) 0 := by
  obtain ⟨r, rfl⟩ : ∃ r, N = i + 1 + r := ⟨N - (i + 1), by omega⟩
  have e1 : i + 1 + r - i = r + 1 := by omega
  have e2 : i + 1 + r - (i + 1) = r := by omega
  rw [e1, e2, mapL_succ, List.replicate_succ, List.set_append_right _ _ (by rw [mapL_len]; exact Nat.le_refl _), mapL_len, Nat.sub_self, List.set_cons_zero, hv, List.append_assoc]
  rfl
end Go.Proofs.Ytdiflkabpjnncaa
namespace Go.Proofs.Ytdiflkabpjnncaa
open Go Go.RowKit
abbrev halfF : FSpec := fun l es => match l, es with
  | [.agg [.int .i64 w, .int .i64 h, .int .i64 c, .roi .u8 p]], [] => some ([imCheck w h c p.length = 0, Bytes p], .tup [.agg [.int .i64 (hv w), .int .i64 (hv h), .int .i64 c, .sl 0 1 0 (hN w h c)], .int .i64 0], [some (.ints 5 .u8 (halfP w h c p))])
  | _, _ => none
abbrev halfS : PSpec := fun l => match l with | [.agg [.int .i64 w, .int .i64 h, .int .i64 c, .roi .u8 p]] => some ([imCheck w h c p.length = 0, Bytes p], .tup [imA (hv w) (hv h) c (halfP w h c p), .int .i64 0]) | _ => none
theorem half_g : GSOK Try.prog 5 (fG halfF) := by
  refine fokD [4, 9] (S := [(14, checkS), (16, hvS), (17, at31S)]) (G := noG) (D := [(15, newF)]) (pok_cons check_s (pok_cons hv_s (pok_cons at31_s pok_nil))) noG_ok (dl_cons new_g dl_nil) ⟨Try.func5, by kernel_rfl, by kernel_rfl, by kernel_rfl⟩ fun l es obs v es' h ho => ?_
  (unfold halfF at h; split at h; rotate_left; (focus (cases h)); rename_i w hh c p; simp only [Option.some.injEq, Prod.mk.injEq] at h; obtain ⟨rfl, rfl, rfl⟩ := h; simp only [List.mem_cons, List.not_mem_nil, or_false, forall_eq_or_imp, forall_eq, false_implies, implies_true] at ho)
  obtain ⟨hk, hp⟩ := ho
  obtain ⟨hf, hl⟩ := check_inv hk
  have hb := fits_inv hf
  obtain ⟨hf2, w1, w2, h1, h2⟩ := half_fits hf
  have hb2 := fits_inv hf2
  refine ⟨Nat.le_of_ble_eq_true rfl, ?_⟩
  (repeat' (first | (refine xI (fun hfk => ?_) (fun hfk => ?_) <;> ((try (first | replace hfk := oT hfk | replace hfk := oF hfk | simp only [oD, ne_eq, reduceCtorEq] at hfk)); (try exact oX))) | (refine And.intro ?ob ?_; (case ob => (exact oZ))) | exact True.intro | (show _ = _; first | exact oY | exact rfl) | exact oW | (apply And.intro)))
  refine ⟨[(1, .ptr 0 0), (2, .ptr 1 0), (3, .int .i64 0), (5, .ptr 3 0), (6, .int .i64 0)],
      ⟨4, [(0, some (.cells 24 [.int .i64 w, .int .i64 hh, .int .i64 c, .roi .u8 p])), (1, some (.cells 24 [.int .i64 0, .int .i64 0, .int .i64 0, .nils])), (2, some (.ints 5 .u8 (List.replicate (hv w * hv hh * c).toNat 0))), (3, some (.cells 24 [.int .i64 (hv w), .int .i64 (hv hh), .int .i64 c, .sl 2 1 0 (hv w * hv hh * c).toNat]))]⟩, [some 0, some 1, some 2, some 3], ?_, ?_⟩
  · (repeat' (first | (refine And.intro ?_ ?_) | exact True.intro | (show _ = _; with_reducible rfl) | exact Chk.mk (by kernel_rfl)))
  obtain ⟨N, hNe⟩ : ∃ N, (hv w * hv hh * c).toNat = N := ⟨_, rfl⟩
  rw [hNe]
  have hN16 : N ≤ 16777216 := by omega
  (repeat' (first | (refine xI (fun hfk => ?_) (fun hfk => ?_) <;> ((try (first | replace hfk := oT hfk | replace hfk := oF hfk | simp only [oD, ne_eq, reduceCtorEq] at hfk)); (try exact oX))) | (refine And.intro ?ob ?_; (case ob => (exact oZ))) | exact True.intro | (show _ = _; first | exact oY | exact rfl) | exact oW | (apply And.intro)))
  refine ⟨Nat, fun i => [(1, .ptr 0 0), (2, .ptr 1 0), (3, .int .i64 0), (5, .ptr 3 0), (6, .int .i64 0), (7, .fn 17 1 [.agg [.int .i64 w, .int .i64 hh, .int .i64 c, .roi .u8 p]]), (32, .int .i64 (N : Int)), (33, .int .i64 (i : Int))],
      fun i => ⟨4, [(0, some (.cells 24 [.int .i64 w, .int .i64 hh, .int .i64 c, .roi .u8 p])), (1, some (.cells 24 [.int .i64 0, .int .i64 0, .int .i64 0, .nils])), (2, some (.ints 5 .u8 (mapL (hg w hh c p) i ++ List.replicate (N - i) 0))), (3, some (.cells 24 [.int .i64 (hv w), .int .i64 (hv hh), .int .i64 c, .sl 2 1 0 N]))]⟩,
      fun i => i ≤ N, fun i => N - i, ⟨0, [some 0, some 1, some 2, some 3], Nat.zero_le _, ?_⟩, fun i hi => ?_⟩
  · (repeat' (first | (refine And.intro ?_ ?_) | exact True.intro | (show _ = _; with_reducible rfl) | exact Chk.mk (by kernel_rfl)))
    · show (0 : Int) = ((0 : Nat) : Int)
      rfl
    · show List.replicate N (0 : Int) = mapL (hg w hh c p) 0 ++ List.replicate (N - 0) 0
      rfl
  have hi : i ≤ N := hi
  by_cases hlt : i < N
  · have hat := half_at hf hl hp (i := i) (by unfold hN; rw [hNe]; exact hlt)
    have k0 := hat.x0; have k1 := hat.x1; have k2 := hat.y0; have k3 := hat.y1; have k4 := hat.k0; have k5 := hat.k1
    have k6 : rngI .i64 (Int.tdiv (i : Int) c) := by
      obtain ⟨C, rfl⟩ := Int.eq_ofNat_of_zero_le (show 0 ≤ c by omega)
      have : i / C ≤ i := Nat.div_le_self _ _
      have e : Int.tdiv (i : Int) (C : Int) = ((i / C : Nat) : Int) := rfl
      rw [e]
      obtain ⟨q, hq⟩ : ∃ q, i / C = q := ⟨_, rfl⟩
      rw [hq] at this ⊢
      exact rng64 (by omega) (by omega)
    have k7 : rngI .i64 (Int.tdiv (Int.tdiv (i : Int) c) (hv w)) := rng64 (by omega) (by omega)
    have k8 : c ≠ 0 := by omega
    have k9 : hv w ≠ 0 := by omega
    have kl : (mapL (hg w hh c p) i ++ List.replicate (N - i) (0 : Int)).length = N := by rw [List.length_append, mapL_len, List.length_replicate]; omega
    (repeat' (first | (refine xI (fun hfk => ?_) (fun hfk => ?_) <;> ((try (first | replace hfk := oT hfk | replace hfk := oF hfk | simp only [oD, ne_eq, reduceCtorEq] at hfk)); (try exact oX))) | (refine And.intro ?ob ?_; (case ob => (exact oZ))) | exact True.intro | (show _ = _; first | exact oY | exact rfl) | exact oW | (apply And.intro)))
    refine ⟨[(1, .ptr 0 0), (2, .ptr 1 0), (3, .int .i64 0), (5, .ptr 3 0), (6, .int .i64 0), (7, .fn 17 1 [.agg [.int .i64 w, .int .i64 hh, .int .i64 c, .roi .u8 p]]), (32, .int .i64 (N : Int)), (33, .int .i64 (i : Int))],
      ⟨4, [(0, some (.cells 24 [.int .i64 w, .int .i64 hh, .int .i64 c, .roi .u8 p])), (1, some (.cells 24 [.int .i64 0, .int .i64 0, .int .i64 0, .nils])), (2, some (.ints 5 .u8 ((mapL (hg w hh c p) i ++ List.replicate (N - i) 0).set (0 + (i : Int).toNat) (v4 w hh c p (((i : Int).tdiv c).tmod (hv w)) (((i : Int).tdiv c).tdiv (hv w)) ((i : Int).tmod c))))), (3, some (.cells 24 [.int .i64 (hv w), .int .i64 (hv hh), .int .i64 c, .sl 2 1 0 N]))]⟩, [some 0, some 1, some 2, some 3], ?_, ?_⟩
    · (repeat' (first | (refine And.intro ?_ ?_) | exact True.intro | (show _ = _; with_reducible rfl) | exact Chk.mk (by kernel_rfl)))
    have hs : (mapL (hg w hh c p) i ++ List.replicate (N - i) 0).set (0 + (i : Int).toNat) (v4 w hh c p (((i : Int).tdiv c).tmod (hv w)) (((i : Int).tdiv c).tdiv (hv w)) ((i : Int).tmod c)) = mapL (hg w hh c p) (i + 1) ++ List.replicate (N - (i + 1)) 0 := by
      rw [Nat.zero_add, Int.toNat_natCast]
      exact set_next hlt rfl
    rw [hs]
    (repeat' (first | (refine xI (fun hfk => ?_) (fun hfk => ?_) <;> ((try (first | replace hfk := oT hfk | replace hfk := oF hfk | simp only [oD, ne_eq, reduceCtorEq] at hfk)); (try exact oX))) | (refine And.intro ?ob ?_; (case ob => (exact oZ))) | exact True.intro | (show _ = _; first | exact oY | exact rfl) | exact oW | (apply And.intro)))
    (refine ⟨i + 1, [some 0, some 1, some 2, some 3], ?_, ?mu, ?_⟩; (case mu => ((try dsimp only); omega)))
    · exact hlt
    (repeat' (first | (refine xI (fun hfk => ?_) (fun hfk => ?_) <;> ((try (first | replace hfk := oT hfk | replace hfk := oF hfk | simp only [oD, ne_eq, reduceCtorEq] at hfk)); (try exact oX))) | (refine And.intro ?ob ?_; (case ob => (exact oZ))) | exact True.intro | (show _ = _; first | exact oY | exact rfl) | exact oW | (apply And.intro)))
  · obtain rfl : i = N := by omega
    have e : halfP w hh c p = mapL (hg w hh c p) i := by unfold halfP hN; rw [hNe]
    have e2 : mapL (hg w hh c p) i ++ List.replicate (i - i) 0 = mapL (hg w hh c p) i := by rw [Nat.sub_self]; simp
    have e3 : (mapL (hg w hh c p) i).length = i := mapL_len _ _
    have eF : List.take i (List.drop 0 (mapL (hg w hh c p) i ++ List.replicate (i - i) 0)) = halfP w hh c p := by rw [e2, e, List.drop_zero, List.take_of_length_le (by rw [e3]; exact Nat.le_refl _)]
    have eL : 0 + i ≤ (mapL (hg w hh c p) i ++ List.replicate (i - i) (0 : Int)).length := by rw [e2, e3]; omega
    have eN : i = hN w hh c := hNe.symm
    (repeat' (first | (refine xI (fun hfk => ?_) (fun hfk => ?_) <;> ((try (first | replace hfk := oT hfk | replace hfk := oF hfk | simp only [oD, ne_eq, reduceCtorEq] at hfk)); (try exact oX))) | (refine And.intro ?ob ?_; (case ob => (exact oZ))) | exact True.intro | (show _ = _; first | exact oY | exact rfl) | exact oW | (apply And.intro)))
    refine ⟨[some 2], ?_⟩
    have eE : mapL (hg w hh c p) i ++ List.replicate (i - i) 0 = halfP w hh c p := by rw [e2, e]
    (repeat' (first | (refine xI (fun hfk => ?_) (fun hfk => ?_) <;> ((try (first | replace hfk := oT hfk | replace hfk := oF hfk | simp only [oD, ne_eq, reduceCtorEq] at hfk)); (try exact oX))) | (refine And.intro ?ob ?_; (case ob => (exact oZ))) | exact True.intro | (show _ = _; first | exact oY | ((first | exact eN | exact eE); done) | exact rfl) | exact oW | (apply And.intro)))
theorem half_s : SOK Try.prog 5 halfS := sokF half_g fun l obs v h ho => by
  (unfold halfS at h; split at h; rotate_left; (focus (cases h)); rename_i w hh c p; simp only [Option.some.injEq, Prod.mk.injEq] at h; obtain ⟨rfl, rfl⟩ := h; simp only [List.mem_cons, List.not_mem_nil, or_false, forall_eq_or_imp, forall_eq, false_implies, implies_true] at ho)
  obtain ⟨h1, h2⟩ := ho
  have h3 : (halfP w hh c p).length = hN w hh c := halfP_len
  have h4 : List.take (hN w hh c) (List.drop 0 (halfP w hh c p)) = halfP w hh c p := by rw [List.drop_zero, ← h3, List.take_length]
  refine ⟨[], ⟨by kernel_rfl⟩, ?_⟩
  (repeat' (first | (refine xI (fun hfk => ?_) (fun hfk => ?_) <;> ((try (first | replace hfk := oT hfk | replace hfk := oF hfk | simp only [oD, ne_eq, reduceCtorEq] at hfk)); (try exact oX))) | (refine And.intro ?ob ?_; (case ob => (exact oZ))) | exact True.intro | (show _ = _; first | exact oY | (exact h4; done) | exact rfl) | exact oW | (apply And.intro)))
end Go.Proofs.Ytdiflkabpjnncaa
namespace Go.Proofs.Ytdiflkabpjnncaa
open Go Go.RowKit
def oneB (c : Nat) (p : List Int) : Bool := decide (∀ i, i < p.length → p.getD i 0 = p.getD (i % c) 0)
def hvN : Nat → Int → Int
  | 0, w => w
  | n + 1, w => hv (hvN n w)
theorem hvN_bd {w : Int} (h0 : 1 ≤ w) (h1 : w ≤ 32768) : ∀ n, 1 ≤ hvN n w ∧ hvN n w ≤ 32768
  | 0 => ⟨h0, h1⟩
  | n + 1 => by
    have := hvN_bd h0 h1 n
    unfold hvN hv
    omega
abbrev sizeOk31 : PSpec := fun l => match l with | [.int .i64 w, .int .i64 h, .int .i64 k] => some ([1 ≤ w, w ≤ 32768, 1 ≤ h, h ≤ 32768, 0 ≤ k, k ≤ 15], .tup [.int .i64 (hvN k.toNat w), .int .i64 (hvN k.toNat h)]) | _ => none
theorem sizeOk31_s : SOK Try.prog 20 sizeOk31 := by
  refine sok_of (C := mkC 0 [(16, hvS)] noG) (mkC_ok (pok_cons hv_s pok_nil) noG_ok) rfl mixed ⟨Try.func20, by kernel_rfl, by kernel_rfl, by kernel_rfl⟩ fun l obs v h ho => ?_
  (unfold sizeOk31 at h; split at h; rotate_left; (focus (cases h)); rename_i w hh k; simp only [Option.some.injEq, Prod.mk.injEq] at h; obtain ⟨rfl, rfl⟩ := h; simp only [List.mem_cons, List.not_mem_nil, or_false, forall_eq_or_imp, forall_eq, false_implies, implies_true] at ho)
  obtain ⟨h1, h2, h3, h4, h5, h6⟩ := ho
  obtain ⟨n, rfl⟩ := Int.eq_ofNat_of_zero_le h5
  refine ⟨Nat.le_of_ble_eq_true rfl, ?_⟩
  (repeat' (first | (refine xI (fun hfk => ?_) (fun hfk => ?_) <;> ((try (first | replace hfk := oT hfk | replace hfk := oF hfk | simp only [oD, ne_eq, reduceCtorEq] at hfk)); (try exact oX))) | (refine And.intro ?ob ?_; (case ob => (exact oZ))) | exact True.intro | (show _ = _; first | exact oY | exact rfl) | exact oW | (apply And.intro)))
  refine ⟨Nat, fun i => [(0, .int .i64 (hvN i w)), (1, .int .i64 (hvN i hh)), (6, .int .i64 0), (7, .int .i64 0), (30, .int .i64 (n : Int)), (31, .int .i64 (i : Int))],
      fun i => ⟨0, []⟩, fun i => i ≤ n, fun i => n - i, ⟨0, [], Nat.zero_le _, ?_⟩, fun i hi => ?_⟩
  · (repeat' (first | (refine xI (fun hfk => ?_) (fun hfk => ?_) <;> ((try (first | replace hfk := oT hfk | replace hfk := oF hfk | simp only [oD, ne_eq, reduceCtorEq] at hfk)); (try exact oX))) | (refine And.intro ?ob ?_; (case ob => (exact oZ))) | exact True.intro | (show _ = _; first | exact oY | exact rfl) | exact oW | (apply And.intro)))
  have hi : i ≤ n := hi
  have b1 := hvN_bd h1 h2 i
  have b2 := hvN_bd h3 h4 i
  by_cases hlt : i < n
  · (repeat' (first | (refine xI (fun hfk => ?_) (fun hfk => ?_) <;> ((try (first | replace hfk := oT hfk | replace hfk := oF hfk | simp only [oD, ne_eq, reduceCtorEq] at hfk)); (try exact oX))) | (refine And.intro ?ob ?_; (case ob => (exact oZ))) | exact True.intro | (show _ = _; first | exact oY | exact rfl) | exact oW | (apply And.intro)))
    (refine ⟨i + 1, [], ?_, ?mu, ?_⟩; (case mu => ((try dsimp only); omega)))
    · exact hlt
    (repeat' (first | (refine xI (fun hfk => ?_) (fun hfk => ?_) <;> ((try (first | replace hfk := oT hfk | replace hfk := oF hfk | simp only [oD, ne_eq, reduceCtorEq] at hfk)); (try exact oX))) | (refine And.intro ?ob ?_; (case ob => (exact oZ))) | exact True.intro | (show _ = _; first | exact oY | exact rfl) | exact oW | (apply And.intro)))
  · obtain rfl : i = n := by omega
    (repeat' (first | (refine xI (fun hfk => ?_) (fun hfk => ?_) <;> ((try (first | replace hfk := oT hfk | replace hfk := oF hfk | simp only [oD, ne_eq, reduceCtorEq] at hfk)); (try exact oX))) | (refine And.intro ?ob ?_; (case ob => (exact oZ))) | exact True.intro | (show _ = _; first | exact oY | exact rfl) | exact oW | (apply And.intro)))
theorem alive31_s : SOK Try.prog 11 (sN (.bool true)) := by
  refine sok_of (C := mkC 0 [(20, sizeOk31)] (glook [(5, fGv halfF)])) (mkC_ok (pok_cons sizeOk31_s pok_nil) (gl_cons (gview half_g) gl_nil)) rfl mixed ⟨Try.func11, by kernel_rfl, by kernel_rfl, by kernel_rfl⟩ fun l obs v h ho => ?_
  obtain ⟨rfl, rfl⟩ := sN_inv h
  refine ⟨Nat.le_of_ble_eq_true rfl, ?_⟩
  have b : Bytes (List.take 2 (List.drop 0 [(1 : Int), 2])) := by unfold Bytes; decide
  have k : imCheck 2 1 1 ((List.take 2 (List.drop 0 [(1 : Int), 2])).length : Nat) = 0 := by decide
  have e1 : halfP 2 1 1 (List.take 2 (List.drop 0 [(1 : Int), 2])) = [2] := by decide
  have e2 : ((halfP 2 1 1 (List.take 2 (List.drop 0 [(1 : Int), 2]))).length : Int) = 1 := by rw [e1]; rfl
  have e3 : (halfP 2 1 1 (List.take 2 (List.drop 0 [(1 : Int), 2]))).getD (Int.toNat 0) 0 = 2 := by rw [e1]; rfl
  have e4 : hvN (Int.toNat 1) 5 = 3 := by decide
  have e5 : hvN (Int.toNat 1) 3 = 2 := by decide
  have e6 : decide ((halfP 2 1 1 (List.take 2 (List.drop 0 [(1 : Int), 2]))).getD (Int.toNat 0) 0 = 2) = true := decide_eq_true e3
  (repeat' (first | (refine xI (fun hfk => ?_) (fun hfk => ?_) <;> ((try (first | replace hfk := oT hfk | replace hfk := oF hfk | simp only [oD, ne_eq, reduceCtorEq] at hfk)); (try exact oX))) | (refine And.intro ?ob ?_; (case ob => (exact oZ))) | exact True.intro | (show _ = _; first | exact oY | exact rfl) | exact oW | (apply And.intro)))
  (refine ⟨[], [0], ⟨by kernel_rfl⟩, ?_⟩)
  (repeat' (first | (refine xI (fun hfk => ?_) (fun hfk => ?_) <;> ((try (first | replace hfk := oT hfk | replace hfk := oF hfk | simp only [oD, ne_eq, reduceCtorEq] at hfk)); (try exact oX))) | (refine And.intro ?ob ?_; (case ob => (exact oZ))) | exact True.intro | (show _ = _; first | exact oY | ((first | exact e6 | exact e6.symm); done) | exact rfl) | exact oW | (apply And.intro)))
end Go.Proofs.Ytdiflkabpjnncaa
namespace Go.Proofs.Ytdiflkabpjnncaa
open Go Go.RowKit
def pyrG : Nat → Im → List Im
  | 0, m => [m]
  | n + 1, m => if m.w = 1 ∧ m.h = 1 then [m] else m :: pyrG n (halfI m)
theorem pyrG_small {n : Nat} {m : Im} (h : m.w = 1 ∧ m.h = 1) : pyrG n m = [m] := by
  cases n with
  | zero => rfl
  | succ n => exact if_pos h
theorem pyrG_big {n : Nat} {m : Im} (h : ¬ (m.w = 1 ∧ m.h = 1)) : pyrG (n + 1) m = m :: pyrG n (halfI m) := if_neg h
theorem pyrG_len {n : Nat} {m : Im} : 1 ≤ (pyrG n m).length ∧ (pyrG n m).length ≤ n + 1 := by
  induction n generalizing m with
  | zero => simp [pyrG]
  | succ n ih =>
    unfold pyrG
    split
    · simp
    · have := ih (m := halfI m); simp only [List.length_cons]; omega
structure PyP (m : Im) (lo hi : Int) (x : Im) : Prop where
  chk : imCheck x.w x.h x.c x.p.length = 0
  byt : Bytes x.p
  c : x.c = m.c
  rng : ∀ v ∈ x.p, lo ≤ v ∧ v ≤ hi
  one : oneB m.c.toNat m.p = true → ∀ i, i < x.p.length → x.p.getD i 0 = m.p.getD (i % m.c.toNat) 0
theorem px_mem {w h c : Int} {p : List Int} {x y k : Int} (H : At31 w h c p x y k) : px4 w h c p x y k 0 ∈ p ∧ px4 w h c p x y k 1 ∈ p ∧ px4 w h c p x y k 2 ∈ p ∧ px4 w h c p x y k 3 ∈ p :=
  ⟨H.px (n := 0) (by omega), H.px (n := 1) (by omega), H.px (n := 2) (by omega), H.px (n := 3) (by omega)⟩
theorem v4_eq (w h c : Int) (p : List Int) (x y k : Int) : v4 w h c p x y k = (2 + px4 w h c p x y k 0 + px4 w h c p x y k 1 + px4 w h c p x y k 2 + px4 w h c p x y k 3) / 4 := rfl
theorem px_one {m : Im} {w h c : Int} {p : List Int} {x y : Int} {i C : Nat} (hc : c = C) (H : At31 w h c p x y ((i % C : Nat) : Int)) (ho : ∀ i, i < p.length → p.getD i 0 = m.p.getD (i % C) 0) {n : Nat} (hn : n < 4) :
    px4 w h c p x y ((i % C : Nat) : Int) n = m.p.getD (i % C) 0 := by
  subst hc
  have hb := fits_inv H.fit
  have hin := H.inI hn
  have hp := pl_bd H.fit hin
  unfold plI at hp
  have hl := H.len
  have hlt : ((row4 h y n * w + col4 w x n) * (C : Int) + ((i % C : Nat) : Int)).toNat < p.length := by omega
  unfold px4
  rw [ho _ hlt]
  unfold Go.Proofs.Ytdiflkabpjnncaa.inI at hin
  simp only [Bool.and_eq_true, decide_eq_true_eq] at hin
  obtain ⟨R, hR⟩ := Int.eq_ofNat_of_zero_le (show 0 ≤ row4 h y n by omega)
  obtain ⟨U, hU⟩ := Int.eq_ofNat_of_zero_le (show 0 ≤ col4 w x n by omega)
  obtain ⟨W, hW⟩ := Int.eq_ofNat_of_zero_le (show 0 ≤ w by omega)
  rw [hR, hU, hW]
  have e : (((R : Int) * (W : Int) + (U : Int)) * (C : Int) + ((i % C : Nat) : Int)).toNat = (R * W + U) * C + i % C := by
    rw [← Int.natCast_mul, ← Int.natCast_add, ← Int.natCast_mul, ← Int.natCast_add, Int.toNat_natCast]
  rw [e]
  congr 1
  rw [Nat.add_comm, Nat.add_mul_mod_self_right, Nat.mod_mod]
theorem PyP.half {m x : Im} {lo hi : Int} (hlo : 0 ≤ lo) (hhi : hi ≤ 255) (H : PyP m lo hi x) : PyP m lo hi (halfI x) := by
  obtain ⟨hf, hl⟩ := check_inv H.chk
  have hb := fits_inv hf
  obtain ⟨hf2, w1, w2, h1, h2⟩ := half_fits hf
  have hb2 := fits_inv hf2
  have hr : ∀ v ∈ halfP x.w x.h x.c x.p, lo ≤ v ∧ v ≤ hi := fun v hv => by
    unfold halfP mapL at hv
    obtain ⟨i, hi, rfl⟩ := List.mem_map.1 hv
    have A := half_at hf hl H.byt (List.mem_range.1 hi)
    obtain ⟨m0, m1, m2, m3⟩ := px_mem A
    have r0 := H.rng _ m0; have r1 := H.rng _ m1; have r2 := H.rng _ m2; have r3 := H.rng _ m3
    unfold hg
    rw [v4_eq]
    omega
  refine ⟨?_, fun v hv => ?_, H.c, hr, fun ho i hi => ?_⟩
  · show imCheck (hv x.w) (hv x.h) x.c ((halfP x.w x.h x.c x.p).length : Nat) = 0
    unfold imCheck
    rw [if_neg (fun k => k hf2), if_neg]
    rw [halfP_len]
    unfold hN
    omega
  · have := hr v hv; omega
  · have hi : i < (halfP x.w x.h x.c x.p).length := hi
    rw [halfP_len] at hi
    have A := half_at hf hl H.byt hi
    have hc : x.c = ((m.c.toNat : Nat) : Int) := by rw [← H.c]; omega
    show (halfP x.w x.h x.c x.p).getD i 0 = _
    have e : (halfP x.w x.h x.c x.p).getD i 0 = hg x.w x.h x.c x.p i := by
      unfold halfP mapL
      simp [List.getD, List.getElem?_map, List.getElem?_range hi]
    rw [e]
    unfold hg
    have ek : Int.tmod (i : Int) x.c = ((i % m.c.toNat : Nat) : Int) := by rw [hc]; rfl
    rw [ek] at A ⊢
    have hO := H.one ho
    rw [v4_eq]
    have q0 := px_one (m := m) hc A hO (n := 0) (by omega)
    have q1 := px_one (m := m) hc A hO (n := 1) (by omega)
    have q2 := px_one (m := m) hc A hO (n := 2) (by omega)
    have q3 := px_one (m := m) hc A hO (n := 3) (by omega)
    have z0 : ((0 : Nat) : Int) = 0 := rfl
    have z1 : ((1 : Nat) : Int) = 1 := rfl
    have z2 : ((2 : Nat) : Int) = 2 := rfl
    have z3 : ((3 : Nat) : Int) = 3 := rfl
    rw [z0] at q0; rw [z1] at q1; rw [z2] at q2; rw [z3] at q3
    rw [q0, q1, q2, q3]
    omega
theorem pyrG_all {m : Im} {lo hi : Int} (hlo : 0 ≤ lo) (hhi : hi ≤ 255) : ∀ {n : Nat} {x : Im}, PyP m lo hi x → ∀ y ∈ pyrG n x, PyP m lo hi y
  | 0, x, h, y, hy => by
    simp only [pyrG, List.mem_singleton] at hy
    rw [hy]; exact h
  | n + 1, x, h, y, hy => by
    unfold pyrG at hy
    split at hy
    · rw [List.mem_singleton.1 hy]; exact h
    · rcases List.mem_cons.1 hy with rfl | hy
      · exact h
      · exact pyrG_all hlo hhi (h.half hlo hhi) y hy
theorem okP (m : Im) (hm : imCheck m.w m.h m.c m.p.length = 0) (hp : Bytes m.p) : PyP m 0 255 m :=
  ⟨hm, hp, rfl, hp, fun ho => of_decide_eq_true ho⟩
end Go.Proofs.Ytdiflkabpjnncaa
namespace Go.Proofs.Ytdiflkabpjnncaa
open Go Go.RowKit
def dstr (T : TypeId → Option TI) (o : Op) (e : Env) (H : AH) : DR := match o with
  | .convert s d x => (match tdq T s, tdq T d, evA e x with
    | .slice es, .str, some v => (match tdq T es, intsOfA H .u8 v with
      | .int .u8, some (obs, l) => some (obs, .str (l.map fun n => UInt8.ofNat n.toNat), [], H.nx)
      | _, _ => none)
    | .str, .slice el, some (.str z) => (match tdq T el with
      | .int .u8 => some ([z.length ≤ 140737488355328], .sl H.nx 1 0 z.length, [(H.nx, some (.ints el .u8 (z.map fun c => (c.toNat : Int))))], H.nx + 1)
      | _ => none)
    | _, _, _ => none)
  | _ => none
def dX5 (T : TypeId → Option TI) (o : Op) (e : Env) (H : AH) : DR := match dstr T o e H with | some r => some r | none => dX4 T o e H
theorem dstr_congr {T : TypeId → Option TI} {o : Op} {e e' : Env} {H : AH} (h : ∀ x ∈ o.operands.toList, evA e x = evA e' x) : dstr T o e H = dstr T o e' H := by
  unfold dstr
  split
  · rename_i s d x
    rw [h x (by simp [Op.operands])]
  · rfl
theorem copyok5 {C : Ctx} (hC : C.X = xop4 C.T) (hD : C.DX = dX5 C.T) : CopyOK C := by
  have c4 := copyok4 (C := { C with X := xop4 C.T, DX := dX4 C.T }) rfl rfl
  refine ⟨fun o e e' H h => by
    have := c4.congr o e e' H h
    rw [hD]; unfold dX5; rw [dstr_congr h]
    show _ = (match dstr C.T o e' H with | some r => some r | none => dX4 C.T o e' H)
    rw [show dX4 C.T o e H = dX4 C.T o e' H from this], ?_⟩
  intro o e H obs v δ nx K h ho hK
  rw [hC]
  rw [hD] at h
  unfold dX5 at h
  split at h
  · rename_i r hr
    cases h
    unfold dstr at hr
    split at hr
    · rename_i s d x
      split at hr
      · rename_i es u hs hd hx
        split at hr
        · rename_i obs' l he hi
          cases hr
          have hb : rowB C.T (.convert s d x) e H = false := by
            unfold rowB
            simp only [hs, hd, hx]
          show xop4 C.T _ e H K
          unfold xop4
          rw [hb]
          show xop2 C.T _ e H K
          unfold xop2
          simp only [xsB2]
          unfold xop
          simp only [hx]
          unfold aconvX
          simp only [hs, hd, he, hi]
          exact obl_intro ho hK
        · cases hr
      · rename_i el z hs hd hx
        split at hr
        · rename_i he
          cases hr
          have hb : rowB C.T (.convert s d x) e H = true := by
            unfold rowB
            simp only [hs, hd, hx]
          show xop4 C.T _ e H K
          unfold xop4
          rw [hb]
          show rowX C.T _ e H K
          unfold rowX
          simp only [hx]
          unfold convS
          simp only [hs, hd, he]
          exact ⟨ho _ (by simp), hK⟩
        · cases hr
      · cases hr
    · cases hr
  · exact c4.out o e H obs v δ nx K h ho hK
noncomputable def mkT (p : Nat) (S : List (FuncId × PSpec)) (G : FuncId → Option GSpec) (D0 D : List (FuncId × FSpec)) (cuts : List Nat) : Ctx := ⟨p, tlook tt, slook S, dG (D0 ++ D) G, xsE (tlook tt), xop4 (tlook tt), fun i => cuts.any (Nat.beq i), dXD (D0 ++ D), dXN0 D0 D, dX5 (tlook tt)⟩
end Go.Proofs.Ytdiflkabpjnncaa
namespace Go.Proofs.Ytdiflkabpjnncaa
open Go Go.RowKit
abbrev MT : Type := List (TypeId × String × FuncId × Option TypeId)
def mlook : MT → TypeId → String → Option (FuncId × Option TypeId)
  | [], _, _ => none
  | (t, n, f, d) :: r, t', n' => bif Nat.beq t t' && (n == n') then some (f, d) else mlook r t' n'
def MFact (P : Program) (t : TypeId) (name : String) (f : FuncId) : Option TypeId → Prop
  | none => ∀ (v : Value) (w : World), (method (P.types.size + Made.depth) t v name).run P w = .ok (f, v) w
  | some el => ∀ (a : Addr) (w : World), (method (P.types.size + Made.depth) t (.pointer (some a)) name).run P w = (do let x ← loadVar el a; pure (f, x) : Sem (FuncId × Value)).run P w
def MOK (P : Program) (M : MT) : Prop := ∀ t n f d, mlook M t n = some (f, d) → MFact P t n f d
theorem mok_nil {P : Program} : MOK P [] := fun _ _ _ _ h => by cases h
def invA (T : TypeId → Option TI) (M : MT) (e : Env) (H : AH) (x : Operand) (name : String) (args : List Operand) : Option (List Prop × FuncId × List AV) :=
  match evA e x, evAs e args with
  | some (.ifc t [v]), some l => (match mlook M t name with
    | some (f, none) => some ([], f, v :: l)
    | some (f, some el) => (match aload T el H v with
      | some (obs, r) => some (obs, f, r :: l)
      | none => none)
    | none => none)
  | _, _ => none
def pcall (H : AH) (s : PSpec) (l : List AV) : QR := bif l.all nlB then s l else (match viewAs H l with
  | some (p, l') => (match s l' with
    | some (q, v) => bif flatB v then some (p ++ q, v) else none
    | none => none)
  | none => none)
noncomputable def fcall (S : FuncId → Option PSpec) (G : FuncId → Option GSpec) (f : FuncId) (l : List AV) (H : AH) (K : AV → AH → Prop) : Prop :=
  match S f with
  | some s => (match pcall H s l with | some (obs, v) => obl obs (K v H) | none => False)
  | none => (match G f with | some s => s l H K | none => False)
def invB (o : Op) : Bool := match o with
  | .call { callee := .invoke _ _, .. } => true
  | _ => false
noncomputable def invX (M : MT) (S : FuncId → Option PSpec) (G : FuncId → Option GSpec) (T : TypeId → Option TI) (o : Op) (e : Env) (H : AH) (K : AV → AH → Prop) : Prop := match o with
  | .call { callee := .invoke x name, args, .. } => (match invA T M e H x name args.toList with
    | some (obs, f, l) => obl obs (fcall S G f l H K)
    | none => False)
  | _ => False
def shrB (o : Op) (e : Env) (H : AH) : Bool := match o with
  | .store _ a x => (match evA e a, evA e x with
    | some (.ptr _ _), some (.sl i sz 0 _) => (match H.get i with | some (.recs _ sz' _ _) => Nat.beq sz sz' | _ => false)
    | _, _ => false)
  | _ => false
def shrX (T : TypeId → Option TI) (o : Op) (e : Env) (H : AH) (K : AV → AH → Prop) : Prop := match o with
  | .store t a x => (match evA e a, evA e x with
    | some va, some (.sl i sz 0 n) => (match H.get i with
      | some (.recs el sz' m get) => n ≤ m ∧ astore T (H.set i (.recs el sz' n get)) t va (.sl i sz 0 n) (K .any)
      | _ => False)
    | _, _ => False)
  | _ => False
noncomputable def xop7 (M : MT) (S : FuncId → Option PSpec) (G : FuncId → Option GSpec) (T : TypeId → Option TI) (o : Op) (e : Env) (H : AH) (K : AV → AH → Prop) : Prop := match invB o with
  | true => invX M S G T o e H K
  | false => (match shrB o e H with
    | true => shrX T o e H K
    | false => xop4 T o e H K)
theorem run_invoke {P : Program} {w : World} {f : FuncId} (hc : callable P f) {ρ : Operand → Value} {o : Oper} {x : Operand} {name : String} {args : Array Operand} {ts : Array TypeId} {t : TypeId} {v r : Value} (ho : o.op = .call { callee := .invoke x name, args, argTypes := ts })
    (hx : ρ x = .iface t v) (hm : (method (P.types.size + Made.depth) t v name).run P w = .ok (f, r) w) : (execOp ρ o).run P w = .ok (.enter f (r :: args.toList.map ρ).toArray) w := by
  obtain ⟨fn, h1, h2, h3⟩ := hc
  have h2' : ¬ fn.name = "runtime.NumGoroutine" := by simpa using h2
  have h3' : ¬ fn.body = none := fun e => by simp [e] at h3
  have e0 : (#[Value.iface t v] ++ args.map ρ)[0]? = some (.iface t v) := by
    rw [← Array.getElem?_toList]
    simp
  have e1 : (#[Value.iface t v] ++ args.map ρ).extract 1 (#[Value.iface t v] ++ args.map ρ).size = args.map ρ := by
    apply Array.ext'
    simp
    exact List.take_of_length_le (by simp)
  have e2 : (#[r] ++ args.map ρ) = (r :: args.toList.map ρ).toArray := by
    apply Array.ext'
    simp
  have key : (callMethod (.iface t v) name (args.map ρ)).run P w = .ok (.enter f (r :: args.toList.map ρ).toArray) w := by
    unfold callMethod
    show Sem.run P (do let p ← program; let x ← method (p.types.size + Made.depth) t v name; callFunc x.1 (#[x.2] ++ args.map ρ)) w = _
    rw [Sem.run_bind]
    show Sem.run P (do let x ← method (P.types.size + Made.depth) t v name; callFunc x.1 (#[x.2] ++ args.map ρ)) w = _
    rw [Sem.run_bind, hm]
    show Sem.run P (callFunc f (#[r] ++ args.map ρ)) w = _
    rw [e2]
    simp [callFunc, h1, h2', h3']
  have he : execOp ρ o = invoke (.fn (.method name) #[]) (#[Value.iface t v] ++ args.map ρ) := by
    simp [execOp, ho, resolve, hx]
  rw [he]
  unfold invoke
  simp only [e0, e1]
  exact key
section
variable {P : Program} {C : Ctx} {R : PN} {w : World} {F Ob : Nat → Prop} {W0 : World} {H : AH} {T : TypeId → Option TI} {S : FuncId → Option PSpec} {G : FuncId → Option GSpec} {M : MT}
theorem fcall_ok (hS : POK P S) (hG : ∀ g s, G g = some s → GSOK P g s) {o : Oper} {a : Act} {e : Env} {K : AV → AH → Prop} {f : FuncId} {l : List AV} {cl : List Value} (h : fcall S G f l H K) (hH : HRel F Ob W0 R H w) (hE : ERel R w (Wr F R H) e a.tmps)
    (hc : CRel R w (Wr F R H) l cl) (hrun : callable P f → (execOp a.eval o).run P w = .ok (.enter f cl.toArray) w) : o.wp P a w (GP F Ob W0 R H o a e K) NoWay := by
  unfold fcall at h
  split at h
  · rename_i s hs
    obtain ⟨hcall, hsp⟩ := hS f s hs
    split at h
    rotate_left
    · exact h.elim
    rename_i obs v hp
    obtain ⟨ho, hK⟩ := obl_inv h
    have key : ∀ {obs' : List Prop} {r' : AV} {l' : List AV} (O' : Nat → Prop), s l' = some (obs', r') → (∀ p ∈ obs', p) → FBd O' w → CRel noN w O' l' cl →
        (∀ w' cv, Rep noN w' O' r' cv → Rep R w' (Wr F R H) v cv) → o.wp P a w (GP F Ob W0 R H o a e K) NoWay := by
      intro obs' r' l' O' h1 h2 h3 h4 h5
      unfold Oper.wp
      rw [hrun hcall]
      refine Calls.mono (hsp l' obs' r' h1 h2 w O' _ h3 h4) fun en w' ⟨cv, he, hx, hr⟩ => ?_
      subst he
      exact ⟨R, v, H, cv, hK, rfl, fun _ _ => rfl, hH.quiet hx, hE.mono (fun _ _ k => k) (hx.weaken fun _ _ k => k.elim) (fun _ _ k => k), h5 w' cv hr⟩
    unfold pcall at hp
    cases hnl : l.all nlB
    · simp only [hnl, cond_false] at hp
      split at hp
      · rename_i p l' hv
        split at hp
        · rename_i q v' hsv
          replace hp := bif_some hp; obtain ⟨hfl, hp⟩ := hp
          simp only [Option.some.injEq, Prod.mk.injEq] at hp
          obtain ⟨rfl, rfl⟩ := hp
          exact key F hsv (fun p hp => ho p (by simp [hp])) ⟨fun b k => hH.wr_lt (.inl k), hH.gl.mono fun b k => .inl k⟩ (viewAs_rep hH hc hv (fun p hp => ho p (by simp [hp]))) fun w' cv hr => flatB_rep hr hfl _ _ _
        · cases hp
      · cases hp
    · simp only [hnl, cond_true] at hp
      rw [List.all_eq_true] at hnl
      exact key (Wr F R H) hp ho ⟨fun b => hH.wr_lt, hH.gl⟩ ⟨hc.1, fun j x v hx hv => nlB_rep (hc.2 j x v hx hv) (hnl x (List.mem_of_getElem? hx)) noN⟩ fun w' cv hr => hr.mono (by simp) (Ext.refl (Wr F R H) _) (fun _ _ k => k)
  · split at h
    · rename_i s hs
      obtain ⟨hcall, hsp⟩ := hG f s hs
      unfold Oper.wp
      rw [hrun hcall]
      refine Calls.mono (hsp _ H K h F Ob W0 R w _ hH hc) fun en w' ⟨R', v, H', cv, hK, he, hR, hx, hH', hwr, hr⟩ => ?_
      subst he
      exact ⟨R', v, H', cv, hK, rfl, hR, hH', hE.mono (hH.keep hR) hx hwr, hr⟩
    · exact h.elim
theorem invX_ok (hT : TOK P T) (hS : POK P S) (hG : ∀ g s, G g = some s → GSOK P g s) (hM : MOK P M) {o : Oper} {a : Act} {e : Env} {K : AV → AH → Prop} (h : invX M S G T o.op e H K) (hH : HRel F Ob W0 R H w) (hE : ERel R w (Wr F R H) e a.tmps) : o.wp P a w (GP F Ob W0 R H o a e K) NoWay := by
  unfold invX at h
  split at h
  rotate_left
  · exact h.elim
  rename_i x name args ts ho
  split at h
  rotate_left
  · exact h.elim
  rename_i obs f l hi
  obtain ⟨hob, h'⟩ := obl_inv h
  unfold invA at hi
  split at hi
  rotate_left
  · cases hi
  rename_i t v l0 hx hl
  have hrx := evA_rep hE hx
  generalize hgx : a.eval x = cx at hrx
  have hargs := evAs_rel hE hl
  cases hrx with
  | ifc _ _ vs hvl hvc =>
    match vs, hvl with
    | [u], _ =>
      have hv := hvc 0 _ _ rfl rfl
      split at hi
      · rename_i f' hm
        simp only [Option.some.injEq, Prod.mk.injEq] at hi
        obtain ⟨rfl, rfl, rfl⟩ := hi
        exact fcall_ok hS hG h' hH hE (cl := u :: args.toList.map a.eval) (crel_cons hv hargs) fun hcall => run_invoke hcall ho hgx (hM t name f' none hm u w)
      · rename_i f' el hm
        split at hi
        · rename_i obs' r hld
          simp only [Option.some.injEq, Prod.mk.injEq] at hi
          obtain ⟨rfl, rfl, rfl⟩ := hi
          obtain ⟨cv, h1, h2⟩ := aload_ok hT hld hob hH hv
          obtain ⟨ad, rfl⟩ : ∃ ad, u = .pointer (some ad) := by
            unfold aload at hld
            split at hld
            · cases hv; exact ⟨_, rfl⟩
            · cases hv; exact ⟨_, rfl⟩
            · cases hv; exact ⟨_, rfl⟩
            · cases hld
          refine fcall_ok hS hG h' hH hE (cl := cv :: args.toList.map a.eval) (crel_cons h2 hargs) fun hcall => run_invoke hcall ho hgx ?_
          show (method (P.types.size + Made.depth) t (.pointer (some ad)) name).run P w = _
          rw [hM t name f' (some el) hm ad w]
          have h3 : (loadVar el ad).run P w = .ok cv w := by simpa [Instr.loadAt, Instr.sureAddr] using h1
          rw [Sem.run_bind, h3]
          rfl
        · cases hi
      · cases hi
theorem HRel.shr {i m n : Nat} {el : TypeId} {sz : Nat} {get : Nat → AV} (hH : HRel F Ob W0 R H w) (hi : H.get i = some (.recs el sz m get)) (hn : n ≤ m) : HRel F Ob W0 R (H.set i (.recs el sz n get)) w ∧ ∀ g, Wr F R (H.set i (.recs el sz n get)) g ↔ Wr F R H g := by
  have hwr : ∀ g, Wr F R (H.set i (.recs el sz n get)) g ↔ Wr F R H g := fun g => or_congr Iff.rfl (own_set hi g)
  refine ⟨⟨hH.len, hH.ext, hH.fb, fun g hg => hH.own g ((own_set hi g).1 hg), fun j e' hj => ?_, fun j k e1 e2 g hj hk h1 h2 => ?_⟩, hwr⟩
  · rw [get_set] at hj
    have up : ∀ {b : Option Nat} {e : Ent}, e.holds R w (Wr F R H) b → e.holds R w (Wr F R (H.set i (.recs el sz n get))) b := fun h => Ent.holds_mono h (fun _ _ k => k) (Ext.refl _ _) (fun b _ k => (hwr b).1 k) fun _ _ => rfl
    by_cases hij : i = j
    · rw [if_pos hij] at hj
      cases hj
      subst hij
      obtain ⟨b, hb, hh⟩ := hH.ent i _ hi
      refine ⟨b, hb, up ?_⟩
      cases b with
      | none =>
        have : m = 0 := hh
        show n = 0
        omega
      | some b =>
        obtain ⟨vs, fr, vals, g1, g2, g3, g4, g5⟩ := hh
        exact ⟨vs, fr, vals, g1, g2, Nat.le_trans (Nat.mul_le_mul_right _ hn) g3, fun j hj => g4 j (by omega), fun j hj => g5 j (by omega)⟩
    · rw [if_neg hij] at hj
      obtain ⟨b, hb, hh⟩ := hH.ent j _ hj
      exact ⟨b, hb, up hh⟩
  · have h4 : ∀ {j : Nat} {e : Ent}, (H.set i (.recs el sz n get)).get j = some e → ∃ e', H.get j = some e' := by
      intro j e hj
      rw [get_set] at hj
      by_cases hij : i = j
      · subst hij; exact ⟨_, hi⟩
      · rw [if_neg hij] at hj; exact ⟨_, hj⟩
    obtain ⟨x, hx⟩ := h4 hj
    obtain ⟨x', hx'⟩ := h4 hk
    exact hH.dis j k x x' g hx hx' h1 h2
theorem shrX_ok (hT : TOK P T) {o : Oper} {a : Act} {e : Env} {K : AV → AH → Prop} (h : shrX T o.op e H K) (hH : HRel F Ob W0 R H w) (hE : ERel R w (Wr F R H) e a.tmps) : o.wp P a w (GP F Ob W0 R H o a e K) NoWay := by
  unfold shrX at h
  split at h
  rotate_left
  · exact h.elim
  rename_i t ax x ho
  split at h
  rotate_left
  · exact h.elim
  rename_i va i sz n hax hx
  split at h
  rotate_left
  · exact h.elim
  rename_i el sz' m get hi
  obtain ⟨hn, hK⟩ := h
  obtain ⟨p1, p2⟩ := hH.shr hi hn
  have hE2 : ERel R w (Wr F R (H.set i (.recs el sz' n get))) e a.tmps := hE.mono (fun _ _ k => k) (Ext.refl _ _) fun b _ k => (p2 b).1 k
  have := store_ok (C := ⟨0, T, fun _ => none, fun _ => none, fun _ _ _ => false, fun _ _ _ _ => False, fun _ => false, fun _ _ _ => none, fun _ => 0, fun _ _ _ => none⟩) hT (K := K) ho (by
    rw [ho]
    unfold aopG
    simp only [hax, hx]
    exact hK) p1 hE2
  exact this
theorem xok7 (hT : TOK P C.T) (hS : POK P S) (hG : ∀ g s, G g = some s → GSOK P g s) (hM : MOK P M) (hC : C.X = xop7 M S G C.T) : XOK P C := by
  intro o a e F Ob W0 R H w K h hH hE
  rw [hC] at h
  unfold xop7 at h
  split at h
  · exact invX_ok hT hS hG hM h hH hE
  split at h
  · exact shrX_ok hT h hH hE
  · exact xok4 (C := { C with X := xop4 C.T }) hT rfl o a e F Ob W0 R H w K h hH hE
end
def dstoreF (T : TypeId → Option TI) (o : Op) (e : Env) (H : AH) : DR := match o with
  | .store t a x => (match szOf T t, evA e a, evA e x with
    | some s, some (.eptr i sz j 0), some (.agg l) => bif Nat.beq s sz && Nat.beq l.length sz && l.all nl0 && l.all isOne then (match H.get i with
      | some (.recs el sz' n get) => bif Nat.beq sz sz' then some ([j < n], .any, [(i, some (.recs el sz' n (fun m => if m = j then .agg l else get m)))], H.nx) else none
      | _ => none) else none
    | _, _, _ => none)
  | _ => none
def dX6 (T : TypeId → Option TI) (o : Op) (e : Env) (H : AH) : DR := match dstoreF T o e H with | some r => some r | none => dX5 T o e H
theorem dstoreF_congr {T : TypeId → Option TI} {o : Op} {e e' : Env} {H : AH} (h : ∀ x ∈ o.operands.toList, evA e x = evA e' x) : dstoreF T o e H = dstoreF T o e' H := by
  unfold dstoreF
  split
  · rename_i t a x
    rw [h a (by simp [Op.operands]), h x (by simp [Op.operands])]
  · rfl
theorem view0_nl {H : AH} {x : AV} (h : nl0 x = true) : view0 H x = some ([], x) := by
  cases x <;> first | rfl | cases h
theorem viewL_nl {H : AH} : ∀ {l : List AV}, l.all nl0 = true → viewL H l = some ([], l)
  | [], _ => rfl
  | x :: l, h => by
    rw [List.all_cons, Bool.and_eq_true] at h
    unfold viewL
    rw [view0_nl h.1, viewL_nl h.2]
    rfl
theorem nms0_nl {x : AV} (h : nl0 x = true) : nms0 x = [] := by
  cases x <;> first | rfl | cases h
theorem nmsL_nl : ∀ {l : List AV}, l.all nl0 = true → nmsL l = []
  | [], _ => rfl
  | x :: l, h => by
    rw [List.all_cons, Bool.and_eq_true] at h
    unfold nmsL
    rw [nms0_nl h.1, nmsL_nl h.2]
    rfl
theorem copyok6 {M : MT} {S : FuncId → Option PSpec} {G : FuncId → Option GSpec} {C : Ctx} (hC : C.X = xop7 M S G C.T) (hD : C.DX = dX6 C.T) : CopyOK C := by
  have c5 := copyok5 (C := { C with X := xop4 C.T, DX := dX5 C.T }) rfl rfl
  refine ⟨fun o e e' H h => by
    have := c5.congr o e e' H h
    rw [hD]; unfold dX6; rw [dstoreF_congr h]
    show _ = (match dstoreF C.T o e' H with | some r => some r | none => dX5 C.T o e' H)
    rw [show dX5 C.T o e H = dX5 C.T o e' H from this], ?_⟩
  intro o e H obs v δ nx K h ho hK
  rw [hC]
  rw [hD] at h
  unfold dX6 at h
  split at h
  · rename_i r hr
    cases h
    unfold dstoreF at hr
    split at hr
    rotate_left
    · cases hr
    rename_i t a x
    split at hr
    rotate_left
    · cases hr
    rename_i s i sz j l hs ha hx
    replace hr := bif_some hr; obtain ⟨hb, hr⟩ := hr
    simp only [Bool.and_eq_true] at hb
    obtain ⟨⟨⟨hb1, hb2⟩, hb3⟩, hb4⟩ := hb
    split at hr
    rotate_left
    · cases hr
    rename_i el sz' n get hi
    replace hr := bif_some hr; obtain ⟨hb5, hr⟩ := hr
    cases hr
    show xop7 M S G C.T _ e H K
    unfold xop7
    have hsh : shrB (.store t a x) e H = false := by
      unfold shrB
      simp only [ha, hx]
    simp only [invB, hsh]
    unfold xop4
    show xop2 C.T _ e H K
    unfold xop2
    have hxs : xsB2 C.T (.store t a x) e H = true := by
      unfold xsB2
      simp only [ha, hi, hx]
    rw [hxs]
    simp only [ha, hx]
    unfold storeF
    simp only [hs]
    have e1 : nmsL l = [] := nmsL_nl hb3
    have e2 : viewL H l = some ([], l) := viewL_nl hb3
    have e3 : delN H (nmsL l) = H := by rw [e1]; rfl
    simp only [hb1, hb2, Bool.and_self, cond_true, e2, e3, hi, hb5, hb3, hb4, Bool.true_and]
    exact ⟨ho _ (by simp), hK⟩
  · have h2 := c5.out o e H obs v δ nx K h ho hK
    have hi : invB o = false := by
      unfold invB
      split
      · cases h
      · rfl
    have hsh : shrB o e H = false := by
      unfold shrB
      split
      · cases h
      · rfl
    unfold xop7
    rw [hi]
    simp only [hsh]
    exact h2
noncomputable def mkI (p : Nat) (S : List (FuncId × PSpec)) (G : FuncId → Option GSpec) (D0 D : List (FuncId × FSpec)) (M : MT) (cuts : List Nat) : Ctx := ⟨p, tlook tt, slook S, dG (D0 ++ D) G, fun o e H => invB o || (shrB o e H || xsE (tlook tt) o e H), xop7 M (slook S) (dG (D0 ++ D) G) (tlook tt), fun i => cuts.any (Nat.beq i), dXD (D0 ++ D), dXN0 D0 D, dX6 (tlook tt)⟩
end Go.Proofs.Ytdiflkabpjnncaa
namespace Go.Proofs.Ytdiflkabpjnncaa
open Go Go.RowKit
def dbuildF (T : TypeId → Option TI) (o : Op) (e : Env) (H : AH) : DR := match o with
  | .buildSlice t len parts => bif !ptrP e parts.toList && ownP e parts.toList then (match tdq T t with
    | .slice el => (match T el with
      | some i => bif Nat.ble (len * i.sz) 16777216 && Nat.blt 0 i.sz && Nat.beq i.zero.length i.sz then (match fillA (fun j => some (j * i.sz, i.sz)) e (zerosA i (len * i.sz)) parts.toList with
        | some l => (match viewL H l with
          | some (p, r) => (match nmsL l with
            | [j] => bif r.all nl0 && r.all isOne && (i.isAgg || Nat.beq i.sz 1) then some (p, .sl H.nx i.sz 0 len, [(H.nx, some (.recs el i.sz len (chunkA i r))), (j, none)], H.nx + 1) else none
            | _ => none)
          | none => none)
        | none => none) else none
      | none => none)
    | _ => none) else none
  | _ => none
def dX7 (T : TypeId → Option TI) (o : Op) (e : Env) (H : AH) : DR := match dbuildF T o e H with | some r => some r | none => dX6 T o e H
theorem ownP_congr {e e' : Env} : ∀ {l : List (Nat × Operand)}, (∀ p ∈ l, evA e p.2 = evA e' p.2) → ownP e l = ownP e' l
  | [], _ => rfl
  | p :: r, h => by unfold ownP; rw [h p (by simp), ownP_congr fun q hq => h q (by simp [hq])]
theorem dbuildF_congr {T : TypeId → Option TI} {o : Op} {e e' : Env} {H : AH} (h : ∀ x ∈ o.operands.toList, evA e x = evA e' x) : dbuildF T o e H = dbuildF T o e' H := by
  unfold dbuildF
  split
  · rename_i t len ps
    simp only [Op.operands, Array.toList_append, List.mem_append] at h
    have h' : ∀ p ∈ ps.toList, evA e p.2 = evA e' p.2 := fun p hp => h p.2 (by simp; exact ⟨p.1, by simpa using hp⟩)
    have hf : ∀ place l, fillA place e l ps.toList = fillA place e' l ps.toList := fun place l => fillA_congr place ps.toList l h'
    simp only [hf, ptrP_congr h', ownP_congr h']
  · rfl
theorem copyok7 {M : MT} {S : FuncId → Option PSpec} {G : FuncId → Option GSpec} {C : Ctx} (hC : C.X = xop7 M S G C.T) (hD : C.DX = dX7 C.T) : CopyOK C := by
  have c6 := copyok6 (M := M) (S := S) (G := G) (C := { C with X := xop7 M S G C.T, DX := dX6 C.T }) rfl rfl
  refine ⟨fun o e e' H h => by
    have := c6.congr o e e' H h
    rw [hD]; unfold dX7; rw [dbuildF_congr h]
    show _ = (match dbuildF C.T o e' H with | some r => some r | none => dX6 C.T o e' H)
    rw [show dX6 C.T o e H = dX6 C.T o e' H from this], ?_⟩
  intro o e H obs v δ nx K h ho hK
  rw [hD] at h
  unfold dX7 at h
  split at h
  · rename_i r hr
    cases h
    rw [hC]
    unfold dbuildF at hr
    split at hr
    rotate_left
    · cases hr
    rename_i t len ps
    replace hr := bif_some hr; obtain ⟨hp, hr⟩ := hr
    rw [Bool.and_eq_true] at hp
    have hp1 : ptrP e ps.toList = false := by
      have := hp.1
      cases hq : ptrP e ps.toList with
      | true => rw [hq] at this; cases this
      | false => rfl
    have hb : rowB C.T (.buildSlice t len ps) e H = false := hp1
    have hb2 : xsB2 C.T (.buildSlice t len ps) e H = true := hp.2
    show xop7 M S G C.T _ e H K
    unfold xop7
    simp only [invB, shrB]
    unfold xop4
    rw [hb]
    show xop2 C.T _ e H K
    unfold xop2
    rw [hb2]
    show buildF C.T e H t len ps.toList K
    unfold buildF
    split at hr
    · rename_i el hd
      (try simp only [hd])
      split at hr
      · rename_i i hi
        (try simp only [hi])
        replace hr := bif_some hr; obtain ⟨h1, hr⟩ := hr
        (try simp only [h1, cond_true])
        split at hr
        · rename_i l hl
          (try simp only [hl])
          split at hr
          · rename_i p r' hv
            (try simp only [hv])
            split at hr
            · rename_i j hn
              replace hr := bif_some hr; obtain ⟨h2, hr⟩ := hr
              (try simp only [h2, cond_true])
              cases hr
              rw [hn]
              exact obl_of ho hK
            · cases hr
          · cases hr
        · cases hr
      · cases hr
    · cases hr
  · have h2 := c6.out o e H obs v δ nx K h ho hK
    rw [hC]
    exact h2
noncomputable def mkJ (p : Nat) (S : List (FuncId × PSpec)) (G : FuncId → Option GSpec) (D0 D : List (FuncId × FSpec)) (M : MT) (cuts : List Nat) : Ctx := ⟨p, tlook tt, slook S, dG (D0 ++ D) G, fun o e H => invB o || (shrB o e H || xsE (tlook tt) o e H), xop7 M (slook S) (dG (D0 ++ D) G) (tlook tt), fun i => cuts.any (Nat.beq i), dXD (D0 ++ D), dXN0 D0 D, dX7 (tlook tt)⟩
end Go.Proofs.Ytdiflkabpjnncaa
namespace Go.Proofs.Ytdiflkabpjnncaa
open Go Go.RowKit
def ownAt : Nat → List AV → Option Nat
  | _, [] => none
  | f, .sl _ _ _ _ :: _ => some f
  | f, _ :: l => ownAt (f + 1) l
def build1 (T : TypeId → Option TI) (e : Env) (H : AH) (t : TypeId) (parts : List (Nat × Operand)) : DR := match tdq T t with
  | .slice el => (match T el with
    | some i => bif Nat.ble i.sz 16777216 && Nat.blt 0 i.sz && Nat.beq i.zero.length i.sz && i.isAgg then (match fillA (fun j => some (j * i.sz, i.sz)) e (zerosA i (1 * i.sz)) parts with
      | some l => (match ownAt 0 l with
        | some f => bif Nat.blt f i.sz && (l.set f .nils).all nl0 && l.all isOne then some ([], .sl H.nx i.sz 0 1, [(H.nx, some (.recs1 el i.sz 1 (fun _ => .agg (l.set f .any)) f (l.getD f .any)))], H.nx + 1) else none
        | none => none)
      | none => none) else none
    | none => none)
  | _ => none
def is1 (H : AH) (i : Nat) : Bool := match H.get i with | some (.recs1 _ _ _ _ _ _) => true | _ => false
def load1 (T : TypeId → Option TI) (t : TypeId) (H : AH) (x : AV) (K : AV → AH → Prop) : Prop := match x with
  | .eptr i sz j f => (match H.get i, T t with
    | some (.recs1 el sz' n get f0 y), some inf => bif Nat.beq sz sz' then (bif inf.isAgg then (match get 0 with
        | .agg l0 => bif Nat.beq f 0 && Nat.beq inf.sz sz && Nat.beq l0.length sz then (j < n ∧ (decide (j = 0) = true → K (.agg (l0.set f0 y)) H) ∧ (decide (j = 0) = false → ∃ l : List AV, get j = .agg l ∧ Chk (Nat.beq l.length sz) ∧ K (.agg l) H)) else False
        | _ => False)
      else (bif Nat.beq f f0 then (match get 0 with
        | .agg l0 => bif Nat.beq l0.length sz then (j = 0 ∧ K y H) else False
        | _ => False) else False)) else False
    | _, _ => False)
  | _ => False
noncomputable def append1 (T : TypeId → Option TI) (H : AH) (t : TypeId) (s x : AV) (K : AV → AH → Prop) : Prop := match tdq T t, s with
  | .slice el, .sl i sz 0 n => (match T el, H.get i with
    | some inf, some (.recs1 el' sz' m get f y) => bif Nat.blt 0 inf.sz && Nat.beq inf.zero.length inf.sz && Nat.beq sz inf.sz && Nat.beq sz' inf.sz && Nat.beq el' el then (match recsOfA H inf.sz x with
      | some (q, c, getx) => obl q (n = m ∧ 0 < c ∧ ((n : Int) + c) * inf.by_ ≤ 140737488355328 ∧ n + c ≤ 140737488355328 ∧ K (.sl H.nx inf.sz 0 (n + c)) ((H.del i).push (.recs1 el inf.sz (n + c) (fun j => if j < n then get j else getx (j - n)) f y)))
      | none => False) else False
    | _, _ => False)
  | _, _ => False
def r1B (o : Op) (e : Env) (H : AH) : Bool := match o with
  | .load _ a => (match evA e a with | some (.eptr i _ _ _) => is1 H i | _ => false)
  | .call { callee := .builtin .append, args, .. } => (match args.toList with
    | [s, _] => (match evA e s with | some (.sl i _ _ _) => is1 H i | _ => false)
    | _ => false)
  | .buildSlice _ len parts => Nat.beq len 1 && (!ptrP e parts.toList && ownP e parts.toList)
  | _ => false
noncomputable def r1X (T : TypeId → Option TI) (o : Op) (e : Env) (H : AH) (K : AV → AH → Prop) : Prop := match o with
  | .load t a => (match evA e a with | some a => load1 T t H a K | none => False)
  | .call { callee := .builtin .append, args, argTypes } => (match args.toList, argTypes.toList with
    | [s, x], [t, t'] => bif Nat.beq t t' then (match evA e s, evA e x with | some s, some x => append1 T H t s x K | _, _ => False) else False
    | _, _ => False)
  | .buildSlice t len parts => bif Nat.beq len 1 then (match build1 T e H t parts.toList with
    | some (obs, v, δ, nx) => K v ⟨nx, δ ++ H.es⟩
    | none => False) else False
  | _ => False
noncomputable def xop8 (M : MT) (S : FuncId → Option PSpec) (G : FuncId → Option GSpec) (T : TypeId → Option TI) (o : Op) (e : Env) (H : AH) (K : AV → AH → Prop) : Prop := match r1B o e H with
  | true => r1X T o e H K
  | false => xop7 M S G T o e H K
def dX8 (T : TypeId → Option TI) (o : Op) (e : Env) (H : AH) : DR := match r1B o e H with
  | true => (match o with
    | .buildSlice t len parts => bif Nat.beq len 1 then build1 T e H t parts.toList else none
    | _ => none)
  | false => dX7 T o e H
section
variable {P : Program} {C : Ctx} {R : PN} {w : World} {F Ob : Nat → Prop} {W0 : World} {A : PN} {H H' : AH} {n : Nat} {O : Nat → Prop} {σ : Names} {T : TypeId → Option TI}
theorem rep_set {l : List AV} {f : Nat} {v u : Value} {y z : AV} (h : Rep R w O (.agg (l.set f z)) u) (hz : u.cells[f]? = some v) (hy : Rep R w O y v) : Rep R w O (.agg (l.set f y)) u := by
  obtain ⟨us, rfl, hc⟩ := rep_agg h
  have hz : us[f]? = some v := by simpa [Value.cells] using hz
  have hl := hc.1
  rw [List.length_set] at hl
  refine .agg _ us (by rw [List.length_set]; exact hl) fun q x u hx hu => ?_
  by_cases hq : f = q
  · subst hq
    rw [hz] at hu
    cases hu
    rw [List.getElem?_set] at hx
    simp only [if_true] at hx
    split at hx
    · cases hx; exact hy
    · cases hx
  · rw [List.getElem?_set_ne hq] at hx
    exact hc.2 q x u (by rw [List.getElem?_set_ne hq]; exact hx) hu
theorem rep_setV {l : List AV} {f : Nat} {v u : Value} (h : Rep R w O (.agg l) u) (hz : u.cells[f]? = some v) : Rep R w O (.agg (l.set f (.val v))) u := by
  by_cases hf : f < l.length
  · have e : l = l.set f l[f] := by simp
    rw [e] at h
    exact rep_set h hz (.val v)
  · rw [List.set_eq_of_length_le (by omega)]; exact h
def setV (get : Nat → AV) (f : Nat) (v : Value) (j : Nat) : AV := bif Nat.beq j 0 then (match get 0 with | .agg l => .agg (l.set f (.val v)) | x => x) else get j
theorem HRel.weak1 {i : Nat} {el : TypeId} {sz m : Nat} {get : Nat → AV} {f : Nat} {y : AV} (hH : HRel F Ob W0 R H w) (hi : H.get i = some (.recs1 el sz m get f y)) :
    ∃ v, Rep R w (Wr F R H) y v ∧ f < sz ∧ 0 < m ∧ HRel F Ob W0 R (H.set i (.recs el sz m (setV get f v))) w ∧ ∀ g, Wr F R (H.set i (.recs el sz m (setV get f v))) g ↔ Wr F R H g := by
  obtain ⟨b, hb, hh⟩ := hH.ent i _ hi
  cases b with
  | none => exact hh.elim
  | some b =>
  obtain ⟨vs, fr, vals, g1, g2, g3, ⟨g4, g5⟩, g6, g7, v, g8, g9⟩ := hh
  have key : ∀ (O' : Nat → Prop) (j : Nat), j < m → Rep noN w O' (get j) (vals j) → Rep noN w O' (setV get f v j) (vals j) := fun O' j hj hup => by
    unfold setV
    cases hq0 : Nat.beq j 0 with
    | false => simp only [cond_false]; exact hup
    | true =>
      have := beq_iff.1 hq0
      subst this
      simp only [cond_true]
      split
      · rename_i l hl
        rw [hl] at hup
        refine rep_setV hup ?_
        obtain ⟨u, h1, h2, _⟩ := g5 0 g6 f g7
        rw [Nat.zero_mul, Nat.zero_add, g8] at h1
        cases h1
        exact h2
      · exact hup
  obtain ⟨p1, p2⟩ := hH.upd (en := .recs el sz m (setV get f v)) hi hb (Ext.refl _ w) (by
    refine ⟨vs, fr, vals, g1, g2, g3, fun j hj => ⟨(g4 j hj).1, ?_⟩, g5⟩
    exact key _ j hj (((g4 j hj).2).mono (fun _ _ k => k) (Ext.refl (Wr F R H) _) (fun (g : Nat) _ (k : Wr F R (H.set i (.recs el sz m (setV get f v))) g) => k.imp id (own_set hi g).1)))
  exact ⟨v, g9, g7, g6, p1, p2⟩
theorem load1_ok (hT : TOK P T) {o : Oper} {a : Act} {e : Env} {K : AV → AH → Prop} {t : TypeId} {x : Operand} (ho : o.op = .load t x) {v : AV} (hv : evA e x = some v) (h : load1 T t H v K) (hH : HRel F Ob W0 R H w) (hE : ERel R w (Wr F R H) e a.tmps) : o.wp P a w (GP F Ob W0 R H o a e K) NoWay := by
  have hr := evA_rep hE hv
  unfold load1 at h
  split at h
  rotate_left
  · exact h.elim
  rename_i i sz j f
  split at h
  rotate_left
  · exact h.elim
  rename_i el sz' n get f0 y inf hi hti
  replace h := bif_true h; obtain ⟨hsz, h⟩ := h
  have := beq_iff.1 hsz
  subst this
  obtain ⟨u, hy, hf0, hn0, hH1, hwr⟩ := hH.weak1 hi
  have hget : (H.set i (.recs el sz n (setV get f0 u))).get i = some (.recs el sz n (setV get f0 u)) := by rw [get_set, if_pos rfl]
  have hr1 : Rep R w (Wr F R (H.set i (.recs el sz n (setV get f0 u)))) (.eptr i sz j f) (a.eval x) := hr.mono (fun _ _ k => k) (Ext.refl _ _) fun b _ k => (hwr b).1 k
  have fin : ∀ {r r' : AV}, aload T t (H.set i (.recs el sz n (setV get f0 u))) (.eptr i sz j f) = some ([j < n], r) → j < n → (∀ cv, Rep R w (Wr F R H) r cv → Rep R w (Wr F R H) r' cv) → K r' H → o.wp P a w (GP F Ob W0 R H o a e K) NoWay := by
    intro r r' hld hj hup hK
    obtain ⟨cv, h1, h2⟩ := aload_ok (P := P) hT hld (by intro p hp; rw [List.mem_singleton.1 hp]; exact hj) hH1 hr1
    refine gp_quiet ?_ hE hK hH (hup cv (h2.mono (fun _ _ k => k) (Ext.refl _ _) fun b _ k => (hwr b).2 k))
    simp [execOp, ho, Sem.run_bind, h1]
  have hpart : ∀ {q : Nat} {l : List AV}, setV get f0 u q = .agg l → l.length = sz → inf.isAgg = true → f = 0 → inf.sz = sz → q = j → aload T t (H.set i (.recs el sz n (setV get f0 u))) (.eptr i sz j f) = some ([j < n], .agg l) := by
    intro q l hq hl ha hf hs hqj
    subst hqj
    subst hf
    unfold aload
    simp only [hget, hq, cellsA, okE, hl, partA, hti, ha, hs, beq_iff.2 rfl, Bool.and_self, cond_true, Nat.zero_add]
    have e1 : Nat.ble sz sz = true := Nat.ble_eq_true_of_le (Nat.le_refl _)
    have e2 : subA l 0 sz = l := by unfold subA; rw [List.drop_zero, ← hl, List.take_length]
    simp only [e1, e2, cond_true, Option.map_some]
  cases hagg : inf.isAgg with
  | true =>
    simp only [hagg, cond_true] at h
    split at h
    rotate_left
    · exact h.elim
    rename_i l0 hg0
    replace h := bif_true h; obtain ⟨hb, hjn, hz, hnz⟩ := h
    simp only [Bool.and_eq_true] at hb
    have e1 := beq_iff.1 hb.1.1
    have e2 := beq_iff.1 hb.1.2
    have e3 := beq_iff.1 hb.2
    by_cases hj : j = 0
    · have hs0 : setV get f0 u j = .agg (l0.set f0 (.val u)) := by subst hj; unfold setV; simp only [hg0]; rfl
      refine fin (hpart hs0 (by rw [List.length_set]; exact e3) hagg e1 e2 rfl) hjn (fun cv hcv => ?_) (hz (decide_eq_true hj))
      refine rep_set hcv ?_ hy
      obtain ⟨us, rfl, hc⟩ := rep_agg hcv
      have hlt : f0 < us.length := by have := hc.1; rw [List.length_set] at this; omega
      have := hc.2 f0 (.val u) us[f0] (by rw [List.getElem?_set]; simp; omega) (by simp [hlt])
      cases this
      simp [Value.cells, hlt]
    · obtain ⟨l, hgl, ⟨hll⟩, hK⟩ := hnz (decide_eq_false hj)
      have hs0 : setV get f0 u j = .agg l := by
        unfold setV
        have : Nat.beq j 0 = false := by cases hq : Nat.beq j 0 with | false => rfl | true => exact absurd (beq_iff.1 hq) hj
        rw [this]; exact hgl
      exact fin (hpart hs0 (beq_iff.1 hll) hagg e1 e2 rfl) hjn (fun cv hcv => hcv) hK
  | false =>
    simp only [hagg, cond_false] at h
    replace h := bif_true h; obtain ⟨hff, h⟩ := h
    have hff := beq_iff.1 hff
    split at h
    rotate_left
    · exact h.elim
    rename_i l0 hg0
    replace h := bif_true h; obtain ⟨hl0, hj, hK⟩ := h
    have hl0 := beq_iff.1 hl0
    subst hj
    subst hff
    have hs0 : setV get f u 0 = .agg (l0.set f (.val u)) := by unfold setV; simp only [hg0]; rfl
    have hld : aload T t (H.set i (.recs el sz n (setV get f u))) (.eptr i sz 0 f) = some ([0 < n], .val u) := by
      unfold aload
      have e1 : (l0.set f (.val u)).length = sz := by rw [List.length_set]; exact hl0
      have e2 : (l0.set f (.val u))[f]? = some (.val u) := by rw [List.getElem?_set]; simp; omega
      simp only [hget, hs0, cellsA, okE, e1, partA, hti, hagg, beq_iff.2 rfl, Bool.and_self, cond_true, cond_false, e2, Option.map_some]
    exact fin hld hn0 (fun cv hcv => by cases hcv; exact hy) hK
theorem append1_ok (hT : TOK P T) {o : Oper} {a : Act} {e : Env} {K : AV → AH → Prop} {sx xx : Operand} {t : TypeId} (ho : o.op = .call { callee := .builtin .append, args := #[sx, xx], argTypes := #[t, t] }) {sv xv : AV} (hsv : evA e sx = some sv) (hxv : evA e xx = some xv) (h : append1 T H t sv xv K) (hH : HRel F Ob W0 R H w) (hE : ERel R w (Wr F R H) e a.tmps) : o.wp P a w (GP F Ob W0 R H o a e K) NoWay := by
  have hs := evA_rep hE hsv
  have hx := evA_rep hE hxv
  unfold append1 at h
  split at h
  rotate_left
  · exact h.elim
  rename_i el i sz n hd
  have hu := tdq_slice hT hd
  split at h
  rotate_left
  · exact h.elim
  rename_i inf0 el' sz' m get f y hti hi
  obtain ⟨inf, ds, z, g1i, g2i, g3i, rfl⟩ := probe_inv (hT _ inf0 hti)
  replace h := bif_true h; obtain ⟨hb, h⟩ := h
  simp only [Bool.and_eq_true] at hb
  obtain ⟨⟨⟨⟨hpos, hzs⟩, hz1⟩, hz2⟩, hz3⟩ := hb
  have hpos : 0 < inf.size := Nat.le_of_ble_eq_true hpos
  have hzs : z.cells.size = inf.size := by have := beq_iff.1 hzs; simpa using this
  have e1 : sz = inf.size := beq_iff.1 hz1
  have e2 : sz' = inf.size := beq_iff.1 hz2
  have e3 := beq_iff.1 hz3
  subst e1; subst e2; subst e3
  split at h
  rotate_left
  · exact h.elim
  rename_i q c getx hxs
  obtain ⟨hob, hnm, hc0, hby, h47, hK⟩ := obl_inv h
  subst hnm
  obtain ⟨xa, xc, news, vals, hcx, hxa, hnl, h1, hnews, hvals⟩ := recsOfA_ok hH hxs hob hx
  simp only at hby hnl hvals
  have hbyn : (n + c) * inf.bytes ≤ 140737488355328 := by
    have : (((n + c) * inf.bytes : Nat) : Int) ≤ 140737488355328 := by push_cast; exact hby
    omega
  obtain ⟨ad, rfl⟩ : ∃ ad, xa = some ad := by
    cases xa with
    | none => have := hxa rfl; omega
    | some ad => exact ⟨ad, rfl⟩
  have hnews := hnews ad rfl
  obtain ⟨b0, hb0, he⟩ := hH.ent i _ hi
  cases b0 with
  | none => exact he.elim
  | some b0 =>
  obtain ⟨cur, fr, vals0, g1, g2, g3, ⟨g4, g5⟩, g6, g7, v, g8, g9⟩ := he
  generalize hgs : a.eval sx = cs at hs
  cases hs with
  | slnil _ _ _ hR => rw [hR] at hb0; cases hb0
  | sl _ _ _ _ b cc off sh hR hn hc hof hss hl =>
  rw [hR] at hb0
  cases hb0
  have h0 := hof (by omega)
  replace h0 : off = 0 := by omega
  subst h0
  have hshape : sh.2 = cur.length := by
    unfold World.shape? at hss
    rw [g1] at hss
    simp at hss
    rw [← hss]
  have hlen : (cur.take (n * inf.size)).length = n * inf.size := by simp; omega
  have mk : ∀ {w' : World} {R' : PN} {O' : Nat → Prop} {rest : List Value} {b' : Nat} {fr' : Nat × Nat}, w'.heap[b']? = some (.cells (cur.take (n * inf.size) ++ news ++ rest).toArray el' fr') → NF fr' (cur.take (n * inf.size) ++ news ++ rest).length → Ext (Wr F R H) w w' → (∀ g, g < w.heap.size → O' g → Wr F R H g) → (∀ (i : Nat) (x : Option Nat), R[i]? = some x → R'[i]? = some x) →
      (Ent.recs1 el' inf.size (n + c) (fun j => if j < n then get j else getx (j - n)) f y).holds R' w' O' (some b') := by
    intro w' R' O' rest b' fr' hb' hnf hx' hO' hR'
    have hat : ∀ k, k < n * inf.size → (cur.take (n * inf.size) ++ news ++ rest)[k]? = cur[k]? := fun k hk => by
      rw [List.append_assoc, List.getElem?_append_left (by omega), List.getElem?_take_of_lt hk]
    refine ⟨_, fr', fun j => if j < n then vals0 j else vals (j - n), hb', hnf, ?_, ⟨fun j hj => ?_, fun j hj f' hf' => ?_⟩, by omega, g7, v, ?_, g9.mono hR' hx' hO'⟩
    · simp only [List.length_append, hlen, hnl, Nat.add_mul]; omega
    · by_cases hjn : j < n
      · simp only [if_pos hjn]
        exact ⟨(g4 j hjn).1, (g4 j hjn).2.mono (fun _ _ k => k) hx' hO'⟩
      · simp only [if_neg hjn]
        exact ⟨(hvals (j - n) (by omega)).1, (hvals (j - n) (by omega)).2.1.mono (fun _ _ k => k) hx' hO'⟩
    · by_cases hjn : j < n
      · simp only [if_pos hjn]
        rw [hat _ (rec_lt hjn hf')]
        exact g5 j hjn f' hf'
      · simp only [if_neg hjn]
        obtain ⟨q, rfl⟩ : ∃ q, j = n + q := ⟨j - n, by omega⟩
        have hq : q < c := by omega
        have eq1 : n + q - n = q := by omega
        rw [eq1]
        have hlt := rec_lt hq hf'
        have hv := (hvals q hq).2.2 f' hf'
        have e4 : (n + q) * inf.size + f' = (cur.take (n * inf.size)).length + (q * inf.size + f') := by rw [hlen, Nat.add_mul]; omega
        have hlt2 : q * inf.size + f' < news.length := by omega
        rw [List.append_assoc, e4, List.getElem?_append_right (by omega), Nat.add_sub_cancel_left, List.getElem?_append_left hlt2]
        exact ⟨news[q * inf.size + f'], by simp [hlt2], by rw [← hv]; simp [hlt2], h1 _ (List.getElem_mem _)⟩
    · rw [hat f (by have := rec_lt g6 g7; omega)]; exact g8
  by_cases hroom : n + c ≤ cc
  · have hfit : n * inf.size + news.length ≤ cur.length := by
      have : (n + c) * inf.size ≤ cc * inf.size := Nat.mul_le_mul_right _ hroom
      rw [hnl, ← Nat.add_mul]
      omega
    obtain ⟨w', s1, s2, s3⟩ := store_block (P := P) b0 el' news (n * inf.size) 0 cur w g1 g2 (by omega) h1
    have hrun := run_append_room_w (P := P) t o.type el' inf hu g1i b0 n cc ad c xc news hnl hnews hroom s1
    rw [← hgs, ← hcx] at hrun
    have hxw : Ext (Wr F R H) w w' := s3.weaken fun g _ k => by subst k; exact .inr ⟨i, _, hi, hR⟩
    obtain ⟨p1, p2⟩ := hH.upd (en := .recs1 el' inf.size (n + c) (fun j => if j < n then get j else getx (j - n)) f y) hi hR s3 (mk (rest := cur.drop (n * inf.size + 0 + news.length)) (by simpa using s2) (nf_ext g1 (by simpa using s2) s3 g2) hxw (fun g _ k => k.imp id (own_set hi g).1) (fun _ _ k => k))
    obtain ⟨q1, q2⟩ := p1.ren (i := i) (e := .recs1 el' inf.size (n + c) (fun j => if j < n then get j else getx (j - n)) f y) (b := some b0) (by rw [get_set, if_pos rfl]) hR
    have hget : ∀ k, ((H.del i).push (.recs1 el' inf.size (n + c) (fun j => if j < n then get j else getx (j - n)) f y)).get k = (((H.set i (.recs1 el' inf.size (n + c) (fun j => if j < n then get j else getx (j - n)) f y)).del i).push (.recs1 el' inf.size (n + c) (fun j => if j < n then get j else getx (j - n)) f y)).get k := fun k => by
      rw [get_push, get_push]
      have e0 : (H.del i).nx = ((H.set i (.recs1 el' inf.size (n + c) (fun j => if j < n then get j else getx (j - n)) f y)).del i).nx := rfl
      rw [e0]
      split
      · rfl
      · rw [get_del, get_del, get_set]
        split
        · rfl
        · rfl
    obtain ⟨r1, r2⟩ := q1.congr (H' := (H.del i).push (.recs1 el' inf.size (n + c) (fun j => if j < n then get j else getx (j - n)) f y)) rfl hget
    refine gp_run (run_appendOp ho hrun) hE hK hH.len (fun i hi => pre_nx _ i hi) hxw r1 (fun g hg k => (p2 g).1 (q2 g (Nat.lt_of_lt_of_le hg s3.size) ((r2 g).1 k))) ?_
    exact .sl _ _ _ _ b0 cc 0 sh (by exact app_last _ _ _) hroom hc (fun _ => by simp) (s3.shp _ _ hss) hl
  · have holds : ∀ q v, (cur.take (n * inf.size))[q]? = some v → w.cell? ((⟨b0, 0, none⟩ : Addr).add q) = some v := by
      intro q v hq
      have hlt : q < n * inf.size := by have := (List.getElem?_eq_some_iff.1 hq).1; simp at this; omega
      rw [Addr.add_mid, cell_of_heap g1, Nat.zero_add]
      rw [List.getElem?_take_of_lt hlt] at hq
      exact hq
    have hrun := run_append_grow (P := P) w t o.type el' inf z hu g1i g3i ⟨b0, 0, none⟩ n cc (cur.take (n * inf.size)) hlen holds ad c xc news hnl hnews (by omega) (by omega) (growslice_fits (by omega) hbyn)
    rw [← hgs, ← hcx] at hrun
    have hcap := grownCap_ge w (n + c) cc el'
    have hcm := grownCap_le_maxLen w (n + c) cc el' (by simp only [maxLen]; omega)
    have zc : ∀ q, (Builtin.zeroCells z.cells q).size = q * inf.size := fun q => by rw [size_zeroCells, hzs]
    generalize grownCap w (n + c) cc el' = cap at hrun hcap hcm
    have hbl : (cur.take (n * inf.size)).toArray ++ news.toArray ++ Builtin.zeroCells z.cells (cap - (n + c)) = (cur.take (n * inf.size) ++ news ++ (Builtin.zeroCells z.cells (cap - (n + c))).toList).toArray := by
      rw [← List.append_toArray (l₂ := (Builtin.zeroCells _ _).toList), Array.toArray_toList, ← List.append_toArray]
    rw [hbl] at hrun
    have hul : (cur.take (n * inf.size) ++ news ++ (Builtin.zeroCells z.cells (cap - (n + c))).toList).length = cap * inf.size := by
      simp only [List.length_append, hlen, hnl, Array.length_toList, zc, ← Nat.add_mul]
      congr 1; omega
    obtain ⟨d1, d2⟩ := hH.del i
    have hxn : Ext (fun _ => False) w (w.drew.alloc (.cells (cur.take (n * inf.size) ++ news ++ (Builtin.zeroCells z.cells (cap - (n + c))).toList).toArray el')) := (Ext.drew _ w).trans (Ext.alloc (fun _ => False) w.drew _) (fun _ _ k => k)
    have hp : (w.drew.alloc (.cells (cur.take (n * inf.size) ++ news ++ (Builtin.zeroCells z.cells (cap - (n + c))).toList).toArray el')).heap[w.heap.size]? = some (.cells (cur.take (n * inf.size) ++ news ++ (Builtin.zeroCells z.cells (cap - (n + c))).toList).toArray el' (0, 0)) := heap_push w.drew _
    obtain ⟨p1, p2⟩ := d1.push (b := some w.heap.size) (en := .recs1 el' inf.size (n + c) (fun j => if j < n then get j else getx (j - n)) f y) hxn (fun g hg => by cases hg; exact Nat.le_refl _) (fun O' hO' =>
      mk hp (nf0 _) (hxn.weaken fun _ _ k => k.elim) (fun g hg k => d2 g (hO' g hg k)) (fun k x hk => pre_app d1.len _ k x hk))
    refine gp_run (run_appendOp ho hrun) hE hK hH.len (fun i hi => pre_nx _ i hi) (hxn.weaken fun _ _ k => k.elim) p1 (fun g hg k => d2 g (p2 g hg k)) ?_
    exact .sl _ _ _ _ w.heap.size cap 0 (el', (cur.take (n * inf.size) ++ news ++ (Builtin.zeroCells z.cells (cap - (n + c))).toList).length) (by exact app_last _ _ _) hcap hcm (fun _ => by simp) (by unfold World.shape?; rw [hp]; simp) (by show 0 + cap * inf.size ≤ _; rw [hul]; omega)
theorem build1_ok (hT : TOK P T) {o : Oper} {a : Act} {e : Env} {K : AV → AH → Prop} {t : TypeId} {len : Nat} {ps : Array (Nat × Operand)} (ho : o.op = .buildSlice t len ps) (hlen1 : len = 1) {obs : List Prop} {v : AV} {δ : List (Nat × Option Ent)} {nx : Nat} (h : build1 T e H t ps.toList = some (obs, v, δ, nx)) (hK : K v ⟨nx, δ ++ H.es⟩) (hH : HRel F Ob W0 R H w) (hE : ERel R w (Wr F R H) e a.tmps) :
    o.wp P a w (GP F Ob W0 R H o a e K) NoWay := by
  subst hlen1
  unfold build1 at h
  split at h
  rotate_left
  · cases h
  rename_i el hd
  have hu := tdq_slice hT hd
  split at h
  rotate_left
  · cases h
  rename_i i hi
  obtain ⟨inf, ds, z, g1, g2, g3, rfl⟩ := probe_inv (hT _ i hi)
  simp only at h
  replace h := bif_some h; obtain ⟨h1, h⟩ := h
  simp only [Bool.and_eq_true] at h1
  obtain ⟨⟨⟨hle, hpos⟩, hzl⟩, hagg⟩ := h1
  have hle := Nat.le_of_ble_eq_true hle
  have hpos : 0 < inf.size := Nat.le_of_ble_eq_true hpos
  split at h
  rotate_left
  · cases h
  rename_i l hl
  split at h
  rotate_left
  · cases h
  rename_i f hf
  replace h := bif_some h; obtain ⟨hs1, h⟩ := h
  simp only [Bool.and_eq_true] at hs1
  obtain ⟨⟨hfl, hnl⟩, hone⟩ := hs1
  have hfl : f < inf.size := Nat.le_of_ble_eq_true hfl
  simp only [Option.some.injEq, Prod.mk.injEq] at h
  obtain ⟨rfl, rfl, rfl, rfl⟩ := h
  obtain ⟨us, hus, hc0⟩ := fill_ok hE ps.toList _ _ l (zeros_rel (R := R) (w := w) (O := Wr F R H) z.cells (1 * inf.size)) hl
  have hrun := run_newSlice (P := P) (w := w) (a := a) ho hu g1 g3 (by omega) (fun _ => trivial) (cells := us) (by have h0 := hus; rw [Array.toArray_toList] at h0; exact h0)
  have hx := Ext.alloc (fun _ => False) w (.cells us.toArray el)
  have hxw : Ext (Wr F R H) w (w.alloc (.cells us.toArray el)) := Ext.alloc _ w _
  have hlen0 : l.length = inf.size := by rw [fillA_len _ _ _ hl]; simp [zerosA]
  have hlu : us.length = inf.size := by rw [← hc0.1, hlen0]
  have h1c := all_one hc0 hone
  have hfu : f < us.length := by omega
  obtain ⟨p1, p2⟩ := hH.push (b := some w.heap.size) (en := .recs1 el inf.size 1 (fun _ => .agg (l.set f .any)) f (l.getD f .any)) hx (fun g hg => by cases hg; exact Nat.le_refl _) (fun O' hO' => by
    refine ⟨us, (0, 0), fun _ => .agg us.toArray, by rw [heap_push], nf0 _, by omega, ⟨fun j hj => ⟨by simp [Value.cells, hlu], ?_⟩, fun j hj f' hf' => ?_⟩, by omega, hfl, us[f], by simp [hfu], ?_⟩
    · refine .agg _ us (by rw [List.length_set]; exact hc0.1) fun q x u hx hu => ?_
      by_cases hq : f = q
      · subst hq
        rw [List.getElem?_set] at hx
        simp only [if_true] at hx
        split at hx
        · cases hx; exact .any _
        · cases hx
      · have hx2 : (l.set f .nils)[q]? = some x := by rw [List.getElem?_set_ne hq] at hx ⊢; exact hx
        rw [List.getElem?_set_ne hq] at hx
        have hn : nl0 x = true := List.all_eq_true.1 hnl x (List.mem_of_getElem? hx2)
        exact (nl0_rep (hc0.2 q x u hx hu) hn noN).mono (fun _ _ k => k) hxw hO'
    · have hlt : f' < us.length := by omega
      obtain rfl : j = 0 := by omega
      exact ⟨us[f'], by simp [hlt], by simp [Value.cells, hlt], h1c _ (List.getElem_mem hlt)⟩
    · have hlt : f < l.length := by omega
      have e1 : l.getD f .any = l[f] := by simp [List.getD, hlt]
      rw [e1]
      exact (hc0.2 f l[f] us[f] (by simp [hlt]) (by simp [hfu])).mono (fun k x hk => pre_app hH.len _ k x hk) hxw hO')
  refine gp_run hrun hE hK hH.len (fun i hi => pre_nx _ i hi) hxw p1 (fun g hg k => p2 g hg k) ?_
  exact .sl _ _ _ _ w.heap.size 1 0 (el, us.length) (by exact app_last _ _ _) (Nat.le_refl _) (by simp [maxLen]) (fun _ => by simp) (by unfold World.shape?; rw [heap_push]; simp) (by simp only [hlu]; omega)
theorem xok8 {M : MT} {S : FuncId → Option PSpec} {G : FuncId → Option GSpec} (hT : TOK P C.T) (hS : POK P S) (hG : ∀ g s, G g = some s → GSOK P g s) (hM : MOK P M) (hC : C.X = xop8 M S G C.T) : XOK P C := by
  intro o a e F Ob W0 R H w K h hH hE
  rw [hC] at h
  unfold xop8 at h
  split at h
  rotate_left
  · exact xok7 (C := { C with X := xop7 M S G C.T }) hT hS hG hM rfl o a e F Ob W0 R H w K h hH hE
  unfold r1X at h
  split at h
  · rename_i t x ho
    split at h
    · rename_i v hv; exact load1_ok hT ho hv h hH hE
    · exact h.elim
  · rename_i args ts ho
    split at h
    rotate_left
    · exact h.elim
    rename_i sx xx t t' hargs hts
    obtain rfl : args = #[sx, xx] := by rw [← Array.toArray_toList (xs := args), hargs]
    obtain rfl : ts = #[t, t'] := by rw [← Array.toArray_toList (xs := ts), hts]
    replace h := bif_true h; obtain ⟨htt, h⟩ := h
    have := beq_iff.1 htt
    subst this
    split at h
    · rename_i sv xv hsv hxv; exact append1_ok hT ho hsv hxv h hH hE
    · exact h.elim
  · rename_i t len ps ho
    replace h := bif_true h; obtain ⟨hl, h⟩ := h
    split at h
    · rename_i obs v δ nx hb; exact build1_ok hT ho (beq_iff.1 hl) hb h hH hE
    · exact h.elim
  · exact h.elim
end
theorem r1B_congr {o : Op} {e e' : Env} {H : AH} (h : ∀ x ∈ o.operands.toList, evA e x = evA e' x) : r1B o e H = r1B o e' H := by
  unfold r1B
  split
  · rename_i t a
    rw [h a (by simp [Op.operands])]
  · rename_i args ts
    split
    · rename_i s x hargs
      rw [h s (by simp [Op.operands, Call.operands, hargs])]
    · rfl
  · rename_i t len ps
    simp only [Op.operands, Array.toList_append, List.mem_append] at h
    have h' : ∀ p ∈ ps.toList, evA e p.2 = evA e' p.2 := fun p hp => h p.2 (by simp; exact ⟨p.1, by simpa using hp⟩)
    rw [ptrP_congr h', ownP_congr h']
  · rfl
theorem copyok8 {M : MT} {S : FuncId → Option PSpec} {G : FuncId → Option GSpec} {C : Ctx} (hC : C.X = xop8 M S G C.T) (hD : C.DX = dX8 C.T) : CopyOK C := by
  have c7 := copyok7 (M := M) (S := S) (G := G) (C := { C with X := xop7 M S G C.T, DX := dX7 C.T }) rfl rfl
  refine ⟨fun o e e' H h => ?_, ?_⟩
  · have h7 : dX7 C.T o e H = dX7 C.T o e' H := c7.congr o e e' H h
    rw [hD]
    unfold dX8
    rw [r1B_congr h, h7]
    split
    · split
      · rename_i t len ps _
        simp only [Op.operands, Array.toList_append, List.mem_append] at h
        have h' : ∀ p ∈ ps.toList, evA e p.2 = evA e' p.2 := fun p hp => h p.2 (by simp; exact ⟨p.1, by simpa using hp⟩)
        have hf : ∀ place l, fillA place e l ps.toList = fillA place e' l ps.toList := fun place l => fillA_congr place ps.toList l h'
        unfold build1
        simp only [hf]
      · rfl
    · rfl
  · intro o e H obs v δ nx K h ho hK
    rw [hD] at h
    rw [hC]
    unfold dX8 at h
    unfold xop8
    split at h
    · rename_i hb
      (try rw [hb])
      split at h
      · rename_i t len ps
        replace h := bif_some h; obtain ⟨hl, h⟩ := h
        show r1X C.T _ e H K
        unfold r1X
        simp only [hl, cond_true, h]
        exact hK
      · cases h
    · rename_i hb
      (try rw [hb])
      exact c7.out o e H obs v δ nx K h ho hK
noncomputable def mkL (p : Nat) (S : List (FuncId × PSpec)) (G : FuncId → Option GSpec) (D0 D : List (FuncId × FSpec)) (M : MT) (cuts : List Nat) : Ctx := ⟨p, tlook tt, slook S, dG (D0 ++ D) G, fun o e H => r1B o e H || (invB o || (shrB o e H || xsE (tlook tt) o e H)), xop8 M (slook S) (dG (D0 ++ D) G) (tlook tt), fun i => cuts.any (Nat.beq i), dXD (D0 ++ D), dXN0 D0 D, dX8 (tlook tt)⟩
theorem mkL_ok {p : Nat} {S : List (FuncId × PSpec)} {G : FuncId → Option GSpec} {D0 D : List (FuncId × FSpec)} {M : MT} {cuts : List Nat} (hS : POK Try.prog (slook S)) (hG : ∀ g s, G g = some s → GSOK Try.prog g s) (hD : ∀ g FS, dlook (D0 ++ D) g = some FS → GSOK Try.prog g (fG FS)) (hM : MOK Try.prog M) : COK Try.prog (mkL p S G D0 D M cuts) :=
  have hG' : ∀ g s, dG (D0 ++ D) G g = some s → GSOK Try.prog g s := fun g s h => by
    simp only [dG] at h
    split at h
    · rename_i FS hd
      cases h
      exact hD g FS hd
    · exact hG g s h
  ⟨ttok, hS, gok_of ttok (xok8 ttok hS hG' hM rfl) hG', dok_of (D0 ++ D), copyok8 rfl rfl⟩
theorem fokL {S : List (FuncId × PSpec)} {G : FuncId → Option GSpec} (D0 D : List (FuncId × FSpec)) (M : MT) (cuts : List Nat) (hS : POK Try.prog (slook S)) (hG : ∀ g s, G g = some s → GSOK Try.prog g s) (hD : ∀ g FS, dlook (D0 ++ D) g = some FS → GSOK Try.prog g (fG FS)) (hM : MOK Try.prog M) {g : FuncId} {fn : Func} (hf : FnOK Try.prog g fn) {FS : FSpec}
    (h : ∀ l es obs v es', FS l es = some (obs, v, es') → (∀ p ∈ obs, p) → l.length ≤ fn.ntmps ∧ vcFn (mkL es.length S G D0 D M cuts) fn l ⟨es.length, num 0 (es.map some)⟩ (RetF es.length v es')) : GSOK Try.prog g (fG FS) :=
  fok_of (T := tlook tt) (S := slook S) (G := dG (D0 ++ D) G) (xs := fun o e H => r1B o e H || (invB o || (shrB o e H || xsE (tlook tt) o e H))) (X := xop8 M (slook S) (dG (D0 ++ D) G) (tlook tt)) (cut := fun i => cuts.any (Nat.beq i)) (XD := dXD (D0 ++ D)) (XN := dXN0 D0 D) (DX := dX8 (tlook tt)) (fun p => mkL_ok (p := p) (cuts := cuts) hS hG hD hM) mixed hf h
end Go.Proofs.Ytdiflkabpjnncaa
namespace Go.Proofs.Ytdiflkabpjnncaa
open Go Go.RowKit
def g31 (m : Im) (L : List Im) (j : Nat) : AV := bif Nat.beq j 0 then .agg [.int .i64 m.w, .int .i64 m.h, .int .i64 m.c, .any] else (L.getD j Im.z).av
abbrev pyrF : FSpec := fun l es => match l, es with
  | [.agg [.int .i64 w, .int .i64 h, .int .i64 c, .roi .u8 p], .int .i64 n], [] => some ([imCheck w h c p.length = 0, Bytes p, 0 ≤ n, n ≤ 15],
      .tup [.sl 0 4 0 (pyrG n.toNat ⟨w, h, c, p⟩).length, .int .i64 0], [some (.recs1 24 4 (pyrG n.toNat ⟨w, h, c, p⟩).length (g31 ⟨w, h, c, p⟩ (pyrG n.toNat ⟨w, h, c, p⟩)) 3 (.sl 1 1 0 p.length)), some (.ints 5 .u8 p)])
  | _, _ => none
theorem pyr_g : GSOK Try.prog 6 (fG pyrF) := by
  refine fokL (S := [(14, checkS), (5, halfS)]) (G := glook [(5, fGv halfF)]) [] [(18, cloneF)] [] [6, 8, 1000010] (pok_cons check_s (pok_cons half_s pok_nil)) (gl_cons (gview half_g) gl_nil) (dl_cons clone_g dl_nil) mok_nil ⟨Try.func6, by kernel_rfl, by kernel_rfl, by kernel_rfl⟩ fun l es obs v es' h ho => ?_
  (unfold pyrF at h; split at h; rotate_left; (focus (cases h)); rename_i w hh c p n; simp only [Option.some.injEq, Prod.mk.injEq] at h; obtain ⟨rfl, rfl, rfl⟩ := h; simp only [List.mem_cons, List.not_mem_nil, or_false, forall_eq_or_imp, forall_eq, false_implies, implies_true] at ho)
  obtain ⟨hk, hp, h0, h1⟩ := ho
  obtain ⟨N, rfl⟩ := Int.eq_ofNat_of_zero_le h0
  obtain ⟨hf, hl⟩ := check_inv hk
  have hb := fits_inv hf
  refine ⟨Nat.le_of_ble_eq_true rfl, ?_⟩
  (repeat' (first | (refine xI (fun hfk => ?_) (fun hfk => ?_) <;> ((try (first | replace hfk := oT hfk | replace hfk := oF hfk | simp only [oD, ne_eq, reduceCtorEq] at hfk)); (try exact oX))) | (refine And.intro ?ob ?_; (case ob => (exact oZ))) | exact True.intro | (show _ = _; first | exact oY | exact rfl) | exact oW | (apply And.intro)))
  refine ⟨[(1, .int .i64 (N : Int)), (4, .nils), (5, .int .i64 0), (7, .sl 0 4 0 1)], ⟨2, [(0, some (.recs1 24 4 1 (g31 ⟨w, hh, c, p⟩ [⟨w, hh, c, p⟩]) 3 (.sl 1 1 0 p.length))), (1, some (.ints 5 .u8 p))]⟩, [some 2, some 1], ?_, ?_⟩
  · (repeat' (first | (refine And.intro ?_ ?_) | exact True.intro | (show _ = _; with_reducible rfl) | exact Chk.mk (by kernel_rfl)))
    intro j hj
    obtain rfl : j = 0 := by omega
    rfl
  (repeat' (first | (refine xI (fun hfk => ?_) (fun hfk => ?_) <;> ((try (first | replace hfk := oT hfk | replace hfk := oF hfk | simp only [oD, ne_eq, reduceCtorEq] at hfk)); (try exact oX))) | (refine And.intro ?ob ?_; (case ob => (exact oZ))) | exact True.intro | (show _ = _; first | exact oY | exact rfl) | exact oW | (apply And.intro)))
  refine ⟨List Im × Im, fun g => [(1, .int .i64 (N : Int)), (4, .nils), (5, .int .i64 0), (7, .sl 0 4 0 (g.1.length + 1))], fun g => ⟨2, [(0, some (.recs1 24 4 (g.1.length + 1) (g31 ⟨w, hh, c, p⟩ (g.1 ++ [g.2])) 3 (.sl 1 1 0 p.length))), (1, some (.ints 5 .u8 p))]⟩,
    fun g => g.1.length ≤ N ∧ g.1 ++ pyrG (N - g.1.length) g.2 = pyrG N ⟨w, hh, c, p⟩ ∧ PyP ⟨w, hh, c, p⟩ 0 255 g.2 ∧ (g.1 = [] → g.2 = ⟨w, hh, c, p⟩), fun g => N + 1 - g.1.length, ⟨([], ⟨w, hh, c, p⟩), [some 0, some 1], ⟨Nat.zero_le _, rfl, okP _ hk hp, fun _ => rfl⟩, ?_⟩, fun g hg => ?_⟩
  · (repeat' (first | (refine And.intro ?_ ?_) | exact True.intro | (show _ = _; with_reducible rfl) | exact Chk.mk (by kernel_rfl)))
    · rfl
    · rfl
    · intro j hj
      rfl
  obtain ⟨pre, x⟩ := g
  obtain ⟨g1, g2, g3, g4⟩ := hg
  have g4 : pre = [] → x = ⟨w, hh, c, p⟩ := g4
  have g1 : pre.length ≤ N := g1
  have g2 : pre ++ pyrG (N - pre.length) x = pyrG N ⟨w, hh, c, p⟩ := g2
  have g3 : PyP ⟨w, hh, c, p⟩ 0 255 x := g3
  have fin : pyrG N ⟨w, hh, c, p⟩ = pre ++ [x] → pre.length + 1 = (pyrG N ⟨w, hh, c, p⟩).length ∧ ∀ j, j < (pyrG N ⟨w, hh, c, p⟩).length → g31 ⟨w, hh, c, p⟩ (pre ++ [x]) j = g31 ⟨w, hh, c, p⟩ (pyrG N ⟨w, hh, c, p⟩) j := fun E => by
    rw [E]
    exact ⟨by simp, fun j hj => rfl⟩
  refine ⟨fun hy => ?_, fun hy => ?_⟩
  · have hlt : pre.length < N := by
      have : ((pre.length + 1 : Nat) : Int) ≤ (N : Int) := of_decide_eq_true hy
      omega
    have gl : (pre ++ [x]).getD (0 + (((pre.length + 1 : Nat) : Int) - 1).toNat) Im.z = x := by
      have : 0 + (((pre.length + 1 : Nat) : Int) - 1).toNat = pre.length := by omega
      rw [this]; simp [List.getD]
    have gw : 0 + (((pre.length + 1 : Nat) : Int) - 1).toNat = pre.length := by omega
    have c1 := g3.chk
    have c2 := g3.byt
    have gap : ∀ j, j < pre.length + 1 + 1 → (if j < pre.length + 1 then g31 ⟨w, hh, c, p⟩ (pre ++ [x]) j else (([halfI x] : List Im).getD (j - (pre.length + 1)) Im.z).av) = g31 ⟨w, hh, c, p⟩ ((pre ++ [x]) ++ [halfI x]) j := fun j hj => by
      unfold g31
      by_cases h : j < pre.length + 1
      · rw [if_pos h]
        have e : ((pre ++ [x]) ++ [halfI x])[j]? = (pre ++ [x])[j]? := List.getElem?_append_left (by simp; omega)
        simp only [List.getD, e]
      · rw [if_neg h]
        obtain rfl : j = pre.length + 1 := by omega
        have e : Nat.beq (pre.length + 1) 0 = false := rfl
        simp [List.getD, e]
    (repeat' (first | (refine xI (fun hfk => ?_) (fun hfk => ?_) <;> ((try (first | replace hfk := oT hfk | replace hfk := oF hfk | simp only [oD, ne_eq, reduceCtorEq] at hfk)); (try exact oX))) | (refine And.intro ?ob ?_; (case ob => (exact oZ))) | exact True.intro | (show _ = _; first | exact oY | exact rfl) | exact oW | (apply And.intro)))
    · -- the lowest one
      have hz : 0 + ((((pre, x).fst.length + 1 : Nat) : Int) - 1).toNat = 0 := by assumption
      have h0 : pre = [] := List.eq_nil_of_length_eq_zero (gw.symm.trans hz)
      subst h0
      obtain rfl := g4 rfl
      clear g4 gl hz hfk gw
      refine ⟨[(1, .int .i64 (N : Int)), (4, .nils), (5, .int .i64 0), (7, .sl 0 4 0 1), (8, .ptr 2 0)],
        ⟨3, [(0, some (.recs1 24 4 1 (g31 ⟨w, hh, c, p⟩ [⟨w, hh, c, p⟩]) 3 (.sl 1 1 0 p.length))), (1, some (.ints 5 .u8 p)), (2, some (.cells 24 [.int .i64 w, .int .i64 hh, .int .i64 c, .sl 1 1 0 p.length]))]⟩, [some 0, some 1, some 2], ?_, ?_⟩
      · (repeat' (first | (refine And.intro ?_ ?_) | exact True.intro | (show _ = _; with_reducible rfl) | exact Chk.mk (by kernel_rfl)))
        · rfl
        · rfl
        · intro j hj
          rfl
      by_cases hs : w = 1 ∧ hh = 1
      · obtain ⟨s1, s2⟩ := hs
        have E : pyrG N ⟨w, hh, c, p⟩ = [] ++ [⟨w, hh, c, p⟩] := by rw [← g2, pyrG_small ⟨s1, s2⟩]
        obtain ⟨f1, f2⟩ := fin E
        (repeat' (first | (refine xI (fun hfk => ?_) (fun hfk => ?_) <;> ((try (first | replace hfk := oT hfk | replace hfk := oF hfk | simp only [oD, ne_eq, reduceCtorEq] at hfk)); (try exact oX))) | (refine And.intro ?ob ?_; (case ob => (exact oZ))) | exact True.intro | (show _ = _; first | exact oY | exact rfl) | exact oW | (apply And.intro)))
        refine ⟨[some 0, some 1], ?_⟩
        (repeat' (first | (refine xI (fun hfk => ?_) (fun hfk => ?_) <;> ((try (first | replace hfk := oT hfk | replace hfk := oF hfk | simp only [oD, ne_eq, reduceCtorEq] at hfk)); (try exact oX))) | (refine And.intro ?ob ?_; (case ob => (exact oZ))) | exact True.intro | (show _ = _; first | exact oY | (exact f1; done) | exact rfl) | exact oW | (apply And.intro)))
        exact f2
      · have gN : N - ([] : List Im).length = N - (([] : List Im).length + 1) + 1 := by simp only [List.length_nil] at *; omega
        have g2' : ([] ++ [(⟨w, hh, c, p⟩ : Im)]) ++ pyrG (N - (([] : List Im).length + 1)) (halfI ⟨w, hh, c, p⟩) = pyrG N ⟨w, hh, c, p⟩ := by
          rw [← g2, gN, pyrG_big hs, List.append_assoc]; rfl
        have tl : List.take p.length (List.drop 0 p) = p := tdL p
        have o1 : imCheck w hh c ((List.take p.length (List.drop 0 p)).length : Nat) = 0 := by rw [tl]; exact hk
        have o2 : Bytes (List.take p.length (List.drop 0 p)) := by rw [tl]; exact hp
        have o3 : 0 + hN w hh c ≤ (halfP w hh c (List.take p.length (List.drop 0 p))).length := by rw [halfP_len]; omega
        have o4 : List.take (hN w hh c) (List.drop 0 (halfP w hh c (List.take p.length (List.drop 0 p)))) = halfP w hh c p := by rw [tl, List.drop_zero, ← halfP_len (p := p), List.take_length]
        (repeat' (first | (refine xI (fun hfk => ?_) (fun hfk => ?_) <;> ((try (first | replace hfk := oT hfk | replace hfk := oF hfk | simp only [oD, ne_eq, reduceCtorEq] at hfk)); (try exact oX))) | (refine And.intro ?ob ?_; (case ob => (exact oZ))) | exact True.intro | (show _ = _; first | exact oY | exact rfl) | exact oW | (apply And.intro)))
        all_goals
          (refine ⟨[], [1], ⟨by kernel_rfl⟩, ?_⟩)
          (repeat' (first | (refine xI (fun hfk => ?_) (fun hfk => ?_) <;> ((try (first | replace hfk := oT hfk | replace hfk := oF hfk | simp only [oD, ne_eq, reduceCtorEq] at hfk)); (try exact oX))) | (refine And.intro ?ob ?_; (case ob => (exact oZ))) | exact True.intro | (show _ = _; first | exact oY | exact rfl) | exact oW | (apply And.intro)))
          refine ⟨[9], ?_⟩
          (repeat' (first | (refine xI (fun hfk => ?_) (fun hfk => ?_) <;> ((try (first | replace hfk := oT hfk | replace hfk := oF hfk | simp only [oD, ne_eq, reduceCtorEq] at hfk)); (try exact oX))) | (refine And.intro ?ob ?_; (case ob => (exact oZ))) | exact True.intro | (show _ = _; first | exact oY | exact rfl) | exact oW | (apply And.intro)))
          refine ⟨[(1, .int .i64 (N : Int)), (4, .nils), (5, .int .i64 0), (7, .sl 0 4 0 1), (9, .rop (.agg [.int .i64 (hv w), .int .i64 (hv hh), .int .i64 c, .roi .u8 (halfP w hh c p)])), (10, .int .i64 0)],
            ⟨2, [(0, some (.recs1 24 4 1 (g31 ⟨w, hh, c, p⟩ [⟨w, hh, c, p⟩]) 3 (.sl 1 1 0 p.length))), (1, some (.ints 5 .u8 p))]⟩, [some 0, some 1], ?_, ?_⟩
          · (repeat' (first | (refine xI (fun hfk => ?_) (fun hfk => ?_) <;> ((try (first | replace hfk := oT hfk | replace hfk := oF hfk | simp only [oD, ne_eq, reduceCtorEq] at hfk)); (try exact oX))) | (refine And.intro ?ob ?_; (case ob => (exact oZ))) | exact True.intro | (show _ = _; first | exact oY | ((exact congrArg (fun q => AV.agg [AV.int .i64 (hv w), AV.int .i64 (hv hh), AV.int .i64 c, AV.roi .u8 q]) o4); done) | exact rfl) | exact oW | (apply And.intro)))
          (repeat' (first | (refine xI (fun hfk => ?_) (fun hfk => ?_) <;> ((try (first | replace hfk := oT hfk | replace hfk := oF hfk | simp only [oD, ne_eq, reduceCtorEq] at hfk)); (try exact oX))) | (refine And.intro ?ob ?_; (case ob => (exact oZ))) | exact True.intro | (show _ = _; first | exact oY | exact rfl) | exact oW | (apply And.intro)))
          refine ⟨([] ++ [⟨w, hh, c, p⟩], halfI ⟨w, hh, c, p⟩), [some 3, some 1], ?_, ?mu, ?_⟩
          case mu =>
            show N + 1 - 1 < N + 1 - 0
            omega
          · exact ⟨by simp; omega, g2', g3.half (by decide) (by decide), fun k => by simp at k⟩
          (repeat' (first | (refine xI (fun hfk => ?_) (fun hfk => ?_) <;> ((try (first | replace hfk := oT hfk | replace hfk := oF hfk | simp only [oD, ne_eq, reduceCtorEq] at hfk)); (try exact oX))) | (refine And.intro ?ob ?_; (case ob => (exact oZ))) | exact True.intro | (show _ = _; first | exact oY | exact rfl) | exact oW | (apply And.intro)))
          intro j hj
          have hj1 : j < 1 + 1 := hj
          refine Eq.trans ?_ (gap j hj1)
          by_cases h : j < 1
          · have h2 : j < ([] : List Im).length + 1 := h
            simp only [if_pos h, if_pos h2]
            rfl
          · have h2 : ¬ j < ([] : List Im).length + 1 := h
            simp only [if_neg h, if_neg h2]
            obtain rfl : j = 1 := by omega
            rfl
    · have hz : ¬ 0 + ((((pre, x).fst.length + 1 : Nat) : Int) - 1).toNat = 0 := by assumption
      have hz0 : pre.length ≠ 0 := fun k => hz (gw.trans k)
      clear hz hfk
      refine ⟨[.int .i64 x.w, .int .i64 x.h, .int .i64 x.c, .roi .u8 x.p], ?_, ⟨rfl⟩, ?_⟩
      · show g31 ⟨w, hh, c, p⟩ (pre ++ [x]) (0 + (((pre.length + 1 : Nat) : Int) - 1).toNat) = _
        unfold g31
        have : Nat.beq (0 + (((pre.length + 1 : Nat) : Int) - 1).toNat) 0 = false := by
          rw [gw]
          cases hq : Nat.beq pre.length 0 with
          | false => rfl
          | true => exact absurd (beq_iff.1 hq) hz0
        rw [this, gl]
        rfl
      (repeat' (first | (refine xI (fun hfk => ?_) (fun hfk => ?_) <;> ((try (first | replace hfk := oT hfk | replace hfk := oF hfk | simp only [oD, ne_eq, reduceCtorEq] at hfk)); (try exact oX))) | (refine And.intro ?ob ?_; (case ob => (exact oZ))) | exact True.intro | (show _ = _; first | exact oY | exact rfl) | exact oW | (apply And.intro)))
      refine ⟨[(1, .int .i64 (N : Int)), (4, .nils), (5, .int .i64 0), (7, .sl 0 4 0 (pre.length + 1)), (8, .ptr 2 0)],
        ⟨3, [(0, some (.recs1 24 4 (pre.length + 1) (g31 ⟨w, hh, c, p⟩ (pre ++ [x])) 3 (.sl 1 1 0 p.length))), (1, some (.ints 5 .u8 p)), (2, some (.cells 24 [.int .i64 x.w, .int .i64 x.h, .int .i64 x.c, .roi .u8 x.p]))]⟩, [some 0, some 1, some 2], ?_, ?_⟩
      · (repeat' (first | (refine And.intro ?_ ?_) | exact True.intro | (show _ = _; with_reducible rfl) | exact Chk.mk (by kernel_rfl)))
        · intro j hj
          rfl
      by_cases hs : x.w = 1 ∧ x.h = 1
      · obtain ⟨s1, s2⟩ := hs
        have E : pyrG N ⟨w, hh, c, p⟩ = pre ++ [x] := by rw [← g2, pyrG_small ⟨s1, s2⟩]
        obtain ⟨f1, f2⟩ := fin E
        (repeat' (first | (refine xI (fun hfk => ?_) (fun hfk => ?_) <;> ((try (first | replace hfk := oT hfk | replace hfk := oF hfk | simp only [oD, ne_eq, reduceCtorEq] at hfk)); (try exact oX))) | (refine And.intro ?ob ?_; (case ob => (exact oZ))) | exact True.intro | (show _ = _; first | exact oY | exact rfl) | exact oW | (apply And.intro)))
        refine ⟨[some 0, some 1], ?_⟩
        (repeat' (first | (refine xI (fun hfk => ?_) (fun hfk => ?_) <;> ((try (first | replace hfk := oT hfk | replace hfk := oF hfk | simp only [oD, ne_eq, reduceCtorEq] at hfk)); (try exact oX))) | (refine And.intro ?ob ?_; (case ob => (exact oZ))) | exact True.intro | (show _ = _; first | exact oY | (exact f1; done) | exact rfl) | exact oW | (apply And.intro)))
        exact f2
      · have gN : N - pre.length = N - (pre.length + 1) + 1 := by omega
        have g2' : (pre ++ [x]) ++ pyrG (N - (pre.length + 1)) (halfI x) = pyrG N ⟨w, hh, c, p⟩ := by
          rw [← g2, gN, pyrG_big hs, List.append_assoc]; rfl
        (repeat' (first | (refine xI (fun hfk => ?_) (fun hfk => ?_) <;> ((try (first | replace hfk := oT hfk | replace hfk := oF hfk | simp only [oD, ne_eq, reduceCtorEq] at hfk)); (try exact oX))) | (refine And.intro ?ob ?_; (case ob => (exact oZ))) | exact True.intro | (show _ = _; first | exact oY | exact rfl) | exact oW | (apply And.intro)))
        all_goals
          refine ⟨[], ?_⟩
          (repeat' (first | (refine xI (fun hfk => ?_) (fun hfk => ?_) <;> ((try (first | replace hfk := oT hfk | replace hfk := oF hfk | simp only [oD, ne_eq, reduceCtorEq] at hfk)); (try exact oX))) | (refine And.intro ?ob ?_; (case ob => (exact oZ))) | exact True.intro | (show _ = _; first | exact oY | exact rfl) | exact oW | (apply And.intro)))
          refine ⟨[(1, .int .i64 (N : Int)), (4, .nils), (5, .int .i64 0), (7, .sl 0 4 0 (pre.length + 1)), (9, .ptr 2 0), (10, .int .i64 0)],
            ⟨3, [(0, some (.recs1 24 4 (pre.length + 1) (g31 ⟨w, hh, c, p⟩ (pre ++ [x])) 3 (.sl 1 1 0 p.length))), (1, some (.ints 5 .u8 p)), (2, some (.cells 24 [.int .i64 (hv x.w), .int .i64 (hv x.h), .int .i64 x.c, .roi .u8 (halfP x.w x.h x.c x.p)]))]⟩, [some 0, some 1, some 3], ?_, ?_⟩
          · (repeat' (first | (refine xI (fun hfk => ?_) (fun hfk => ?_) <;> ((try (first | replace hfk := oT hfk | replace hfk := oF hfk | simp only [oD, ne_eq, reduceCtorEq] at hfk)); (try exact oX))) | (refine And.intro ?ob ?_; (case ob => (exact oZ))) | exact True.intro | (show _ = _; first | exact oY | exact rfl) | exact oW | (apply And.intro)))
          (repeat' (first | (refine xI (fun hfk => ?_) (fun hfk => ?_) <;> ((try (first | replace hfk := oT hfk | replace hfk := oF hfk | simp only [oD, ne_eq, reduceCtorEq] at hfk)); (try exact oX))) | (refine And.intro ?ob ?_; (case ob => (exact oZ))) | exact True.intro | (show _ = _; first | exact oY | exact rfl) | exact oW | (apply And.intro)))
          refine ⟨(pre ++ [x], halfI x), [some 4, some 1], ?_, ?mu, ?_⟩
          case mu =>
            show N + 1 - (pre ++ [x]).length < N + 1 - pre.length
            rw [List.length_append, List.length_singleton]; omega
          · exact ⟨by simp; omega, by simpa using g2', g3.half (by decide) (by decide), fun k => by simp at k⟩
          (repeat' (first | (refine xI (fun hfk => ?_) (fun hfk => ?_) <;> ((try (first | replace hfk := oT hfk | replace hfk := oF hfk | simp only [oD, ne_eq, reduceCtorEq] at hfk)); (try exact oX))) | (refine And.intro ?ob ?_; (case ob => (exact oZ))) | exact True.intro | (show _ = _; first | exact oY | exact rfl) | exact oW | (apply And.intro)))
          · show pre.length + 1 + 1 = (pre ++ [x]).length + 1
            rw [List.length_append, List.length_singleton]
          · intro j hj
            have hj1 : j < (pre ++ [x]).length + 1 := hj
            rw [List.length_append, List.length_singleton] at hj1
            refine Eq.trans ?_ (gap j hj1)
            by_cases h : j < pre.length + 1
            · simp only [if_pos h]
            · simp only [if_neg h]
              have e : j - (pre.length + 1) = 0 := by omega
              rw [e]
              rfl
  · have hN : pre.length = N := by
      have : ¬ ((pre.length + 1 : Nat) : Int) ≤ (N : Int) := of_decide_eq_false hy
      omega
    have E : pyrG N ⟨w, hh, c, p⟩ = pre ++ [x] := by rw [← g2, hN, Nat.sub_self]; rfl
    obtain ⟨f1, f2⟩ := fin E
    (repeat' (first | (refine xI (fun hfk => ?_) (fun hfk => ?_) <;> ((try (first | replace hfk := oT hfk | replace hfk := oF hfk | simp only [oD, ne_eq, reduceCtorEq] at hfk)); (try exact oX))) | (refine And.intro ?ob ?_; (case ob => (exact oZ))) | exact True.intro | (show _ = _; first | exact oY | exact rfl) | exact oW | (apply And.intro)))
    refine ⟨[some 0, some 1], ?_⟩
    (repeat' (first | (refine xI (fun hfk => ?_) (fun hfk => ?_) <;> ((try (first | replace hfk := oT hfk | replace hfk := oF hfk | simp only [oD, ne_eq, reduceCtorEq] at hfk)); (try exact oX))) | (refine And.intro ?ob ?_; (case ob => (exact oZ))) | exact True.intro | (show _ = _; first | exact oY | (exact f1; done) | exact rfl) | exact oW | (apply And.intro)))
    exact f2
end Go.Proofs.Ytdiflkabpjnncaa
namespace Go.Proofs.Ytdiflkabpjnncaa
open Go Go.RowKit
abbrev rhalfS : PSpec := fun l => match l with | [.agg [.int .i64 w, .int .i64 h, .int .i64 c, .roi .u8 p]] => some ([imCheck w h c p.length = 0, Bytes p], imA (hv w) (hv h) c (halfP w h c p)) | _ => none
theorem rhalf_s : SOK Try.prog 13 rhalfS := by
  refine sok_of (C := mkK 0 [(21, rplS)] (glook [(22, fG madeF)]) []) (mkK_ok (pok_cons rplace_s pok_nil) (gl_cons made_g gl_nil)) rfl mixed ⟨Try.func13, by kernel_rfl, by kernel_rfl, by kernel_rfl⟩ fun l obs v h ho => ?_
  (unfold rhalfS at h; split at h; rotate_left; (focus (cases h)); rename_i w hh c p; simp only [Option.some.injEq, Prod.mk.injEq] at h; obtain ⟨rfl, rfl⟩ := h; simp only [List.mem_cons, List.not_mem_nil, or_false, forall_eq_or_imp, forall_eq, false_implies, implies_true] at ho)
  obtain ⟨hk, hp⟩ := ho
  obtain ⟨hf, hl⟩ := check_inv hk
  have hb := fits_inv hf
  obtain ⟨hf2, w1, w2, h1, h2⟩ := half_fits hf
  have hb2 := fits_inv hf2
  have e1 : Int.tdiv (w + 1) 2 = hv w := Int.tdiv_eq_ediv_of_nonneg (by omega)
  have e2 : Int.tdiv (hh + 1) 2 = hv hh := Int.tdiv_eq_ediv_of_nonneg (by omega)
  have r1 : rngI .i64 (Int.tdiv (w + 1) 2) := by rw [e1]; exact rng64 (by omega) (by omega)
  have r2 : rngI .i64 (Int.tdiv (hh + 1) 2) := by rw [e2]; exact rng64 (by omega) (by omega)
  obtain ⟨N, hNe⟩ : ∃ N, (hv w * hv hh * c).toNat = N := ⟨_, rfl⟩
  have hN16 : N ≤ 16777216 := by omega
  have hNi : hv w * hv hh * c = (N : Int) := by omega
  refine ⟨Nat.le_of_ble_eq_true rfl, ?_⟩
  (repeat' (first | (refine xI (fun hfk => ?_) (fun hfk => ?_) <;> ((try (first | replace hfk := oT hfk | replace hfk := oF hfk | simp only [oD, ne_eq, reduceCtorEq] at hfk)); (try exact oX))) | (refine And.intro ?ob ?_; (case ob => (exact oZ))) | exact True.intro | (show _ = _; first | exact oY | exact rfl) | exact oW | (apply And.intro)))
  refine ⟨Nat, fun i => [(1, .ptr 0 0), (2, .ptr 1 0), (3, .int .i64 (hv w)), (4, .int .i64 (hv hh)), (5, .sl 2 1 0 i), (6, .int .i64 (i : Int))],
      fun i => ⟨3, [(0, some (.cells 24 [.int .i64 w, .int .i64 hh, .int .i64 c, .roi .u8 p])), (1, some (.cells 24 [.int .i64 0, .int .i64 0, .int .i64 0, .nils])), (2, some (.ints 5 .u8 (mapL (hg w hh c p) i)))]⟩,
      fun i => i ≤ N, fun i => N - i, ⟨0, [some 0, some 1, none], Nat.zero_le _, ?_⟩, fun i hi => ?_⟩
  · (repeat' (first | (refine xI (fun hfk => ?_) (fun hfk => ?_) <;> ((try (first | replace hfk := oT hfk | replace hfk := oF hfk | simp only [oD, ne_eq, reduceCtorEq] at hfk)); (try exact oX))) | (refine And.intro ?ob ?_; (case ob => (exact oZ))) | exact True.intro | (show _ = _; first | exact oY | ((first | exact e1 | exact e2); done) | exact rfl) | exact oW | (apply And.intro)))
  have hi : i ≤ N := hi
  by_cases hlt : i < N
  · have hat := half_at hf hl hp (i := i) (by unfold hN; rw [hNe]; exact hlt)
    have k0 := hat.x0; have k1 := hat.x1; have k2 := hat.y0; have k3 := hat.y1; have k4 := hat.k0; have k5 := hat.k1
    have k6 : rngI .i64 (Int.tdiv (i : Int) c) := by
      obtain ⟨C, rfl⟩ := Int.eq_ofNat_of_zero_le (show 0 ≤ c by omega)
      have : i / C ≤ i := Nat.div_le_self _ _
      have e : Int.tdiv (i : Int) (C : Int) = ((i / C : Nat) : Int) := rfl
      rw [e]
      obtain ⟨q, hq⟩ : ∃ q, i / C = q := ⟨_, rfl⟩
      rw [hq] at this ⊢
      exact rng64 (by omega) (by omega)
    have k7 : rngI .i64 (Int.tdiv (Int.tdiv (i : Int) c) (hv w)) := rng64 (by omega) (by omega)
    have k8 : c ≠ 0 := by omega
    have k9 : hv w ≠ 0 := by omega
    obtain ⟨X, hX⟩ : ∃ X, ((i : Int).tdiv c).tmod (hv w) = X := ⟨_, rfl⟩
    obtain ⟨Y, hY⟩ : ∃ Y, ((i : Int).tdiv c).tdiv (hv w) = Y := ⟨_, rfl⟩
    obtain ⟨Kk, hK⟩ : ∃ Kk, (i : Int).tmod c = Kk := ⟨_, rfl⟩
    have hv4 : v4 w hh c p X Y Kk = hg w hh c p i := by rw [← hX, ← hY, ← hK]; rfl
    rw [hX, hY, hK] at hat
    rw [hX] at k0 k1
    rw [hY] at k2 k3
    rw [hK] at k4 k5
    (repeat' (first | (refine xI (fun hfk => ?_) (fun hfk => ?_) <;> ((try (first | replace hfk := oT hfk | replace hfk := oF hfk | simp only [oD, ne_eq, reduceCtorEq] at hfk)); (try exact oX))) | (refine And.intro ?ob ?_; (case ob => (exact oZ))) | exact True.intro | (show _ = _; first | exact oY | exact rfl) | exact oW | (apply And.intro)))
    refine ⟨Nat, fun n => [(1, .ptr 0 0), (2, .ptr 1 0), (3, .int .i64 (hv w)), (4, .int .i64 (hv hh)), (5, .sl 2 1 0 i), (6, .int .i64 (i : Int)), (7, .int .i64 Kk), (8, .int .i64 X), (9, .int .i64 Y), (10, .int .i64 (sum4 w hh c p X Y Kk n)), (11, .int .i64 (n : Int))],
      fun n => ⟨3, [(0, some (.cells 24 [.int .i64 w, .int .i64 hh, .int .i64 c, .roi .u8 p])), (1, some (.cells 24 [.int .i64 0, .int .i64 0, .int .i64 0, .nils])), (2, some (.ints 5 .u8 (mapL (hg w hh c p) i)))]⟩,
      fun n => n ≤ 4, fun n => 4 - n, ⟨0, [some 0, some 1, some 2], Nat.zero_le _, ?_⟩, fun n hn => ?_⟩
    · (repeat' (first | (refine xI (fun hfk => ?_) (fun hfk => ?_) <;> ((try (first | replace hfk := oT hfk | replace hfk := oF hfk | simp only [oD, ne_eq, reduceCtorEq] at hfk)); (try exact oX))) | (refine And.intro ?ob ?_; (case ob => (exact oZ))) | exact True.intro | (show _ = _; first | exact oY | ((first | exact hX | exact hY | exact hK); done) | exact rfl) | exact oW | (apply And.intro)))
    have hn : n ≤ 4 := hn
    have sb := hat.sum_bd hn
    by_cases h4 : n < 4
    · have m : Int.tmod (n : Int) 2 = ((n % 2 : Nat) : Int) := rfl
      have d : Int.tdiv (n : Int) 2 = ((n / 2 : Nat) : Int) := rfl
      have hin := hat.inI h4
      have hbd := pl_bd hf hin
      have hpl : rplI w hh c p.length (min (2 * X + Int.tmod (n : Int) 2) (w - 1)) (min (2 * Y + Int.tdiv (n : Int) 2) (hh - 1)) Kk = (row4 hh Y n * w + col4 w X n) * c + Kk := by
        have e : (imCheck w hh c p.length = 0 ∧ Go.Proofs.Ytdiflkabpjnncaa.inI w hh c (min (2 * X + Int.tmod (n : Int) 2) (w - 1)) (min (2 * Y + Int.tdiv (n : Int) 2) (hh - 1)) Kk = true) := ⟨hk, hin⟩
        exact if_pos e
      have hb3 : 0 ≤ (row4 hh Y n * w + col4 w X n) * c + Kk ∧ (row4 hh Y n * w + col4 w X n) * c + Kk < (p.length : Int) := by
        unfold plI at hbd
        omega
      have px : p.getD (rplI w hh c p.length (min (2 * X + Int.tmod (n : Int) 2) (w - 1)) (min (2 * Y + Int.tdiv (n : Int) 2) (hh - 1)) Kk).toNat 0 = px4 w hh c p X Y Kk n := by rw [hpl]; rfl
      have pb := hp _ (hat.px h4)
      have pg : 0 ≤ rplI w hh c p.length (min (2 * X + Int.tmod (n : Int) 2) (w - 1)) (min (2 * Y + Int.tdiv (n : Int) 2) (hh - 1)) Kk ∧ rplI w hh c p.length (min (2 * X + Int.tmod (n : Int) 2) (w - 1)) (min (2 * Y + Int.tdiv (n : Int) 2) (hh - 1)) Kk < (p.length : Int) := by rw [hpl]; exact hb3
      have ps : sum4 w hh c p X Y Kk n + p.getD (rplI w hh c p.length (min (2 * X + Int.tmod (n : Int) 2) (w - 1)) (min (2 * Y + Int.tdiv (n : Int) 2) (hh - 1)) Kk).toNat 0 = sum4 w hh c p X Y Kk (n + 1) := by rw [px]; rfl
      rw [← px] at pb
      (repeat' (first | (refine xI (fun hfk => ?_) (fun hfk => ?_) <;> ((try (first | replace hfk := oT hfk | replace hfk := oF hfk | simp only [oD, ne_eq, reduceCtorEq] at hfk)); (try exact oX))) | (refine And.intro ?ob ?_; (case ob => (exact oZ))) | exact True.intro | (show _ = _; first | exact oY | exact rfl) | exact oW | (apply And.intro)))
      (refine ⟨n + 1, [some 0, some 1, some 2], ?_, ?mu, ?_⟩; (case mu => ((try dsimp only); omega)))
      · exact h4
      (repeat' (first | (refine xI (fun hfk => ?_) (fun hfk => ?_) <;> ((try (first | replace hfk := oT hfk | replace hfk := oF hfk | simp only [oD, ne_eq, reduceCtorEq] at hfk)); (try exact oX))) | (refine And.intro ?ob ?_; (case ob => (exact oZ))) | exact True.intro | (show _ = _; first | exact oY | (exact ps; done) | exact rfl) | exact oW | (apply And.intro)))
    · obtain rfl : n = 4 := by omega
      have e : Int.tdiv (sum4 w hh c p X Y Kk 4) 4 = v4 w hh c p X Y Kk := Int.tdiv_eq_ediv_of_nonneg (by omega)
      have vb : 0 ≤ v4 w hh c p X Y Kk ∧ v4 w hh c p X Y Kk ≤ 255 := by unfold v4; omega
      have r : rngI .i64 (Int.tdiv (sum4 w hh c p X Y Kk 4) 4) := by rw [e]; exact rng64 (by omega) (by omega)
      have e2 : IntKind.u8.wrap (Int.tdiv (sum4 w hh c p X Y Kk 4) 4) = v4 w hh c p X Y Kk := by rw [e]; exact w8 (by omega) (by omega)
      have ml : (mapL (hg w hh c p) i).length = i := mapL_len _ _
      obtain ⟨S4, hS4⟩ : ∃ S4, IntKind.u8.wrap (Int.tdiv (sum4 w hh c p X Y Kk 4) 4) = S4 := ⟨_, rfl⟩
      have e3 : mapL (hg w hh c p) i ++ List.take 1 (List.drop 0 [IntKind.u8.wrap (Int.tdiv (sum4 w hh c p X Y Kk 4) 4)]) = mapL (hg w hh c p) (i + 1) := by
        rw [e2, hv4, mapL_succ]; rfl
      (repeat' (first | (refine xI (fun hfk => ?_) (fun hfk => ?_) <;> ((try (first | replace hfk := oT hfk | replace hfk := oF hfk | simp only [oD, ne_eq, reduceCtorEq] at hfk)); (try exact oX))) | (refine And.intro ?ob ?_; (case ob => (exact oZ))) | exact True.intro | (show _ = _; first | exact oY | exact rfl) | exact oW | (apply And.intro)))
      (refine ⟨i + 1, [some 0, some 1, some 4], ?_, ?mu, ?_⟩; (case mu => ((try dsimp only); omega)))
      · exact hlt
      (repeat' (first | (refine xI (fun hfk => ?_) (fun hfk => ?_) <;> ((try (first | replace hfk := oT hfk | replace hfk := oF hfk | simp only [oD, ne_eq, reduceCtorEq] at hfk)); (try exact oX))) | (refine And.intro ?ob ?_; (case ob => (exact oZ))) | exact True.intro | (show _ = _; first | exact oY | ((first | exact e3 | exact ml); done) | exact rfl) | exact oW | (apply And.intro)))
  · obtain rfl : i = N := by omega
    (repeat' (first | (refine xI (fun hfk => ?_) (fun hfk => ?_) <;> ((try (first | replace hfk := oT hfk | replace hfk := oF hfk | simp only [oD, ne_eq, reduceCtorEq] at hfk)); (try exact oX))) | (refine And.intro ?ob ?_; (case ob => (exact oZ))) | exact True.intro | (show _ = _; first | exact oY | exact rfl) | exact oW | (apply And.intro)))
    refine ⟨[2], ⟨by kernel_rfl⟩, ?_⟩
    have ml : (mapL (hg w hh c p) i).length = i := mapL_len _ _
    have e3 : List.take i (List.drop 0 (mapL (hg w hh c p) i)) = halfP w hh c p := by
      have : List.take (mapL (hg w hh c p) i).length (mapL (hg w hh c p) i) = mapL (hg w hh c p) i := List.take_length
      rw [ml] at this
      rw [List.drop_zero, this]
      unfold halfP hN
      rw [hNe]
    (repeat' (first | (refine xI (fun hfk => ?_) (fun hfk => ?_) <;> ((try (first | replace hfk := oT hfk | replace hfk := oF hfk | simp only [oD, ne_eq, reduceCtorEq] at hfk)); (try exact oX))) | (refine And.intro ?ob ?_; (case ob => (exact oZ))) | exact True.intro | (show _ = _; first | exact oY | (exact e3; done) | exact rfl) | exact oW | (apply And.intro)))
end Go.Proofs.Ytdiflkabpjnncaa

