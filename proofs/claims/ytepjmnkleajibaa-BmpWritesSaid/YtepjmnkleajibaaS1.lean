/- Texts laid together. No condition. -/
import Derived.Test.YtepjmnkleajibaaU
import Derived.Test.YtepjmnkleajibaaE20
import Derived.WalkKit
import Derived.Test.YtepjmnkleajibaaA
import Derived.Test.YtepjmnkleajibaaE18
import Derived.Shelf.Abstract
import Derived.OwnWalkIn
import Derived.TacticsInMore
import Derived.LoopNIn
import Derived.LoopIn
import Derived.Test.YtepjmnkleajibaaE21
/- Digits of base 32768, the lowest one first: plainly. No condition. -/
namespace Go.Proofs.Ytepjmnkleajibaa
set_option linter.unusedVariables false
set_option linter.unusedSimpArgs false

structure Dg (d : Int) : Prop where
  lo : 0 ≤ d
  hi : d < 32768
def Dig (l : List Int) : Prop := ∀ d ∈ l, Dg d
theorem Dig.nil : Dig [] := fun d h => by cases h
theorem Dig.cons {d : Int} {l : List Int} (h : Dg d) (k : Dig l) : Dig (d :: l) := fun x hx => by
  rcases List.mem_cons.1 hx with rfl | hx
  · exact h
  · exact k x hx
theorem Dig.head {d : Int} {l : List Int} (h : Dig (d :: l)) : Dg d := h d List.mem_cons_self
theorem Dig.take {l : List Int} (h : Dig l) (n : Nat) : Dig (l.take n) := fun x hx => h x (List.mem_of_mem_take hx)
theorem Dig.drop {l : List Int} (h : Dig l) (n : Nat) : Dig (l.drop n) := fun x hx => h x (List.mem_of_mem_drop hx)
end Go.Proofs.Ytepjmnkleajibaa

/- Whole numbers of any length: their product. No condition. -/
namespace Go.Proofs.Ytepjmnkleajibaa
open Go Go.RowKit
set_option linter.unusedVariables false
set_option linter.unusedSimpArgs false
set_option maxRecDepth 100000
set_option maxHeartbeats 4000000

theorem Dig.set {o : List Int} (h : Dig o) (p : Nat) {v : Int} (hv : Dg v) : Dig (o.set p v) := fun x hx => (List.mem_or_eq_of_mem_set hx).elim (h x) fun e => e ▸ hv
end Go.Proofs.Ytepjmnkleajibaa

/- Rectangles, plainly: no program in sight. -/
namespace Go.Proofs.Ytepjmnkleajibaa
set_option linter.unusedVariables false
set_option linter.unusedSimpArgs false

structure R4 where
  x0 : Int
  y0 : Int
  x1 : Int
  y1 : Int

def R4.zero : R4 := ⟨0, 0, 0, 0⟩
@[simp] theorem zero_x0 : R4.zero.x0 = 0 := rfl
@[simp] theorem zero_y0 : R4.zero.y0 = 0 := rfl
@[simp] theorem zero_x1 : R4.zero.x1 = 0 := rfl
@[simp] theorem zero_y1 : R4.zero.y1 = 0 := rfl
def inB (x : Int) : Bool := decide (-2147483648 ≤ x) && decide (x ≤ 2147483648)
def R4.right (r : R4) : Bool := inB r.x0 && inB r.y0 && inB r.x1 && inB r.y1
def R4.empty (r : R4) : Bool := !r.right || decide (r.x1 ≤ r.x0) || decide (r.y1 ≤ r.y0)
def R4.has (r : R4) (x y : Int) : Bool := !r.empty && decide (r.x0 ≤ x) && decide (x < r.x1) && decide (r.y0 ≤ y) && decide (y < r.y1)
def beq8 (a0 a1 a2 a3 b0 b1 b2 b3 : Int) : Bool := a0 == b0 && a1 == b1 && a2 == b2 && a3 == b3
def R4.beq (a b : R4) : Bool := beq8 a.x0 a.y0 a.x1 a.y1 b.x0 b.y0 b.x1 b.y1
theorem R4.ext' {a b : R4} (h0 : a.x0 = b.x0) (h1 : a.y0 = b.y0) (h2 : a.x1 = b.x1) (h3 : a.y1 = b.y1) : a = b := by
  cases a; cases b; simp_all
theorem R4.beq_self (r : R4) : r.beq r = true := by simp [R4.beq, beq8]
theorem R4.beq_iff (a b : R4) : a.beq b = true ↔ a = b := by
  constructor
  · intro h
    simp [R4.beq, beq8] at h
    exact R4.ext' h.1.1.1 h.1.1.2 h.1.2 h.2
  · rintro rfl; exact a.beq_self
end Go.Proofs.Ytepjmnkleajibaa

/- The laws' own words of the layer grid. No condition. -/
namespace Go.Proofs.Ytepjmnkleajibaa
open Go Go.RowKit
set_option linter.unusedVariables false
set_option linter.unusedSimpArgs false
set_option maxRecDepth 100000

/-- A function of no argument. -/
def sN (v : AV) : PSpec := fun l => match l with | [] => some ([], v) | _ => none
theorem sN_inv {w : AV} {l : List AV} {obs : List Prop} {v : AV} (h : sN w l = some (obs, v)) : l = [] ∧ v = w := by
  unfold sN at h
  split at h
  · simp only [Option.some.injEq, Prod.mk.injEq] at h; exact ⟨rfl, h.2.symm⟩
  · cases h
end Go.Proofs.Ytepjmnkleajibaa

/- Images: what the functions of the layer img and of the document's chapter 7 answer. No condition. -/
namespace Go.Proofs.Ytepjmnkleajibaa
open Go Go.RowKit
set_option linter.unusedVariables false
set_option linter.unusedSimpArgs false
set_option maxRecDepth 100000

/-! ### Plain -/
def fitsI (w h c : Int) : Int := if c ≠ 1 ∧ c ≠ 3 ∧ c ≠ 4 then 10 else if 32768 < w ∨ 32768 < h ∨ (0 < w ∧ 0 < h ∧ 4194304 < w * h) then 30 else if w < 1 ∨ h < 1 then 12 else 0
def imCheck (w h c n : Int) : Int := if fitsI w h c ≠ 0 then fitsI w h c else if n ≠ w * h * c then 12 else 0
theorem fits_inv {w h c : Int} (hf : fitsI w h c = 0) : (c = 1 ∨ c = 3 ∨ c = 4) ∧ 1 ≤ w ∧ w ≤ 32768 ∧ 1 ≤ h ∧ h ≤ 32768 ∧ w * h ≤ 4194304 ∧ 0 ≤ w * h ∧ 0 ≤ w * h * c ∧ w * h * c ≤ 16777216 := by
  unfold fitsI at hf
  split at hf
  · cases hf
  · split at hf
    · cases hf
    · split at hf
      · cases hf
      · rename_i h1 h2 h3
        have h4 : 0 ≤ w * h := Int.mul_nonneg (by omega) (by omega)
        have h5 : 0 ≤ w * h * c := Int.mul_nonneg h4 (by omega)
        have h6 : w * h ≤ 4194304 := by omega
        have h7 : w * h * c ≤ 4194304 * 4 := Int.mul_le_mul h6 (by omega) (by omega) (by omega)
        omega
theorem check_inv {w h c n : Int} (hf : imCheck w h c n = 0) : fitsI w h c = 0 ∧ n = w * h * c := by
  unfold imCheck at hf
  split at hf
  · rename_i h1; exact absurd hf h1
  · rename_i h1
    split at hf
    · cases hf
    · rename_i h2; exact ⟨by omega, by omega⟩
/-! ### Answers -/
def sIII (f : Int → Int → Int → AV) : PSpec := fun l => match l with | [.int .i64 a, .int .i64 b, .int .i64 c] => some ([], f a b c) | _ => none
theorem sIII_inv {f : Int → Int → Int → AV} {l : List AV} {obs : List Prop} {v : AV} (h : sIII f l = some (obs, v)) : ∃ a b c, l = [.int .i64 a, .int .i64 b, .int .i64 c] ∧ v = f a b c := by
  unfold sIII at h
  split at h
  · simp only [Option.some.injEq, Prod.mk.injEq] at h; exact ⟨_, _, _, rfl, h.2.symm⟩
  · cases h
/-- An image as a value, its bytes read. -/
abbrev imA (w h c : Int) (l : List Int) : AV := .agg [.int .i64 w, .int .i64 h, .int .i64 c, .roi .u8 l]
def sM (ob : Int → Int → Int → List Int → List Prop) (f : Int → Int → Int → List Int → AV) : PSpec := fun l => match l with | [.agg [.int .i64 w, .int .i64 h, .int .i64 c, .roi .u8 p]] => some (ob w h c p, f w h c p) | _ => none
theorem sM_inv {ob : Int → Int → Int → List Int → List Prop} {f : Int → Int → Int → List Int → AV} {l : List AV} {obs : List Prop} {v : AV} (h : sM ob f l = some (obs, v)) : ∃ w hh c p, l = [imA w hh c p] ∧ obs = ob w hh c p ∧ v = f w hh c p := by
  unfold sM at h
  split at h
  · simp only [Option.some.injEq, Prod.mk.injEq] at h; exact ⟨_, _, _, _, rfl, h.1.symm, h.2.symm⟩
  · cases h
def sMI (ob : Int → Int → Int → List Int → Int → List Prop) (f : Int → Int → Int → List Int → Int → AV) : PSpec := fun l => match l with | [.agg [.int .i64 w, .int .i64 h, .int .i64 c, .roi .u8 p], .int .i64 x] => some (ob w h c p x, f w h c p x) | _ => none
theorem sMI_inv {ob : Int → Int → Int → List Int → Int → List Prop} {f : Int → Int → Int → List Int → Int → AV} {l : List AV} {obs : List Prop} {v : AV} (h : sMI ob f l = some (obs, v)) : ∃ w hh c p x, l = [imA w hh c p, .int .i64 x] ∧ obs = ob w hh c p x ∧ v = f w hh c p x := by
  unfold sMI at h
  split at h
  · simp only [Option.some.injEq, Prod.mk.injEq] at h; exact ⟨_, _, _, _, _, rfl, h.1.symm, h.2.symm⟩
  · cases h
theorem wh_rng {w h : Int} (h1 : decide (32768 < w) = false) (h2 : decide (32768 < h) = false) (h3 : decide (0 < w) = true) (h4 : decide (0 < h) = true) : rngI .i64 (w * h) := by
  replace h1 := of_decide_eq_false h1
  replace h2 := of_decide_eq_false h2
  replace h3 := of_decide_eq_true h3
  replace h4 := of_decide_eq_true h4
  have h5 : 0 ≤ w * h := Int.mul_nonneg (by omega) (by omega)
  have h6 : w * h ≤ 32768 * 32768 := Int.mul_le_mul (by omega) (by omega) (by omega) (by omega)
  exact rng64 (by omega) (by omega)
theorem fits_s : SOK Try.prog 148 (sIII fun w h c => .int .i64 (fitsI w h c)) := by
  refine sok_of (C := mkC 0 [] noG) (mkC_ok pok_nil noG_ok) rfl mixed ⟨Try.func148, by kernel_rfl, by kernel_rfl, by kernel_rfl⟩ fun l obs v h _ => ?_
  obtain ⟨w, hh, c, rfl, rfl⟩ := sIII_inv h
  clear h
  refine ⟨Nat.le_of_ble_eq_true rfl, ?_⟩
  (repeat' (first | apply And.intro | intro h)); (all_goals (try exact Chk.mk (by kernel_rfl)))
  all_goals first | exact wh_rng (by assumption) (by assumption) (by assumption) (by assumption) | (show _ = fitsI _ _ _; simp only [decide_eq_true_eq, decide_eq_false_iff_not, Bool.not_eq_true', Bool.not_eq_false', Bool.and_eq_true, Bool.or_eq_true, Bool.and_eq_false_iff, Bool.or_eq_false_iff, Int.not_lt, Int.not_le, ne_eq, Classical.not_not] at *; unfold fitsI; (repeat' split) <;> first | rfl | omega)
theorem rfits_s : SOK Try.prog 28 (sIII fun w h c => .int .i64 (fitsI w h c)) := by
  refine sok_of (C := mkC 0 [] noG) (mkC_ok pok_nil noG_ok) rfl mixed ⟨Try.func28, by kernel_rfl, by kernel_rfl, by kernel_rfl⟩ fun l obs v h _ => ?_
  obtain ⟨w, hh, c, rfl, rfl⟩ := sIII_inv h
  clear h
  refine ⟨Nat.le_of_ble_eq_true rfl, ?_⟩
  (repeat' (first | apply And.intro | intro h)); (all_goals (try exact Chk.mk (by kernel_rfl)))
  all_goals first | exact wh_rng (by assumption) (by assumption) (by assumption) (by assumption) | (show _ = fitsI _ _ _; simp only [decide_eq_true_eq, decide_eq_false_iff_not, Bool.not_eq_true', Bool.not_eq_false', Bool.and_eq_true, Bool.or_eq_true, Bool.and_eq_false_iff, Bool.or_eq_false_iff, Int.not_lt, Int.not_le, ne_eq, Classical.not_not] at *; unfold fitsI; (repeat' split) <;> first | rfl | omega)
abbrev fitsS : PSpec := sIII fun w h c => .int .i64 (fitsI w h c)
abbrev checkS : PSpec := sM (fun _ _ _ _ => []) fun w h c p => .int .i64 (imCheck w h c p.length)
theorem whc_rng {w h c : Int} (hf : fitsI w h c = 0) : rngI .i64 (w * h) ∧ rngI .i64 (w * h * c) := by
  have hb := fits_inv hf
  exact ⟨rng64 (by omega) (by omega), rng64 (by omega) (by omega)⟩
theorem check_s : SOK Try.prog 92 checkS := by
  refine sok_of (C := mkC 0 [(148, fitsS)] noG) (mkC_ok (pok_cons fits_s pok_nil) noG_ok) rfl mixed ⟨Try.func92, by kernel_rfl, by kernel_rfl, by kernel_rfl⟩ fun l obs v h _ => ?_
  obtain ⟨w, hh, c, p, rfl, rfl, rfl⟩ := sM_inv h
  clear h
  refine ⟨Nat.le_of_ble_eq_true rfl, ?_⟩
  refine ⟨fun h1 => ?_, fun h1 => ?_⟩
  · have h1 : ¬ fitsI w hh c = 0 := of_decide_eq_true h1
    have e : imCheck w hh c p.length = fitsI w hh c := if_pos h1
    rw [e]
    (repeat' (first | apply And.intro | intro h)); (all_goals (try exact Chk.mk (by kernel_rfl)))
    (all_goals (try first | exact True.intro | exact rfl | exact And.intro rfl rfl | exact And.intro rfl (fun _ _ => rfl)))
  · have h1 : fitsI w hh c = 0 := by simpa using h1
    have hr := whc_rng h1
    refine ⟨hr.1, hr.2, fun h2 => ?_, fun h2 => ?_⟩
    · have e : imCheck w hh c p.length = 12 := by unfold imCheck; rw [if_neg (by omega), if_pos (of_decide_eq_true h2)]
      rw [e]
      (repeat' (first | apply And.intro | intro h)); (all_goals (try exact Chk.mk (by kernel_rfl)))
      (all_goals (try first | exact True.intro | exact rfl | exact And.intro rfl rfl | exact And.intro rfl (fun _ _ => rfl)))
    · have e : imCheck w hh c p.length = 0 := by unfold imCheck; rw [if_neg (by omega), if_neg (of_decide_eq_false h2)]
      rw [e]
      (repeat' (first | apply And.intro | intro h)); (all_goals (try exact Chk.mk (by kernel_rfl)))
      (all_goals (try first | exact True.intro | exact rfl | exact And.intro rfl rfl | exact And.intro rfl (fun _ _ => rfl)))
theorem rcheck7_s : SOK Try.prog 37 checkS := by
  refine sok_of (C := mkC 0 [(28, fitsS)] noG) (mkC_ok (pok_cons rfits_s pok_nil) noG_ok) rfl mixed ⟨Try.func37, by kernel_rfl, by kernel_rfl, by kernel_rfl⟩ fun l obs v h _ => ?_
  obtain ⟨w, hh, c, p, rfl, rfl, rfl⟩ := sM_inv h
  clear h
  refine ⟨Nat.le_of_ble_eq_true rfl, ?_⟩
  refine ⟨fun h1 => ?_, fun h1 => ?_⟩
  · have h1 : fitsI w hh c = 0 := of_decide_eq_true h1
    have hr := whc_rng h1
    refine ⟨hr.1, hr.2, fun h2 => ?_, fun h2 => ?_⟩
    · have e : imCheck w hh c p.length = 12 := by unfold imCheck; rw [if_neg (by omega), if_pos (of_decide_eq_true h2)]
      rw [e]
      (repeat' (first | apply And.intro | intro h)); (all_goals (try exact Chk.mk (by kernel_rfl)))
      (all_goals (try first | exact True.intro | exact rfl | exact And.intro rfl rfl | exact And.intro rfl (fun _ _ => rfl)))
    · have e : imCheck w hh c p.length = fitsI w hh c := by unfold imCheck; rw [if_neg (by omega), if_neg (of_decide_eq_false h2), h1]
      rw [e]
      (repeat' (first | apply And.intro | intro h)); (all_goals (try exact Chk.mk (by kernel_rfl)))
      (all_goals (try first | exact True.intro | exact rfl | exact And.intro rfl rfl | exact And.intro rfl (fun _ _ => rfl)))
  · have h1 : ¬ fitsI w hh c = 0 := of_decide_eq_false h1
    have e : imCheck w hh c p.length = fitsI w hh c := if_pos h1
    rw [e]
    (repeat' (first | apply And.intro | intro h)); (all_goals (try exact Chk.mk (by kernel_rfl)))
    (all_goals (try first | exact True.intro | exact rfl | exact And.intro rfl rfl | exact And.intro rfl (fun _ _ => rfl)))
abbrev fewS : PSpec := sMI (fun _ _ _ _ _ => []) fun w h c p x => .bool (decide ((p.length : Int) ≤ x))
theorem few_s : SOK Try.prog 24 fewS := by
  refine sok_of (C := mkC 0 [] noG) (mkC_ok pok_nil noG_ok) rfl mixed ⟨Try.func24, by kernel_rfl, by kernel_rfl, by kernel_rfl⟩ fun l obs v h _ => ?_
  obtain ⟨w, hh, c, p, x, rfl, rfl, rfl⟩ := sMI_inv h
  clear h
  refine ⟨Nat.le_of_ble_eq_true rfl, ?_⟩
  (repeat' (first | apply And.intro | intro h)); (all_goals (try exact Chk.mk (by kernel_rfl)))
  (all_goals (try first | exact True.intro | exact rfl | exact And.intro rfl rfl | exact And.intro rfl (fun _ _ => rfl)))
theorem row_bd {w h c y : Int} (hf : fitsI w h c = 0) (h0 : 0 ≤ y) (h1 : y < h) : 0 ≤ w * c ∧ 0 ≤ y * (w * c) ∧ y * (w * c) + w * c ≤ w * h * c ∧ w * h * c ≤ 16777216 := by
  have hb := fits_inv hf
  have h2 : 0 ≤ w * c := Int.mul_nonneg (by omega) (by omega)
  have h3 : 0 ≤ y * (w * c) := Int.mul_nonneg h0 h2
  have h4 : (y + 1) * (w * c) ≤ h * (w * c) := Int.mul_le_mul_of_nonneg_right (by omega) h2
  rw [Int.add_mul, Int.one_mul, ← Int.mul_assoc, ← Int.mul_assoc h, Int.mul_comm h w] at h4
  rw [← Int.mul_assoc] at h3 ⊢
  omega
end Go.Proofs.Ytepjmnkleajibaa

/- Clones and rows of owned images: memory of their own. No condition. -/
namespace Go.Proofs.Ytepjmnkleajibaa
open Go Go.RowKit
set_option linter.unusedVariables false
set_option linter.unusedSimpArgs false
set_option maxRecDepth 100000

def cloneF : FSpec := fun l es => match l, es with
  | [.roi .u8 p], [] => some ([p.length ≤ 140737488355328], .sl 0 1 0 p.length, [some (.ints 5 .u8 p)])
  | [.sl 0 1 o n], [.ints 5 .u8 p] => some ([o + n ≤ p.length, n ≤ 140737488355328], .sl 1 1 0 n, [some (.ints 5 .u8 p), some (.ints 5 .u8 ((p.drop o).take n))])
  | _, _ => none
theorem clone_g : GSOK Try.prog 78 (fG cloneF) := by
  refine fok (S := []) (G := noG) pok_nil noG_ok ⟨Try.func78, by kernel_rfl, by kernel_rfl, by kernel_rfl⟩ fun l es obs v es' h ho => ?_
  unfold cloneF at h
  split at h
  · rename_i p
    simp only [Option.some.injEq, Prod.mk.injEq] at h
    obtain ⟨rfl, rfl, rfl⟩ := h
    have hl : p.length ≤ 140737488355328 := ho _ (by simp)
    clear ho
    refine ⟨Nat.le_of_ble_eq_true rfl, ?_⟩
    refine fun b hb => ⟨fun h1 => ?_, fun h1 => ?_⟩
    · rw [hb h1]
      refine ⟨[none], ?_⟩
      (repeat' (first | apply And.intro | intro h)); (all_goals (try exact Chk.mk (by kernel_rfl)))
      (all_goals (try first | assumption | exact rfl | exact True.intro | contradiction | (exfalso; simp only [decide_eq_true_eq, decide_eq_false_iff_not, Bool.not_eq_true', Bool.not_eq_false', Bool.and_eq_true, Bool.or_eq_true, Bool.and_eq_false_iff, Bool.or_eq_false_iff, Int.not_lt, Int.not_le, ne_eq, Classical.not_not] at *; omega)))
    · (repeat' (first | apply And.intro | intro h)); (all_goals (try exact Chk.mk (by kernel_rfl)))
      (all_goals (try first | assumption | exact rfl | exact True.intro | contradiction | (exfalso; simp only [decide_eq_true_eq, decide_eq_false_iff_not, Bool.not_eq_true', Bool.not_eq_false', Bool.and_eq_true, Bool.or_eq_true, Bool.and_eq_false_iff, Bool.or_eq_false_iff, Int.not_lt, Int.not_le, ne_eq, Classical.not_not] at *; omega)))
      · show (((0 : Nat) : Int) + (p.length : Int)) * ((1 : Nat) : Int) ≤ 140737488355328; omega
      · show 0 + p.length ≤ 140737488355328; omega
      · refine ⟨[some 1], ?_⟩
        (repeat' (first | apply And.intro | intro h)); (all_goals (try exact Chk.mk (by kernel_rfl)))
        (all_goals (try first | assumption | exact rfl | exact True.intro | contradiction | (exfalso; simp only [decide_eq_true_eq, decide_eq_false_iff_not, Bool.not_eq_true', Bool.not_eq_false', Bool.and_eq_true, Bool.or_eq_true, Bool.and_eq_false_iff, Bool.or_eq_false_iff, Int.not_lt, Int.not_le, ne_eq, Classical.not_not] at *; omega)))
        · show 0 + p.length = p.length; omega
  · rename_i o n p
    simp only [Option.some.injEq, Prod.mk.injEq] at h
    obtain ⟨rfl, rfl, rfl⟩ := h
    have hl : o + n ≤ p.length := ho _ (by simp)
    have hl2 : n ≤ 140737488355328 := ho _ (by simp)
    clear ho
    refine ⟨Nat.le_of_ble_eq_true rfl, ?_⟩
    refine fun b hb => ⟨fun h1 => ?_, fun h1 => ?_⟩
    · have hn := hb h1
      subst hn
      refine ⟨[some 0, none], ?_⟩
      (repeat' (first | apply And.intro | intro h)); (all_goals (try exact Chk.mk (by kernel_rfl)))
      (all_goals (try first | assumption | exact rfl | exact True.intro | contradiction | (exfalso; simp only [decide_eq_true_eq, decide_eq_false_iff_not, Bool.not_eq_true', Bool.not_eq_false', Bool.and_eq_true, Bool.or_eq_true, Bool.and_eq_false_iff, Bool.or_eq_false_iff, Int.not_lt, Int.not_le, ne_eq, Classical.not_not] at *; omega)))
    · have e : (List.take n (List.drop o p)).length = n := by simp; omega
      (repeat' (first | apply And.intro | intro h)); (all_goals (try exact Chk.mk (by kernel_rfl)))
      (all_goals (try first | assumption | exact rfl | exact True.intro | contradiction | (exfalso; simp only [decide_eq_true_eq, decide_eq_false_iff_not, Bool.not_eq_true', Bool.not_eq_false', Bool.and_eq_true, Bool.or_eq_true, Bool.and_eq_false_iff, Bool.or_eq_false_iff, Int.not_lt, Int.not_le, ne_eq, Classical.not_not] at *; omega)))
      · show (((0 : Nat) : Int) + ((List.take n (List.drop o p)).length : Int)) * ((1 : Nat) : Int) ≤ 140737488355328; omega
      · show 0 + (List.take n (List.drop o p)).length ≤ 140737488355328; omega
      · refine ⟨[some 0, some 2], ?_⟩
        (repeat' (first | apply And.intro | intro h)); (all_goals (try exact Chk.mk (by kernel_rfl)))
        (all_goals (try first | assumption | exact rfl | exact True.intro | contradiction | (exfalso; simp only [decide_eq_true_eq, decide_eq_false_iff_not, Bool.not_eq_true', Bool.not_eq_false', Bool.and_eq_true, Bool.or_eq_true, Bool.and_eq_false_iff, Bool.or_eq_false_iff, Int.not_lt, Int.not_le, ne_eq, Classical.not_not] at *; omega)))
        · show 0 + (List.take n (List.drop o p)).length = n; omega
  · cases h
end Go.Proofs.Ytepjmnkleajibaa

/- The document's pieces of bytes: Take, One, Low. No condition. -/
namespace Go.Proofs.Ytepjmnkleajibaa
open Go Go.RowKit
set_option linter.unusedVariables false
set_option linter.unusedSimpArgs false
set_option maxRecDepth 100000
set_option maxHeartbeats 4000000

/-- A number's bytes, the lowest first. -/
def lowV : List Int → Int
  | [] => 0
  | d :: l => d + 256 * lowV l
theorem u32_id {n : Int} (h0 : 0 ≤ n) (h1 : n < 4294967296) : IntKind.u32.wrap n = n :=
  wrap_rng ⟨by show (0 : Int) ≤ _; exact h0, by show _ ≤ (4294967295 : Int); omega⟩
end Go.Proofs.Ytepjmnkleajibaa

/- The layer cut: its calls on memory of their own. No condition. -/
namespace Go.Proofs.Ytepjmnkleajibaa
open Go Go.RowKit
set_option linter.unusedVariables false
set_option linter.unusedSimpArgs false
set_option maxRecDepth 100000

abbrev bE (b : List Int) : Ent := .ints 5 .u8 b
end Go.Proofs.Ytepjmnkleajibaa

/- The layer cut: blanks and remarks; bytes held against bytes; the law's own words. No condition. -/
namespace Go.Proofs.Ytepjmnkleajibaa
open Go Go.RowKit
set_option linter.unusedVariables false
set_option linter.unusedSimpArgs false
set_option maxRecDepth 100000

theorem u8_inj {a b : List Int} (ha : Bytes a) (hb : Bytes b) : (a.map (fun n => UInt8.ofNat n.toNat) = b.map (fun n => UInt8.ofNat n.toNat)) ↔ a = b := by
  refine ⟨fun h => ?_, fun h => by rw [h]⟩
  have hl : a.length = b.length := by have := congrArg List.length h; simpa using this
  refine List.ext_getElem? fun j => ?_
  by_cases hj : j < a.length
  rotate_left
  · rw [List.getElem?_eq_none (by omega), List.getElem?_eq_none (by omega)]
  have h1 := congrArg (fun l => l[j]?) h
  have hjb : j < b.length := by omega
  simp only [List.getElem?_map, List.getElem?_eq_getElem hj, List.getElem?_eq_getElem hjb, Option.map_some, Option.some.injEq] at h1
  have h2 := congrArg UInt8.toNat h1
  have ra := ha _ (List.getElem_mem hj)
  have rb := hb _ (List.getElem_mem hjb)
  simp only [UInt8.toNat_ofNat'] at h2
  rw [List.getElem?_eq_getElem hj, List.getElem?_eq_getElem hjb, Option.some.injEq]
  omega
abbrev same14S : PSpec := fun l => match l with | [.roi .u8 a, .roi .u8 b] => some ([Bytes a, Bytes b], .bool (decide (a = b))) | [.roi .u8 a, .nils] => some ([Bytes a], .bool (decide (a = []))) | [.nils, .roi .u8 b] => some ([Bytes b], .bool (decide ([] = b))) | [.nils, .nils] => some ([], .bool true) | _ => none
theorem same14_s : SOK Try.prog 20 same14S := by
  refine sok_of (C := mkC 0 [] noG) (mkC_ok pok_nil noG_ok) rfl mixed ⟨Try.func20, by kernel_rfl, by kernel_rfl, by kernel_rfl⟩ fun l obs v h ho => ?_
  unfold same14S at h
  split at h
  · rename_i a b
    simp only [Option.some.injEq, Prod.mk.injEq] at h
    obtain ⟨rfl, rfl⟩ := h
    simp only [List.mem_cons, List.not_mem_nil, or_false, forall_eq_or_imp, forall_eq] at ho
    refine ⟨Nat.le_of_ble_eq_true rfl, ?_⟩
    have e : decide (a.map (fun n => UInt8.ofNat n.toNat) = b.map (fun n => UInt8.ofNat n.toNat)) = decide (a = b) := decide_eq_decide.2 (u8_inj ho.1 ho.2)
    (repeat' (first | (refine And.intro (fun (hfk : _ = true) => ?_) (fun (hfk : _ = false) => ?_) <;> ((try (first | replace hfk := of_decide_eq_true hfk | replace hfk := of_decide_eq_false hfk | simp only [decide_eq_true_eq, decide_eq_false_iff_not, dh1, dh0, ne_eq, reduceCtorEq] at hfk)); (try (exfalso; first | omega | contradiction | exact Bool.noConfusion (Eq.trans (Eq.symm hfk) (by with_reducible assumption : _ = false)) | exact Bool.noConfusion (Eq.trans (Eq.symm hfk) (by with_reducible assumption : _ = true)))))) | (refine And.intro ?ob ?_; (case ob => (first | exact Chk.mk (by kernel_rfl) | exact True.intro | with_reducible assumption | exact rng64 (by omega) (by omega) | omega | (dsimp only; omega) | (show (_ : Nat) ≤ _; omega) | (simp only [ll1, ll2, ll0]; done) | (simp only [ll1, ll2, ll0]; omega) | (dsimp only; simp only [ll1, ll2, ll0]; omega)))) | exact True.intro | (show _ = _; first | with_reducible rfl | with_reducible assumption | omega | (simp only [ll1, ll2, ll0]; omega) | ((rw [e]); done) | exact rfl) | with_reducible assumption | (apply And.intro) | omega | (intro j hj; exact rfl) | fail))
  · rename_i a
    simp only [Option.some.injEq, Prod.mk.injEq] at h
    obtain ⟨rfl, rfl⟩ := h
    refine ⟨Nat.le_of_ble_eq_true rfl, ?_⟩
    have e : decide (a.map (fun n => UInt8.ofNat n.toNat) = []) = decide (a = []) := decide_eq_decide.2 (by simp)
    (repeat' (first | (refine And.intro (fun (hfk : _ = true) => ?_) (fun (hfk : _ = false) => ?_) <;> ((try (first | replace hfk := of_decide_eq_true hfk | replace hfk := of_decide_eq_false hfk | simp only [decide_eq_true_eq, decide_eq_false_iff_not, dh1, dh0, ne_eq, reduceCtorEq] at hfk)); (try (exfalso; first | omega | contradiction | exact Bool.noConfusion (Eq.trans (Eq.symm hfk) (by with_reducible assumption : _ = false)) | exact Bool.noConfusion (Eq.trans (Eq.symm hfk) (by with_reducible assumption : _ = true)))))) | (refine And.intro ?ob ?_; (case ob => (first | exact Chk.mk (by kernel_rfl) | exact True.intro | with_reducible assumption | exact rng64 (by omega) (by omega) | omega | (dsimp only; omega) | (show (_ : Nat) ≤ _; omega) | (simp only [ll1, ll2, ll0]; done) | (simp only [ll1, ll2, ll0]; omega) | (dsimp only; simp only [ll1, ll2, ll0]; omega)))) | exact True.intro | (show _ = _; first | with_reducible rfl | with_reducible assumption | omega | (simp only [ll1, ll2, ll0]; omega) | ((exact e); done) | exact rfl) | with_reducible assumption | (apply And.intro) | omega | (intro j hj; exact rfl) | fail))
  · rename_i b
    simp only [Option.some.injEq, Prod.mk.injEq] at h
    obtain ⟨rfl, rfl⟩ := h
    refine ⟨Nat.le_of_ble_eq_true rfl, ?_⟩
    have e : decide ([] = b.map (fun n => UInt8.ofNat n.toNat)) = decide ([] = b) := decide_eq_decide.2 ⟨fun h => by cases b with | nil => rfl | cons x r => simp at h, fun h => by rw [← h]; rfl⟩
    (repeat' (first | (refine And.intro (fun (hfk : _ = true) => ?_) (fun (hfk : _ = false) => ?_) <;> ((try (first | replace hfk := of_decide_eq_true hfk | replace hfk := of_decide_eq_false hfk | simp only [decide_eq_true_eq, decide_eq_false_iff_not, dh1, dh0, ne_eq, reduceCtorEq] at hfk)); (try (exfalso; first | omega | contradiction | exact Bool.noConfusion (Eq.trans (Eq.symm hfk) (by with_reducible assumption : _ = false)) | exact Bool.noConfusion (Eq.trans (Eq.symm hfk) (by with_reducible assumption : _ = true)))))) | (refine And.intro ?ob ?_; (case ob => (first | exact Chk.mk (by kernel_rfl) | exact True.intro | with_reducible assumption | exact rng64 (by omega) (by omega) | omega | (dsimp only; omega) | (show (_ : Nat) ≤ _; omega) | (simp only [ll1, ll2, ll0]; done) | (simp only [ll1, ll2, ll0]; omega) | (dsimp only; simp only [ll1, ll2, ll0]; omega)))) | exact True.intro | (show _ = _; first | with_reducible rfl | with_reducible assumption | omega | (simp only [ll1, ll2, ll0]; omega) | ((exact e); done) | exact rfl) | with_reducible assumption | (apply And.intro) | omega | (intro j hj; exact rfl) | fail))
  · simp only [Option.some.injEq, Prod.mk.injEq] at h
    obtain ⟨rfl, rfl⟩ := h
    refine ⟨Nat.le_of_ble_eq_true rfl, ?_⟩
    (repeat' (first | (refine And.intro (fun (hfk : _ = true) => ?_) (fun (hfk : _ = false) => ?_) <;> ((try (first | replace hfk := of_decide_eq_true hfk | replace hfk := of_decide_eq_false hfk | simp only [decide_eq_true_eq, decide_eq_false_iff_not, dh1, dh0, ne_eq, reduceCtorEq] at hfk)); (try (exfalso; first | omega | contradiction | exact Bool.noConfusion (Eq.trans (Eq.symm hfk) (by with_reducible assumption : _ = false)) | exact Bool.noConfusion (Eq.trans (Eq.symm hfk) (by with_reducible assumption : _ = true)))))) | (refine And.intro ?ob ?_; (case ob => (first | exact Chk.mk (by kernel_rfl) | exact True.intro | with_reducible assumption | exact rng64 (by omega) (by omega) | omega | (dsimp only; omega) | (show (_ : Nat) ≤ _; omega) | (simp only [ll1, ll2, ll0]; done) | (simp only [ll1, ll2, ll0]; omega) | (dsimp only; simp only [ll1, ll2, ll0]; omega)))) | exact True.intro | (show _ = _; first | with_reducible rfl | with_reducible assumption | omega | (simp only [ll1, ll2, ll0]; omega) | (skip; done) | exact rfl) | with_reducible assumption | (apply And.intro) | omega | (intro j hj; exact rfl) | fail))
  · cases h
end Go.Proofs.Ytepjmnkleajibaa

/- Iterators: pieces of a slice, one behind the other (slices.Chunk). No condition. -/
namespace Go.Proofs.Ytepjmnkleajibaa
open Go Go.RowKit
set_option linter.unusedVariables false
set_option linter.unusedSimpArgs false
attribute [local go_sem] Oper.semAt_some

section
variable {P : Program} {R R' : PN} {w W : World} {F Ob : Nat → Prop} {W0 : World} {H : AH} {O O' : Nat → Prop}
/-- What stands in a captured place, at whatever world. -/
theorem kw_cells {cap : List AV} (h : KWof cap H R R' O' W) {i b : Nat} {t : TypeId} {l : List AV} (hi : H.get i = some (.cells t l)) (hm : i ∈ nmsL cap) (hR : R[i]? = some (some b)) :
    ∀ j x, l[j]? = some x → ∃ v, W.cell? ⟨b, j, none⟩ = some v ∧ v.oneCell' = true ∧ Rep R' W O' x v := by
  obtain ⟨hRR, F', Ob', W0', H', hH, rfl, hs⟩ := h
  have hi' : H'.get i = some (.cells t l) := by
    have key : ∀ l : List Nat, i ∈ l → sameE l H H' → H'.get i = H.get i := by
      intro l
      induction l with
      | nil => intro h; cases h
      | cons a l ih =>
        intro h ⟨k1, k2⟩
        rcases List.mem_cons.1 h with rfl | h
        · exact k1
        · exact ih h k2
    rw [key _ hm hs, hi]
  obtain ⟨b', h1, h2⟩ := hH.ent i _ hi'
  rw [hRR i _ hR] at h1
  cases h1
  obtain ⟨vs, fr, h3, h4, h5, h6⟩ := h2
  intro j x hj
  have hlt : j < vs.length := by rw [← h5]; exact (List.getElem?_eq_some_iff.1 hj).1
  obtain ⟨k1, k2⟩ := h6 j x vs[j] hj (by simp [hlt])
  exact ⟨vs[j], by simp [World.cell?, h3, hlt], k1, k2⟩
/-- A slice of m elements of one cell: what it looks like, and its pieces. -/
def Pieces (R : PN) (W : World) (O : Nat → Prop) (pc : Nat → Nat → AV) (m : Nat) (sv : Value) : Prop :=
  (m = 0 ∧ ∃ A c, sv = .slice A 0 c) ∨ ∃ b off c, sv = .slice (some ⟨b, off, none⟩) m c ∧ m ≤ c ∧ c ≤ maxLen ∧ ∀ lo hi, lo ≤ hi → hi ≤ m → Rep R W O (pc lo (hi - lo)) (.slice (some ⟨b, off + lo, none⟩) (hi - lo) (hi - lo))
theorem pieces_roi {k : IntKind} {l : List Int} {v : Value} (h : Rep R W O (.roi k l) v) : Pieces R W O (fun lo n => .roi k ((l.drop lo).take n)) l.length v := by
  cases h with
  | roinil => exact .inl ⟨rfl, none, 0, rfl⟩
  | roiz _ a c hc => exact .inl ⟨rfl, _, _, rfl⟩
  | roi _ _ b off c hn hc hO hb hcell =>
    refine .inr ⟨b, off, c, rfl, hn, hc, fun lo hi h1 h2 => ?_⟩
    have hl : ((l.drop lo).take (hi - lo)).length = hi - lo := by simp; omega
    have := Rep.roi (R := R) (w := W) (O := O) k ((l.drop lo).take (hi - lo)) b (off + lo) (hi - lo) (by omega) (by omega) hO hb (fun j x hj => by
      have hj1 : j < hi - lo := by have := (List.getElem?_eq_some_iff.1 hj).1; omega
      rw [List.getElem?_take_of_lt hj1, List.getElem?_drop] at hj
      rw [Nat.add_assoc]
      exact hcell _ x hj)
    rw [hl] at this
    exact this
theorem pieces_sl {i o m : Nat} {v : Value} (h : Rep R W O (.sl i 1 o m) v) : Pieces R W O (fun lo n => .sl i 1 (o + lo) n) m v := by
  cases h with
  | slnil _ _ _ h => exact .inl ⟨rfl, none, 0, rfl⟩
  | sl _ _ _ _ b c off s h hn hc ho hs hl =>
    by_cases hm : m = 0
    · subst hm; exact .inl ⟨rfl, _, _, rfl⟩
    · refine .inr ⟨b, off, c, rfl, hn, hc, fun lo hi h1 h2 => ?_⟩
      have := ho (by omega)
      exact .sl i 1 (o + lo) (hi - lo) b (hi - lo) (off + lo) s h (Nat.le_refl _) (by omega) (fun _ => by omega) hs (by omega)
end

set_option maxRecDepth 100000 in
set_option maxHeartbeats 4000000 in
theorem chunk1_in (l b1 b2 m : Nat) (n : Int) (hn : 1 ≤ n) (hm : (m : Int) + n ≤ 9223372036854775807) (pc : Nat → Nat → AV) (J : Nat → PN → (Nat → Prop) → World → Prop) (Jx : World → Prop) (d : Nat)
    (hq : ∀ k R O w w', J k R O w → Ext NoO w w' → J k R O w')
    (hkw : ∀ k R O W, J k R O W → ∃ sv, W.cell? ⟨b1, 0, none⟩ = some sv ∧ Pieces R W O pc m sv ∧ W.cell? ⟨b2, 0, none⟩ = some (.int .i64 n))
    (hY : ∀ k R O W (args : List Value), k * n.toNat < m → J k R O W → CRel R W O [pc (k * n.toNat) (min n.toNat (m - k * n.toNat))] args → YieldAt Fence.wide d Try.prog l args.toArray W fun e W' => (e = .returned (.bool true) ∧ ∃ R' O', J (k + 1) R' O' W') ∨ (e = .returned (.bool false) ∧ Jx W'))
    (W : World) (h0 : ∃ R O, J 0 R O W) :
    CallsIn Fence.wide (d + 1) Try.prog 185 #[.func (.yield l) #[] #[], .pointer (some ⟨b1, 0, none⟩), .pointer (some ⟨b2, 0, none⟩)] W fun e W' => (∃ v, e = .returned v) ∧ ((∃ k R O, m ≤ k * n.toNat ∧ (k = 0 ∨ (k - 1) * n.toNat < m) ∧ J k R O W') ∨ Jx W') := by
  refine callsIn_of_wp Try.func185 rfl trivial ?_ rfl
  simp only [Try.ntmps185, List.size_toArray, List.length_cons, List.length_nil, Nat.reduceAdd, Nat.reduceSub, Array.replicate_succ, Array.replicate_zero, List.push_toArray, List.append_toArray, List.nil_append, List.cons_append]
  obtain ⟨R0, O0, h0⟩ := h0
  gi_wp2
  gi_loopw [4] (fun i wr => ∃ (k : Nat) (R : PN) (O : Nat → Prop), (k = 0 ∨ (k - 1) * n.toNat < m) ∧ i = .int .i64 ((k * n.toNat : Nat) : Int) ∧ J k R O wr)
    (fun i _ => m + n.toNat - (intOf i).toNat)
  case atStart => exact ⟨0, R0, O0, .inl rfl, by simp, h0⟩
  case round =>
    obtain ⟨k, R, O, hk, rfl, hJ⟩ := hrel
    obtain ⟨sv, hc1, hpc, hc2⟩ := hkw k R O wr hJ
    generalize hK : k * n.toNat = K at *
    by_cases hlt : K < m
    · rcases hpc with ⟨rfl, _⟩ | ⟨b, off, c, rfl, hmc, hcm, hpc⟩
      · omega
      have hY' := hY k R O wr.drew
      rw [hK] at hY'
      by_cases hcase : n ≤ ((m - K : Nat) : Int)
      · obtain ⟨fn, tmps, assign, body, hy, hR⟩ := hY' [.slice (some ⟨b, off + K, none⟩) (((K : Int) + n).toNat - K) (((K : Int) + n).toNat - K)] hlt (hq _ _ _ _ _ hJ (Ext.drew _ _)) (by
          have e : min n.toNat (m - K) = ((K : Int) + n).toNat - K := by omega
          rw [e]
          exact crel_cons ((hpc K ((K : Int) + n).toNat (by omega) (by omega)).mono (fun _ _ k => k) (Ext.drew O _) (fun _ _ k => k)) crel_nil)
        gi_wp2
        gi_region
        all_goals gi_wp2
        all_goals first
          | (exfalso; omega)
          | skip
        refine hR.mono ?_
        rintro e W3 (⟨rfl, R', O', hJ3⟩ | ⟨rfl, hJx3⟩)
        · obtain ⟨sv', hc1', _, hc2'⟩ := hkw (k + 1) R' O' W3 hJ3
          gi_wp2
          go_roundw
          case rel =>
            refine ⟨k + 1, R', O', .inr (by rw [Nat.add_sub_cancel, hK]; exact hlt), ?_, hJ3⟩
            rw [Nat.add_mul, hK, Nat.one_mul]
            congr 1
            omega
          case measure => simp [intOf]; omega
        · gi_wp2
          refine ⟨rfl, _, results_none rfl _ _ _, ⟨_, rfl⟩, .inr hJx3⟩
      · obtain ⟨fn, tmps, assign, body, hy, hR⟩ := hY' [.slice (some ⟨b, off + K, none⟩) (m - K) (m - K)] hlt (hq _ _ _ _ _ hJ (Ext.drew _ _)) (by
          have e : min n.toNat (m - K) = m - K := by omega
          rw [e]
          exact crel_cons ((hpc K m (by omega) (by omega)).mono (fun _ _ k => k) (Ext.drew O _) (fun _ _ k => k)) crel_nil)
        gi_wp2
        gi_region
        all_goals gi_wp2
        all_goals first
          | (exfalso; omega)
          | skip
        refine hR.mono ?_
        rintro e W3 (⟨rfl, R', O', hJ3⟩ | ⟨rfl, hJx3⟩)
        · obtain ⟨sv', hc1', _, hc2'⟩ := hkw (k + 1) R' O' W3 hJ3
          gi_wp2
          go_roundw
          case rel =>
            refine ⟨k + 1, R', O', .inr (by rw [Nat.add_sub_cancel, hK]; exact hlt), ?_, hJ3⟩
            rw [Nat.add_mul, hK, Nat.one_mul]
            congr 1
            omega
          case measure => simp [intOf]; omega
        · gi_wp2
          refine ⟨rfl, _, results_none rfl _ _ _, ⟨_, rfl⟩, .inr hJx3⟩
    · rcases hpc with ⟨rfl, A, c, rfl⟩ | ⟨b, off, c, rfl, hmc, hcm, hpc⟩
      · gi_wp2
        exact ⟨rfl, _, results_none rfl _ _ _, ⟨_, rfl⟩, .inl ⟨k, R, O, by omega, by rw [hK] at *; exact hk, hJ⟩⟩
      · gi_wp2
        exact ⟨rfl, _, results_none rfl _ _ _, ⟨_, rfl⟩, .inl ⟨k, R, O, by omega, hk, hJ⟩⟩


theorem ceil_lt {k n m : Nat} (hn : 0 < n) (h : k * n < m) : k < (m + n - 1) / n := by
  have : k + 1 ≤ (m + n - 1) / n := (Nat.le_div_iff_mul_le hn).2 (by rw [Nat.add_mul]; omega)
  omega
theorem ceil_eq {k n m : Nat} (hn : 0 < n) (h1 : m ≤ k * n) (h2 : k = 0 ∨ (k - 1) * n < m) : k = (m + n - 1) / n := by
  have a : ¬ (k < (m + n - 1) / n) := fun h => by
    have := (Nat.le_div_iff_mul_le hn).1 (Nat.succ_le_of_lt h)
    rw [Nat.succ_mul] at this
    omega
  rcases h2 with rfl | h2
  · exact (Nat.eq_zero_of_not_pos a).symm
  · have := ceil_lt hn h2
    omega
theorem take_min (l : List Int) (n : Nat) : l.take (min n l.length) = l.take n := by
  rcases Nat.le_total n l.length with h | h
  · rw [Nat.min_eq_left h]
  · rw [Nat.min_eq_right h, List.take_of_length_le (Nat.le_refl _), List.take_of_length_le h]
def chunkRS : RSpec := fun cap H => match cap with
  | [.ptr i 0, .ptr j 0] => (match H.get i, H.get j with
    | some (.cells _ [.roi k l]), some (.cells _ [.int .i64 n]) => some ([1 ≤ n, (l.length : Int) + n ≤ 9223372036854775807], (l.length + n.toNat - 1) / n.toNat, fun q => [.roi k ((l.drop (q * n.toNat)).take n.toNat)])
    | some (.cells _ [.sl a 1 o m]), some (.cells _ [.int .i64 n]) => some ([1 ≤ n, (m : Int) + n ≤ 9223372036854775807], (m + n.toNat - 1) / n.toNat, fun q => [.sl a 1 (o + q * n.toNat) (min n.toNat (m - q * n.toNat))])
    | _, _ => none)
  | _ => none
theorem chunk_core {i j : Nat} {x : AV} {n : Int} {m : Nat} {pc : Nat → Nat → AV} {H : AH} {t1 t2 : TypeId} (hi : H.get i = some (.cells t1 [x])) (hj : H.get j = some (.cells t2 [.int .i64 n])) (hn : 1 ≤ n) (hm : (m : Int) + n ≤ 9223372036854775807)
    (hpc : ∀ (R : PN) (W : World) (O : Nat → Prop) (v : Value), Rep R W O x v → Pieces R W O pc m v) {R : PN} {w : World} {O : Nat → Prop} {lb : List Value} (hc : CRel R w O [.ptr i 0, .ptr j 0] lb) {items : Nat → List AV} (hit : ∀ q, items q = [pc (q * n.toNat) (min n.toNat (m - q * n.toNat))]) :
    IterOK Try.prog 185 lb.toArray ((m + n.toNat - 1) / n.toNat) items (KWof [.ptr i 0, .ptr j 0] H R) := by
  intro d l J Jx W hq hqx hkw hY h0
  have e1 := hc.1
  obtain ⟨v1, v2, rfl⟩ : ∃ v1 v2, lb = [v1, v2] := by match lb, e1 with | [a, b], _ => exact ⟨a, b, rfl⟩
  have r1 := hc.2 0 _ v1 rfl rfl
  have r2 := hc.2 1 _ v2 rfl rfl
  cases r1 with
  | ptr _ _ b1 hb1 =>
  cases r2 with
  | ptr _ _ b2 hb2 =>
  refine (chunk1_in l b1 b2 m n hn hm pc J Jx d hq (fun k R' O' W' hJ => ?_) (fun k R' O' W' args hk hJ ha => ?_) W h0).mono ?_
  · have kw := hkw k R' O' W' hJ
    obtain ⟨v, k1, k2, k3⟩ := kw_cells kw hi (by simp [nmsL, nms0]) hb1 0 x rfl
    obtain ⟨u, q1, q2, q3⟩ := kw_cells kw hj (by simp [nmsL, nms0]) hb2 0 (.int .i64 n) rfl
    cases q3
    exact ⟨v, k1, hpc _ _ _ _ k3, q1⟩
  · exact hY k R' O' W' args (ceil_lt (by omega) hk) hJ (by rw [hit]; exact ha)
  · rintro e W' ⟨hv, ⟨k, R', O', h1, h2, h3⟩ | h⟩
    · have := ceil_eq (by omega) h1 h2
      subst this
      exact ⟨hv, .inl ⟨R', O', h3⟩⟩
    · exact ⟨hv, .inr h⟩
theorem chunk_it : RSOK Try.prog 185 chunkRS := by
  refine ⟨⟨_, Try.func185, by kernel_rfl, by kernel_rfl⟩, fun cap H obs N items hs ho F Ob W0 R w lb hH hc => ?_⟩
  unfold chunkRS at hs
  split at hs
  · split at hs
    · rename_i hi hj
      simp only [Option.some.injEq, Prod.mk.injEq] at hs
      obtain ⟨rfl, rfl, rfl⟩ := hs
      refine chunk_core (pc := fun lo n => .roi _ ((List.drop lo _).take n)) hi hj (ho _ (by simp)) (ho _ (by simp)) (fun R W O v h => pieces_roi h) hc (fun q => ?_)
      rw [← List.length_drop, take_min]
    · rename_i hi hj
      simp only [Option.some.injEq, Prod.mk.injEq] at hs
      obtain ⟨rfl, rfl, rfl⟩ := hs
      exact chunk_core hi hj (ho _ (by simp)) (ho _ (by simp)) (fun R W O v h => pieces_sl h) hc (fun q => rfl)
    · cases hs
  · cases hs
end Go.Proofs.Ytepjmnkleajibaa

/- Ranges over functions in use; pieces of a slice (slices.Chunk), rows whose pixels' channels are changed (bmp.turn). No condition. -/
namespace Go.Proofs.Ytepjmnkleajibaa
open Go Go.RowKit
set_option linter.unusedVariables false
set_option linter.unusedSimpArgs false
set_option maxRecDepth 100000

def rlook : List (FuncId × RSpec) → FuncId → Option RSpec
  | [], _ => none
  | (g, s) :: r, f => bif Nat.beq g f then some s else rlook r f
theorem rl_nil : ∀ g s, rlook [] g = some s → RSOK Try.prog g s := fun g s h => by cases h
theorem rl_cons {g : FuncId} {s : RSpec} {r : List (FuncId × RSpec)} (h : RSOK Try.prog g s) (k : ∀ g s, rlook r g = some s → RSOK Try.prog g s) : ∀ f t, rlook ((g, s) :: r) f = some t → RSOK Try.prog f t := fun f t ht => by
  unfold rlook at ht
  cases hb : Nat.beq g f
  · rw [hb] at ht; exact k f t ht
  · rw [hb] at ht
    cases ht
    have := beq_iff.1 hb
    subst this
    exact h
theorem fokR {S : List (FuncId × PSpec)} {G : FuncId → Option GSpec} {RT : FuncId → Option RSpec} (cuts : List Nat) (hS : POK Try.prog (slook S)) (hG : ∀ g s, G g = some s → GSOK Try.prog g s) (hRT : ∀ g s, RT g = some s → RSOK Try.prog g s) {g : FuncId} {fn : Func} (hf : FnOK Try.prog g fn) (hr : (match fn.body with | some c => rgB fn.ntmps c | none => false) = true) {FS : FSpec}
    (h : ∀ l es obs v es', FS l es = some (obs, v, es') → (∀ p ∈ obs, p) → l.length ≤ fn.ntmps ∧ vcFnR (mkK es.length S G cuts) RT fn l ⟨es.length, num 0 (es.map some)⟩ (RetF es.length v es')) : GSOK Try.prog g (fG FS) :=
  fok_snd hf fun l es obs v es' hF hob => by
    obtain ⟨h1, h2⟩ := h _ _ _ _ _ hF hob
    exact snd_ofR (mkK_ok hS hG) hRT mixed hf hr h1 h2
def chunkF : FSpec := fun l es => match l, es with
  | [.roi .u8 p, .int .i64 n], [] => some ([1 ≤ n], .fn 185 0 [.ptr 0 0, .ptr 1 0], [some (.cells 22 [.roi .u8 p]), some (.cells 3 [.int .i64 n])])
  | [.sl 0 1 o m, .int .i64 n], [.ints 5 .u8 p] => some ([1 ≤ n], .fn 185 0 [.ptr 1 0, .ptr 2 0], [some (.ints 5 .u8 p), some (.cells 22 [.sl 0 1 o m]), some (.cells 3 [.int .i64 n])])
  | _, _ => none
theorem chunk_g : GSOK Try.prog 150 (fG chunkF) := by
  refine fok (S := []) (G := noG) pok_nil noG_ok ⟨Try.func150, by kernel_rfl, by kernel_rfl, by kernel_rfl⟩ fun l es obs v es' h ho => ?_
  unfold chunkF at h
  split at h
  · rename_i p n
    simp only [Option.some.injEq, Prod.mk.injEq] at h
    obtain ⟨rfl, rfl, rfl⟩ := h
    simp only [List.mem_cons, List.not_mem_nil, or_false, forall_eq] at ho
    refine ⟨Nat.le_of_ble_eq_true rfl, ?_⟩
    (repeat' (first | (refine And.intro (fun (hfk : _ = true) => ?_) (fun (hfk : _ = false) => ?_) <;> ((try (first | replace hfk := of_decide_eq_true hfk | replace hfk := of_decide_eq_false hfk | simp only [decide_eq_true_eq, decide_eq_false_iff_not, dh1, dh0, ne_eq, reduceCtorEq] at hfk)); (try (exfalso; first | omega | contradiction | exact Bool.noConfusion (Eq.trans (Eq.symm hfk) (by with_reducible assumption : _ = false)) | exact Bool.noConfusion (Eq.trans (Eq.symm hfk) (by with_reducible assumption : _ = true)))))) | (refine And.intro ?ob ?_; (case ob => (first | exact Chk.mk (by kernel_rfl) | exact True.intro | with_reducible assumption | exact rng64 (by omega) (by omega) | omega | (dsimp only; omega) | (show (_ : Nat) ≤ _; omega) | (simp only [ll1, ll2, ll0]; done) | (simp only [ll1, ll2, ll0]; omega) | (dsimp only; simp only [ll1, ll2, ll0]; omega)))) | exact True.intro | (show _ = _; first | with_reducible rfl | with_reducible assumption | omega | (simp only [ll1, ll2, ll0]; omega) | (skip; done) | exact rfl) | with_reducible assumption | (apply And.intro) | omega | (intro j hj; exact rfl) | fail))
    refine ⟨[some 0, some 1], ?_⟩
    (repeat' (first | (refine And.intro (fun (hfk : _ = true) => ?_) (fun (hfk : _ = false) => ?_) <;> ((try (first | replace hfk := of_decide_eq_true hfk | replace hfk := of_decide_eq_false hfk | simp only [decide_eq_true_eq, decide_eq_false_iff_not, dh1, dh0, ne_eq, reduceCtorEq] at hfk)); (try (exfalso; first | omega | contradiction | exact Bool.noConfusion (Eq.trans (Eq.symm hfk) (by with_reducible assumption : _ = false)) | exact Bool.noConfusion (Eq.trans (Eq.symm hfk) (by with_reducible assumption : _ = true)))))) | (refine And.intro ?ob ?_; (case ob => (first | exact Chk.mk (by kernel_rfl) | exact True.intro | with_reducible assumption | exact rng64 (by omega) (by omega) | omega | (dsimp only; omega) | (show (_ : Nat) ≤ _; omega) | (simp only [ll1, ll2, ll0]; done) | (simp only [ll1, ll2, ll0]; omega) | (dsimp only; simp only [ll1, ll2, ll0]; omega)))) | exact True.intro | (show _ = _; first | with_reducible rfl | with_reducible assumption | omega | (simp only [ll1, ll2, ll0]; omega) | (skip; done) | exact rfl) | with_reducible assumption | (apply And.intro) | omega | (intro j hj; exact rfl) | fail))
  · rename_i o m n p
    simp only [Option.some.injEq, Prod.mk.injEq] at h
    obtain ⟨rfl, rfl, rfl⟩ := h
    simp only [List.mem_cons, List.not_mem_nil, or_false, forall_eq] at ho
    refine ⟨Nat.le_of_ble_eq_true rfl, ?_⟩
    (repeat' (first | (refine And.intro (fun (hfk : _ = true) => ?_) (fun (hfk : _ = false) => ?_) <;> ((try (first | replace hfk := of_decide_eq_true hfk | replace hfk := of_decide_eq_false hfk | simp only [decide_eq_true_eq, decide_eq_false_iff_not, dh1, dh0, ne_eq, reduceCtorEq] at hfk)); (try (exfalso; first | omega | contradiction | exact Bool.noConfusion (Eq.trans (Eq.symm hfk) (by with_reducible assumption : _ = false)) | exact Bool.noConfusion (Eq.trans (Eq.symm hfk) (by with_reducible assumption : _ = true)))))) | (refine And.intro ?ob ?_; (case ob => (first | exact Chk.mk (by kernel_rfl) | exact True.intro | with_reducible assumption | exact rng64 (by omega) (by omega) | omega | (dsimp only; omega) | (show (_ : Nat) ≤ _; omega) | (simp only [ll1, ll2, ll0]; done) | (simp only [ll1, ll2, ll0]; omega) | (dsimp only; simp only [ll1, ll2, ll0]; omega)))) | exact True.intro | (show _ = _; first | with_reducible rfl | with_reducible assumption | omega | (simp only [ll1, ll2, ll0]; omega) | (skip; done) | exact rfl) | with_reducible assumption | (apply And.intro) | omega | (intro j hj; exact rfl) | fail))
    refine ⟨[some 0, some 1, some 2], ?_⟩
    (repeat' (first | (refine And.intro (fun (hfk : _ = true) => ?_) (fun (hfk : _ = false) => ?_) <;> ((try (first | replace hfk := of_decide_eq_true hfk | replace hfk := of_decide_eq_false hfk | simp only [decide_eq_true_eq, decide_eq_false_iff_not, dh1, dh0, ne_eq, reduceCtorEq] at hfk)); (try (exfalso; first | omega | contradiction | exact Bool.noConfusion (Eq.trans (Eq.symm hfk) (by with_reducible assumption : _ = false)) | exact Bool.noConfusion (Eq.trans (Eq.symm hfk) (by with_reducible assumption : _ = true)))))) | (refine And.intro ?ob ?_; (case ob => (first | exact Chk.mk (by kernel_rfl) | exact True.intro | with_reducible assumption | exact rng64 (by omega) (by omega) | omega | (dsimp only; omega) | (show (_ : Nat) ≤ _; omega) | (simp only [ll1, ll2, ll0]; done) | (simp only [ll1, ll2, ll0]; omega) | (dsimp only; simp only [ll1, ll2, ll0]; omega)))) | exact True.intro | (show _ = _; first | with_reducible rfl | with_reducible assumption | omega | (simp only [ll1, ll2, ll0]; omega) | (skip; done) | exact rfl) | with_reducible assumption | (apply And.intro) | omega | (intro j hj; exact rfl) | fail))
  · cases h
/-- The first and the third of each piece of c, in each other's place: k pieces from o on. -/
def swapTo (L : List Int) (o c : Nat) : Nat → List Int
  | 0 => L
  | k + 1 => ((swapTo L o c k).set (o + k * c) ((swapTo L o c k).getD (o + k * c + 2) 0)).set (o + k * c + 2) ((swapTo L o c k).getD (o + k * c) 0)
theorem swapTo_len (L : List Int) (o c : Nat) : ∀ k, (swapTo L o c k).length = L.length
  | 0 => rfl
  | k + 1 => by simp [swapTo, swapTo_len L o c k]
theorem ceil_mul {w c : Nat} (hc : 0 < c) : (w * c + c - 1) / c = w := by
  rw [show w * c + c - 1 = (c - 1) + c * w by rw [Nat.mul_comm]; omega, Nat.add_mul_div_left _ _ hc, Nat.div_eq_of_lt (by omega), Nat.zero_add]
def turnF : FSpec := fun l es => match l, es with
  | [.sl 0 1 o m, .int .i64 c], [.ints 5 .u8 L] => some ([3 ≤ c, m = (m / c.toNat) * c.toNat, o + m ≤ L.length, (m : Int) + c ≤ 9223372036854775807], .tup [], [some (.ints 5 .u8 (swapTo L o c.toNat (m / c.toNat)))])
  | _, _ => none
theorem turn_g : GSOK Try.prog 95 (fG turnF) := by
  refine fokR (S := []) (G := glook [(150, fG chunkF)]) (RT := rlook [(185, chunkRS)]) [] pok_nil (gl_cons chunk_g gl_nil) (rl_cons chunk_it rl_nil) ⟨Try.func95, by kernel_rfl, by kernel_rfl, by kernel_rfl⟩ (by kernel_rfl) fun l es obs v es' h ho => ?_
  (unfold turnF at h; split at h; rotate_left; (focus (cases h)); rename_i o m c L; simp only [Option.some.injEq, Prod.mk.injEq] at h; obtain ⟨rfl, rfl, rfl⟩ := h; simp only [List.mem_cons, List.not_mem_nil, or_false, forall_eq_or_imp, forall_eq, false_implies, implies_true] at ho)
  obtain ⟨ho1, ho2, ho3, ho4⟩ := ho
  refine ⟨Nat.le_of_ble_eq_true rfl, ?_⟩
  (repeat' (first | (refine And.intro (fun (hfk : _ = true) => ?_) (fun (hfk : _ = false) => ?_) <;> ((try (first | replace hfk := of_decide_eq_true hfk | replace hfk := of_decide_eq_false hfk | simp only [decide_eq_true_eq, decide_eq_false_iff_not, dh1, dh0, ne_eq, reduceCtorEq] at hfk)); (try (exfalso; first | omega | contradiction | exact Bool.noConfusion (Eq.trans (Eq.symm hfk) (by with_reducible assumption : _ = false)) | exact Bool.noConfusion (Eq.trans (Eq.symm hfk) (by with_reducible assumption : _ = true)))))) | (refine And.intro ?ob ?_; (case ob => (first | exact Chk.mk (by kernel_rfl) | exact True.intro | with_reducible assumption | exact rng64 (by omega) (by omega) | omega | (dsimp only; omega) | (show (_ : Nat) ≤ _; omega) | (simp only [ll1, ll2, ll0]; done) | (simp only [ll1, ll2, ll0]; omega) | (dsimp only; simp only [ll1, ll2, ll0]; omega)))) | exact True.intro | (show _ = _; first | with_reducible rfl | with_reducible assumption | omega | (simp only [ll1, ll2, ll0]; omega) | (skip; done) | exact rfl) | with_reducible assumption | (apply And.intro) | omega | (intro j hj; exact rfl) | fail))
  (refine ⟨[0], ⟨by kernel_rfl⟩, ?_⟩)
  (repeat' (first | (refine And.intro (fun (hfk : _ = true) => ?_) (fun (hfk : _ = false) => ?_) <;> ((try (first | replace hfk := of_decide_eq_true hfk | replace hfk := of_decide_eq_false hfk | simp only [decide_eq_true_eq, decide_eq_false_iff_not, dh1, dh0, ne_eq, reduceCtorEq] at hfk)); (try (exfalso; first | omega | contradiction | exact Bool.noConfusion (Eq.trans (Eq.symm hfk) (by with_reducible assumption : _ = false)) | exact Bool.noConfusion (Eq.trans (Eq.symm hfk) (by with_reducible assumption : _ = true)))))) | (refine And.intro ?ob ?_; (case ob => (first | exact Chk.mk (by kernel_rfl) | exact True.intro | with_reducible assumption | exact rng64 (by omega) (by omega) | omega | (dsimp only; omega) | (show (_ : Nat) ≤ _; omega) | (simp only [ll1, ll2, ll0]; done) | (simp only [ll1, ll2, ll0]; omega) | (dsimp only; simp only [ll1, ll2, ll0]; omega)))) | exact True.intro | (show _ = _; first | with_reducible rfl | with_reducible assumption | omega | (simp only [ll1, ll2, ll0]; omega) | (skip; done) | exact rfl) | with_reducible assumption | (apply And.intro) | omega | (intro j hj; exact rfl) | fail))
  refine ⟨[(7, .fn 185 0 [.ptr 1 0, .ptr 2 0])], ⟨3, [(0, some (.ints 5 .u8 L)), (1, some (.cells 22 [.sl 0 1 o m])), (2, some (.cells 3 [.int .i64 c]))]⟩, [some 0, some 1, some 2], ?_, ?_⟩
  · (repeat' (first | (refine And.intro (fun (hfk : _ = true) => ?_) (fun (hfk : _ = false) => ?_) <;> ((try (first | replace hfk := of_decide_eq_true hfk | replace hfk := of_decide_eq_false hfk | simp only [decide_eq_true_eq, decide_eq_false_iff_not, dh1, dh0, ne_eq, reduceCtorEq] at hfk)); (try (exfalso; first | omega | contradiction | exact Bool.noConfusion (Eq.trans (Eq.symm hfk) (by with_reducible assumption : _ = false)) | exact Bool.noConfusion (Eq.trans (Eq.symm hfk) (by with_reducible assumption : _ = true)))))) | (refine And.intro ?ob ?_; (case ob => (first | exact Chk.mk (by kernel_rfl) | exact True.intro | with_reducible assumption | exact rng64 (by omega) (by omega) | omega | (dsimp only; omega) | (show (_ : Nat) ≤ _; omega) | (simp only [ll1, ll2, ll0]; done) | (simp only [ll1, ll2, ll0]; omega) | (dsimp only; simp only [ll1, ll2, ll0]; omega)))) | exact True.intro | (show _ = _; first | with_reducible rfl | with_reducible assumption | omega | (simp only [ll1, ll2, ll0]; omega) | (skip; done) | exact rfl) | with_reducible assumption | (apply And.intro) | omega | (intro j hj; exact rfl) | fail))
  have e0 : (m + c.toNat - 1) / c.toNat = m / c.toNat := by
    have := ceil_mul (w := m / c.toNat) (c := c.toNat) (by omega)
    rwa [← ho2] at this
  rw [← e0]
  rw [← e0] at ho2
  refine ⟨by omega, by omega, fun k => rfl, Unit, fun k _ => ⟨3, [(0, some (.ints 5 .u8 (swapTo L o c.toNat k))), (1, some (.cells 22 [.sl 0 1 o m])), (2, some (.cells 3 [.int .i64 c]))]⟩, fun k _ => True, ⟨(), [some 0, some 1, some 2], trivial, ?_⟩, fun k _ _ => ⟨rfl, rfl, trivial⟩, fun k hk _ _ => ?_, fun _ _ => ?_⟩
  · (repeat' (first | (refine And.intro (fun (hfk : _ = true) => ?_) (fun (hfk : _ = false) => ?_) <;> ((try (first | replace hfk := of_decide_eq_true hfk | replace hfk := of_decide_eq_false hfk | simp only [decide_eq_true_eq, decide_eq_false_iff_not, dh1, dh0, ne_eq, reduceCtorEq] at hfk)); (try (exfalso; first | omega | contradiction | exact Bool.noConfusion (Eq.trans (Eq.symm hfk) (by with_reducible assumption : _ = false)) | exact Bool.noConfusion (Eq.trans (Eq.symm hfk) (by with_reducible assumption : _ = true)))))) | (refine And.intro ?ob ?_; (case ob => (first | exact Chk.mk (by kernel_rfl) | exact True.intro | with_reducible assumption | exact rng64 (by omega) (by omega) | omega | (dsimp only; omega) | (show (_ : Nat) ≤ _; omega) | (simp only [ll1, ll2, ll0]; done) | (simp only [ll1, ll2, ll0]; omega) | (dsimp only; simp only [ll1, ll2, ll0]; omega)))) | exact True.intro | (show _ = _; first | with_reducible rfl | with_reducible assumption | omega | (simp only [ll1, ll2, ll0]; omega) | (skip; done) | exact rfl) | with_reducible assumption | (apply And.intro) | omega | (intro j hj; exact rfl) | fail))
  · have hlen := swapTo_len L o c.toNat k
    have hk2 : k * c.toNat + c.toNat ≤ m := by
      have := Nat.mul_le_mul_right c.toNat (Nat.succ_le_of_lt hk)
      rw [Nat.succ_mul] at this
      omega
    (repeat' (first | (refine And.intro (fun (hfk : _ = true) => ?_) (fun (hfk : _ = false) => ?_) <;> ((try (first | replace hfk := of_decide_eq_true hfk | replace hfk := of_decide_eq_false hfk | simp only [decide_eq_true_eq, decide_eq_false_iff_not, dh1, dh0, ne_eq, reduceCtorEq] at hfk)); (try (exfalso; first | omega | contradiction | exact Bool.noConfusion (Eq.trans (Eq.symm hfk) (by with_reducible assumption : _ = false)) | exact Bool.noConfusion (Eq.trans (Eq.symm hfk) (by with_reducible assumption : _ = true)))))) | (refine And.intro ?ob ?_; (case ob => (first | exact Chk.mk (by kernel_rfl) | exact True.intro | with_reducible assumption | exact rng64 (by omega) (by omega) | omega | (dsimp only; omega) | (show (_ : Nat) ≤ _; omega) | (simp only [ll1, ll2, ll0]; done) | (simp only [ll1, ll2, ll0]; omega) | (dsimp only; simp only [ll1, ll2, ll0]; omega)))) | exact True.intro | (show _ = _; first | with_reducible rfl | with_reducible assumption | omega | (simp only [ll1, ll2, ll0]; omega) | ((simp only [List.length_set]; omega); done) | exact rfl) | with_reducible assumption | (apply And.intro) | omega | (intro j hj; exact rfl) | fail))
    refine ⟨(), [some 0, some 1, some 2], trivial, ?_⟩
    (repeat' (first | (refine And.intro (fun (hfk : _ = true) => ?_) (fun (hfk : _ = false) => ?_) <;> ((try (first | replace hfk := of_decide_eq_true hfk | replace hfk := of_decide_eq_false hfk | simp only [decide_eq_true_eq, decide_eq_false_iff_not, dh1, dh0, ne_eq, reduceCtorEq] at hfk)); (try (exfalso; first | omega | contradiction | exact Bool.noConfusion (Eq.trans (Eq.symm hfk) (by with_reducible assumption : _ = false)) | exact Bool.noConfusion (Eq.trans (Eq.symm hfk) (by with_reducible assumption : _ = true)))))) | (refine And.intro ?ob ?_; (case ob => (first | exact Chk.mk (by kernel_rfl) | exact True.intro | with_reducible assumption | exact rng64 (by omega) (by omega) | omega | (dsimp only; omega) | (show (_ : Nat) ≤ _; omega) | (simp only [ll1, ll2, ll0]; done) | (simp only [ll1, ll2, ll0]; omega) | (dsimp only; simp only [ll1, ll2, ll0]; omega)))) | exact True.intro | (show _ = _; first | with_reducible rfl | with_reducible assumption | omega | (simp only [ll1, ll2, ll0]; omega) | (skip; done) | exact rfl) | with_reducible assumption | (apply And.intro) | omega | (intro j hj; exact rfl) | fail))
  · (repeat' (first | (refine And.intro (fun (hfk : _ = true) => ?_) (fun (hfk : _ = false) => ?_) <;> ((try (first | replace hfk := of_decide_eq_true hfk | replace hfk := of_decide_eq_false hfk | simp only [decide_eq_true_eq, decide_eq_false_iff_not, dh1, dh0, ne_eq, reduceCtorEq] at hfk)); (try (exfalso; first | omega | contradiction | exact Bool.noConfusion (Eq.trans (Eq.symm hfk) (by with_reducible assumption : _ = false)) | exact Bool.noConfusion (Eq.trans (Eq.symm hfk) (by with_reducible assumption : _ = true)))))) | (refine And.intro ?ob ?_; (case ob => (first | exact Chk.mk (by kernel_rfl) | exact True.intro | with_reducible assumption | exact rng64 (by omega) (by omega) | omega | (dsimp only; omega) | (show (_ : Nat) ≤ _; omega) | (simp only [ll1, ll2, ll0]; done) | (simp only [ll1, ll2, ll0]; omega) | (dsimp only; simp only [ll1, ll2, ll0]; omega)))) | exact True.intro | (show _ = _; first | with_reducible rfl | with_reducible assumption | omega | (simp only [ll1, ll2, ll0]; omega) | (skip; done) | exact rfl) | with_reducible assumption | (apply And.intro) | omega | (intro j hj; exact rfl) | fail))
    refine ⟨[some 0], ?_⟩
    (repeat' (first | (refine And.intro (fun (hfk : _ = true) => ?_) (fun (hfk : _ = false) => ?_) <;> ((try (first | replace hfk := of_decide_eq_true hfk | replace hfk := of_decide_eq_false hfk | simp only [decide_eq_true_eq, decide_eq_false_iff_not, dh1, dh0, ne_eq, reduceCtorEq] at hfk)); (try (exfalso; first | omega | contradiction | exact Bool.noConfusion (Eq.trans (Eq.symm hfk) (by with_reducible assumption : _ = false)) | exact Bool.noConfusion (Eq.trans (Eq.symm hfk) (by with_reducible assumption : _ = true)))))) | (refine And.intro ?ob ?_; (case ob => (first | exact Chk.mk (by kernel_rfl) | exact True.intro | with_reducible assumption | exact rng64 (by omega) (by omega) | omega | (dsimp only; omega) | (show (_ : Nat) ≤ _; omega) | (simp only [ll1, ll2, ll0]; done) | (simp only [ll1, ll2, ll0]; omega) | (dsimp only; simp only [ll1, ll2, ll0]; omega)))) | exact True.intro | (show _ = _; first | with_reducible rfl | with_reducible assumption | omega | (simp only [ll1, ll2, ll0]; omega) | (skip; done) | exact rfl) | with_reducible assumption | (apply And.intro) | omega | (intro j hj; exact rfl) | fail))
end Go.Proofs.Ytepjmnkleajibaa

/- One image in another: what the document's Same, Made and Paste answer. No condition. -/
namespace Go.Proofs.Ytepjmnkleajibaa
open Go Go.RowKit
set_option linter.unusedVariables false
set_option linter.unusedSimpArgs false
set_option maxRecDepth 100000

theorem list_getD {p q : List Int} (hl : p.length = q.length) (h : ∀ j, j < p.length → p.getD j 0 = q.getD j 0) : p = q := by
  refine List.ext_getElem hl fun j h1 h2 => ?_
  have := h j h1
  simpa [List.getD, h1, h2] using this
end Go.Proofs.Ytepjmnkleajibaa

/- Lists in pieces, put in each other's place. No condition. -/
namespace Go.Proofs.Ytepjmnkleajibaa
open Go Go.RowKit
set_option linter.unusedVariables false
set_option linter.unusedSimpArgs false
set_option maxRecDepth 100000

/-- A piece of a list, in another one's place. -/
def spl (L : List Int) (o : Nat) (q : List Int) : List Int := L.take o ++ (q ++ L.drop (o + q.length))
theorem spl_len {L q : List Int} {o : Nat} (h : o + q.length ≤ L.length) : (spl L o q).length = L.length := by
  simp only [spl, List.length_append, List.length_take, List.length_drop]; omega
/-! ### Pieces -/
def piece (p : List Int) (c k : Nat) : List Int := (p.drop (k * c)).take c
theorem piece_len {p : List Int} {c k : Nat} (h : k * c + c ≤ p.length) : (piece p c k).length = c := by simp [piece]; omega
theorem prod_of {a b n : Nat} (h : a < b) : a * n + n ≤ b * n := by
  have := Nat.mul_le_mul_right n (Nat.succ_le_of_lt h)
  rwa [Nat.succ_mul] at this
theorem piece_get {p : List Int} {c k j : Nat} (hj : j < c) : (piece p c k).getD j 0 = p.getD (k * c + j) 0 := by
  unfold piece
  rw [List.getD_eq_getElem?_getD, List.getD_eq_getElem?_getD, List.getElem?_take_of_lt hj, List.getElem?_drop]
theorem mod_of {k c j : Nat} (h : j < c) : (k * c + j) % c = j := by rw [Nat.add_comm, Nat.add_mul_mod_self_right, Nat.mod_eq_of_lt h]
end Go.Proofs.Ytepjmnkleajibaa

/- Bitmaps (bmp): numbers of a head, and how long a row is. No condition. -/
namespace Go.Proofs.Ytepjmnkleajibaa
open Go Go.RowKit
set_option linter.unusedVariables false
set_option linter.unusedSimpArgs false
set_option maxRecDepth 100000
set_option maxHeartbeats 4000000

/-! ### How long a row is -/
def up4 (n : Int) : Int := (n + 3) / 4 * 4
theorem up4_bd (n : Int) : n ≤ up4 n ∧ up4 n ≤ n + 3 ∧ up4 n % 4 = 0 := by unfold up4; omega
theorem not3 (n : Nat) (h : n < 18446744073709551616) : (BitVec.ofNat 64 n &&& ~~~ BitVec.ofNat 64 3).toNat = n / 4 * 4 := by
  have e : n / 4 * 4 = (n >>> 2) <<< 2 := by rw [Nat.shiftRight_eq_div_pow, Nat.shiftLeft_eq]
  rw [e]
  apply Nat.eq_of_testBit_eq
  intro i
  rw [Nat.testBit_shiftLeft, Nat.testBit_shiftRight, ← BitVec.getLsbD]
  rw [BitVec.getLsbD_and, BitVec.getLsbD_not, BitVec.getLsbD_ofNat, BitVec.getLsbD_ofNat]
  have h3 : ∀ i, Nat.testBit 3 i = decide (i < 2) := by
    intro i
    match i with
    | 0 => rfl
    | 1 => rfl
    | i + 2 => rw [Nat.testBit_succ, Nat.testBit_succ]; simp
  rw [h3]
  by_cases h2 : i < 2
  · simp [h2]
    intro k; omega
  · by_cases h64 : i < 64
    · have : 2 + (i - 2) = i := by omega
      simp [h2, h64, this, show 2 ≤ i by omega]
    · have hz : n.testBit i = false := Nat.testBit_lt_two_pow (Nat.lt_of_lt_of_le h (Nat.le_trans (by decide : 18446744073709551616 ≤ 2 ^ 64) (Nat.pow_le_pow_right (by decide) (by omega))))
      have : 2 + (i - 2) = i := by omega
      simp [h64, this, hz]
theorem andnot3 {n : Int} (h0 : 0 ≤ n) (h1 : n < 4294967296) : IntKind.i64.wrap (BitVec.ofInt IntKind.i64.bits n &&& ~~~ BitVec.ofInt IntKind.i64.bits 3).toNat = n / 4 * 4 := by
  obtain ⟨m, rfl⟩ := Int.eq_ofNat_of_zero_le h0
  have hb : IntKind.i64.bits = 64 := rfl
  rw [hb]
  have b1 : BitVec.ofInt 64 (m : Int) = BitVec.ofNat 64 m := rfl
  have b2 : BitVec.ofInt 64 3 = BitVec.ofNat 64 3 := rfl
  rw [b1, b2, not3 m (by omega), wrap_rng ⟨by show (-9223372036854775808 : Int) ≤ _; omega, by show _ ≤ (9223372036854775807 : Int); omega⟩]
  omega
def strV (w c : Int) : Int := if w < 1 ∨ 32768 < w ∨ (c ≠ 3 ∧ c ≠ 4) then 0 else up4 (w * c)
abbrev strideS : PSpec := fun l => match l with | [.int .i64 w, .int .i64 c] => some ([], .int .i64 (strV w c)) | _ => none
theorem stride_s : SOK Try.prog 29 strideS := by
  refine sok_of (C := mkC 0 [] noG) (mkC_ok pok_nil noG_ok) rfl mixed ⟨Try.func29, by kernel_rfl, by kernel_rfl, by kernel_rfl⟩ fun l obs v h ho => ?_
  (unfold strideS at h; split at h; rotate_left; (focus (cases h)); rename_i w c; simp only [Option.some.injEq, Prod.mk.injEq] at h; obtain ⟨rfl, rfl⟩ := h; simp only [List.mem_cons, List.not_mem_nil, or_false, forall_eq_or_imp, forall_eq, false_implies, implies_true] at ho)
  refine ⟨Nat.le_of_ble_eq_true rfl, ?_⟩
  by_cases h : w < 1 ∨ 32768 < w ∨ (c ≠ 3 ∧ c ≠ 4)
  · have e : strV w c = 0 := if_pos h
    rw [e]
    (repeat' (first | (refine And.intro (fun (hfk : _ = true) => ?_) (fun (hfk : _ = false) => ?_) <;> ((try (first | replace hfk := of_decide_eq_true hfk | replace hfk := of_decide_eq_false hfk | simp only [decide_eq_true_eq, decide_eq_false_iff_not, dh1, dh0, ne_eq, reduceCtorEq] at hfk)); (try (exfalso; first | omega | contradiction | exact Bool.noConfusion (Eq.trans (Eq.symm hfk) (by with_reducible assumption : _ = false)) | exact Bool.noConfusion (Eq.trans (Eq.symm hfk) (by with_reducible assumption : _ = true)))))) | (refine And.intro ?ob ?_; (case ob => (first | exact Chk.mk (by kernel_rfl) | exact True.intro | with_reducible assumption | exact rng64 (by omega) (by omega) | omega | (dsimp only; omega) | (show (_ : Nat) ≤ _; omega) | (simp only [ll1, ll2, ll0]; done) | (simp only [ll1, ll2, ll0]; omega) | (dsimp only; simp only [ll1, ll2, ll0]; omega)))) | exact True.intro | (show _ = _; first | with_reducible rfl | with_reducible assumption | omega | (simp only [ll1, ll2, ll0]; omega) | (rfl; done) | exact rfl) | with_reducible assumption | (apply And.intro) | omega | (intro j hj; exact rfl) | fail))
  · have e : strV w c = up4 (w * c) := if_neg h
    have hc : c = 3 ∨ c = 4 := by omega
    have hb : 3 ≤ w * c ∧ w * c ≤ 131072 := by rcases hc with k | k <;> subst k <;> omega
    have r1 : rngI .i64 (w * c) := rng64 (by omega) (by omega)
    have r2 : rngI .i64 (w * c + 3) := rng64 (by omega) (by omega)
    have e2 := andnot3 (n := w * c + 3) (by omega) (by omega)
    rw [e]
    (repeat' (first | (refine And.intro (fun (hfk : _ = true) => ?_) (fun (hfk : _ = false) => ?_) <;> ((try (first | replace hfk := of_decide_eq_true hfk | replace hfk := of_decide_eq_false hfk | simp only [decide_eq_true_eq, decide_eq_false_iff_not, dh1, dh0, ne_eq, reduceCtorEq] at hfk)); (try (exfalso; first | omega | contradiction | exact Bool.noConfusion (Eq.trans (Eq.symm hfk) (by with_reducible assumption : _ = false)) | exact Bool.noConfusion (Eq.trans (Eq.symm hfk) (by with_reducible assumption : _ = true)))))) | (refine And.intro ?ob ?_; (case ob => (first | exact Chk.mk (by kernel_rfl) | exact True.intro | with_reducible assumption | exact rng64 (by omega) (by omega) | omega | (dsimp only; omega) | (show (_ : Nat) ≤ _; omega) | (simp only [ll1, ll2, ll0]; done) | (simp only [ll1, ll2, ll0]; omega) | (dsimp only; simp only [ll1, ll2, ll0]; omega)))) | exact True.intro | (show _ = _; first | with_reducible rfl | with_reducible assumption | omega | (simp only [ll1, ll2, ll0]; omega) | (exact e2; done) | exact rfl) | with_reducible assumption | (apply And.intro) | omega | (intro j hj; exact rfl) | fail))
abbrev rstrS : PSpec := fun l => match l with | [.int .i64 w, .int .i64 c] => some ([0 ≤ w * c, w * c ≤ 4294967296], .int .i64 (up4 (w * c))) | _ => none
theorem rstr_s : SOK Try.prog 27 rstrS := by
  refine sok_of (C := mkC 0 [] noG) (mkC_ok pok_nil noG_ok) rfl mixed ⟨Try.func27, by kernel_rfl, by kernel_rfl, by kernel_rfl⟩ fun l obs v h ho => ?_
  (unfold rstrS at h; split at h; rotate_left; (focus (cases h)); rename_i w c; simp only [Option.some.injEq, Prod.mk.injEq] at h; obtain ⟨rfl, rfl⟩ := h; simp only [List.mem_cons, List.not_mem_nil, or_false, forall_eq_or_imp, forall_eq, false_implies, implies_true] at ho)
  obtain ⟨h0, h1⟩ := ho
  refine ⟨Nat.le_of_ble_eq_true rfl, ?_⟩
  have hb := up4_bd (w * c)
  have r1 : rngI .i64 (w * c) := rng64 (by omega) (by omega)
  (repeat' (first | (refine And.intro (fun (hfk : _ = true) => ?_) (fun (hfk : _ = false) => ?_) <;> ((try (first | replace hfk := of_decide_eq_true hfk | replace hfk := of_decide_eq_false hfk | simp only [decide_eq_true_eq, decide_eq_false_iff_not, dh1, dh0, ne_eq, reduceCtorEq] at hfk)); (try (exfalso; first | omega | contradiction | exact Bool.noConfusion (Eq.trans (Eq.symm hfk) (by with_reducible assumption : _ = false)) | exact Bool.noConfusion (Eq.trans (Eq.symm hfk) (by with_reducible assumption : _ = true)))))) | (refine And.intro ?ob ?_; (case ob => (first | exact Chk.mk (by kernel_rfl) | exact True.intro | with_reducible assumption | exact rng64 (by omega) (by omega) | omega | (dsimp only; omega) | (show (_ : Nat) ≤ _; omega) | (simp only [ll1, ll2, ll0]; done) | (simp only [ll1, ll2, ll0]; omega) | (dsimp only; simp only [ll1, ll2, ll0]; omega)))) | exact True.intro | (show _ = _; first | with_reducible rfl | with_reducible assumption | omega | (simp only [ll1, ll2, ll0]; omega) | (skip; done) | exact rfl) | with_reducible assumption | (apply And.intro) | omega | (intro j hj; exact rfl) | fail))
  refine ⟨Nat, fun i => [(5, .int .i64 (w * c + (i : Int)))], fun i => ⟨0, []⟩, fun i => w * c + (i : Int) ≤ up4 (w * c), fun i => 4 - i, ⟨0, [], by show w * c + 0 ≤ _; omega, ?_⟩, fun i hi => ?_⟩
  · (repeat' (first | (refine And.intro ?_ ?_) | exact True.intro | (show _ = _; with_reducible rfl) | exact Chk.mk (by kernel_rfl)))
    all_goals (show (_ : Int) = _; omega)
  have hi : w * c + (i : Int) ≤ up4 (w * c) := hi
  have hm : (w * c + (i : Int)).tmod 4 = (w * c + (i : Int)) % 4 := Int.tmod_eq_emod_of_nonneg (by omega)
  by_cases he : w * c + (i : Int) = up4 (w * c)
  · have hz : (w * c + (i : Int)).tmod 4 = 0 := by rw [hm, he]; exact hb.2.2
    (repeat' (first | (refine And.intro (fun (hfk : _ = true) => ?_) (fun (hfk : _ = false) => ?_) <;> ((try (first | replace hfk := of_decide_eq_true hfk | replace hfk := of_decide_eq_false hfk | simp only [decide_eq_true_eq, decide_eq_false_iff_not, dh1, dh0, ne_eq, reduceCtorEq] at hfk)); (try (exfalso; first | omega | contradiction | exact Bool.noConfusion (Eq.trans (Eq.symm hfk) (by with_reducible assumption : _ = false)) | exact Bool.noConfusion (Eq.trans (Eq.symm hfk) (by with_reducible assumption : _ = true)))))) | (refine And.intro ?ob ?_; (case ob => (first | exact Chk.mk (by kernel_rfl) | exact True.intro | with_reducible assumption | exact rng64 (by omega) (by omega) | omega | (dsimp only; omega) | (show (_ : Nat) ≤ _; omega) | (simp only [ll1, ll2, ll0]; done) | (simp only [ll1, ll2, ll0]; omega) | (dsimp only; simp only [ll1, ll2, ll0]; omega)))) | exact True.intro | (show _ = _; first | with_reducible rfl | with_reducible assumption | omega | (simp only [ll1, ll2, ll0]; omega) | (exact he; done) | exact rfl) | with_reducible assumption | (apply And.intro) | omega | (intro j hj; exact rfl) | fail))
  · have hz : ¬ (w * c + (i : Int)).tmod 4 = 0 := by rw [hm]; unfold up4 at he hi hb; omega
    have r2 : rngI .i64 (w * c + (i : Int) + 1) := rng64 (by omega) (by omega)
    (repeat' (first | (refine And.intro (fun (hfk : _ = true) => ?_) (fun (hfk : _ = false) => ?_) <;> ((try (first | replace hfk := of_decide_eq_true hfk | replace hfk := of_decide_eq_false hfk | simp only [decide_eq_true_eq, decide_eq_false_iff_not, dh1, dh0, ne_eq, reduceCtorEq] at hfk)); (try (exfalso; first | omega | contradiction | exact Bool.noConfusion (Eq.trans (Eq.symm hfk) (by with_reducible assumption : _ = false)) | exact Bool.noConfusion (Eq.trans (Eq.symm hfk) (by with_reducible assumption : _ = true)))))) | (refine And.intro ?ob ?_; (case ob => (first | exact Chk.mk (by kernel_rfl) | exact True.intro | with_reducible assumption | exact rng64 (by omega) (by omega) | omega | (dsimp only; omega) | (show (_ : Nat) ≤ _; omega) | (simp only [ll1, ll2, ll0]; done) | (simp only [ll1, ll2, ll0]; omega) | (dsimp only; simp only [ll1, ll2, ll0]; omega)))) | exact True.intro | (show _ = _; first | with_reducible rfl | with_reducible assumption | omega | (simp only [ll1, ll2, ll0]; omega) | (skip; done) | exact rfl) | with_reducible assumption | (apply And.intro) | omega | (intro j hj; exact rfl) | fail))
    refine ⟨i + 1, [], ?_, ?mu, ?_⟩
    case mu => (show 4 - (i + 1) < 4 - i; omega)
    · show w * c + ((i + 1 : Nat) : Int) ≤ _; omega
    (repeat' (first | (refine And.intro ?_ ?_) | exact True.intro | (show _ = _; with_reducible rfl) | exact Chk.mk (by kernel_rfl)))
    all_goals (show (_ : Int) = _; omega)
def bszV (w h c : Int) : Int := if strV w c = 0 ∨ h < 1 ∨ 32768 < h ∨ 4194304 < w * h then 0 else 54 + strV w c * h
theorem strV_bd (w c : Int) : 0 ≤ strV w c ∧ strV w c ≤ 131075 := by
  unfold strV
  split
  · omega
  · rename_i h
    have hc : c = 3 ∨ c = 4 := by omega
    have hb := up4_bd (w * c)
    rcases hc with k | k <;> subst k <;> omega
theorem strV_pos {w c : Int} (h : strV w c ≠ 0) : 1 ≤ w ∧ w ≤ 32768 := by
  unfold strV at h
  split at h
  · exact absurd rfl h
  · omega
abbrev bsizeS : PSpec := fun l => match l with | [.int .i64 w, .int .i64 h, .int .i64 c] => some ([], .int .i64 (bszV w h c)) | _ => none
theorem bsize_s : SOK Try.prog 30 bsizeS := by
  refine sok_of (C := mkC 0 [(29, strideS)] noG) (mkC_ok (pok_cons stride_s pok_nil) noG_ok) rfl mixed ⟨Try.func30, by kernel_rfl, by kernel_rfl, by kernel_rfl⟩ fun l obs v h ho => ?_
  (unfold bsizeS at h; split at h; rotate_left; (focus (cases h)); rename_i w hv c; simp only [Option.some.injEq, Prod.mk.injEq] at h; obtain ⟨rfl, rfl⟩ := h; simp only [List.mem_cons, List.not_mem_nil, or_false, forall_eq_or_imp, forall_eq, false_implies, implies_true] at ho)
  refine ⟨Nat.le_of_ble_eq_true rfl, ?_⟩
  have sb := strV_bd w c
  by_cases k1 : strV w c = 0
  · have e : bszV w hv c = 0 := if_pos (.inl k1)
    rw [e]
    (repeat' (first | (refine And.intro (fun (hfk : _ = true) => ?_) (fun (hfk : _ = false) => ?_) <;> ((try (first | replace hfk := of_decide_eq_true hfk | replace hfk := of_decide_eq_false hfk | simp only [decide_eq_true_eq, decide_eq_false_iff_not, dh1, dh0, ne_eq, reduceCtorEq] at hfk)); (try (exfalso; first | omega | contradiction | exact Bool.noConfusion (Eq.trans (Eq.symm hfk) (by with_reducible assumption : _ = false)) | exact Bool.noConfusion (Eq.trans (Eq.symm hfk) (by with_reducible assumption : _ = true)))))) | (refine And.intro ?ob ?_; (case ob => (first | exact Chk.mk (by kernel_rfl) | exact True.intro | with_reducible assumption | exact rng64 (by omega) (by omega) | omega | (dsimp only; omega) | (show (_ : Nat) ≤ _; omega) | (simp only [ll1, ll2, ll0]; done) | (simp only [ll1, ll2, ll0]; omega) | (dsimp only; simp only [ll1, ll2, ll0]; omega)))) | exact True.intro | (show _ = _; first | with_reducible rfl | with_reducible assumption | omega | (simp only [ll1, ll2, ll0]; omega) | (rfl; done) | exact rfl) | with_reducible assumption | (apply And.intro) | omega | (intro j hj; exact rfl) | fail))
  by_cases k2 : hv < 1 ∨ 32768 < hv
  · have e : bszV w hv c = 0 := if_pos (by omega)
    rw [e]
    (repeat' (first | (refine And.intro (fun (hfk : _ = true) => ?_) (fun (hfk : _ = false) => ?_) <;> ((try (first | replace hfk := of_decide_eq_true hfk | replace hfk := of_decide_eq_false hfk | simp only [decide_eq_true_eq, decide_eq_false_iff_not, dh1, dh0, ne_eq, reduceCtorEq] at hfk)); (try (exfalso; first | omega | contradiction | exact Bool.noConfusion (Eq.trans (Eq.symm hfk) (by with_reducible assumption : _ = false)) | exact Bool.noConfusion (Eq.trans (Eq.symm hfk) (by with_reducible assumption : _ = true)))))) | (refine And.intro ?ob ?_; (case ob => (first | exact Chk.mk (by kernel_rfl) | exact True.intro | with_reducible assumption | exact rng64 (by omega) (by omega) | omega | (dsimp only; omega) | (show (_ : Nat) ≤ _; omega) | (simp only [ll1, ll2, ll0]; done) | (simp only [ll1, ll2, ll0]; omega) | (dsimp only; simp only [ll1, ll2, ll0]; omega)))) | exact True.intro | (show _ = _; first | with_reducible rfl | with_reducible assumption | omega | (simp only [ll1, ll2, ll0]; omega) | (rfl; done) | exact rfl) | with_reducible assumption | (apply And.intro) | omega | (intro j hj; exact rfl) | fail))
  have wb := strV_pos k1
  have p1 : 0 ≤ w * hv := Int.mul_nonneg (by omega) (by omega)
  have p2 : w * hv ≤ 32768 * 32768 := Int.le_trans (Int.mul_le_mul_of_nonneg_right wb.2 (by omega)) (Int.mul_le_mul_of_nonneg_left (by omega) (by omega))
  have r1 : rngI .i64 (w * hv) := rng64 (by omega) (by omega)
  by_cases k3 : 4194304 < w * hv
  · have e : bszV w hv c = 0 := if_pos (by omega)
    rw [e]
    (repeat' (first | (refine And.intro (fun (hfk : _ = true) => ?_) (fun (hfk : _ = false) => ?_) <;> ((try (first | replace hfk := of_decide_eq_true hfk | replace hfk := of_decide_eq_false hfk | simp only [decide_eq_true_eq, decide_eq_false_iff_not, dh1, dh0, ne_eq, reduceCtorEq] at hfk)); (try (exfalso; first | omega | contradiction | exact Bool.noConfusion (Eq.trans (Eq.symm hfk) (by with_reducible assumption : _ = false)) | exact Bool.noConfusion (Eq.trans (Eq.symm hfk) (by with_reducible assumption : _ = true)))))) | (refine And.intro ?ob ?_; (case ob => (first | exact Chk.mk (by kernel_rfl) | exact True.intro | with_reducible assumption | exact rng64 (by omega) (by omega) | omega | (dsimp only; omega) | (show (_ : Nat) ≤ _; omega) | (simp only [ll1, ll2, ll0]; done) | (simp only [ll1, ll2, ll0]; omega) | (dsimp only; simp only [ll1, ll2, ll0]; omega)))) | exact True.intro | (show _ = _; first | with_reducible rfl | with_reducible assumption | omega | (simp only [ll1, ll2, ll0]; omega) | (rfl; done) | exact rfl) | with_reducible assumption | (apply And.intro) | omega | (intro j hj; exact rfl) | fail))
  have e : bszV w hv c = 54 + strV w c * hv := if_neg (by omega)
  have q1 : 0 ≤ strV w c * hv := Int.mul_nonneg (by omega) (by omega)
  have q2 : strV w c * hv ≤ 131075 * 32768 := Int.le_trans (Int.mul_le_mul_of_nonneg_right sb.2 (by omega)) (Int.mul_le_mul_of_nonneg_left (by omega) (by omega))
  have r2 : rngI .i64 (strV w c * hv) := rng64 (by omega) (by omega)
  have r3 : rngI .i64 (54 + strV w c * hv) := rng64 (by omega) (by omega)
  rw [e]
  (repeat' (first | (refine And.intro (fun (hfk : _ = true) => ?_) (fun (hfk : _ = false) => ?_) <;> ((try (first | replace hfk := of_decide_eq_true hfk | replace hfk := of_decide_eq_false hfk | simp only [decide_eq_true_eq, decide_eq_false_iff_not, dh1, dh0, ne_eq, reduceCtorEq] at hfk)); (try (exfalso; first | omega | contradiction | exact Bool.noConfusion (Eq.trans (Eq.symm hfk) (by with_reducible assumption : _ = false)) | exact Bool.noConfusion (Eq.trans (Eq.symm hfk) (by with_reducible assumption : _ = true)))))) | (refine And.intro ?ob ?_; (case ob => (first | exact Chk.mk (by kernel_rfl) | exact True.intro | with_reducible assumption | exact rng64 (by omega) (by omega) | omega | (dsimp only; omega) | (show (_ : Nat) ≤ _; omega) | (simp only [ll1, ll2, ll0]; done) | (simp only [ll1, ll2, ll0]; omega) | (dsimp only; simp only [ll1, ll2, ll0]; omega)))) | exact True.intro | (show _ = _; first | with_reducible rfl | with_reducible assumption | omega | (simp only [ll1, ll2, ll0]; omega) | (rfl; done) | exact rfl) | with_reducible assumption | (apply And.intro) | omega | (intro j hj; exact rfl) | fail))
theorem alive16_s : SOK Try.prog 31 (sN (.bool true)) := by
  refine sok_of (C := mkC 0 [(29, strideS), (30, bsizeS)] noG) (mkC_ok (pok_cons stride_s (pok_cons bsize_s pok_nil)) noG_ok) rfl mixed ⟨Try.func31, by kernel_rfl, by kernel_rfl, by kernel_rfl⟩ fun l obs v h ho => ?_
  obtain ⟨rfl, rfl, rfl⟩ := sN_inv h
  refine ⟨Nat.le_of_ble_eq_true rfl, ?_⟩
  have e1 : strV 3 3 = 12 := by decide
  have e2 : bszV 3 2 3 = 78 := by decide
  (repeat' (first | (refine And.intro (fun (hfk : _ = true) => ?_) (fun (hfk : _ = false) => ?_) <;> ((try (first | replace hfk := of_decide_eq_true hfk | replace hfk := of_decide_eq_false hfk | simp only [decide_eq_true_eq, decide_eq_false_iff_not, dh1, dh0, ne_eq, reduceCtorEq] at hfk)); (try (exfalso; first | omega | contradiction | exact Bool.noConfusion (Eq.trans (Eq.symm hfk) (by with_reducible assumption : _ = false)) | exact Bool.noConfusion (Eq.trans (Eq.symm hfk) (by with_reducible assumption : _ = true)))))) | (refine And.intro ?ob ?_; (case ob => (first | exact Chk.mk (by kernel_rfl) | exact True.intro | with_reducible assumption | exact rng64 (by omega) (by omega) | omega | (dsimp only; omega) | (show (_ : Nat) ≤ _; omega) | (simp only [ll1, ll2, ll0]; done) | (simp only [ll1, ll2, ll0]; omega) | (dsimp only; simp only [ll1, ll2, ll0]; omega)))) | exact True.intro | (show _ = _; first | with_reducible rfl | with_reducible assumption | omega | (simp only [ll1, ll2, ll0]; omega) | (rfl; done) | exact rfl) | with_reducible assumption | (apply And.intro) | omega | (intro j hj; exact rfl) | fail))
/-! ### The document's numbers -/
def lw (b : List Int) (a n : Int) : Int := lowV ((b.drop a.toNat).take n.toNat)
def wtb : List (Int × Int × Int) := [(6, 4, 0), (10, 4, 54), (14, 4, 40), (26, 2, 1), (30, 4, 0), (46, 4, 0), (50, 4, 0)]
abbrev wtG (j : Nat) : Int × Int × Int := wtb.getD j (0, 0, 0)
abbrev wantsA : AV := .ro 3 7 (fun j => .agg [.int .i64 (wtG j).1, .int .i64 (wtG j).2.1, .int .i64 (wtG j).2.2])
theorem wants_s : SOK Try.prog 97 (sN wantsA) := by
  refine sok_of (C := mkC 0 [] noG) (mkC_ok pok_nil noG_ok) rfl mixed ⟨Try.func97, by kernel_rfl, by kernel_rfl, by kernel_rfl⟩ fun l obs v h ho => ?_
  obtain ⟨rfl, rfl, rfl⟩ := sN_inv h
  refine ⟨Nat.le_of_ble_eq_true rfl, ?_⟩
  (repeat' (first | (refine And.intro (fun (hfk : _ = true) => ?_) (fun (hfk : _ = false) => ?_) <;> ((try (first | replace hfk := of_decide_eq_true hfk | replace hfk := of_decide_eq_false hfk | simp only [decide_eq_true_eq, decide_eq_false_iff_not, dh1, dh0, ne_eq, reduceCtorEq] at hfk)); (try (exfalso; first | omega | contradiction | exact Bool.noConfusion (Eq.trans (Eq.symm hfk) (by with_reducible assumption : _ = false)) | exact Bool.noConfusion (Eq.trans (Eq.symm hfk) (by with_reducible assumption : _ = true)))))) | (refine And.intro ?ob ?_; (case ob => (first | exact Chk.mk (by kernel_rfl) | exact True.intro | with_reducible assumption | exact rng64 (by omega) (by omega) | omega | (dsimp only; omega) | (show (_ : Nat) ≤ _; omega) | (simp only [ll1, ll2, ll0]; done) | (simp only [ll1, ll2, ll0]; omega) | (dsimp only; simp only [ll1, ll2, ll0]; omega)))) | exact True.intro | (show _ = _; first | with_reducible rfl | with_reducible assumption | omega | (simp only [ll1, ll2, ll0]; omega) | (skip; done) | exact rfl) | with_reducible assumption | (apply And.intro) | omega | (intro j hj; exact rfl) | fail))
  intro j hj
  have : j = 0 ∨ j = 1 ∨ j = 2 ∨ j = 3 ∨ j = 4 ∨ j = 5 ∨ j = 6 := by omega
  rcases this with k | k | k | k | k | k | k <;> subst k <;> rfl
theorem wt_in {j : Nat} (h : j < 7) : 0 ≤ (wtG j).1 ∧ 0 ≤ (wtG j).2.1 ∧ (wtG j).2.1 ≤ 4 ∧ (wtG j).1 + (wtG j).2.1 ≤ 54 := by
  have : j = 0 ∨ j = 1 ∨ j = 2 ∨ j = 3 ∨ j = 4 ∨ j = 5 ∨ j = 6 := by omega
  rcases this with k | k | k | k | k | k | k <;> subst k <;> decide
def frm0 (b : List Int) : Prop := lw b 6 4 = 0 ∧ lw b 10 4 = 54 ∧ lw b 14 4 = 40 ∧ lw b 26 2 = 1 ∧ lw b 30 4 = 0 ∧ lw b 46 4 = 0 ∧ lw b 50 4 = 0
instance (b : List Int) : Decidable (frm0 b) := by unfold frm0; exact inferInstance
end Go.Proofs.Ytepjmnkleajibaa

/- Bitmaps (bmp): what a head tells. Printed by wip/tools/bmphead.py. No condition. -/
namespace Go.Proofs.Ytepjmnkleajibaa
open Go Go.RowKit
set_option linter.unusedVariables false
set_option linter.unusedSimpArgs false
set_option maxRecDepth 100000
set_option maxHeartbeats 4000000

def fmP (x1 x2 x3 x6 x7 x8 x12 x13 : Int) : Prop := x1 = 0 ∧ x8 = 0 ∧ x12 = 0 ∧ x13 = 0 ∧ x2 = 54 ∧ x3 = 40 ∧ x6 = 1 ∧ (x7 = 24 ∨ x7 = 32)
instance (x1 x2 x3 x6 x7 x8 x12 x13 : Int) : Decidable (fmP x1 x2 x3 x6 x7 x8 x12 x13) := by unfold fmP; exact inferInstance
abbrev hdEn (x0 x1 x2 x3 x4 x5 x6 x7 x8 x9 x10 x11 x12 x13 : Int) : Ent := .cells 148 [.int .u32 x0, .int .u32 x1, .int .u32 x2, .int .u32 x3, .int .u32 x4, .int .u32 x5, .int .u32 x6, .int .u32 x7, .int .u32 x8, .int .u32 x9, .int .u32 x10, .int .u32 x11, .int .u32 x12, .int .u32 x13]
def fieldsF : FSpec := fun l es => match l, es with
  | [.ptr 0 0], [.cells 148 [.int .u32 x0, .int .u32 x1, .int .u32 x2, .int .u32 x3, .int .u32 x4, .int .u32 x5, .int .u32 x6, .int .u32 x7, .int .u32 x8, .int .u32 x9, .int .u32 x10, .int .u32 x11, .int .u32 x12, .int .u32 x13]] => some ([], .sl 1 2 0 14, [some (hdEn x0 x1 x2 x3 x4 x5 x6 x7 x8 x9 x10 x11 x12 x13), some (.cells 224 [.ptr 0 0, .int .i64 4, .ptr 0 1, .int .i64 4, .ptr 0 2, .int .i64 4, .ptr 0 3, .int .i64 4, .ptr 0 4, .int .i64 4, .ptr 0 5, .int .i64 4, .ptr 0 6, .int .i64 2, .ptr 0 7, .int .i64 2, .ptr 0 8, .int .i64 4, .ptr 0 9, .int .i64 4, .ptr 0 10, .int .i64 4, .ptr 0 11, .int .i64 4, .ptr 0 12, .int .i64 4, .ptr 0 13, .int .i64 4])])
  | _, _ => none
theorem fields_g : GSOK Try.prog 149 (fG fieldsF) := by
  refine fokE (S := []) (G := noG) [] [] [] pok_nil noG_ok dl_nil ⟨Try.func149, by kernel_rfl, by kernel_rfl, by kernel_rfl⟩ fun l es obs v es' h ho => ?_
  (unfold fieldsF at h; split at h; rotate_left; (focus (cases h)); rename_i x0 x1 x2 x3 x4 x5 x6 x7 x8 x9 x10 x11 x12 x13; simp only [Option.some.injEq, Prod.mk.injEq] at h; obtain ⟨rfl, rfl, rfl⟩ := h; simp only [List.mem_cons, List.not_mem_nil, or_false, forall_eq_or_imp, forall_eq, false_implies, implies_true] at ho)
  refine ⟨Nat.le_of_ble_eq_true rfl, ?_⟩
  (repeat' (first | (refine And.intro (fun (hfk : _ = true) => ?_) (fun (hfk : _ = false) => ?_) <;> ((try (first | replace hfk := of_decide_eq_true hfk | replace hfk := of_decide_eq_false hfk | simp only [decide_eq_true_eq, decide_eq_false_iff_not, dh1, dh0, ne_eq, reduceCtorEq] at hfk)); (try (exfalso; first | omega | contradiction | exact Bool.noConfusion (Eq.trans (Eq.symm hfk) (by with_reducible assumption : _ = false)) | exact Bool.noConfusion (Eq.trans (Eq.symm hfk) (by with_reducible assumption : _ = true)))))) | (refine And.intro ?ob ?_; (case ob => (first | exact Chk.mk (by kernel_rfl) | exact True.intro | with_reducible assumption | exact rng64 (by omega) (by omega) | omega | (dsimp only; omega) | (show (_ : Nat) ≤ _; omega) | (simp only [ll1, ll2, ll0]; done) | (simp only [ll1, ll2, ll0]; omega) | (dsimp only; simp only [ll1, ll2, ll0]; omega)))) | exact True.intro | (show _ = _; first | with_reducible rfl | with_reducible assumption | omega | (simp only [ll1, ll2, ll0]; omega) | (skip; done) | exact rfl) | with_reducible assumption | (apply And.intro) | omega | (intro j hj; exact rfl) | fail))
  refine ⟨[some 0, some 1], ?_⟩
  (repeat' (first | (refine And.intro (fun (hfk : _ = true) => ?_) (fun (hfk : _ = false) => ?_) <;> ((try (first | replace hfk := of_decide_eq_true hfk | replace hfk := of_decide_eq_false hfk | simp only [decide_eq_true_eq, decide_eq_false_iff_not, dh1, dh0, ne_eq, reduceCtorEq] at hfk)); (try (exfalso; first | omega | contradiction | exact Bool.noConfusion (Eq.trans (Eq.symm hfk) (by with_reducible assumption : _ = false)) | exact Bool.noConfusion (Eq.trans (Eq.symm hfk) (by with_reducible assumption : _ = true)))))) | (refine And.intro ?ob ?_; (case ob => (first | exact Chk.mk (by kernel_rfl) | exact True.intro | with_reducible assumption | exact rng64 (by omega) (by omega) | omega | (dsimp only; omega) | (show (_ : Nat) ≤ _; omega) | (simp only [ll1, ll2, ll0]; done) | (simp only [ll1, ll2, ll0]; omega) | (dsimp only; simp only [ll1, ll2, ll0]; omega)))) | exact True.intro | (show _ = _; first | with_reducible rfl | with_reducible assumption | omega | (simp only [ll1, ll2, ll0]; omega) | (skip; done) | exact rfl) | with_reducible assumption | (apply And.intro) | omega | (intro j hj; exact rfl) | fail))
end Go.Proofs.Ytepjmnkleajibaa

/- Bitmaps (bmp): a head as bytes. Printed by wip/tools/bmphead.py. No condition. -/
namespace Go.Proofs.Ytepjmnkleajibaa
open Go Go.RowKit
set_option linter.unusedVariables false
set_option linter.unusedSimpArgs false
set_option maxRecDepth 100000
set_option maxHeartbeats 4000000

/-- A number's byte; its bytes, the lowest first. -/
def byt (x : Int) (t : Nat) : Int := x / 256 ^ t % 256
def byts (x : Int) (n : Nat) : List Int := (List.range n).map (byt x)
theorem byts_len (x : Int) (n : Nat) : (byts x n).length = n := by simp [byts]
theorem byts_succ (x : Int) (n : Nat) : byts x (n + 1) = byts x n ++ [byt x n] := by simp [byts, List.range_succ]
theorem byt_bd (x : Int) (t : Nat) : 0 ≤ byt x t ∧ byt x t ≤ 255 := by unfold byt; omega
theorem byt_sh {x : Int} {t : Nat} (h0 : 0 ≤ x) (h1 : x < 4294967296) (ht : t < 4) :
    IntKind.u8.wrap (x.fdiv (2 ^ min (IntKind.u64.wrap (8 * (t : Int))).toNat IntKind.u32.bits)) = byt x t := by
  have e1 : IntKind.u64.wrap (8 * (t : Int)) = 8 * (t : Int) := w64 (by omega) (by omega)
  have hb : IntKind.u32.bits = 32 := rfl
  rw [e1, hb, show (8 * (t : Int)).toNat = 8 * t by omega, Nat.min_eq_left (by omega), Int.fdiv_eq_ediv_of_nonneg _ (by exact Int.le_of_lt (Int.pow_pos (by decide)))]
  have e2 : IntKind.u8.wrap (x / 2 ^ (8 * t)) = x / 2 ^ (8 * t) % 256 := by simp [IntKind.wrap, IntKind.signed, IntKind.bits]
  rw [e2]; unfold byt
  have : (256 : Int) ^ t = 2 ^ (8 * t) := by rw [Int.pow_mul]; rfl
  rw [this]
structure U32 (x : Int) : Prop where
  lo : 0 ≤ x
  hi : x < 4294967296
abbrev hdOut (x0 x1 x2 x3 x4 x5 x6 x7 x8 x9 x10 x11 x12 x13 : Int) : List Int := ([66, 77] : List Int) ++ byts x0 4 ++ byts x1 4 ++ byts x2 4 ++ byts x3 4 ++ byts x4 4 ++ byts x5 4 ++ byts x6 2 ++ byts x7 2 ++ byts x8 4 ++ byts x9 4 ++ byts x10 4 ++ byts x11 4 ++ byts x12 4 ++ byts x13 4
def putHF : FSpec := fun l es => match l, es with
  | [.ptr 0 0], [.cells 148 [.int .u32 x0, .int .u32 x1, .int .u32 x2, .int .u32 x3, .int .u32 x4, .int .u32 x5, .int .u32 x6, .int .u32 x7, .int .u32 x8, .int .u32 x9, .int .u32 x10, .int .u32 x11, .int .u32 x12, .int .u32 x13]] => some ([U32 x0, U32 x1, U32 x2, U32 x3, U32 x4, U32 x5, U32 x6, U32 x7, U32 x8, U32 x9, U32 x10, U32 x11, U32 x12, U32 x13], .sl 1 1 0 54, [some (hdEn x0 x1 x2 x3 x4 x5 x6 x7 x8 x9 x10 x11 x12 x13), some (bE (hdOut x0 x1 x2 x3 x4 x5 x6 x7 x8 x9 x10 x11 x12 x13))])
  | _, _ => none
def hdPre (x0 x1 x2 x3 x4 x5 x6 x7 x8 x9 x10 x11 x12 x13 : Int) : Nat → List Int
  | 0 => ([66, 77] : List Int)
  | 1 => ([66, 77] : List Int) ++ byts x0 4
  | 2 => ([66, 77] : List Int) ++ byts x0 4 ++ byts x1 4
  | 3 => ([66, 77] : List Int) ++ byts x0 4 ++ byts x1 4 ++ byts x2 4
  | 4 => ([66, 77] : List Int) ++ byts x0 4 ++ byts x1 4 ++ byts x2 4 ++ byts x3 4
  | 5 => ([66, 77] : List Int) ++ byts x0 4 ++ byts x1 4 ++ byts x2 4 ++ byts x3 4 ++ byts x4 4
  | 6 => ([66, 77] : List Int) ++ byts x0 4 ++ byts x1 4 ++ byts x2 4 ++ byts x3 4 ++ byts x4 4 ++ byts x5 4
  | 7 => ([66, 77] : List Int) ++ byts x0 4 ++ byts x1 4 ++ byts x2 4 ++ byts x3 4 ++ byts x4 4 ++ byts x5 4 ++ byts x6 2
  | 8 => ([66, 77] : List Int) ++ byts x0 4 ++ byts x1 4 ++ byts x2 4 ++ byts x3 4 ++ byts x4 4 ++ byts x5 4 ++ byts x6 2 ++ byts x7 2
  | 9 => ([66, 77] : List Int) ++ byts x0 4 ++ byts x1 4 ++ byts x2 4 ++ byts x3 4 ++ byts x4 4 ++ byts x5 4 ++ byts x6 2 ++ byts x7 2 ++ byts x8 4
  | 10 => ([66, 77] : List Int) ++ byts x0 4 ++ byts x1 4 ++ byts x2 4 ++ byts x3 4 ++ byts x4 4 ++ byts x5 4 ++ byts x6 2 ++ byts x7 2 ++ byts x8 4 ++ byts x9 4
  | 11 => ([66, 77] : List Int) ++ byts x0 4 ++ byts x1 4 ++ byts x2 4 ++ byts x3 4 ++ byts x4 4 ++ byts x5 4 ++ byts x6 2 ++ byts x7 2 ++ byts x8 4 ++ byts x9 4 ++ byts x10 4
  | 12 => ([66, 77] : List Int) ++ byts x0 4 ++ byts x1 4 ++ byts x2 4 ++ byts x3 4 ++ byts x4 4 ++ byts x5 4 ++ byts x6 2 ++ byts x7 2 ++ byts x8 4 ++ byts x9 4 ++ byts x10 4 ++ byts x11 4
  | 13 => ([66, 77] : List Int) ++ byts x0 4 ++ byts x1 4 ++ byts x2 4 ++ byts x3 4 ++ byts x4 4 ++ byts x5 4 ++ byts x6 2 ++ byts x7 2 ++ byts x8 4 ++ byts x9 4 ++ byts x10 4 ++ byts x11 4 ++ byts x12 4
  | 14 => ([66, 77] : List Int) ++ byts x0 4 ++ byts x1 4 ++ byts x2 4 ++ byts x3 4 ++ byts x4 4 ++ byts x5 4 ++ byts x6 2 ++ byts x7 2 ++ byts x8 4 ++ byts x9 4 ++ byts x10 4 ++ byts x11 4 ++ byts x12 4 ++ byts x13 4
  | _ => []
def hdLen (i : Nat) : Nat := [2, 6, 10, 14, 18, 22, 26, 28, 30, 34, 38, 42, 46, 50, 54].getD i 0
theorem putH_g : GSOK Try.prog 93 (fG putHF) := by
  refine fokE (S := []) (G := glook [(149, fG fieldsF)]) [] [] [] pok_nil (gl_cons fields_g gl_nil) dl_nil ⟨Try.func93, by kernel_rfl, by kernel_rfl, by kernel_rfl⟩ fun l es obs v es' h ho => ?_
  (unfold putHF at h; split at h; rotate_left; (focus (cases h)); rename_i x0 x1 x2 x3 x4 x5 x6 x7 x8 x9 x10 x11 x12 x13; simp only [Option.some.injEq, Prod.mk.injEq] at h; obtain ⟨rfl, rfl, rfl⟩ := h; simp only [List.mem_cons, List.not_mem_nil, or_false, forall_eq_or_imp, forall_eq, false_implies, implies_true] at ho)
  obtain ⟨h0, h1, h2, h3, h4, h5, h6, h7, h8, h9, h10, h11, h12, h13⟩ := ho
  refine ⟨Nat.le_of_ble_eq_true rfl, ?_⟩
  (repeat' (first | (refine And.intro (fun (hfk : _ = true) => ?_) (fun (hfk : _ = false) => ?_) <;> ((try (first | replace hfk := of_decide_eq_true hfk | replace hfk := of_decide_eq_false hfk | simp only [decide_eq_true_eq, decide_eq_false_iff_not, dh1, dh0, ne_eq, reduceCtorEq] at hfk)); (try (exfalso; first | omega | contradiction | exact Bool.noConfusion (Eq.trans (Eq.symm hfk) (by with_reducible assumption : _ = false)) | exact Bool.noConfusion (Eq.trans (Eq.symm hfk) (by with_reducible assumption : _ = true)))))) | (refine And.intro ?ob ?_; (case ob => (first | exact Chk.mk (by kernel_rfl) | exact True.intro | with_reducible assumption | exact rng64 (by omega) (by omega) | omega | (dsimp only; omega) | (show (_ : Nat) ≤ _; omega) | (simp only [ll1, ll2, ll0]; done) | (simp only [ll1, ll2, ll0]; omega) | (dsimp only; simp only [ll1, ll2, ll0]; omega)))) | exact True.intro | (show _ = _; first | with_reducible rfl | with_reducible assumption | omega | (simp only [ll1, ll2, ll0]; omega) | (skip; done) | exact rfl) | with_reducible assumption | (apply And.intro) | omega | (intro j hj; exact rfl) | fail))
  (refine ⟨[0], ⟨by kernel_rfl⟩, ?_⟩)
  (repeat' (first | (refine And.intro (fun (hfk : _ = true) => ?_) (fun (hfk : _ = false) => ?_) <;> ((try (first | replace hfk := of_decide_eq_true hfk | replace hfk := of_decide_eq_false hfk | simp only [decide_eq_true_eq, decide_eq_false_iff_not, dh1, dh0, ne_eq, reduceCtorEq] at hfk)); (try (exfalso; first | omega | contradiction | exact Bool.noConfusion (Eq.trans (Eq.symm hfk) (by with_reducible assumption : _ = false)) | exact Bool.noConfusion (Eq.trans (Eq.symm hfk) (by with_reducible assumption : _ = true)))))) | (refine And.intro ?ob ?_; (case ob => (first | exact Chk.mk (by kernel_rfl) | exact True.intro | with_reducible assumption | exact rng64 (by omega) (by omega) | omega | (dsimp only; omega) | (show (_ : Nat) ≤ _; omega) | (simp only [ll1, ll2, ll0]; done) | (simp only [ll1, ll2, ll0]; omega) | (dsimp only; simp only [ll1, ll2, ll0]; omega)))) | exact True.intro | (show _ = _; first | with_reducible rfl | with_reducible assumption | omega | (simp only [ll1, ll2, ll0]; omega) | (skip; done) | exact rfl) | with_reducible assumption | (apply And.intro) | omega | (intro j hj; exact rfl) | fail))
  refine ⟨Nat, fun i => [(0, .ptr 0 0), (3, .sl 1 1 0 (hdLen i)), (10, .sl 2 2 0 14), (11, .int .i64 14), (12, .int .i64 (i : Int))],
    fun i => ⟨3, [(0, some (hdEn x0 x1 x2 x3 x4 x5 x6 x7 x8 x9 x10 x11 x12 x13)), (1, some (bE (hdPre x0 x1 x2 x3 x4 x5 x6 x7 x8 x9 x10 x11 x12 x13 i))), (2, some (.cells 224 [.ptr 0 0, .int .i64 4, .ptr 0 1, .int .i64 4, .ptr 0 2, .int .i64 4, .ptr 0 3, .int .i64 4, .ptr 0 4, .int .i64 4, .ptr 0 5, .int .i64 4, .ptr 0 6, .int .i64 2, .ptr 0 7, .int .i64 2, .ptr 0 8, .int .i64 4, .ptr 0 9, .int .i64 4, .ptr 0 10, .int .i64 4, .ptr 0 11, .int .i64 4, .ptr 0 12, .int .i64 4, .ptr 0 13, .int .i64 4]))]⟩,
    fun i => i ≤ 14, fun i => 14 - i, ⟨0, [some 0, some 1, some 2], by omega, ?_⟩, fun i hi => ?_⟩
  · (repeat' (first | (refine And.intro ?_ ?_) | exact True.intro | (show _ = _; with_reducible rfl) | exact Chk.mk (by kernel_rfl)))
    all_goals rfl
  have hi : i ≤ 14 := hi
  have hc : i = 0 ∨ i = 1 ∨ i = 2 ∨ i = 3 ∨ i = 4 ∨ i = 5 ∨ i = 6 ∨ i = 7 ∨ i = 8 ∨ i = 9 ∨ i = 10 ∨ i = 11 ∨ i = 12 ∨ i = 13 ∨ i = 14 := by omega
  rcases hc with q | q | q | q | q | q | q | q | q | q | q | q | q | q | q <;> subst q
  · obtain ⟨u0, u1⟩ := h0
    have hP : (([66, 77] : List Int)).length = 2 := by simp only [List.length_append, byts_len, List.length_cons, List.length_nil]
    obtain ⟨P, hPe⟩ : ∃ P, ([66, 77] : List Int) = P := ⟨_, rfl⟩
    rw [hPe] at hP
    (repeat' (first | (refine And.intro (fun (hfk : _ = true) => ?_) (fun (hfk : _ = false) => ?_) <;> ((try (first | replace hfk := of_decide_eq_true hfk | replace hfk := of_decide_eq_false hfk | simp only [decide_eq_true_eq, decide_eq_false_iff_not, dh1, dh0, ne_eq, reduceCtorEq] at hfk)); (try (exfalso; first | omega | contradiction | exact Bool.noConfusion (Eq.trans (Eq.symm hfk) (by with_reducible assumption : _ = false)) | exact Bool.noConfusion (Eq.trans (Eq.symm hfk) (by with_reducible assumption : _ = true)))))) | (refine And.intro ?ob ?_; (case ob => (first | exact Chk.mk (by kernel_rfl) | exact True.intro | with_reducible assumption | exact rng64 (by omega) (by omega) | omega | (dsimp only; omega) | (show (_ : Nat) ≤ _; omega) | (simp only [ll1, ll2, ll0]; done) | (simp only [ll1, ll2, ll0]; omega) | (dsimp only; simp only [ll1, ll2, ll0]; omega)))) | exact True.intro | (show _ = _; first | with_reducible rfl | with_reducible assumption | omega | (simp only [ll1, ll2, ll0]; omega) | (skip; done) | exact rfl) | with_reducible assumption | (apply And.intro) | omega | (intro j hj; exact rfl) | fail))
    refine ⟨Nat, fun t => [(0, .ptr 0 0), (3, .sl 1 1 0 (2 + t)), (5, .ptr 3 0), (10, .sl 2 2 0 14), (11, .int .i64 14), (12, .int .i64 ((0 : Nat) : Int)), (17, .int .i64 4), (18, .int .i64 (t : Int))],
      fun t => ⟨4, [(0, some (hdEn x0 x1 x2 x3 x4 x5 x6 x7 x8 x9 x10 x11 x12 x13)), (1, some (bE (P ++ byts x0 t))), (2, some (.cells 224 [.ptr 0 0, .int .i64 4, .ptr 0 1, .int .i64 4, .ptr 0 2, .int .i64 4, .ptr 0 3, .int .i64 4, .ptr 0 4, .int .i64 4, .ptr 0 5, .int .i64 4, .ptr 0 6, .int .i64 2, .ptr 0 7, .int .i64 2, .ptr 0 8, .int .i64 4, .ptr 0 9, .int .i64 4, .ptr 0 10, .int .i64 4, .ptr 0 11, .int .i64 4, .ptr 0 12, .int .i64 4, .ptr 0 13, .int .i64 4])), (3, some (.cells 224 [.ptr 0 0, .int .i64 4]))]⟩,
      fun t => t ≤ 4, fun t => 4 - t, ⟨0, [some 0, some 1, some 2, some 3], by omega, ?_⟩, fun t ht => ?_⟩
    · have e0 : ([66, 77] : List Int) = P ++ byts x0 0 := by rw [hPe]; simp [byts]
      (repeat' (first | (refine And.intro ?_ ?_) | exact True.intro | (show _ = _; with_reducible rfl) | exact Chk.mk (by kernel_rfl)))
      all_goals first | rfl | exact e0
    have ht : t ≤ 4 := ht
    have hl : (P ++ byts x0 t).length = 2 + t := by rw [List.length_append, hP, byts_len]
    have hlb : (byts x0 t).length = t := byts_len _ _
    by_cases htk : t < 4
    · have eb := byt_sh (t := t) u0 u1 (by omega)
      have r8 : rngI .i64 (8 * (t : Int)) := rng64 (by omega) (by omega)
      have rt : rngI .i64 ((t : Int) + 1) := rng64 (by omega) (by omega)
      have w8 : IntKind.u64.wrap (8 * (t : Int)) = 8 * (t : Int) := w64 (by omega) (by omega)
      have s8 : 0 ≤ IntKind.u64.wrap (8 * (t : Int)) := by rw [w8]; omega
      have e1 : List.take 1 (List.drop 0 [IntKind.u8.wrap (x0.fdiv (2 ^ min (IntKind.u64.wrap (8 * (t : Int))).toNat IntKind.u32.bits))]) = [byt x0 t] := by rw [eb]; rfl
      have e2 : P ++ byts x0 t ++ List.take 1 (List.drop 0 [IntKind.u8.wrap (x0.fdiv (2 ^ min (IntKind.u64.wrap (8 * (t : Int))).toNat IntKind.u32.bits))]) = P ++ byts x0 (t + 1) := by rw [e1, byts_succ, List.append_assoc]
      (repeat' (first | (refine And.intro (fun (hfk : _ = true) => ?_) (fun (hfk : _ = false) => ?_) <;> ((try (first | replace hfk := of_decide_eq_true hfk | replace hfk := of_decide_eq_false hfk | simp only [decide_eq_true_eq, decide_eq_false_iff_not, dh1, dh0, ne_eq, reduceCtorEq] at hfk)); (try (exfalso; first | omega | contradiction | exact Bool.noConfusion (Eq.trans (Eq.symm hfk) (by with_reducible assumption : _ = false)) | exact Bool.noConfusion (Eq.trans (Eq.symm hfk) (by with_reducible assumption : _ = true)))))) | (refine And.intro ?ob ?_; (case ob => (first | exact Chk.mk (by kernel_rfl) | exact True.intro | with_reducible assumption | exact rng64 (by omega) (by omega) | omega | (dsimp only; omega) | (show (_ : Nat) ≤ _; omega) | (simp only [ll1, ll2, ll0]; done) | (simp only [ll1, ll2, ll0]; omega) | (dsimp only; simp only [ll1, ll2, ll0]; omega)))) | exact True.intro | (show _ = _; first | with_reducible rfl | with_reducible assumption | omega | (simp only [ll1, ll2, ll0]; omega) | (skip; done) | exact rfl) | with_reducible assumption | (apply And.intro) | omega | (intro j hj; exact rfl) | fail))
      refine ⟨t + 1, [some 0, some 5, some 2, some 3], htk, ?mu, ?_⟩
      case mu => (show 4 - (t + 1) < 4 - t; omega)
      (repeat' (first | (refine And.intro ?_ ?_) | exact True.intro | (show _ = _; with_reducible rfl) | exact Chk.mk (by kernel_rfl)))
      all_goals first | rfl | exact e2 | (show (_ : Int) = _; omega) | (show (_ : Nat) = _; simp only [List.length_append, List.length_take, List.length_drop, List.length_cons, List.length_nil, byts_len]; omega)
    · obtain rfl : t = 4 := by omega
      (repeat' (first | (refine And.intro (fun (hfk : _ = true) => ?_) (fun (hfk : _ = false) => ?_) <;> ((try (first | replace hfk := of_decide_eq_true hfk | replace hfk := of_decide_eq_false hfk | simp only [decide_eq_true_eq, decide_eq_false_iff_not, dh1, dh0, ne_eq, reduceCtorEq] at hfk)); (try (exfalso; first | omega | contradiction | exact Bool.noConfusion (Eq.trans (Eq.symm hfk) (by with_reducible assumption : _ = false)) | exact Bool.noConfusion (Eq.trans (Eq.symm hfk) (by with_reducible assumption : _ = true)))))) | (refine And.intro ?ob ?_; (case ob => (first | exact Chk.mk (by kernel_rfl) | exact True.intro | with_reducible assumption | exact rng64 (by omega) (by omega) | omega | (dsimp only; omega) | (show (_ : Nat) ≤ _; omega) | (simp only [ll1, ll2, ll0]; done) | (simp only [ll1, ll2, ll0]; omega) | (dsimp only; simp only [ll1, ll2, ll0]; omega)))) | exact True.intro | (show _ = _; first | with_reducible rfl | with_reducible assumption | omega | (simp only [ll1, ll2, ll0]; omega) | (skip; done) | exact rfl) | with_reducible assumption | (apply And.intro) | omega | (intro j hj; exact rfl) | fail))
      refine ⟨1, [some 0, some 1, some 2], by omega, ?mu, ?_⟩
      case mu => (show 14 - 1 < 14 - 0; omega)
      have e3 : P ++ byts x0 4 = ([66, 77] : List Int) ++ byts x0 4 := by rw [hPe]
      (repeat' (first | (refine And.intro ?_ ?_) | exact True.intro | (show _ = _; with_reducible rfl) | exact Chk.mk (by kernel_rfl)))
      all_goals first | rfl | exact e3
  · obtain ⟨u0, u1⟩ := h1
    have hP : (([66, 77] : List Int) ++ byts x0 4).length = 6 := by simp only [List.length_append, byts_len, List.length_cons, List.length_nil]
    obtain ⟨P, hPe⟩ : ∃ P, ([66, 77] : List Int) ++ byts x0 4 = P := ⟨_, rfl⟩
    rw [hPe] at hP
    (repeat' (first | (refine And.intro (fun (hfk : _ = true) => ?_) (fun (hfk : _ = false) => ?_) <;> ((try (first | replace hfk := of_decide_eq_true hfk | replace hfk := of_decide_eq_false hfk | simp only [decide_eq_true_eq, decide_eq_false_iff_not, dh1, dh0, ne_eq, reduceCtorEq] at hfk)); (try (exfalso; first | omega | contradiction | exact Bool.noConfusion (Eq.trans (Eq.symm hfk) (by with_reducible assumption : _ = false)) | exact Bool.noConfusion (Eq.trans (Eq.symm hfk) (by with_reducible assumption : _ = true)))))) | (refine And.intro ?ob ?_; (case ob => (first | exact Chk.mk (by kernel_rfl) | exact True.intro | with_reducible assumption | exact rng64 (by omega) (by omega) | omega | (dsimp only; omega) | (show (_ : Nat) ≤ _; omega) | (simp only [ll1, ll2, ll0]; done) | (simp only [ll1, ll2, ll0]; omega) | (dsimp only; simp only [ll1, ll2, ll0]; omega)))) | exact True.intro | (show _ = _; first | with_reducible rfl | with_reducible assumption | omega | (simp only [ll1, ll2, ll0]; omega) | (skip; done) | exact rfl) | with_reducible assumption | (apply And.intro) | omega | (intro j hj; exact rfl) | fail))
    refine ⟨Nat, fun t => [(0, .ptr 0 0), (3, .sl 1 1 0 (6 + t)), (5, .ptr 3 0), (10, .sl 2 2 0 14), (11, .int .i64 14), (12, .int .i64 ((1 : Nat) : Int)), (17, .int .i64 4), (18, .int .i64 (t : Int))],
      fun t => ⟨4, [(0, some (hdEn x0 x1 x2 x3 x4 x5 x6 x7 x8 x9 x10 x11 x12 x13)), (1, some (bE (P ++ byts x1 t))), (2, some (.cells 224 [.ptr 0 0, .int .i64 4, .ptr 0 1, .int .i64 4, .ptr 0 2, .int .i64 4, .ptr 0 3, .int .i64 4, .ptr 0 4, .int .i64 4, .ptr 0 5, .int .i64 4, .ptr 0 6, .int .i64 2, .ptr 0 7, .int .i64 2, .ptr 0 8, .int .i64 4, .ptr 0 9, .int .i64 4, .ptr 0 10, .int .i64 4, .ptr 0 11, .int .i64 4, .ptr 0 12, .int .i64 4, .ptr 0 13, .int .i64 4])), (3, some (.cells 224 [.ptr 0 1, .int .i64 4]))]⟩,
      fun t => t ≤ 4, fun t => 4 - t, ⟨0, [some 0, some 1, some 2, some 3], by omega, ?_⟩, fun t ht => ?_⟩
    · have e0 : ([66, 77] : List Int) ++ byts x0 4 = P ++ byts x1 0 := by rw [hPe]; simp [byts]
      (repeat' (first | (refine And.intro ?_ ?_) | exact True.intro | (show _ = _; with_reducible rfl) | exact Chk.mk (by kernel_rfl)))
      all_goals first | rfl | exact e0
    have ht : t ≤ 4 := ht
    have hl : (P ++ byts x1 t).length = 6 + t := by rw [List.length_append, hP, byts_len]
    have hlb : (byts x1 t).length = t := byts_len _ _
    by_cases htk : t < 4
    · have eb := byt_sh (t := t) u0 u1 (by omega)
      have r8 : rngI .i64 (8 * (t : Int)) := rng64 (by omega) (by omega)
      have rt : rngI .i64 ((t : Int) + 1) := rng64 (by omega) (by omega)
      have w8 : IntKind.u64.wrap (8 * (t : Int)) = 8 * (t : Int) := w64 (by omega) (by omega)
      have s8 : 0 ≤ IntKind.u64.wrap (8 * (t : Int)) := by rw [w8]; omega
      have e1 : List.take 1 (List.drop 0 [IntKind.u8.wrap (x1.fdiv (2 ^ min (IntKind.u64.wrap (8 * (t : Int))).toNat IntKind.u32.bits))]) = [byt x1 t] := by rw [eb]; rfl
      have e2 : P ++ byts x1 t ++ List.take 1 (List.drop 0 [IntKind.u8.wrap (x1.fdiv (2 ^ min (IntKind.u64.wrap (8 * (t : Int))).toNat IntKind.u32.bits))]) = P ++ byts x1 (t + 1) := by rw [e1, byts_succ, List.append_assoc]
      (repeat' (first | (refine And.intro (fun (hfk : _ = true) => ?_) (fun (hfk : _ = false) => ?_) <;> ((try (first | replace hfk := of_decide_eq_true hfk | replace hfk := of_decide_eq_false hfk | simp only [decide_eq_true_eq, decide_eq_false_iff_not, dh1, dh0, ne_eq, reduceCtorEq] at hfk)); (try (exfalso; first | omega | contradiction | exact Bool.noConfusion (Eq.trans (Eq.symm hfk) (by with_reducible assumption : _ = false)) | exact Bool.noConfusion (Eq.trans (Eq.symm hfk) (by with_reducible assumption : _ = true)))))) | (refine And.intro ?ob ?_; (case ob => (first | exact Chk.mk (by kernel_rfl) | exact True.intro | with_reducible assumption | exact rng64 (by omega) (by omega) | omega | (dsimp only; omega) | (show (_ : Nat) ≤ _; omega) | (simp only [ll1, ll2, ll0]; done) | (simp only [ll1, ll2, ll0]; omega) | (dsimp only; simp only [ll1, ll2, ll0]; omega)))) | exact True.intro | (show _ = _; first | with_reducible rfl | with_reducible assumption | omega | (simp only [ll1, ll2, ll0]; omega) | (skip; done) | exact rfl) | with_reducible assumption | (apply And.intro) | omega | (intro j hj; exact rfl) | fail))
      refine ⟨t + 1, [some 0, some 5, some 2, some 3], htk, ?mu, ?_⟩
      case mu => (show 4 - (t + 1) < 4 - t; omega)
      (repeat' (first | (refine And.intro ?_ ?_) | exact True.intro | (show _ = _; with_reducible rfl) | exact Chk.mk (by kernel_rfl)))
      all_goals first | rfl | exact e2 | (show (_ : Int) = _; omega) | (show (_ : Nat) = _; simp only [List.length_append, List.length_take, List.length_drop, List.length_cons, List.length_nil, byts_len]; omega)
    · obtain rfl : t = 4 := by omega
      (repeat' (first | (refine And.intro (fun (hfk : _ = true) => ?_) (fun (hfk : _ = false) => ?_) <;> ((try (first | replace hfk := of_decide_eq_true hfk | replace hfk := of_decide_eq_false hfk | simp only [decide_eq_true_eq, decide_eq_false_iff_not, dh1, dh0, ne_eq, reduceCtorEq] at hfk)); (try (exfalso; first | omega | contradiction | exact Bool.noConfusion (Eq.trans (Eq.symm hfk) (by with_reducible assumption : _ = false)) | exact Bool.noConfusion (Eq.trans (Eq.symm hfk) (by with_reducible assumption : _ = true)))))) | (refine And.intro ?ob ?_; (case ob => (first | exact Chk.mk (by kernel_rfl) | exact True.intro | with_reducible assumption | exact rng64 (by omega) (by omega) | omega | (dsimp only; omega) | (show (_ : Nat) ≤ _; omega) | (simp only [ll1, ll2, ll0]; done) | (simp only [ll1, ll2, ll0]; omega) | (dsimp only; simp only [ll1, ll2, ll0]; omega)))) | exact True.intro | (show _ = _; first | with_reducible rfl | with_reducible assumption | omega | (simp only [ll1, ll2, ll0]; omega) | (skip; done) | exact rfl) | with_reducible assumption | (apply And.intro) | omega | (intro j hj; exact rfl) | fail))
      refine ⟨2, [some 0, some 1, some 2], by omega, ?mu, ?_⟩
      case mu => (show 14 - 2 < 14 - 1; omega)
      have e3 : P ++ byts x1 4 = ([66, 77] : List Int) ++ byts x0 4 ++ byts x1 4 := by rw [hPe]
      (repeat' (first | (refine And.intro ?_ ?_) | exact True.intro | (show _ = _; with_reducible rfl) | exact Chk.mk (by kernel_rfl)))
      all_goals first | rfl | exact e3
  · obtain ⟨u0, u1⟩ := h2
    have hP : (([66, 77] : List Int) ++ byts x0 4 ++ byts x1 4).length = 10 := by simp only [List.length_append, byts_len, List.length_cons, List.length_nil]
    obtain ⟨P, hPe⟩ : ∃ P, ([66, 77] : List Int) ++ byts x0 4 ++ byts x1 4 = P := ⟨_, rfl⟩
    rw [hPe] at hP
    (repeat' (first | (refine And.intro (fun (hfk : _ = true) => ?_) (fun (hfk : _ = false) => ?_) <;> ((try (first | replace hfk := of_decide_eq_true hfk | replace hfk := of_decide_eq_false hfk | simp only [decide_eq_true_eq, decide_eq_false_iff_not, dh1, dh0, ne_eq, reduceCtorEq] at hfk)); (try (exfalso; first | omega | contradiction | exact Bool.noConfusion (Eq.trans (Eq.symm hfk) (by with_reducible assumption : _ = false)) | exact Bool.noConfusion (Eq.trans (Eq.symm hfk) (by with_reducible assumption : _ = true)))))) | (refine And.intro ?ob ?_; (case ob => (first | exact Chk.mk (by kernel_rfl) | exact True.intro | with_reducible assumption | exact rng64 (by omega) (by omega) | omega | (dsimp only; omega) | (show (_ : Nat) ≤ _; omega) | (simp only [ll1, ll2, ll0]; done) | (simp only [ll1, ll2, ll0]; omega) | (dsimp only; simp only [ll1, ll2, ll0]; omega)))) | exact True.intro | (show _ = _; first | with_reducible rfl | with_reducible assumption | omega | (simp only [ll1, ll2, ll0]; omega) | (skip; done) | exact rfl) | with_reducible assumption | (apply And.intro) | omega | (intro j hj; exact rfl) | fail))
    refine ⟨Nat, fun t => [(0, .ptr 0 0), (3, .sl 1 1 0 (10 + t)), (5, .ptr 3 0), (10, .sl 2 2 0 14), (11, .int .i64 14), (12, .int .i64 ((2 : Nat) : Int)), (17, .int .i64 4), (18, .int .i64 (t : Int))],
      fun t => ⟨4, [(0, some (hdEn x0 x1 x2 x3 x4 x5 x6 x7 x8 x9 x10 x11 x12 x13)), (1, some (bE (P ++ byts x2 t))), (2, some (.cells 224 [.ptr 0 0, .int .i64 4, .ptr 0 1, .int .i64 4, .ptr 0 2, .int .i64 4, .ptr 0 3, .int .i64 4, .ptr 0 4, .int .i64 4, .ptr 0 5, .int .i64 4, .ptr 0 6, .int .i64 2, .ptr 0 7, .int .i64 2, .ptr 0 8, .int .i64 4, .ptr 0 9, .int .i64 4, .ptr 0 10, .int .i64 4, .ptr 0 11, .int .i64 4, .ptr 0 12, .int .i64 4, .ptr 0 13, .int .i64 4])), (3, some (.cells 224 [.ptr 0 2, .int .i64 4]))]⟩,
      fun t => t ≤ 4, fun t => 4 - t, ⟨0, [some 0, some 1, some 2, some 3], by omega, ?_⟩, fun t ht => ?_⟩
    · have e0 : ([66, 77] : List Int) ++ byts x0 4 ++ byts x1 4 = P ++ byts x2 0 := by rw [hPe]; simp [byts]
      (repeat' (first | (refine And.intro ?_ ?_) | exact True.intro | (show _ = _; with_reducible rfl) | exact Chk.mk (by kernel_rfl)))
      all_goals first | rfl | exact e0
    have ht : t ≤ 4 := ht
    have hl : (P ++ byts x2 t).length = 10 + t := by rw [List.length_append, hP, byts_len]
    have hlb : (byts x2 t).length = t := byts_len _ _
    by_cases htk : t < 4
    · have eb := byt_sh (t := t) u0 u1 (by omega)
      have r8 : rngI .i64 (8 * (t : Int)) := rng64 (by omega) (by omega)
      have rt : rngI .i64 ((t : Int) + 1) := rng64 (by omega) (by omega)
      have w8 : IntKind.u64.wrap (8 * (t : Int)) = 8 * (t : Int) := w64 (by omega) (by omega)
      have s8 : 0 ≤ IntKind.u64.wrap (8 * (t : Int)) := by rw [w8]; omega
      have e1 : List.take 1 (List.drop 0 [IntKind.u8.wrap (x2.fdiv (2 ^ min (IntKind.u64.wrap (8 * (t : Int))).toNat IntKind.u32.bits))]) = [byt x2 t] := by rw [eb]; rfl
      have e2 : P ++ byts x2 t ++ List.take 1 (List.drop 0 [IntKind.u8.wrap (x2.fdiv (2 ^ min (IntKind.u64.wrap (8 * (t : Int))).toNat IntKind.u32.bits))]) = P ++ byts x2 (t + 1) := by rw [e1, byts_succ, List.append_assoc]
      (repeat' (first | (refine And.intro (fun (hfk : _ = true) => ?_) (fun (hfk : _ = false) => ?_) <;> ((try (first | replace hfk := of_decide_eq_true hfk | replace hfk := of_decide_eq_false hfk | simp only [decide_eq_true_eq, decide_eq_false_iff_not, dh1, dh0, ne_eq, reduceCtorEq] at hfk)); (try (exfalso; first | omega | contradiction | exact Bool.noConfusion (Eq.trans (Eq.symm hfk) (by with_reducible assumption : _ = false)) | exact Bool.noConfusion (Eq.trans (Eq.symm hfk) (by with_reducible assumption : _ = true)))))) | (refine And.intro ?ob ?_; (case ob => (first | exact Chk.mk (by kernel_rfl) | exact True.intro | with_reducible assumption | exact rng64 (by omega) (by omega) | omega | (dsimp only; omega) | (show (_ : Nat) ≤ _; omega) | (simp only [ll1, ll2, ll0]; done) | (simp only [ll1, ll2, ll0]; omega) | (dsimp only; simp only [ll1, ll2, ll0]; omega)))) | exact True.intro | (show _ = _; first | with_reducible rfl | with_reducible assumption | omega | (simp only [ll1, ll2, ll0]; omega) | (skip; done) | exact rfl) | with_reducible assumption | (apply And.intro) | omega | (intro j hj; exact rfl) | fail))
      refine ⟨t + 1, [some 0, some 5, some 2, some 3], htk, ?mu, ?_⟩
      case mu => (show 4 - (t + 1) < 4 - t; omega)
      (repeat' (first | (refine And.intro ?_ ?_) | exact True.intro | (show _ = _; with_reducible rfl) | exact Chk.mk (by kernel_rfl)))
      all_goals first | rfl | exact e2 | (show (_ : Int) = _; omega) | (show (_ : Nat) = _; simp only [List.length_append, List.length_take, List.length_drop, List.length_cons, List.length_nil, byts_len]; omega)
    · obtain rfl : t = 4 := by omega
      (repeat' (first | (refine And.intro (fun (hfk : _ = true) => ?_) (fun (hfk : _ = false) => ?_) <;> ((try (first | replace hfk := of_decide_eq_true hfk | replace hfk := of_decide_eq_false hfk | simp only [decide_eq_true_eq, decide_eq_false_iff_not, dh1, dh0, ne_eq, reduceCtorEq] at hfk)); (try (exfalso; first | omega | contradiction | exact Bool.noConfusion (Eq.trans (Eq.symm hfk) (by with_reducible assumption : _ = false)) | exact Bool.noConfusion (Eq.trans (Eq.symm hfk) (by with_reducible assumption : _ = true)))))) | (refine And.intro ?ob ?_; (case ob => (first | exact Chk.mk (by kernel_rfl) | exact True.intro | with_reducible assumption | exact rng64 (by omega) (by omega) | omega | (dsimp only; omega) | (show (_ : Nat) ≤ _; omega) | (simp only [ll1, ll2, ll0]; done) | (simp only [ll1, ll2, ll0]; omega) | (dsimp only; simp only [ll1, ll2, ll0]; omega)))) | exact True.intro | (show _ = _; first | with_reducible rfl | with_reducible assumption | omega | (simp only [ll1, ll2, ll0]; omega) | (skip; done) | exact rfl) | with_reducible assumption | (apply And.intro) | omega | (intro j hj; exact rfl) | fail))
      refine ⟨3, [some 0, some 1, some 2], by omega, ?mu, ?_⟩
      case mu => (show 14 - 3 < 14 - 2; omega)
      have e3 : P ++ byts x2 4 = ([66, 77] : List Int) ++ byts x0 4 ++ byts x1 4 ++ byts x2 4 := by rw [hPe]
      (repeat' (first | (refine And.intro ?_ ?_) | exact True.intro | (show _ = _; with_reducible rfl) | exact Chk.mk (by kernel_rfl)))
      all_goals first | rfl | exact e3
  · obtain ⟨u0, u1⟩ := h3
    have hP : (([66, 77] : List Int) ++ byts x0 4 ++ byts x1 4 ++ byts x2 4).length = 14 := by simp only [List.length_append, byts_len, List.length_cons, List.length_nil]
    obtain ⟨P, hPe⟩ : ∃ P, ([66, 77] : List Int) ++ byts x0 4 ++ byts x1 4 ++ byts x2 4 = P := ⟨_, rfl⟩
    rw [hPe] at hP
    (repeat' (first | (refine And.intro (fun (hfk : _ = true) => ?_) (fun (hfk : _ = false) => ?_) <;> ((try (first | replace hfk := of_decide_eq_true hfk | replace hfk := of_decide_eq_false hfk | simp only [decide_eq_true_eq, decide_eq_false_iff_not, dh1, dh0, ne_eq, reduceCtorEq] at hfk)); (try (exfalso; first | omega | contradiction | exact Bool.noConfusion (Eq.trans (Eq.symm hfk) (by with_reducible assumption : _ = false)) | exact Bool.noConfusion (Eq.trans (Eq.symm hfk) (by with_reducible assumption : _ = true)))))) | (refine And.intro ?ob ?_; (case ob => (first | exact Chk.mk (by kernel_rfl) | exact True.intro | with_reducible assumption | exact rng64 (by omega) (by omega) | omega | (dsimp only; omega) | (show (_ : Nat) ≤ _; omega) | (simp only [ll1, ll2, ll0]; done) | (simp only [ll1, ll2, ll0]; omega) | (dsimp only; simp only [ll1, ll2, ll0]; omega)))) | exact True.intro | (show _ = _; first | with_reducible rfl | with_reducible assumption | omega | (simp only [ll1, ll2, ll0]; omega) | (skip; done) | exact rfl) | with_reducible assumption | (apply And.intro) | omega | (intro j hj; exact rfl) | fail))
    refine ⟨Nat, fun t => [(0, .ptr 0 0), (3, .sl 1 1 0 (14 + t)), (5, .ptr 3 0), (10, .sl 2 2 0 14), (11, .int .i64 14), (12, .int .i64 ((3 : Nat) : Int)), (17, .int .i64 4), (18, .int .i64 (t : Int))],
      fun t => ⟨4, [(0, some (hdEn x0 x1 x2 x3 x4 x5 x6 x7 x8 x9 x10 x11 x12 x13)), (1, some (bE (P ++ byts x3 t))), (2, some (.cells 224 [.ptr 0 0, .int .i64 4, .ptr 0 1, .int .i64 4, .ptr 0 2, .int .i64 4, .ptr 0 3, .int .i64 4, .ptr 0 4, .int .i64 4, .ptr 0 5, .int .i64 4, .ptr 0 6, .int .i64 2, .ptr 0 7, .int .i64 2, .ptr 0 8, .int .i64 4, .ptr 0 9, .int .i64 4, .ptr 0 10, .int .i64 4, .ptr 0 11, .int .i64 4, .ptr 0 12, .int .i64 4, .ptr 0 13, .int .i64 4])), (3, some (.cells 224 [.ptr 0 3, .int .i64 4]))]⟩,
      fun t => t ≤ 4, fun t => 4 - t, ⟨0, [some 0, some 1, some 2, some 3], by omega, ?_⟩, fun t ht => ?_⟩
    · have e0 : ([66, 77] : List Int) ++ byts x0 4 ++ byts x1 4 ++ byts x2 4 = P ++ byts x3 0 := by rw [hPe]; simp [byts]
      (repeat' (first | (refine And.intro ?_ ?_) | exact True.intro | (show _ = _; with_reducible rfl) | exact Chk.mk (by kernel_rfl)))
      all_goals first | rfl | exact e0
    have ht : t ≤ 4 := ht
    have hl : (P ++ byts x3 t).length = 14 + t := by rw [List.length_append, hP, byts_len]
    have hlb : (byts x3 t).length = t := byts_len _ _
    by_cases htk : t < 4
    · have eb := byt_sh (t := t) u0 u1 (by omega)
      have r8 : rngI .i64 (8 * (t : Int)) := rng64 (by omega) (by omega)
      have rt : rngI .i64 ((t : Int) + 1) := rng64 (by omega) (by omega)
      have w8 : IntKind.u64.wrap (8 * (t : Int)) = 8 * (t : Int) := w64 (by omega) (by omega)
      have s8 : 0 ≤ IntKind.u64.wrap (8 * (t : Int)) := by rw [w8]; omega
      have e1 : List.take 1 (List.drop 0 [IntKind.u8.wrap (x3.fdiv (2 ^ min (IntKind.u64.wrap (8 * (t : Int))).toNat IntKind.u32.bits))]) = [byt x3 t] := by rw [eb]; rfl
      have e2 : P ++ byts x3 t ++ List.take 1 (List.drop 0 [IntKind.u8.wrap (x3.fdiv (2 ^ min (IntKind.u64.wrap (8 * (t : Int))).toNat IntKind.u32.bits))]) = P ++ byts x3 (t + 1) := by rw [e1, byts_succ, List.append_assoc]
      (repeat' (first | (refine And.intro (fun (hfk : _ = true) => ?_) (fun (hfk : _ = false) => ?_) <;> ((try (first | replace hfk := of_decide_eq_true hfk | replace hfk := of_decide_eq_false hfk | simp only [decide_eq_true_eq, decide_eq_false_iff_not, dh1, dh0, ne_eq, reduceCtorEq] at hfk)); (try (exfalso; first | omega | contradiction | exact Bool.noConfusion (Eq.trans (Eq.symm hfk) (by with_reducible assumption : _ = false)) | exact Bool.noConfusion (Eq.trans (Eq.symm hfk) (by with_reducible assumption : _ = true)))))) | (refine And.intro ?ob ?_; (case ob => (first | exact Chk.mk (by kernel_rfl) | exact True.intro | with_reducible assumption | exact rng64 (by omega) (by omega) | omega | (dsimp only; omega) | (show (_ : Nat) ≤ _; omega) | (simp only [ll1, ll2, ll0]; done) | (simp only [ll1, ll2, ll0]; omega) | (dsimp only; simp only [ll1, ll2, ll0]; omega)))) | exact True.intro | (show _ = _; first | with_reducible rfl | with_reducible assumption | omega | (simp only [ll1, ll2, ll0]; omega) | (skip; done) | exact rfl) | with_reducible assumption | (apply And.intro) | omega | (intro j hj; exact rfl) | fail))
      refine ⟨t + 1, [some 0, some 5, some 2, some 3], htk, ?mu, ?_⟩
      case mu => (show 4 - (t + 1) < 4 - t; omega)
      (repeat' (first | (refine And.intro ?_ ?_) | exact True.intro | (show _ = _; with_reducible rfl) | exact Chk.mk (by kernel_rfl)))
      all_goals first | rfl | exact e2 | (show (_ : Int) = _; omega) | (show (_ : Nat) = _; simp only [List.length_append, List.length_take, List.length_drop, List.length_cons, List.length_nil, byts_len]; omega)
    · obtain rfl : t = 4 := by omega
      (repeat' (first | (refine And.intro (fun (hfk : _ = true) => ?_) (fun (hfk : _ = false) => ?_) <;> ((try (first | replace hfk := of_decide_eq_true hfk | replace hfk := of_decide_eq_false hfk | simp only [decide_eq_true_eq, decide_eq_false_iff_not, dh1, dh0, ne_eq, reduceCtorEq] at hfk)); (try (exfalso; first | omega | contradiction | exact Bool.noConfusion (Eq.trans (Eq.symm hfk) (by with_reducible assumption : _ = false)) | exact Bool.noConfusion (Eq.trans (Eq.symm hfk) (by with_reducible assumption : _ = true)))))) | (refine And.intro ?ob ?_; (case ob => (first | exact Chk.mk (by kernel_rfl) | exact True.intro | with_reducible assumption | exact rng64 (by omega) (by omega) | omega | (dsimp only; omega) | (show (_ : Nat) ≤ _; omega) | (simp only [ll1, ll2, ll0]; done) | (simp only [ll1, ll2, ll0]; omega) | (dsimp only; simp only [ll1, ll2, ll0]; omega)))) | exact True.intro | (show _ = _; first | with_reducible rfl | with_reducible assumption | omega | (simp only [ll1, ll2, ll0]; omega) | (skip; done) | exact rfl) | with_reducible assumption | (apply And.intro) | omega | (intro j hj; exact rfl) | fail))
      refine ⟨4, [some 0, some 1, some 2], by omega, ?mu, ?_⟩
      case mu => (show 14 - 4 < 14 - 3; omega)
      have e3 : P ++ byts x3 4 = ([66, 77] : List Int) ++ byts x0 4 ++ byts x1 4 ++ byts x2 4 ++ byts x3 4 := by rw [hPe]
      (repeat' (first | (refine And.intro ?_ ?_) | exact True.intro | (show _ = _; with_reducible rfl) | exact Chk.mk (by kernel_rfl)))
      all_goals first | rfl | exact e3
  · obtain ⟨u0, u1⟩ := h4
    have hP : (([66, 77] : List Int) ++ byts x0 4 ++ byts x1 4 ++ byts x2 4 ++ byts x3 4).length = 18 := by simp only [List.length_append, byts_len, List.length_cons, List.length_nil]
    obtain ⟨P, hPe⟩ : ∃ P, ([66, 77] : List Int) ++ byts x0 4 ++ byts x1 4 ++ byts x2 4 ++ byts x3 4 = P := ⟨_, rfl⟩
    rw [hPe] at hP
    (repeat' (first | (refine And.intro (fun (hfk : _ = true) => ?_) (fun (hfk : _ = false) => ?_) <;> ((try (first | replace hfk := of_decide_eq_true hfk | replace hfk := of_decide_eq_false hfk | simp only [decide_eq_true_eq, decide_eq_false_iff_not, dh1, dh0, ne_eq, reduceCtorEq] at hfk)); (try (exfalso; first | omega | contradiction | exact Bool.noConfusion (Eq.trans (Eq.symm hfk) (by with_reducible assumption : _ = false)) | exact Bool.noConfusion (Eq.trans (Eq.symm hfk) (by with_reducible assumption : _ = true)))))) | (refine And.intro ?ob ?_; (case ob => (first | exact Chk.mk (by kernel_rfl) | exact True.intro | with_reducible assumption | exact rng64 (by omega) (by omega) | omega | (dsimp only; omega) | (show (_ : Nat) ≤ _; omega) | (simp only [ll1, ll2, ll0]; done) | (simp only [ll1, ll2, ll0]; omega) | (dsimp only; simp only [ll1, ll2, ll0]; omega)))) | exact True.intro | (show _ = _; first | with_reducible rfl | with_reducible assumption | omega | (simp only [ll1, ll2, ll0]; omega) | (skip; done) | exact rfl) | with_reducible assumption | (apply And.intro) | omega | (intro j hj; exact rfl) | fail))
    refine ⟨Nat, fun t => [(0, .ptr 0 0), (3, .sl 1 1 0 (18 + t)), (5, .ptr 3 0), (10, .sl 2 2 0 14), (11, .int .i64 14), (12, .int .i64 ((4 : Nat) : Int)), (17, .int .i64 4), (18, .int .i64 (t : Int))],
      fun t => ⟨4, [(0, some (hdEn x0 x1 x2 x3 x4 x5 x6 x7 x8 x9 x10 x11 x12 x13)), (1, some (bE (P ++ byts x4 t))), (2, some (.cells 224 [.ptr 0 0, .int .i64 4, .ptr 0 1, .int .i64 4, .ptr 0 2, .int .i64 4, .ptr 0 3, .int .i64 4, .ptr 0 4, .int .i64 4, .ptr 0 5, .int .i64 4, .ptr 0 6, .int .i64 2, .ptr 0 7, .int .i64 2, .ptr 0 8, .int .i64 4, .ptr 0 9, .int .i64 4, .ptr 0 10, .int .i64 4, .ptr 0 11, .int .i64 4, .ptr 0 12, .int .i64 4, .ptr 0 13, .int .i64 4])), (3, some (.cells 224 [.ptr 0 4, .int .i64 4]))]⟩,
      fun t => t ≤ 4, fun t => 4 - t, ⟨0, [some 0, some 1, some 2, some 3], by omega, ?_⟩, fun t ht => ?_⟩
    · have e0 : ([66, 77] : List Int) ++ byts x0 4 ++ byts x1 4 ++ byts x2 4 ++ byts x3 4 = P ++ byts x4 0 := by rw [hPe]; simp [byts]
      (repeat' (first | (refine And.intro ?_ ?_) | exact True.intro | (show _ = _; with_reducible rfl) | exact Chk.mk (by kernel_rfl)))
      all_goals first | rfl | exact e0
    have ht : t ≤ 4 := ht
    have hl : (P ++ byts x4 t).length = 18 + t := by rw [List.length_append, hP, byts_len]
    have hlb : (byts x4 t).length = t := byts_len _ _
    by_cases htk : t < 4
    · have eb := byt_sh (t := t) u0 u1 (by omega)
      have r8 : rngI .i64 (8 * (t : Int)) := rng64 (by omega) (by omega)
      have rt : rngI .i64 ((t : Int) + 1) := rng64 (by omega) (by omega)
      have w8 : IntKind.u64.wrap (8 * (t : Int)) = 8 * (t : Int) := w64 (by omega) (by omega)
      have s8 : 0 ≤ IntKind.u64.wrap (8 * (t : Int)) := by rw [w8]; omega
      have e1 : List.take 1 (List.drop 0 [IntKind.u8.wrap (x4.fdiv (2 ^ min (IntKind.u64.wrap (8 * (t : Int))).toNat IntKind.u32.bits))]) = [byt x4 t] := by rw [eb]; rfl
      have e2 : P ++ byts x4 t ++ List.take 1 (List.drop 0 [IntKind.u8.wrap (x4.fdiv (2 ^ min (IntKind.u64.wrap (8 * (t : Int))).toNat IntKind.u32.bits))]) = P ++ byts x4 (t + 1) := by rw [e1, byts_succ, List.append_assoc]
      (repeat' (first | (refine And.intro (fun (hfk : _ = true) => ?_) (fun (hfk : _ = false) => ?_) <;> ((try (first | replace hfk := of_decide_eq_true hfk | replace hfk := of_decide_eq_false hfk | simp only [decide_eq_true_eq, decide_eq_false_iff_not, dh1, dh0, ne_eq, reduceCtorEq] at hfk)); (try (exfalso; first | omega | contradiction | exact Bool.noConfusion (Eq.trans (Eq.symm hfk) (by with_reducible assumption : _ = false)) | exact Bool.noConfusion (Eq.trans (Eq.symm hfk) (by with_reducible assumption : _ = true)))))) | (refine And.intro ?ob ?_; (case ob => (first | exact Chk.mk (by kernel_rfl) | exact True.intro | with_reducible assumption | exact rng64 (by omega) (by omega) | omega | (dsimp only; omega) | (show (_ : Nat) ≤ _; omega) | (simp only [ll1, ll2, ll0]; done) | (simp only [ll1, ll2, ll0]; omega) | (dsimp only; simp only [ll1, ll2, ll0]; omega)))) | exact True.intro | (show _ = _; first | with_reducible rfl | with_reducible assumption | omega | (simp only [ll1, ll2, ll0]; omega) | (skip; done) | exact rfl) | with_reducible assumption | (apply And.intro) | omega | (intro j hj; exact rfl) | fail))
      refine ⟨t + 1, [some 0, some 5, some 2, some 3], htk, ?mu, ?_⟩
      case mu => (show 4 - (t + 1) < 4 - t; omega)
      (repeat' (first | (refine And.intro ?_ ?_) | exact True.intro | (show _ = _; with_reducible rfl) | exact Chk.mk (by kernel_rfl)))
      all_goals first | rfl | exact e2 | (show (_ : Int) = _; omega) | (show (_ : Nat) = _; simp only [List.length_append, List.length_take, List.length_drop, List.length_cons, List.length_nil, byts_len]; omega)
    · obtain rfl : t = 4 := by omega
      (repeat' (first | (refine And.intro (fun (hfk : _ = true) => ?_) (fun (hfk : _ = false) => ?_) <;> ((try (first | replace hfk := of_decide_eq_true hfk | replace hfk := of_decide_eq_false hfk | simp only [decide_eq_true_eq, decide_eq_false_iff_not, dh1, dh0, ne_eq, reduceCtorEq] at hfk)); (try (exfalso; first | omega | contradiction | exact Bool.noConfusion (Eq.trans (Eq.symm hfk) (by with_reducible assumption : _ = false)) | exact Bool.noConfusion (Eq.trans (Eq.symm hfk) (by with_reducible assumption : _ = true)))))) | (refine And.intro ?ob ?_; (case ob => (first | exact Chk.mk (by kernel_rfl) | exact True.intro | with_reducible assumption | exact rng64 (by omega) (by omega) | omega | (dsimp only; omega) | (show (_ : Nat) ≤ _; omega) | (simp only [ll1, ll2, ll0]; done) | (simp only [ll1, ll2, ll0]; omega) | (dsimp only; simp only [ll1, ll2, ll0]; omega)))) | exact True.intro | (show _ = _; first | with_reducible rfl | with_reducible assumption | omega | (simp only [ll1, ll2, ll0]; omega) | (skip; done) | exact rfl) | with_reducible assumption | (apply And.intro) | omega | (intro j hj; exact rfl) | fail))
      refine ⟨5, [some 0, some 1, some 2], by omega, ?mu, ?_⟩
      case mu => (show 14 - 5 < 14 - 4; omega)
      have e3 : P ++ byts x4 4 = ([66, 77] : List Int) ++ byts x0 4 ++ byts x1 4 ++ byts x2 4 ++ byts x3 4 ++ byts x4 4 := by rw [hPe]
      (repeat' (first | (refine And.intro ?_ ?_) | exact True.intro | (show _ = _; with_reducible rfl) | exact Chk.mk (by kernel_rfl)))
      all_goals first | rfl | exact e3
  · obtain ⟨u0, u1⟩ := h5
    have hP : (([66, 77] : List Int) ++ byts x0 4 ++ byts x1 4 ++ byts x2 4 ++ byts x3 4 ++ byts x4 4).length = 22 := by simp only [List.length_append, byts_len, List.length_cons, List.length_nil]
    obtain ⟨P, hPe⟩ : ∃ P, ([66, 77] : List Int) ++ byts x0 4 ++ byts x1 4 ++ byts x2 4 ++ byts x3 4 ++ byts x4 4 = P := ⟨_, rfl⟩
    rw [hPe] at hP
    (repeat' (first | (refine And.intro (fun (hfk : _ = true) => ?_) (fun (hfk : _ = false) => ?_) <;> ((try (first | replace hfk := of_decide_eq_true hfk | replace hfk := of_decide_eq_false hfk | simp only [decide_eq_true_eq, decide_eq_false_iff_not, dh1, dh0, ne_eq, reduceCtorEq] at hfk)); (try (exfalso; first | omega | contradiction | exact Bool.noConfusion (Eq.trans (Eq.symm hfk) (by with_reducible assumption : _ = false)) | exact Bool.noConfusion (Eq.trans (Eq.symm hfk) (by with_reducible assumption : _ = true)))))) | (refine And.intro ?ob ?_; (case ob => (first | exact Chk.mk (by kernel_rfl) | exact True.intro | with_reducible assumption | exact rng64 (by omega) (by omega) | omega | (dsimp only; omega) | (show (_ : Nat) ≤ _; omega) | (simp only [ll1, ll2, ll0]; done) | (simp only [ll1, ll2, ll0]; omega) | (dsimp only; simp only [ll1, ll2, ll0]; omega)))) | exact True.intro | (show _ = _; first | with_reducible rfl | with_reducible assumption | omega | (simp only [ll1, ll2, ll0]; omega) | (skip; done) | exact rfl) | with_reducible assumption | (apply And.intro) | omega | (intro j hj; exact rfl) | fail))
    refine ⟨Nat, fun t => [(0, .ptr 0 0), (3, .sl 1 1 0 (22 + t)), (5, .ptr 3 0), (10, .sl 2 2 0 14), (11, .int .i64 14), (12, .int .i64 ((5 : Nat) : Int)), (17, .int .i64 4), (18, .int .i64 (t : Int))],
      fun t => ⟨4, [(0, some (hdEn x0 x1 x2 x3 x4 x5 x6 x7 x8 x9 x10 x11 x12 x13)), (1, some (bE (P ++ byts x5 t))), (2, some (.cells 224 [.ptr 0 0, .int .i64 4, .ptr 0 1, .int .i64 4, .ptr 0 2, .int .i64 4, .ptr 0 3, .int .i64 4, .ptr 0 4, .int .i64 4, .ptr 0 5, .int .i64 4, .ptr 0 6, .int .i64 2, .ptr 0 7, .int .i64 2, .ptr 0 8, .int .i64 4, .ptr 0 9, .int .i64 4, .ptr 0 10, .int .i64 4, .ptr 0 11, .int .i64 4, .ptr 0 12, .int .i64 4, .ptr 0 13, .int .i64 4])), (3, some (.cells 224 [.ptr 0 5, .int .i64 4]))]⟩,
      fun t => t ≤ 4, fun t => 4 - t, ⟨0, [some 0, some 1, some 2, some 3], by omega, ?_⟩, fun t ht => ?_⟩
    · have e0 : ([66, 77] : List Int) ++ byts x0 4 ++ byts x1 4 ++ byts x2 4 ++ byts x3 4 ++ byts x4 4 = P ++ byts x5 0 := by rw [hPe]; simp [byts]
      (repeat' (first | (refine And.intro ?_ ?_) | exact True.intro | (show _ = _; with_reducible rfl) | exact Chk.mk (by kernel_rfl)))
      all_goals first | rfl | exact e0
    have ht : t ≤ 4 := ht
    have hl : (P ++ byts x5 t).length = 22 + t := by rw [List.length_append, hP, byts_len]
    have hlb : (byts x5 t).length = t := byts_len _ _
    by_cases htk : t < 4
    · have eb := byt_sh (t := t) u0 u1 (by omega)
      have r8 : rngI .i64 (8 * (t : Int)) := rng64 (by omega) (by omega)
      have rt : rngI .i64 ((t : Int) + 1) := rng64 (by omega) (by omega)
      have w8 : IntKind.u64.wrap (8 * (t : Int)) = 8 * (t : Int) := w64 (by omega) (by omega)
      have s8 : 0 ≤ IntKind.u64.wrap (8 * (t : Int)) := by rw [w8]; omega
      have e1 : List.take 1 (List.drop 0 [IntKind.u8.wrap (x5.fdiv (2 ^ min (IntKind.u64.wrap (8 * (t : Int))).toNat IntKind.u32.bits))]) = [byt x5 t] := by rw [eb]; rfl
      have e2 : P ++ byts x5 t ++ List.take 1 (List.drop 0 [IntKind.u8.wrap (x5.fdiv (2 ^ min (IntKind.u64.wrap (8 * (t : Int))).toNat IntKind.u32.bits))]) = P ++ byts x5 (t + 1) := by rw [e1, byts_succ, List.append_assoc]
      (repeat' (first | (refine And.intro (fun (hfk : _ = true) => ?_) (fun (hfk : _ = false) => ?_) <;> ((try (first | replace hfk := of_decide_eq_true hfk | replace hfk := of_decide_eq_false hfk | simp only [decide_eq_true_eq, decide_eq_false_iff_not, dh1, dh0, ne_eq, reduceCtorEq] at hfk)); (try (exfalso; first | omega | contradiction | exact Bool.noConfusion (Eq.trans (Eq.symm hfk) (by with_reducible assumption : _ = false)) | exact Bool.noConfusion (Eq.trans (Eq.symm hfk) (by with_reducible assumption : _ = true)))))) | (refine And.intro ?ob ?_; (case ob => (first | exact Chk.mk (by kernel_rfl) | exact True.intro | with_reducible assumption | exact rng64 (by omega) (by omega) | omega | (dsimp only; omega) | (show (_ : Nat) ≤ _; omega) | (simp only [ll1, ll2, ll0]; done) | (simp only [ll1, ll2, ll0]; omega) | (dsimp only; simp only [ll1, ll2, ll0]; omega)))) | exact True.intro | (show _ = _; first | with_reducible rfl | with_reducible assumption | omega | (simp only [ll1, ll2, ll0]; omega) | (skip; done) | exact rfl) | with_reducible assumption | (apply And.intro) | omega | (intro j hj; exact rfl) | fail))
      refine ⟨t + 1, [some 0, some 5, some 2, some 3], htk, ?mu, ?_⟩
      case mu => (show 4 - (t + 1) < 4 - t; omega)
      (repeat' (first | (refine And.intro ?_ ?_) | exact True.intro | (show _ = _; with_reducible rfl) | exact Chk.mk (by kernel_rfl)))
      all_goals first | rfl | exact e2 | (show (_ : Int) = _; omega) | (show (_ : Nat) = _; simp only [List.length_append, List.length_take, List.length_drop, List.length_cons, List.length_nil, byts_len]; omega)
    · obtain rfl : t = 4 := by omega
      (repeat' (first | (refine And.intro (fun (hfk : _ = true) => ?_) (fun (hfk : _ = false) => ?_) <;> ((try (first | replace hfk := of_decide_eq_true hfk | replace hfk := of_decide_eq_false hfk | simp only [decide_eq_true_eq, decide_eq_false_iff_not, dh1, dh0, ne_eq, reduceCtorEq] at hfk)); (try (exfalso; first | omega | contradiction | exact Bool.noConfusion (Eq.trans (Eq.symm hfk) (by with_reducible assumption : _ = false)) | exact Bool.noConfusion (Eq.trans (Eq.symm hfk) (by with_reducible assumption : _ = true)))))) | (refine And.intro ?ob ?_; (case ob => (first | exact Chk.mk (by kernel_rfl) | exact True.intro | with_reducible assumption | exact rng64 (by omega) (by omega) | omega | (dsimp only; omega) | (show (_ : Nat) ≤ _; omega) | (simp only [ll1, ll2, ll0]; done) | (simp only [ll1, ll2, ll0]; omega) | (dsimp only; simp only [ll1, ll2, ll0]; omega)))) | exact True.intro | (show _ = _; first | with_reducible rfl | with_reducible assumption | omega | (simp only [ll1, ll2, ll0]; omega) | (skip; done) | exact rfl) | with_reducible assumption | (apply And.intro) | omega | (intro j hj; exact rfl) | fail))
      refine ⟨6, [some 0, some 1, some 2], by omega, ?mu, ?_⟩
      case mu => (show 14 - 6 < 14 - 5; omega)
      have e3 : P ++ byts x5 4 = ([66, 77] : List Int) ++ byts x0 4 ++ byts x1 4 ++ byts x2 4 ++ byts x3 4 ++ byts x4 4 ++ byts x5 4 := by rw [hPe]
      (repeat' (first | (refine And.intro ?_ ?_) | exact True.intro | (show _ = _; with_reducible rfl) | exact Chk.mk (by kernel_rfl)))
      all_goals first | rfl | exact e3
  · obtain ⟨u0, u1⟩ := h6
    have hP : (([66, 77] : List Int) ++ byts x0 4 ++ byts x1 4 ++ byts x2 4 ++ byts x3 4 ++ byts x4 4 ++ byts x5 4).length = 26 := by simp only [List.length_append, byts_len, List.length_cons, List.length_nil]
    obtain ⟨P, hPe⟩ : ∃ P, ([66, 77] : List Int) ++ byts x0 4 ++ byts x1 4 ++ byts x2 4 ++ byts x3 4 ++ byts x4 4 ++ byts x5 4 = P := ⟨_, rfl⟩
    rw [hPe] at hP
    (repeat' (first | (refine And.intro (fun (hfk : _ = true) => ?_) (fun (hfk : _ = false) => ?_) <;> ((try (first | replace hfk := of_decide_eq_true hfk | replace hfk := of_decide_eq_false hfk | simp only [decide_eq_true_eq, decide_eq_false_iff_not, dh1, dh0, ne_eq, reduceCtorEq] at hfk)); (try (exfalso; first | omega | contradiction | exact Bool.noConfusion (Eq.trans (Eq.symm hfk) (by with_reducible assumption : _ = false)) | exact Bool.noConfusion (Eq.trans (Eq.symm hfk) (by with_reducible assumption : _ = true)))))) | (refine And.intro ?ob ?_; (case ob => (first | exact Chk.mk (by kernel_rfl) | exact True.intro | with_reducible assumption | exact rng64 (by omega) (by omega) | omega | (dsimp only; omega) | (show (_ : Nat) ≤ _; omega) | (simp only [ll1, ll2, ll0]; done) | (simp only [ll1, ll2, ll0]; omega) | (dsimp only; simp only [ll1, ll2, ll0]; omega)))) | exact True.intro | (show _ = _; first | with_reducible rfl | with_reducible assumption | omega | (simp only [ll1, ll2, ll0]; omega) | (skip; done) | exact rfl) | with_reducible assumption | (apply And.intro) | omega | (intro j hj; exact rfl) | fail))
    refine ⟨Nat, fun t => [(0, .ptr 0 0), (3, .sl 1 1 0 (26 + t)), (5, .ptr 3 0), (10, .sl 2 2 0 14), (11, .int .i64 14), (12, .int .i64 ((6 : Nat) : Int)), (17, .int .i64 2), (18, .int .i64 (t : Int))],
      fun t => ⟨4, [(0, some (hdEn x0 x1 x2 x3 x4 x5 x6 x7 x8 x9 x10 x11 x12 x13)), (1, some (bE (P ++ byts x6 t))), (2, some (.cells 224 [.ptr 0 0, .int .i64 4, .ptr 0 1, .int .i64 4, .ptr 0 2, .int .i64 4, .ptr 0 3, .int .i64 4, .ptr 0 4, .int .i64 4, .ptr 0 5, .int .i64 4, .ptr 0 6, .int .i64 2, .ptr 0 7, .int .i64 2, .ptr 0 8, .int .i64 4, .ptr 0 9, .int .i64 4, .ptr 0 10, .int .i64 4, .ptr 0 11, .int .i64 4, .ptr 0 12, .int .i64 4, .ptr 0 13, .int .i64 4])), (3, some (.cells 224 [.ptr 0 6, .int .i64 2]))]⟩,
      fun t => t ≤ 2, fun t => 2 - t, ⟨0, [some 0, some 1, some 2, some 3], by omega, ?_⟩, fun t ht => ?_⟩
    · have e0 : ([66, 77] : List Int) ++ byts x0 4 ++ byts x1 4 ++ byts x2 4 ++ byts x3 4 ++ byts x4 4 ++ byts x5 4 = P ++ byts x6 0 := by rw [hPe]; simp [byts]
      (repeat' (first | (refine And.intro ?_ ?_) | exact True.intro | (show _ = _; with_reducible rfl) | exact Chk.mk (by kernel_rfl)))
      all_goals first | rfl | exact e0
    have ht : t ≤ 2 := ht
    have hl : (P ++ byts x6 t).length = 26 + t := by rw [List.length_append, hP, byts_len]
    have hlb : (byts x6 t).length = t := byts_len _ _
    by_cases htk : t < 2
    · have eb := byt_sh (t := t) u0 u1 (by omega)
      have r8 : rngI .i64 (8 * (t : Int)) := rng64 (by omega) (by omega)
      have rt : rngI .i64 ((t : Int) + 1) := rng64 (by omega) (by omega)
      have w8 : IntKind.u64.wrap (8 * (t : Int)) = 8 * (t : Int) := w64 (by omega) (by omega)
      have s8 : 0 ≤ IntKind.u64.wrap (8 * (t : Int)) := by rw [w8]; omega
      have e1 : List.take 1 (List.drop 0 [IntKind.u8.wrap (x6.fdiv (2 ^ min (IntKind.u64.wrap (8 * (t : Int))).toNat IntKind.u32.bits))]) = [byt x6 t] := by rw [eb]; rfl
      have e2 : P ++ byts x6 t ++ List.take 1 (List.drop 0 [IntKind.u8.wrap (x6.fdiv (2 ^ min (IntKind.u64.wrap (8 * (t : Int))).toNat IntKind.u32.bits))]) = P ++ byts x6 (t + 1) := by rw [e1, byts_succ, List.append_assoc]
      (repeat' (first | (refine And.intro (fun (hfk : _ = true) => ?_) (fun (hfk : _ = false) => ?_) <;> ((try (first | replace hfk := of_decide_eq_true hfk | replace hfk := of_decide_eq_false hfk | simp only [decide_eq_true_eq, decide_eq_false_iff_not, dh1, dh0, ne_eq, reduceCtorEq] at hfk)); (try (exfalso; first | omega | contradiction | exact Bool.noConfusion (Eq.trans (Eq.symm hfk) (by with_reducible assumption : _ = false)) | exact Bool.noConfusion (Eq.trans (Eq.symm hfk) (by with_reducible assumption : _ = true)))))) | (refine And.intro ?ob ?_; (case ob => (first | exact Chk.mk (by kernel_rfl) | exact True.intro | with_reducible assumption | exact rng64 (by omega) (by omega) | omega | (dsimp only; omega) | (show (_ : Nat) ≤ _; omega) | (simp only [ll1, ll2, ll0]; done) | (simp only [ll1, ll2, ll0]; omega) | (dsimp only; simp only [ll1, ll2, ll0]; omega)))) | exact True.intro | (show _ = _; first | with_reducible rfl | with_reducible assumption | omega | (simp only [ll1, ll2, ll0]; omega) | (skip; done) | exact rfl) | with_reducible assumption | (apply And.intro) | omega | (intro j hj; exact rfl) | fail))
      refine ⟨t + 1, [some 0, some 5, some 2, some 3], htk, ?mu, ?_⟩
      case mu => (show 2 - (t + 1) < 2 - t; omega)
      (repeat' (first | (refine And.intro ?_ ?_) | exact True.intro | (show _ = _; with_reducible rfl) | exact Chk.mk (by kernel_rfl)))
      all_goals first | rfl | exact e2 | (show (_ : Int) = _; omega) | (show (_ : Nat) = _; simp only [List.length_append, List.length_take, List.length_drop, List.length_cons, List.length_nil, byts_len]; omega)
    · obtain rfl : t = 2 := by omega
      (repeat' (first | (refine And.intro (fun (hfk : _ = true) => ?_) (fun (hfk : _ = false) => ?_) <;> ((try (first | replace hfk := of_decide_eq_true hfk | replace hfk := of_decide_eq_false hfk | simp only [decide_eq_true_eq, decide_eq_false_iff_not, dh1, dh0, ne_eq, reduceCtorEq] at hfk)); (try (exfalso; first | omega | contradiction | exact Bool.noConfusion (Eq.trans (Eq.symm hfk) (by with_reducible assumption : _ = false)) | exact Bool.noConfusion (Eq.trans (Eq.symm hfk) (by with_reducible assumption : _ = true)))))) | (refine And.intro ?ob ?_; (case ob => (first | exact Chk.mk (by kernel_rfl) | exact True.intro | with_reducible assumption | exact rng64 (by omega) (by omega) | omega | (dsimp only; omega) | (show (_ : Nat) ≤ _; omega) | (simp only [ll1, ll2, ll0]; done) | (simp only [ll1, ll2, ll0]; omega) | (dsimp only; simp only [ll1, ll2, ll0]; omega)))) | exact True.intro | (show _ = _; first | with_reducible rfl | with_reducible assumption | omega | (simp only [ll1, ll2, ll0]; omega) | (skip; done) | exact rfl) | with_reducible assumption | (apply And.intro) | omega | (intro j hj; exact rfl) | fail))
      refine ⟨7, [some 0, some 1, some 2], by omega, ?mu, ?_⟩
      case mu => (show 14 - 7 < 14 - 6; omega)
      have e3 : P ++ byts x6 2 = ([66, 77] : List Int) ++ byts x0 4 ++ byts x1 4 ++ byts x2 4 ++ byts x3 4 ++ byts x4 4 ++ byts x5 4 ++ byts x6 2 := by rw [hPe]
      (repeat' (first | (refine And.intro ?_ ?_) | exact True.intro | (show _ = _; with_reducible rfl) | exact Chk.mk (by kernel_rfl)))
      all_goals first | rfl | exact e3
  · obtain ⟨u0, u1⟩ := h7
    have hP : (([66, 77] : List Int) ++ byts x0 4 ++ byts x1 4 ++ byts x2 4 ++ byts x3 4 ++ byts x4 4 ++ byts x5 4 ++ byts x6 2).length = 28 := by simp only [List.length_append, byts_len, List.length_cons, List.length_nil]
    obtain ⟨P, hPe⟩ : ∃ P, ([66, 77] : List Int) ++ byts x0 4 ++ byts x1 4 ++ byts x2 4 ++ byts x3 4 ++ byts x4 4 ++ byts x5 4 ++ byts x6 2 = P := ⟨_, rfl⟩
    rw [hPe] at hP
    (repeat' (first | (refine And.intro (fun (hfk : _ = true) => ?_) (fun (hfk : _ = false) => ?_) <;> ((try (first | replace hfk := of_decide_eq_true hfk | replace hfk := of_decide_eq_false hfk | simp only [decide_eq_true_eq, decide_eq_false_iff_not, dh1, dh0, ne_eq, reduceCtorEq] at hfk)); (try (exfalso; first | omega | contradiction | exact Bool.noConfusion (Eq.trans (Eq.symm hfk) (by with_reducible assumption : _ = false)) | exact Bool.noConfusion (Eq.trans (Eq.symm hfk) (by with_reducible assumption : _ = true)))))) | (refine And.intro ?ob ?_; (case ob => (first | exact Chk.mk (by kernel_rfl) | exact True.intro | with_reducible assumption | exact rng64 (by omega) (by omega) | omega | (dsimp only; omega) | (show (_ : Nat) ≤ _; omega) | (simp only [ll1, ll2, ll0]; done) | (simp only [ll1, ll2, ll0]; omega) | (dsimp only; simp only [ll1, ll2, ll0]; omega)))) | exact True.intro | (show _ = _; first | with_reducible rfl | with_reducible assumption | omega | (simp only [ll1, ll2, ll0]; omega) | (skip; done) | exact rfl) | with_reducible assumption | (apply And.intro) | omega | (intro j hj; exact rfl) | fail))
    refine ⟨Nat, fun t => [(0, .ptr 0 0), (3, .sl 1 1 0 (28 + t)), (5, .ptr 3 0), (10, .sl 2 2 0 14), (11, .int .i64 14), (12, .int .i64 ((7 : Nat) : Int)), (17, .int .i64 2), (18, .int .i64 (t : Int))],
      fun t => ⟨4, [(0, some (hdEn x0 x1 x2 x3 x4 x5 x6 x7 x8 x9 x10 x11 x12 x13)), (1, some (bE (P ++ byts x7 t))), (2, some (.cells 224 [.ptr 0 0, .int .i64 4, .ptr 0 1, .int .i64 4, .ptr 0 2, .int .i64 4, .ptr 0 3, .int .i64 4, .ptr 0 4, .int .i64 4, .ptr 0 5, .int .i64 4, .ptr 0 6, .int .i64 2, .ptr 0 7, .int .i64 2, .ptr 0 8, .int .i64 4, .ptr 0 9, .int .i64 4, .ptr 0 10, .int .i64 4, .ptr 0 11, .int .i64 4, .ptr 0 12, .int .i64 4, .ptr 0 13, .int .i64 4])), (3, some (.cells 224 [.ptr 0 7, .int .i64 2]))]⟩,
      fun t => t ≤ 2, fun t => 2 - t, ⟨0, [some 0, some 1, some 2, some 3], by omega, ?_⟩, fun t ht => ?_⟩
    · have e0 : ([66, 77] : List Int) ++ byts x0 4 ++ byts x1 4 ++ byts x2 4 ++ byts x3 4 ++ byts x4 4 ++ byts x5 4 ++ byts x6 2 = P ++ byts x7 0 := by rw [hPe]; simp [byts]
      (repeat' (first | (refine And.intro ?_ ?_) | exact True.intro | (show _ = _; with_reducible rfl) | exact Chk.mk (by kernel_rfl)))
      all_goals first | rfl | exact e0
    have ht : t ≤ 2 := ht
    have hl : (P ++ byts x7 t).length = 28 + t := by rw [List.length_append, hP, byts_len]
    have hlb : (byts x7 t).length = t := byts_len _ _
    by_cases htk : t < 2
    · have eb := byt_sh (t := t) u0 u1 (by omega)
      have r8 : rngI .i64 (8 * (t : Int)) := rng64 (by omega) (by omega)
      have rt : rngI .i64 ((t : Int) + 1) := rng64 (by omega) (by omega)
      have w8 : IntKind.u64.wrap (8 * (t : Int)) = 8 * (t : Int) := w64 (by omega) (by omega)
      have s8 : 0 ≤ IntKind.u64.wrap (8 * (t : Int)) := by rw [w8]; omega
      have e1 : List.take 1 (List.drop 0 [IntKind.u8.wrap (x7.fdiv (2 ^ min (IntKind.u64.wrap (8 * (t : Int))).toNat IntKind.u32.bits))]) = [byt x7 t] := by rw [eb]; rfl
      have e2 : P ++ byts x7 t ++ List.take 1 (List.drop 0 [IntKind.u8.wrap (x7.fdiv (2 ^ min (IntKind.u64.wrap (8 * (t : Int))).toNat IntKind.u32.bits))]) = P ++ byts x7 (t + 1) := by rw [e1, byts_succ, List.append_assoc]
      (repeat' (first | (refine And.intro (fun (hfk : _ = true) => ?_) (fun (hfk : _ = false) => ?_) <;> ((try (first | replace hfk := of_decide_eq_true hfk | replace hfk := of_decide_eq_false hfk | simp only [decide_eq_true_eq, decide_eq_false_iff_not, dh1, dh0, ne_eq, reduceCtorEq] at hfk)); (try (exfalso; first | omega | contradiction | exact Bool.noConfusion (Eq.trans (Eq.symm hfk) (by with_reducible assumption : _ = false)) | exact Bool.noConfusion (Eq.trans (Eq.symm hfk) (by with_reducible assumption : _ = true)))))) | (refine And.intro ?ob ?_; (case ob => (first | exact Chk.mk (by kernel_rfl) | exact True.intro | with_reducible assumption | exact rng64 (by omega) (by omega) | omega | (dsimp only; omega) | (show (_ : Nat) ≤ _; omega) | (simp only [ll1, ll2, ll0]; done) | (simp only [ll1, ll2, ll0]; omega) | (dsimp only; simp only [ll1, ll2, ll0]; omega)))) | exact True.intro | (show _ = _; first | with_reducible rfl | with_reducible assumption | omega | (simp only [ll1, ll2, ll0]; omega) | (skip; done) | exact rfl) | with_reducible assumption | (apply And.intro) | omega | (intro j hj; exact rfl) | fail))
      refine ⟨t + 1, [some 0, some 5, some 2, some 3], htk, ?mu, ?_⟩
      case mu => (show 2 - (t + 1) < 2 - t; omega)
      (repeat' (first | (refine And.intro ?_ ?_) | exact True.intro | (show _ = _; with_reducible rfl) | exact Chk.mk (by kernel_rfl)))
      all_goals first | rfl | exact e2 | (show (_ : Int) = _; omega) | (show (_ : Nat) = _; simp only [List.length_append, List.length_take, List.length_drop, List.length_cons, List.length_nil, byts_len]; omega)
    · obtain rfl : t = 2 := by omega
      (repeat' (first | (refine And.intro (fun (hfk : _ = true) => ?_) (fun (hfk : _ = false) => ?_) <;> ((try (first | replace hfk := of_decide_eq_true hfk | replace hfk := of_decide_eq_false hfk | simp only [decide_eq_true_eq, decide_eq_false_iff_not, dh1, dh0, ne_eq, reduceCtorEq] at hfk)); (try (exfalso; first | omega | contradiction | exact Bool.noConfusion (Eq.trans (Eq.symm hfk) (by with_reducible assumption : _ = false)) | exact Bool.noConfusion (Eq.trans (Eq.symm hfk) (by with_reducible assumption : _ = true)))))) | (refine And.intro ?ob ?_; (case ob => (first | exact Chk.mk (by kernel_rfl) | exact True.intro | with_reducible assumption | exact rng64 (by omega) (by omega) | omega | (dsimp only; omega) | (show (_ : Nat) ≤ _; omega) | (simp only [ll1, ll2, ll0]; done) | (simp only [ll1, ll2, ll0]; omega) | (dsimp only; simp only [ll1, ll2, ll0]; omega)))) | exact True.intro | (show _ = _; first | with_reducible rfl | with_reducible assumption | omega | (simp only [ll1, ll2, ll0]; omega) | (skip; done) | exact rfl) | with_reducible assumption | (apply And.intro) | omega | (intro j hj; exact rfl) | fail))
      refine ⟨8, [some 0, some 1, some 2], by omega, ?mu, ?_⟩
      case mu => (show 14 - 8 < 14 - 7; omega)
      have e3 : P ++ byts x7 2 = ([66, 77] : List Int) ++ byts x0 4 ++ byts x1 4 ++ byts x2 4 ++ byts x3 4 ++ byts x4 4 ++ byts x5 4 ++ byts x6 2 ++ byts x7 2 := by rw [hPe]
      (repeat' (first | (refine And.intro ?_ ?_) | exact True.intro | (show _ = _; with_reducible rfl) | exact Chk.mk (by kernel_rfl)))
      all_goals first | rfl | exact e3
  · obtain ⟨u0, u1⟩ := h8
    have hP : (([66, 77] : List Int) ++ byts x0 4 ++ byts x1 4 ++ byts x2 4 ++ byts x3 4 ++ byts x4 4 ++ byts x5 4 ++ byts x6 2 ++ byts x7 2).length = 30 := by simp only [List.length_append, byts_len, List.length_cons, List.length_nil]
    obtain ⟨P, hPe⟩ : ∃ P, ([66, 77] : List Int) ++ byts x0 4 ++ byts x1 4 ++ byts x2 4 ++ byts x3 4 ++ byts x4 4 ++ byts x5 4 ++ byts x6 2 ++ byts x7 2 = P := ⟨_, rfl⟩
    rw [hPe] at hP
    (repeat' (first | (refine And.intro (fun (hfk : _ = true) => ?_) (fun (hfk : _ = false) => ?_) <;> ((try (first | replace hfk := of_decide_eq_true hfk | replace hfk := of_decide_eq_false hfk | simp only [decide_eq_true_eq, decide_eq_false_iff_not, dh1, dh0, ne_eq, reduceCtorEq] at hfk)); (try (exfalso; first | omega | contradiction | exact Bool.noConfusion (Eq.trans (Eq.symm hfk) (by with_reducible assumption : _ = false)) | exact Bool.noConfusion (Eq.trans (Eq.symm hfk) (by with_reducible assumption : _ = true)))))) | (refine And.intro ?ob ?_; (case ob => (first | exact Chk.mk (by kernel_rfl) | exact True.intro | with_reducible assumption | exact rng64 (by omega) (by omega) | omega | (dsimp only; omega) | (show (_ : Nat) ≤ _; omega) | (simp only [ll1, ll2, ll0]; done) | (simp only [ll1, ll2, ll0]; omega) | (dsimp only; simp only [ll1, ll2, ll0]; omega)))) | exact True.intro | (show _ = _; first | with_reducible rfl | with_reducible assumption | omega | (simp only [ll1, ll2, ll0]; omega) | (skip; done) | exact rfl) | with_reducible assumption | (apply And.intro) | omega | (intro j hj; exact rfl) | fail))
    refine ⟨Nat, fun t => [(0, .ptr 0 0), (3, .sl 1 1 0 (30 + t)), (5, .ptr 3 0), (10, .sl 2 2 0 14), (11, .int .i64 14), (12, .int .i64 ((8 : Nat) : Int)), (17, .int .i64 4), (18, .int .i64 (t : Int))],
      fun t => ⟨4, [(0, some (hdEn x0 x1 x2 x3 x4 x5 x6 x7 x8 x9 x10 x11 x12 x13)), (1, some (bE (P ++ byts x8 t))), (2, some (.cells 224 [.ptr 0 0, .int .i64 4, .ptr 0 1, .int .i64 4, .ptr 0 2, .int .i64 4, .ptr 0 3, .int .i64 4, .ptr 0 4, .int .i64 4, .ptr 0 5, .int .i64 4, .ptr 0 6, .int .i64 2, .ptr 0 7, .int .i64 2, .ptr 0 8, .int .i64 4, .ptr 0 9, .int .i64 4, .ptr 0 10, .int .i64 4, .ptr 0 11, .int .i64 4, .ptr 0 12, .int .i64 4, .ptr 0 13, .int .i64 4])), (3, some (.cells 224 [.ptr 0 8, .int .i64 4]))]⟩,
      fun t => t ≤ 4, fun t => 4 - t, ⟨0, [some 0, some 1, some 2, some 3], by omega, ?_⟩, fun t ht => ?_⟩
    · have e0 : ([66, 77] : List Int) ++ byts x0 4 ++ byts x1 4 ++ byts x2 4 ++ byts x3 4 ++ byts x4 4 ++ byts x5 4 ++ byts x6 2 ++ byts x7 2 = P ++ byts x8 0 := by rw [hPe]; simp [byts]
      (repeat' (first | (refine And.intro ?_ ?_) | exact True.intro | (show _ = _; with_reducible rfl) | exact Chk.mk (by kernel_rfl)))
      all_goals first | rfl | exact e0
    have ht : t ≤ 4 := ht
    have hl : (P ++ byts x8 t).length = 30 + t := by rw [List.length_append, hP, byts_len]
    have hlb : (byts x8 t).length = t := byts_len _ _
    by_cases htk : t < 4
    · have eb := byt_sh (t := t) u0 u1 (by omega)
      have r8 : rngI .i64 (8 * (t : Int)) := rng64 (by omega) (by omega)
      have rt : rngI .i64 ((t : Int) + 1) := rng64 (by omega) (by omega)
      have w8 : IntKind.u64.wrap (8 * (t : Int)) = 8 * (t : Int) := w64 (by omega) (by omega)
      have s8 : 0 ≤ IntKind.u64.wrap (8 * (t : Int)) := by rw [w8]; omega
      have e1 : List.take 1 (List.drop 0 [IntKind.u8.wrap (x8.fdiv (2 ^ min (IntKind.u64.wrap (8 * (t : Int))).toNat IntKind.u32.bits))]) = [byt x8 t] := by rw [eb]; rfl
      have e2 : P ++ byts x8 t ++ List.take 1 (List.drop 0 [IntKind.u8.wrap (x8.fdiv (2 ^ min (IntKind.u64.wrap (8 * (t : Int))).toNat IntKind.u32.bits))]) = P ++ byts x8 (t + 1) := by rw [e1, byts_succ, List.append_assoc]
      (repeat' (first | (refine And.intro (fun (hfk : _ = true) => ?_) (fun (hfk : _ = false) => ?_) <;> ((try (first | replace hfk := of_decide_eq_true hfk | replace hfk := of_decide_eq_false hfk | simp only [decide_eq_true_eq, decide_eq_false_iff_not, dh1, dh0, ne_eq, reduceCtorEq] at hfk)); (try (exfalso; first | omega | contradiction | exact Bool.noConfusion (Eq.trans (Eq.symm hfk) (by with_reducible assumption : _ = false)) | exact Bool.noConfusion (Eq.trans (Eq.symm hfk) (by with_reducible assumption : _ = true)))))) | (refine And.intro ?ob ?_; (case ob => (first | exact Chk.mk (by kernel_rfl) | exact True.intro | with_reducible assumption | exact rng64 (by omega) (by omega) | omega | (dsimp only; omega) | (show (_ : Nat) ≤ _; omega) | (simp only [ll1, ll2, ll0]; done) | (simp only [ll1, ll2, ll0]; omega) | (dsimp only; simp only [ll1, ll2, ll0]; omega)))) | exact True.intro | (show _ = _; first | with_reducible rfl | with_reducible assumption | omega | (simp only [ll1, ll2, ll0]; omega) | (skip; done) | exact rfl) | with_reducible assumption | (apply And.intro) | omega | (intro j hj; exact rfl) | fail))
      refine ⟨t + 1, [some 0, some 5, some 2, some 3], htk, ?mu, ?_⟩
      case mu => (show 4 - (t + 1) < 4 - t; omega)
      (repeat' (first | (refine And.intro ?_ ?_) | exact True.intro | (show _ = _; with_reducible rfl) | exact Chk.mk (by kernel_rfl)))
      all_goals first | rfl | exact e2 | (show (_ : Int) = _; omega) | (show (_ : Nat) = _; simp only [List.length_append, List.length_take, List.length_drop, List.length_cons, List.length_nil, byts_len]; omega)
    · obtain rfl : t = 4 := by omega
      (repeat' (first | (refine And.intro (fun (hfk : _ = true) => ?_) (fun (hfk : _ = false) => ?_) <;> ((try (first | replace hfk := of_decide_eq_true hfk | replace hfk := of_decide_eq_false hfk | simp only [decide_eq_true_eq, decide_eq_false_iff_not, dh1, dh0, ne_eq, reduceCtorEq] at hfk)); (try (exfalso; first | omega | contradiction | exact Bool.noConfusion (Eq.trans (Eq.symm hfk) (by with_reducible assumption : _ = false)) | exact Bool.noConfusion (Eq.trans (Eq.symm hfk) (by with_reducible assumption : _ = true)))))) | (refine And.intro ?ob ?_; (case ob => (first | exact Chk.mk (by kernel_rfl) | exact True.intro | with_reducible assumption | exact rng64 (by omega) (by omega) | omega | (dsimp only; omega) | (show (_ : Nat) ≤ _; omega) | (simp only [ll1, ll2, ll0]; done) | (simp only [ll1, ll2, ll0]; omega) | (dsimp only; simp only [ll1, ll2, ll0]; omega)))) | exact True.intro | (show _ = _; first | with_reducible rfl | with_reducible assumption | omega | (simp only [ll1, ll2, ll0]; omega) | (skip; done) | exact rfl) | with_reducible assumption | (apply And.intro) | omega | (intro j hj; exact rfl) | fail))
      refine ⟨9, [some 0, some 1, some 2], by omega, ?mu, ?_⟩
      case mu => (show 14 - 9 < 14 - 8; omega)
      have e3 : P ++ byts x8 4 = ([66, 77] : List Int) ++ byts x0 4 ++ byts x1 4 ++ byts x2 4 ++ byts x3 4 ++ byts x4 4 ++ byts x5 4 ++ byts x6 2 ++ byts x7 2 ++ byts x8 4 := by rw [hPe]
      (repeat' (first | (refine And.intro ?_ ?_) | exact True.intro | (show _ = _; with_reducible rfl) | exact Chk.mk (by kernel_rfl)))
      all_goals first | rfl | exact e3
  · obtain ⟨u0, u1⟩ := h9
    have hP : (([66, 77] : List Int) ++ byts x0 4 ++ byts x1 4 ++ byts x2 4 ++ byts x3 4 ++ byts x4 4 ++ byts x5 4 ++ byts x6 2 ++ byts x7 2 ++ byts x8 4).length = 34 := by simp only [List.length_append, byts_len, List.length_cons, List.length_nil]
    obtain ⟨P, hPe⟩ : ∃ P, ([66, 77] : List Int) ++ byts x0 4 ++ byts x1 4 ++ byts x2 4 ++ byts x3 4 ++ byts x4 4 ++ byts x5 4 ++ byts x6 2 ++ byts x7 2 ++ byts x8 4 = P := ⟨_, rfl⟩
    rw [hPe] at hP
    (repeat' (first | (refine And.intro (fun (hfk : _ = true) => ?_) (fun (hfk : _ = false) => ?_) <;> ((try (first | replace hfk := of_decide_eq_true hfk | replace hfk := of_decide_eq_false hfk | simp only [decide_eq_true_eq, decide_eq_false_iff_not, dh1, dh0, ne_eq, reduceCtorEq] at hfk)); (try (exfalso; first | omega | contradiction | exact Bool.noConfusion (Eq.trans (Eq.symm hfk) (by with_reducible assumption : _ = false)) | exact Bool.noConfusion (Eq.trans (Eq.symm hfk) (by with_reducible assumption : _ = true)))))) | (refine And.intro ?ob ?_; (case ob => (first | exact Chk.mk (by kernel_rfl) | exact True.intro | with_reducible assumption | exact rng64 (by omega) (by omega) | omega | (dsimp only; omega) | (show (_ : Nat) ≤ _; omega) | (simp only [ll1, ll2, ll0]; done) | (simp only [ll1, ll2, ll0]; omega) | (dsimp only; simp only [ll1, ll2, ll0]; omega)))) | exact True.intro | (show _ = _; first | with_reducible rfl | with_reducible assumption | omega | (simp only [ll1, ll2, ll0]; omega) | (skip; done) | exact rfl) | with_reducible assumption | (apply And.intro) | omega | (intro j hj; exact rfl) | fail))
    refine ⟨Nat, fun t => [(0, .ptr 0 0), (3, .sl 1 1 0 (34 + t)), (5, .ptr 3 0), (10, .sl 2 2 0 14), (11, .int .i64 14), (12, .int .i64 ((9 : Nat) : Int)), (17, .int .i64 4), (18, .int .i64 (t : Int))],
      fun t => ⟨4, [(0, some (hdEn x0 x1 x2 x3 x4 x5 x6 x7 x8 x9 x10 x11 x12 x13)), (1, some (bE (P ++ byts x9 t))), (2, some (.cells 224 [.ptr 0 0, .int .i64 4, .ptr 0 1, .int .i64 4, .ptr 0 2, .int .i64 4, .ptr 0 3, .int .i64 4, .ptr 0 4, .int .i64 4, .ptr 0 5, .int .i64 4, .ptr 0 6, .int .i64 2, .ptr 0 7, .int .i64 2, .ptr 0 8, .int .i64 4, .ptr 0 9, .int .i64 4, .ptr 0 10, .int .i64 4, .ptr 0 11, .int .i64 4, .ptr 0 12, .int .i64 4, .ptr 0 13, .int .i64 4])), (3, some (.cells 224 [.ptr 0 9, .int .i64 4]))]⟩,
      fun t => t ≤ 4, fun t => 4 - t, ⟨0, [some 0, some 1, some 2, some 3], by omega, ?_⟩, fun t ht => ?_⟩
    · have e0 : ([66, 77] : List Int) ++ byts x0 4 ++ byts x1 4 ++ byts x2 4 ++ byts x3 4 ++ byts x4 4 ++ byts x5 4 ++ byts x6 2 ++ byts x7 2 ++ byts x8 4 = P ++ byts x9 0 := by rw [hPe]; simp [byts]
      (repeat' (first | (refine And.intro ?_ ?_) | exact True.intro | (show _ = _; with_reducible rfl) | exact Chk.mk (by kernel_rfl)))
      all_goals first | rfl | exact e0
    have ht : t ≤ 4 := ht
    have hl : (P ++ byts x9 t).length = 34 + t := by rw [List.length_append, hP, byts_len]
    have hlb : (byts x9 t).length = t := byts_len _ _
    by_cases htk : t < 4
    · have eb := byt_sh (t := t) u0 u1 (by omega)
      have r8 : rngI .i64 (8 * (t : Int)) := rng64 (by omega) (by omega)
      have rt : rngI .i64 ((t : Int) + 1) := rng64 (by omega) (by omega)
      have w8 : IntKind.u64.wrap (8 * (t : Int)) = 8 * (t : Int) := w64 (by omega) (by omega)
      have s8 : 0 ≤ IntKind.u64.wrap (8 * (t : Int)) := by rw [w8]; omega
      have e1 : List.take 1 (List.drop 0 [IntKind.u8.wrap (x9.fdiv (2 ^ min (IntKind.u64.wrap (8 * (t : Int))).toNat IntKind.u32.bits))]) = [byt x9 t] := by rw [eb]; rfl
      have e2 : P ++ byts x9 t ++ List.take 1 (List.drop 0 [IntKind.u8.wrap (x9.fdiv (2 ^ min (IntKind.u64.wrap (8 * (t : Int))).toNat IntKind.u32.bits))]) = P ++ byts x9 (t + 1) := by rw [e1, byts_succ, List.append_assoc]
      (repeat' (first | (refine And.intro (fun (hfk : _ = true) => ?_) (fun (hfk : _ = false) => ?_) <;> ((try (first | replace hfk := of_decide_eq_true hfk | replace hfk := of_decide_eq_false hfk | simp only [decide_eq_true_eq, decide_eq_false_iff_not, dh1, dh0, ne_eq, reduceCtorEq] at hfk)); (try (exfalso; first | omega | contradiction | exact Bool.noConfusion (Eq.trans (Eq.symm hfk) (by with_reducible assumption : _ = false)) | exact Bool.noConfusion (Eq.trans (Eq.symm hfk) (by with_reducible assumption : _ = true)))))) | (refine And.intro ?ob ?_; (case ob => (first | exact Chk.mk (by kernel_rfl) | exact True.intro | with_reducible assumption | exact rng64 (by omega) (by omega) | omega | (dsimp only; omega) | (show (_ : Nat) ≤ _; omega) | (simp only [ll1, ll2, ll0]; done) | (simp only [ll1, ll2, ll0]; omega) | (dsimp only; simp only [ll1, ll2, ll0]; omega)))) | exact True.intro | (show _ = _; first | with_reducible rfl | with_reducible assumption | omega | (simp only [ll1, ll2, ll0]; omega) | (skip; done) | exact rfl) | with_reducible assumption | (apply And.intro) | omega | (intro j hj; exact rfl) | fail))
      refine ⟨t + 1, [some 0, some 5, some 2, some 3], htk, ?mu, ?_⟩
      case mu => (show 4 - (t + 1) < 4 - t; omega)
      (repeat' (first | (refine And.intro ?_ ?_) | exact True.intro | (show _ = _; with_reducible rfl) | exact Chk.mk (by kernel_rfl)))
      all_goals first | rfl | exact e2 | (show (_ : Int) = _; omega) | (show (_ : Nat) = _; simp only [List.length_append, List.length_take, List.length_drop, List.length_cons, List.length_nil, byts_len]; omega)
    · obtain rfl : t = 4 := by omega
      (repeat' (first | (refine And.intro (fun (hfk : _ = true) => ?_) (fun (hfk : _ = false) => ?_) <;> ((try (first | replace hfk := of_decide_eq_true hfk | replace hfk := of_decide_eq_false hfk | simp only [decide_eq_true_eq, decide_eq_false_iff_not, dh1, dh0, ne_eq, reduceCtorEq] at hfk)); (try (exfalso; first | omega | contradiction | exact Bool.noConfusion (Eq.trans (Eq.symm hfk) (by with_reducible assumption : _ = false)) | exact Bool.noConfusion (Eq.trans (Eq.symm hfk) (by with_reducible assumption : _ = true)))))) | (refine And.intro ?ob ?_; (case ob => (first | exact Chk.mk (by kernel_rfl) | exact True.intro | with_reducible assumption | exact rng64 (by omega) (by omega) | omega | (dsimp only; omega) | (show (_ : Nat) ≤ _; omega) | (simp only [ll1, ll2, ll0]; done) | (simp only [ll1, ll2, ll0]; omega) | (dsimp only; simp only [ll1, ll2, ll0]; omega)))) | exact True.intro | (show _ = _; first | with_reducible rfl | with_reducible assumption | omega | (simp only [ll1, ll2, ll0]; omega) | (skip; done) | exact rfl) | with_reducible assumption | (apply And.intro) | omega | (intro j hj; exact rfl) | fail))
      refine ⟨10, [some 0, some 1, some 2], by omega, ?mu, ?_⟩
      case mu => (show 14 - 10 < 14 - 9; omega)
      have e3 : P ++ byts x9 4 = ([66, 77] : List Int) ++ byts x0 4 ++ byts x1 4 ++ byts x2 4 ++ byts x3 4 ++ byts x4 4 ++ byts x5 4 ++ byts x6 2 ++ byts x7 2 ++ byts x8 4 ++ byts x9 4 := by rw [hPe]
      (repeat' (first | (refine And.intro ?_ ?_) | exact True.intro | (show _ = _; with_reducible rfl) | exact Chk.mk (by kernel_rfl)))
      all_goals first | rfl | exact e3
  · obtain ⟨u0, u1⟩ := h10
    have hP : (([66, 77] : List Int) ++ byts x0 4 ++ byts x1 4 ++ byts x2 4 ++ byts x3 4 ++ byts x4 4 ++ byts x5 4 ++ byts x6 2 ++ byts x7 2 ++ byts x8 4 ++ byts x9 4).length = 38 := by simp only [List.length_append, byts_len, List.length_cons, List.length_nil]
    obtain ⟨P, hPe⟩ : ∃ P, ([66, 77] : List Int) ++ byts x0 4 ++ byts x1 4 ++ byts x2 4 ++ byts x3 4 ++ byts x4 4 ++ byts x5 4 ++ byts x6 2 ++ byts x7 2 ++ byts x8 4 ++ byts x9 4 = P := ⟨_, rfl⟩
    rw [hPe] at hP
    (repeat' (first | (refine And.intro (fun (hfk : _ = true) => ?_) (fun (hfk : _ = false) => ?_) <;> ((try (first | replace hfk := of_decide_eq_true hfk | replace hfk := of_decide_eq_false hfk | simp only [decide_eq_true_eq, decide_eq_false_iff_not, dh1, dh0, ne_eq, reduceCtorEq] at hfk)); (try (exfalso; first | omega | contradiction | exact Bool.noConfusion (Eq.trans (Eq.symm hfk) (by with_reducible assumption : _ = false)) | exact Bool.noConfusion (Eq.trans (Eq.symm hfk) (by with_reducible assumption : _ = true)))))) | (refine And.intro ?ob ?_; (case ob => (first | exact Chk.mk (by kernel_rfl) | exact True.intro | with_reducible assumption | exact rng64 (by omega) (by omega) | omega | (dsimp only; omega) | (show (_ : Nat) ≤ _; omega) | (simp only [ll1, ll2, ll0]; done) | (simp only [ll1, ll2, ll0]; omega) | (dsimp only; simp only [ll1, ll2, ll0]; omega)))) | exact True.intro | (show _ = _; first | with_reducible rfl | with_reducible assumption | omega | (simp only [ll1, ll2, ll0]; omega) | (skip; done) | exact rfl) | with_reducible assumption | (apply And.intro) | omega | (intro j hj; exact rfl) | fail))
    refine ⟨Nat, fun t => [(0, .ptr 0 0), (3, .sl 1 1 0 (38 + t)), (5, .ptr 3 0), (10, .sl 2 2 0 14), (11, .int .i64 14), (12, .int .i64 ((10 : Nat) : Int)), (17, .int .i64 4), (18, .int .i64 (t : Int))],
      fun t => ⟨4, [(0, some (hdEn x0 x1 x2 x3 x4 x5 x6 x7 x8 x9 x10 x11 x12 x13)), (1, some (bE (P ++ byts x10 t))), (2, some (.cells 224 [.ptr 0 0, .int .i64 4, .ptr 0 1, .int .i64 4, .ptr 0 2, .int .i64 4, .ptr 0 3, .int .i64 4, .ptr 0 4, .int .i64 4, .ptr 0 5, .int .i64 4, .ptr 0 6, .int .i64 2, .ptr 0 7, .int .i64 2, .ptr 0 8, .int .i64 4, .ptr 0 9, .int .i64 4, .ptr 0 10, .int .i64 4, .ptr 0 11, .int .i64 4, .ptr 0 12, .int .i64 4, .ptr 0 13, .int .i64 4])), (3, some (.cells 224 [.ptr 0 10, .int .i64 4]))]⟩,
      fun t => t ≤ 4, fun t => 4 - t, ⟨0, [some 0, some 1, some 2, some 3], by omega, ?_⟩, fun t ht => ?_⟩
    · have e0 : ([66, 77] : List Int) ++ byts x0 4 ++ byts x1 4 ++ byts x2 4 ++ byts x3 4 ++ byts x4 4 ++ byts x5 4 ++ byts x6 2 ++ byts x7 2 ++ byts x8 4 ++ byts x9 4 = P ++ byts x10 0 := by rw [hPe]; simp [byts]
      (repeat' (first | (refine And.intro ?_ ?_) | exact True.intro | (show _ = _; with_reducible rfl) | exact Chk.mk (by kernel_rfl)))
      all_goals first | rfl | exact e0
    have ht : t ≤ 4 := ht
    have hl : (P ++ byts x10 t).length = 38 + t := by rw [List.length_append, hP, byts_len]
    have hlb : (byts x10 t).length = t := byts_len _ _
    by_cases htk : t < 4
    · have eb := byt_sh (t := t) u0 u1 (by omega)
      have r8 : rngI .i64 (8 * (t : Int)) := rng64 (by omega) (by omega)
      have rt : rngI .i64 ((t : Int) + 1) := rng64 (by omega) (by omega)
      have w8 : IntKind.u64.wrap (8 * (t : Int)) = 8 * (t : Int) := w64 (by omega) (by omega)
      have s8 : 0 ≤ IntKind.u64.wrap (8 * (t : Int)) := by rw [w8]; omega
      have e1 : List.take 1 (List.drop 0 [IntKind.u8.wrap (x10.fdiv (2 ^ min (IntKind.u64.wrap (8 * (t : Int))).toNat IntKind.u32.bits))]) = [byt x10 t] := by rw [eb]; rfl
      have e2 : P ++ byts x10 t ++ List.take 1 (List.drop 0 [IntKind.u8.wrap (x10.fdiv (2 ^ min (IntKind.u64.wrap (8 * (t : Int))).toNat IntKind.u32.bits))]) = P ++ byts x10 (t + 1) := by rw [e1, byts_succ, List.append_assoc]
      (repeat' (first | (refine And.intro (fun (hfk : _ = true) => ?_) (fun (hfk : _ = false) => ?_) <;> ((try (first | replace hfk := of_decide_eq_true hfk | replace hfk := of_decide_eq_false hfk | simp only [decide_eq_true_eq, decide_eq_false_iff_not, dh1, dh0, ne_eq, reduceCtorEq] at hfk)); (try (exfalso; first | omega | contradiction | exact Bool.noConfusion (Eq.trans (Eq.symm hfk) (by with_reducible assumption : _ = false)) | exact Bool.noConfusion (Eq.trans (Eq.symm hfk) (by with_reducible assumption : _ = true)))))) | (refine And.intro ?ob ?_; (case ob => (first | exact Chk.mk (by kernel_rfl) | exact True.intro | with_reducible assumption | exact rng64 (by omega) (by omega) | omega | (dsimp only; omega) | (show (_ : Nat) ≤ _; omega) | (simp only [ll1, ll2, ll0]; done) | (simp only [ll1, ll2, ll0]; omega) | (dsimp only; simp only [ll1, ll2, ll0]; omega)))) | exact True.intro | (show _ = _; first | with_reducible rfl | with_reducible assumption | omega | (simp only [ll1, ll2, ll0]; omega) | (skip; done) | exact rfl) | with_reducible assumption | (apply And.intro) | omega | (intro j hj; exact rfl) | fail))
      refine ⟨t + 1, [some 0, some 5, some 2, some 3], htk, ?mu, ?_⟩
      case mu => (show 4 - (t + 1) < 4 - t; omega)
      (repeat' (first | (refine And.intro ?_ ?_) | exact True.intro | (show _ = _; with_reducible rfl) | exact Chk.mk (by kernel_rfl)))
      all_goals first | rfl | exact e2 | (show (_ : Int) = _; omega) | (show (_ : Nat) = _; simp only [List.length_append, List.length_take, List.length_drop, List.length_cons, List.length_nil, byts_len]; omega)
    · obtain rfl : t = 4 := by omega
      (repeat' (first | (refine And.intro (fun (hfk : _ = true) => ?_) (fun (hfk : _ = false) => ?_) <;> ((try (first | replace hfk := of_decide_eq_true hfk | replace hfk := of_decide_eq_false hfk | simp only [decide_eq_true_eq, decide_eq_false_iff_not, dh1, dh0, ne_eq, reduceCtorEq] at hfk)); (try (exfalso; first | omega | contradiction | exact Bool.noConfusion (Eq.trans (Eq.symm hfk) (by with_reducible assumption : _ = false)) | exact Bool.noConfusion (Eq.trans (Eq.symm hfk) (by with_reducible assumption : _ = true)))))) | (refine And.intro ?ob ?_; (case ob => (first | exact Chk.mk (by kernel_rfl) | exact True.intro | with_reducible assumption | exact rng64 (by omega) (by omega) | omega | (dsimp only; omega) | (show (_ : Nat) ≤ _; omega) | (simp only [ll1, ll2, ll0]; done) | (simp only [ll1, ll2, ll0]; omega) | (dsimp only; simp only [ll1, ll2, ll0]; omega)))) | exact True.intro | (show _ = _; first | with_reducible rfl | with_reducible assumption | omega | (simp only [ll1, ll2, ll0]; omega) | (skip; done) | exact rfl) | with_reducible assumption | (apply And.intro) | omega | (intro j hj; exact rfl) | fail))
      refine ⟨11, [some 0, some 1, some 2], by omega, ?mu, ?_⟩
      case mu => (show 14 - 11 < 14 - 10; omega)
      have e3 : P ++ byts x10 4 = ([66, 77] : List Int) ++ byts x0 4 ++ byts x1 4 ++ byts x2 4 ++ byts x3 4 ++ byts x4 4 ++ byts x5 4 ++ byts x6 2 ++ byts x7 2 ++ byts x8 4 ++ byts x9 4 ++ byts x10 4 := by rw [hPe]
      (repeat' (first | (refine And.intro ?_ ?_) | exact True.intro | (show _ = _; with_reducible rfl) | exact Chk.mk (by kernel_rfl)))
      all_goals first | rfl | exact e3
  · obtain ⟨u0, u1⟩ := h11
    have hP : (([66, 77] : List Int) ++ byts x0 4 ++ byts x1 4 ++ byts x2 4 ++ byts x3 4 ++ byts x4 4 ++ byts x5 4 ++ byts x6 2 ++ byts x7 2 ++ byts x8 4 ++ byts x9 4 ++ byts x10 4).length = 42 := by simp only [List.length_append, byts_len, List.length_cons, List.length_nil]
    obtain ⟨P, hPe⟩ : ∃ P, ([66, 77] : List Int) ++ byts x0 4 ++ byts x1 4 ++ byts x2 4 ++ byts x3 4 ++ byts x4 4 ++ byts x5 4 ++ byts x6 2 ++ byts x7 2 ++ byts x8 4 ++ byts x9 4 ++ byts x10 4 = P := ⟨_, rfl⟩
    rw [hPe] at hP
    (repeat' (first | (refine And.intro (fun (hfk : _ = true) => ?_) (fun (hfk : _ = false) => ?_) <;> ((try (first | replace hfk := of_decide_eq_true hfk | replace hfk := of_decide_eq_false hfk | simp only [decide_eq_true_eq, decide_eq_false_iff_not, dh1, dh0, ne_eq, reduceCtorEq] at hfk)); (try (exfalso; first | omega | contradiction | exact Bool.noConfusion (Eq.trans (Eq.symm hfk) (by with_reducible assumption : _ = false)) | exact Bool.noConfusion (Eq.trans (Eq.symm hfk) (by with_reducible assumption : _ = true)))))) | (refine And.intro ?ob ?_; (case ob => (first | exact Chk.mk (by kernel_rfl) | exact True.intro | with_reducible assumption | exact rng64 (by omega) (by omega) | omega | (dsimp only; omega) | (show (_ : Nat) ≤ _; omega) | (simp only [ll1, ll2, ll0]; done) | (simp only [ll1, ll2, ll0]; omega) | (dsimp only; simp only [ll1, ll2, ll0]; omega)))) | exact True.intro | (show _ = _; first | with_reducible rfl | with_reducible assumption | omega | (simp only [ll1, ll2, ll0]; omega) | (skip; done) | exact rfl) | with_reducible assumption | (apply And.intro) | omega | (intro j hj; exact rfl) | fail))
    refine ⟨Nat, fun t => [(0, .ptr 0 0), (3, .sl 1 1 0 (42 + t)), (5, .ptr 3 0), (10, .sl 2 2 0 14), (11, .int .i64 14), (12, .int .i64 ((11 : Nat) : Int)), (17, .int .i64 4), (18, .int .i64 (t : Int))],
      fun t => ⟨4, [(0, some (hdEn x0 x1 x2 x3 x4 x5 x6 x7 x8 x9 x10 x11 x12 x13)), (1, some (bE (P ++ byts x11 t))), (2, some (.cells 224 [.ptr 0 0, .int .i64 4, .ptr 0 1, .int .i64 4, .ptr 0 2, .int .i64 4, .ptr 0 3, .int .i64 4, .ptr 0 4, .int .i64 4, .ptr 0 5, .int .i64 4, .ptr 0 6, .int .i64 2, .ptr 0 7, .int .i64 2, .ptr 0 8, .int .i64 4, .ptr 0 9, .int .i64 4, .ptr 0 10, .int .i64 4, .ptr 0 11, .int .i64 4, .ptr 0 12, .int .i64 4, .ptr 0 13, .int .i64 4])), (3, some (.cells 224 [.ptr 0 11, .int .i64 4]))]⟩,
      fun t => t ≤ 4, fun t => 4 - t, ⟨0, [some 0, some 1, some 2, some 3], by omega, ?_⟩, fun t ht => ?_⟩
    · have e0 : ([66, 77] : List Int) ++ byts x0 4 ++ byts x1 4 ++ byts x2 4 ++ byts x3 4 ++ byts x4 4 ++ byts x5 4 ++ byts x6 2 ++ byts x7 2 ++ byts x8 4 ++ byts x9 4 ++ byts x10 4 = P ++ byts x11 0 := by rw [hPe]; simp [byts]
      (repeat' (first | (refine And.intro ?_ ?_) | exact True.intro | (show _ = _; with_reducible rfl) | exact Chk.mk (by kernel_rfl)))
      all_goals first | rfl | exact e0
    have ht : t ≤ 4 := ht
    have hl : (P ++ byts x11 t).length = 42 + t := by rw [List.length_append, hP, byts_len]
    have hlb : (byts x11 t).length = t := byts_len _ _
    by_cases htk : t < 4
    · have eb := byt_sh (t := t) u0 u1 (by omega)
      have r8 : rngI .i64 (8 * (t : Int)) := rng64 (by omega) (by omega)
      have rt : rngI .i64 ((t : Int) + 1) := rng64 (by omega) (by omega)
      have w8 : IntKind.u64.wrap (8 * (t : Int)) = 8 * (t : Int) := w64 (by omega) (by omega)
      have s8 : 0 ≤ IntKind.u64.wrap (8 * (t : Int)) := by rw [w8]; omega
      have e1 : List.take 1 (List.drop 0 [IntKind.u8.wrap (x11.fdiv (2 ^ min (IntKind.u64.wrap (8 * (t : Int))).toNat IntKind.u32.bits))]) = [byt x11 t] := by rw [eb]; rfl
      have e2 : P ++ byts x11 t ++ List.take 1 (List.drop 0 [IntKind.u8.wrap (x11.fdiv (2 ^ min (IntKind.u64.wrap (8 * (t : Int))).toNat IntKind.u32.bits))]) = P ++ byts x11 (t + 1) := by rw [e1, byts_succ, List.append_assoc]
      (repeat' (first | (refine And.intro (fun (hfk : _ = true) => ?_) (fun (hfk : _ = false) => ?_) <;> ((try (first | replace hfk := of_decide_eq_true hfk | replace hfk := of_decide_eq_false hfk | simp only [decide_eq_true_eq, decide_eq_false_iff_not, dh1, dh0, ne_eq, reduceCtorEq] at hfk)); (try (exfalso; first | omega | contradiction | exact Bool.noConfusion (Eq.trans (Eq.symm hfk) (by with_reducible assumption : _ = false)) | exact Bool.noConfusion (Eq.trans (Eq.symm hfk) (by with_reducible assumption : _ = true)))))) | (refine And.intro ?ob ?_; (case ob => (first | exact Chk.mk (by kernel_rfl) | exact True.intro | with_reducible assumption | exact rng64 (by omega) (by omega) | omega | (dsimp only; omega) | (show (_ : Nat) ≤ _; omega) | (simp only [ll1, ll2, ll0]; done) | (simp only [ll1, ll2, ll0]; omega) | (dsimp only; simp only [ll1, ll2, ll0]; omega)))) | exact True.intro | (show _ = _; first | with_reducible rfl | with_reducible assumption | omega | (simp only [ll1, ll2, ll0]; omega) | (skip; done) | exact rfl) | with_reducible assumption | (apply And.intro) | omega | (intro j hj; exact rfl) | fail))
      refine ⟨t + 1, [some 0, some 5, some 2, some 3], htk, ?mu, ?_⟩
      case mu => (show 4 - (t + 1) < 4 - t; omega)
      (repeat' (first | (refine And.intro ?_ ?_) | exact True.intro | (show _ = _; with_reducible rfl) | exact Chk.mk (by kernel_rfl)))
      all_goals first | rfl | exact e2 | (show (_ : Int) = _; omega) | (show (_ : Nat) = _; simp only [List.length_append, List.length_take, List.length_drop, List.length_cons, List.length_nil, byts_len]; omega)
    · obtain rfl : t = 4 := by omega
      (repeat' (first | (refine And.intro (fun (hfk : _ = true) => ?_) (fun (hfk : _ = false) => ?_) <;> ((try (first | replace hfk := of_decide_eq_true hfk | replace hfk := of_decide_eq_false hfk | simp only [decide_eq_true_eq, decide_eq_false_iff_not, dh1, dh0, ne_eq, reduceCtorEq] at hfk)); (try (exfalso; first | omega | contradiction | exact Bool.noConfusion (Eq.trans (Eq.symm hfk) (by with_reducible assumption : _ = false)) | exact Bool.noConfusion (Eq.trans (Eq.symm hfk) (by with_reducible assumption : _ = true)))))) | (refine And.intro ?ob ?_; (case ob => (first | exact Chk.mk (by kernel_rfl) | exact True.intro | with_reducible assumption | exact rng64 (by omega) (by omega) | omega | (dsimp only; omega) | (show (_ : Nat) ≤ _; omega) | (simp only [ll1, ll2, ll0]; done) | (simp only [ll1, ll2, ll0]; omega) | (dsimp only; simp only [ll1, ll2, ll0]; omega)))) | exact True.intro | (show _ = _; first | with_reducible rfl | with_reducible assumption | omega | (simp only [ll1, ll2, ll0]; omega) | (skip; done) | exact rfl) | with_reducible assumption | (apply And.intro) | omega | (intro j hj; exact rfl) | fail))
      refine ⟨12, [some 0, some 1, some 2], by omega, ?mu, ?_⟩
      case mu => (show 14 - 12 < 14 - 11; omega)
      have e3 : P ++ byts x11 4 = ([66, 77] : List Int) ++ byts x0 4 ++ byts x1 4 ++ byts x2 4 ++ byts x3 4 ++ byts x4 4 ++ byts x5 4 ++ byts x6 2 ++ byts x7 2 ++ byts x8 4 ++ byts x9 4 ++ byts x10 4 ++ byts x11 4 := by rw [hPe]
      (repeat' (first | (refine And.intro ?_ ?_) | exact True.intro | (show _ = _; with_reducible rfl) | exact Chk.mk (by kernel_rfl)))
      all_goals first | rfl | exact e3
  · obtain ⟨u0, u1⟩ := h12
    have hP : (([66, 77] : List Int) ++ byts x0 4 ++ byts x1 4 ++ byts x2 4 ++ byts x3 4 ++ byts x4 4 ++ byts x5 4 ++ byts x6 2 ++ byts x7 2 ++ byts x8 4 ++ byts x9 4 ++ byts x10 4 ++ byts x11 4).length = 46 := by simp only [List.length_append, byts_len, List.length_cons, List.length_nil]
    obtain ⟨P, hPe⟩ : ∃ P, ([66, 77] : List Int) ++ byts x0 4 ++ byts x1 4 ++ byts x2 4 ++ byts x3 4 ++ byts x4 4 ++ byts x5 4 ++ byts x6 2 ++ byts x7 2 ++ byts x8 4 ++ byts x9 4 ++ byts x10 4 ++ byts x11 4 = P := ⟨_, rfl⟩
    rw [hPe] at hP
    (repeat' (first | (refine And.intro (fun (hfk : _ = true) => ?_) (fun (hfk : _ = false) => ?_) <;> ((try (first | replace hfk := of_decide_eq_true hfk | replace hfk := of_decide_eq_false hfk | simp only [decide_eq_true_eq, decide_eq_false_iff_not, dh1, dh0, ne_eq, reduceCtorEq] at hfk)); (try (exfalso; first | omega | contradiction | exact Bool.noConfusion (Eq.trans (Eq.symm hfk) (by with_reducible assumption : _ = false)) | exact Bool.noConfusion (Eq.trans (Eq.symm hfk) (by with_reducible assumption : _ = true)))))) | (refine And.intro ?ob ?_; (case ob => (first | exact Chk.mk (by kernel_rfl) | exact True.intro | with_reducible assumption | exact rng64 (by omega) (by omega) | omega | (dsimp only; omega) | (show (_ : Nat) ≤ _; omega) | (simp only [ll1, ll2, ll0]; done) | (simp only [ll1, ll2, ll0]; omega) | (dsimp only; simp only [ll1, ll2, ll0]; omega)))) | exact True.intro | (show _ = _; first | with_reducible rfl | with_reducible assumption | omega | (simp only [ll1, ll2, ll0]; omega) | (skip; done) | exact rfl) | with_reducible assumption | (apply And.intro) | omega | (intro j hj; exact rfl) | fail))
    refine ⟨Nat, fun t => [(0, .ptr 0 0), (3, .sl 1 1 0 (46 + t)), (5, .ptr 3 0), (10, .sl 2 2 0 14), (11, .int .i64 14), (12, .int .i64 ((12 : Nat) : Int)), (17, .int .i64 4), (18, .int .i64 (t : Int))],
      fun t => ⟨4, [(0, some (hdEn x0 x1 x2 x3 x4 x5 x6 x7 x8 x9 x10 x11 x12 x13)), (1, some (bE (P ++ byts x12 t))), (2, some (.cells 224 [.ptr 0 0, .int .i64 4, .ptr 0 1, .int .i64 4, .ptr 0 2, .int .i64 4, .ptr 0 3, .int .i64 4, .ptr 0 4, .int .i64 4, .ptr 0 5, .int .i64 4, .ptr 0 6, .int .i64 2, .ptr 0 7, .int .i64 2, .ptr 0 8, .int .i64 4, .ptr 0 9, .int .i64 4, .ptr 0 10, .int .i64 4, .ptr 0 11, .int .i64 4, .ptr 0 12, .int .i64 4, .ptr 0 13, .int .i64 4])), (3, some (.cells 224 [.ptr 0 12, .int .i64 4]))]⟩,
      fun t => t ≤ 4, fun t => 4 - t, ⟨0, [some 0, some 1, some 2, some 3], by omega, ?_⟩, fun t ht => ?_⟩
    · have e0 : ([66, 77] : List Int) ++ byts x0 4 ++ byts x1 4 ++ byts x2 4 ++ byts x3 4 ++ byts x4 4 ++ byts x5 4 ++ byts x6 2 ++ byts x7 2 ++ byts x8 4 ++ byts x9 4 ++ byts x10 4 ++ byts x11 4 = P ++ byts x12 0 := by rw [hPe]; simp [byts]
      (repeat' (first | (refine And.intro ?_ ?_) | exact True.intro | (show _ = _; with_reducible rfl) | exact Chk.mk (by kernel_rfl)))
      all_goals first | rfl | exact e0
    have ht : t ≤ 4 := ht
    have hl : (P ++ byts x12 t).length = 46 + t := by rw [List.length_append, hP, byts_len]
    have hlb : (byts x12 t).length = t := byts_len _ _
    by_cases htk : t < 4
    · have eb := byt_sh (t := t) u0 u1 (by omega)
      have r8 : rngI .i64 (8 * (t : Int)) := rng64 (by omega) (by omega)
      have rt : rngI .i64 ((t : Int) + 1) := rng64 (by omega) (by omega)
      have w8 : IntKind.u64.wrap (8 * (t : Int)) = 8 * (t : Int) := w64 (by omega) (by omega)
      have s8 : 0 ≤ IntKind.u64.wrap (8 * (t : Int)) := by rw [w8]; omega
      have e1 : List.take 1 (List.drop 0 [IntKind.u8.wrap (x12.fdiv (2 ^ min (IntKind.u64.wrap (8 * (t : Int))).toNat IntKind.u32.bits))]) = [byt x12 t] := by rw [eb]; rfl
      have e2 : P ++ byts x12 t ++ List.take 1 (List.drop 0 [IntKind.u8.wrap (x12.fdiv (2 ^ min (IntKind.u64.wrap (8 * (t : Int))).toNat IntKind.u32.bits))]) = P ++ byts x12 (t + 1) := by rw [e1, byts_succ, List.append_assoc]
      (repeat' (first | (refine And.intro (fun (hfk : _ = true) => ?_) (fun (hfk : _ = false) => ?_) <;> ((try (first | replace hfk := of_decide_eq_true hfk | replace hfk := of_decide_eq_false hfk | simp only [decide_eq_true_eq, decide_eq_false_iff_not, dh1, dh0, ne_eq, reduceCtorEq] at hfk)); (try (exfalso; first | omega | contradiction | exact Bool.noConfusion (Eq.trans (Eq.symm hfk) (by with_reducible assumption : _ = false)) | exact Bool.noConfusion (Eq.trans (Eq.symm hfk) (by with_reducible assumption : _ = true)))))) | (refine And.intro ?ob ?_; (case ob => (first | exact Chk.mk (by kernel_rfl) | exact True.intro | with_reducible assumption | exact rng64 (by omega) (by omega) | omega | (dsimp only; omega) | (show (_ : Nat) ≤ _; omega) | (simp only [ll1, ll2, ll0]; done) | (simp only [ll1, ll2, ll0]; omega) | (dsimp only; simp only [ll1, ll2, ll0]; omega)))) | exact True.intro | (show _ = _; first | with_reducible rfl | with_reducible assumption | omega | (simp only [ll1, ll2, ll0]; omega) | (skip; done) | exact rfl) | with_reducible assumption | (apply And.intro) | omega | (intro j hj; exact rfl) | fail))
      refine ⟨t + 1, [some 0, some 5, some 2, some 3], htk, ?mu, ?_⟩
      case mu => (show 4 - (t + 1) < 4 - t; omega)
      (repeat' (first | (refine And.intro ?_ ?_) | exact True.intro | (show _ = _; with_reducible rfl) | exact Chk.mk (by kernel_rfl)))
      all_goals first | rfl | exact e2 | (show (_ : Int) = _; omega) | (show (_ : Nat) = _; simp only [List.length_append, List.length_take, List.length_drop, List.length_cons, List.length_nil, byts_len]; omega)
    · obtain rfl : t = 4 := by omega
      (repeat' (first | (refine And.intro (fun (hfk : _ = true) => ?_) (fun (hfk : _ = false) => ?_) <;> ((try (first | replace hfk := of_decide_eq_true hfk | replace hfk := of_decide_eq_false hfk | simp only [decide_eq_true_eq, decide_eq_false_iff_not, dh1, dh0, ne_eq, reduceCtorEq] at hfk)); (try (exfalso; first | omega | contradiction | exact Bool.noConfusion (Eq.trans (Eq.symm hfk) (by with_reducible assumption : _ = false)) | exact Bool.noConfusion (Eq.trans (Eq.symm hfk) (by with_reducible assumption : _ = true)))))) | (refine And.intro ?ob ?_; (case ob => (first | exact Chk.mk (by kernel_rfl) | exact True.intro | with_reducible assumption | exact rng64 (by omega) (by omega) | omega | (dsimp only; omega) | (show (_ : Nat) ≤ _; omega) | (simp only [ll1, ll2, ll0]; done) | (simp only [ll1, ll2, ll0]; omega) | (dsimp only; simp only [ll1, ll2, ll0]; omega)))) | exact True.intro | (show _ = _; first | with_reducible rfl | with_reducible assumption | omega | (simp only [ll1, ll2, ll0]; omega) | (skip; done) | exact rfl) | with_reducible assumption | (apply And.intro) | omega | (intro j hj; exact rfl) | fail))
      refine ⟨13, [some 0, some 1, some 2], by omega, ?mu, ?_⟩
      case mu => (show 14 - 13 < 14 - 12; omega)
      have e3 : P ++ byts x12 4 = ([66, 77] : List Int) ++ byts x0 4 ++ byts x1 4 ++ byts x2 4 ++ byts x3 4 ++ byts x4 4 ++ byts x5 4 ++ byts x6 2 ++ byts x7 2 ++ byts x8 4 ++ byts x9 4 ++ byts x10 4 ++ byts x11 4 ++ byts x12 4 := by rw [hPe]
      (repeat' (first | (refine And.intro ?_ ?_) | exact True.intro | (show _ = _; with_reducible rfl) | exact Chk.mk (by kernel_rfl)))
      all_goals first | rfl | exact e3
  · obtain ⟨u0, u1⟩ := h13
    have hP : (([66, 77] : List Int) ++ byts x0 4 ++ byts x1 4 ++ byts x2 4 ++ byts x3 4 ++ byts x4 4 ++ byts x5 4 ++ byts x6 2 ++ byts x7 2 ++ byts x8 4 ++ byts x9 4 ++ byts x10 4 ++ byts x11 4 ++ byts x12 4).length = 50 := by simp only [List.length_append, byts_len, List.length_cons, List.length_nil]
    obtain ⟨P, hPe⟩ : ∃ P, ([66, 77] : List Int) ++ byts x0 4 ++ byts x1 4 ++ byts x2 4 ++ byts x3 4 ++ byts x4 4 ++ byts x5 4 ++ byts x6 2 ++ byts x7 2 ++ byts x8 4 ++ byts x9 4 ++ byts x10 4 ++ byts x11 4 ++ byts x12 4 = P := ⟨_, rfl⟩
    rw [hPe] at hP
    (repeat' (first | (refine And.intro (fun (hfk : _ = true) => ?_) (fun (hfk : _ = false) => ?_) <;> ((try (first | replace hfk := of_decide_eq_true hfk | replace hfk := of_decide_eq_false hfk | simp only [decide_eq_true_eq, decide_eq_false_iff_not, dh1, dh0, ne_eq, reduceCtorEq] at hfk)); (try (exfalso; first | omega | contradiction | exact Bool.noConfusion (Eq.trans (Eq.symm hfk) (by with_reducible assumption : _ = false)) | exact Bool.noConfusion (Eq.trans (Eq.symm hfk) (by with_reducible assumption : _ = true)))))) | (refine And.intro ?ob ?_; (case ob => (first | exact Chk.mk (by kernel_rfl) | exact True.intro | with_reducible assumption | exact rng64 (by omega) (by omega) | omega | (dsimp only; omega) | (show (_ : Nat) ≤ _; omega) | (simp only [ll1, ll2, ll0]; done) | (simp only [ll1, ll2, ll0]; omega) | (dsimp only; simp only [ll1, ll2, ll0]; omega)))) | exact True.intro | (show _ = _; first | with_reducible rfl | with_reducible assumption | omega | (simp only [ll1, ll2, ll0]; omega) | (skip; done) | exact rfl) | with_reducible assumption | (apply And.intro) | omega | (intro j hj; exact rfl) | fail))
    refine ⟨Nat, fun t => [(0, .ptr 0 0), (3, .sl 1 1 0 (50 + t)), (5, .ptr 3 0), (10, .sl 2 2 0 14), (11, .int .i64 14), (12, .int .i64 ((13 : Nat) : Int)), (17, .int .i64 4), (18, .int .i64 (t : Int))],
      fun t => ⟨4, [(0, some (hdEn x0 x1 x2 x3 x4 x5 x6 x7 x8 x9 x10 x11 x12 x13)), (1, some (bE (P ++ byts x13 t))), (2, some (.cells 224 [.ptr 0 0, .int .i64 4, .ptr 0 1, .int .i64 4, .ptr 0 2, .int .i64 4, .ptr 0 3, .int .i64 4, .ptr 0 4, .int .i64 4, .ptr 0 5, .int .i64 4, .ptr 0 6, .int .i64 2, .ptr 0 7, .int .i64 2, .ptr 0 8, .int .i64 4, .ptr 0 9, .int .i64 4, .ptr 0 10, .int .i64 4, .ptr 0 11, .int .i64 4, .ptr 0 12, .int .i64 4, .ptr 0 13, .int .i64 4])), (3, some (.cells 224 [.ptr 0 13, .int .i64 4]))]⟩,
      fun t => t ≤ 4, fun t => 4 - t, ⟨0, [some 0, some 1, some 2, some 3], by omega, ?_⟩, fun t ht => ?_⟩
    · have e0 : ([66, 77] : List Int) ++ byts x0 4 ++ byts x1 4 ++ byts x2 4 ++ byts x3 4 ++ byts x4 4 ++ byts x5 4 ++ byts x6 2 ++ byts x7 2 ++ byts x8 4 ++ byts x9 4 ++ byts x10 4 ++ byts x11 4 ++ byts x12 4 = P ++ byts x13 0 := by rw [hPe]; simp [byts]
      (repeat' (first | (refine And.intro ?_ ?_) | exact True.intro | (show _ = _; with_reducible rfl) | exact Chk.mk (by kernel_rfl)))
      all_goals first | rfl | exact e0
    have ht : t ≤ 4 := ht
    have hl : (P ++ byts x13 t).length = 50 + t := by rw [List.length_append, hP, byts_len]
    have hlb : (byts x13 t).length = t := byts_len _ _
    by_cases htk : t < 4
    · have eb := byt_sh (t := t) u0 u1 (by omega)
      have r8 : rngI .i64 (8 * (t : Int)) := rng64 (by omega) (by omega)
      have rt : rngI .i64 ((t : Int) + 1) := rng64 (by omega) (by omega)
      have w8 : IntKind.u64.wrap (8 * (t : Int)) = 8 * (t : Int) := w64 (by omega) (by omega)
      have s8 : 0 ≤ IntKind.u64.wrap (8 * (t : Int)) := by rw [w8]; omega
      have e1 : List.take 1 (List.drop 0 [IntKind.u8.wrap (x13.fdiv (2 ^ min (IntKind.u64.wrap (8 * (t : Int))).toNat IntKind.u32.bits))]) = [byt x13 t] := by rw [eb]; rfl
      have e2 : P ++ byts x13 t ++ List.take 1 (List.drop 0 [IntKind.u8.wrap (x13.fdiv (2 ^ min (IntKind.u64.wrap (8 * (t : Int))).toNat IntKind.u32.bits))]) = P ++ byts x13 (t + 1) := by rw [e1, byts_succ, List.append_assoc]
      (repeat' (first | (refine And.intro (fun (hfk : _ = true) => ?_) (fun (hfk : _ = false) => ?_) <;> ((try (first | replace hfk := of_decide_eq_true hfk | replace hfk := of_decide_eq_false hfk | simp only [decide_eq_true_eq, decide_eq_false_iff_not, dh1, dh0, ne_eq, reduceCtorEq] at hfk)); (try (exfalso; first | omega | contradiction | exact Bool.noConfusion (Eq.trans (Eq.symm hfk) (by with_reducible assumption : _ = false)) | exact Bool.noConfusion (Eq.trans (Eq.symm hfk) (by with_reducible assumption : _ = true)))))) | (refine And.intro ?ob ?_; (case ob => (first | exact Chk.mk (by kernel_rfl) | exact True.intro | with_reducible assumption | exact rng64 (by omega) (by omega) | omega | (dsimp only; omega) | (show (_ : Nat) ≤ _; omega) | (simp only [ll1, ll2, ll0]; done) | (simp only [ll1, ll2, ll0]; omega) | (dsimp only; simp only [ll1, ll2, ll0]; omega)))) | exact True.intro | (show _ = _; first | with_reducible rfl | with_reducible assumption | omega | (simp only [ll1, ll2, ll0]; omega) | (skip; done) | exact rfl) | with_reducible assumption | (apply And.intro) | omega | (intro j hj; exact rfl) | fail))
      refine ⟨t + 1, [some 0, some 5, some 2, some 3], htk, ?mu, ?_⟩
      case mu => (show 4 - (t + 1) < 4 - t; omega)
      (repeat' (first | (refine And.intro ?_ ?_) | exact True.intro | (show _ = _; with_reducible rfl) | exact Chk.mk (by kernel_rfl)))
      all_goals first | rfl | exact e2 | (show (_ : Int) = _; omega) | (show (_ : Nat) = _; simp only [List.length_append, List.length_take, List.length_drop, List.length_cons, List.length_nil, byts_len]; omega)
    · obtain rfl : t = 4 := by omega
      (repeat' (first | (refine And.intro (fun (hfk : _ = true) => ?_) (fun (hfk : _ = false) => ?_) <;> ((try (first | replace hfk := of_decide_eq_true hfk | replace hfk := of_decide_eq_false hfk | simp only [decide_eq_true_eq, decide_eq_false_iff_not, dh1, dh0, ne_eq, reduceCtorEq] at hfk)); (try (exfalso; first | omega | contradiction | exact Bool.noConfusion (Eq.trans (Eq.symm hfk) (by with_reducible assumption : _ = false)) | exact Bool.noConfusion (Eq.trans (Eq.symm hfk) (by with_reducible assumption : _ = true)))))) | (refine And.intro ?ob ?_; (case ob => (first | exact Chk.mk (by kernel_rfl) | exact True.intro | with_reducible assumption | exact rng64 (by omega) (by omega) | omega | (dsimp only; omega) | (show (_ : Nat) ≤ _; omega) | (simp only [ll1, ll2, ll0]; done) | (simp only [ll1, ll2, ll0]; omega) | (dsimp only; simp only [ll1, ll2, ll0]; omega)))) | exact True.intro | (show _ = _; first | with_reducible rfl | with_reducible assumption | omega | (simp only [ll1, ll2, ll0]; omega) | (skip; done) | exact rfl) | with_reducible assumption | (apply And.intro) | omega | (intro j hj; exact rfl) | fail))
      refine ⟨14, [some 0, some 1, some 2], by omega, ?mu, ?_⟩
      case mu => (show 14 - 14 < 14 - 13; omega)
      have e3 : P ++ byts x13 4 = ([66, 77] : List Int) ++ byts x0 4 ++ byts x1 4 ++ byts x2 4 ++ byts x3 4 ++ byts x4 4 ++ byts x5 4 ++ byts x6 2 ++ byts x7 2 ++ byts x8 4 ++ byts x9 4 ++ byts x10 4 ++ byts x11 4 ++ byts x12 4 ++ byts x13 4 := by rw [hPe]
      (repeat' (first | (refine And.intro ?_ ?_) | exact True.intro | (show _ = _; with_reducible rfl) | exact Chk.mk (by kernel_rfl)))
      all_goals first | rfl | exact e3
  · (repeat' (first | (refine And.intro (fun (hfk : _ = true) => ?_) (fun (hfk : _ = false) => ?_) <;> ((try (first | replace hfk := of_decide_eq_true hfk | replace hfk := of_decide_eq_false hfk | simp only [decide_eq_true_eq, decide_eq_false_iff_not, dh1, dh0, ne_eq, reduceCtorEq] at hfk)); (try (exfalso; first | omega | contradiction | exact Bool.noConfusion (Eq.trans (Eq.symm hfk) (by with_reducible assumption : _ = false)) | exact Bool.noConfusion (Eq.trans (Eq.symm hfk) (by with_reducible assumption : _ = true)))))) | (refine And.intro ?ob ?_; (case ob => (first | exact Chk.mk (by kernel_rfl) | exact True.intro | with_reducible assumption | exact rng64 (by omega) (by omega) | omega | (dsimp only; omega) | (show (_ : Nat) ≤ _; omega) | (simp only [ll1, ll2, ll0]; done) | (simp only [ll1, ll2, ll0]; omega) | (dsimp only; simp only [ll1, ll2, ll0]; omega)))) | exact True.intro | (show _ = _; first | with_reducible rfl | with_reducible assumption | omega | (simp only [ll1, ll2, ll0]; omega) | (skip; done) | exact rfl) | with_reducible assumption | (apply And.intro) | omega | (intro j hj; exact rfl) | fail))
    refine ⟨[some 0, some 1], ?_⟩
    (repeat' (first | (refine And.intro (fun (hfk : _ = true) => ?_) (fun (hfk : _ = false) => ?_) <;> ((try (first | replace hfk := of_decide_eq_true hfk | replace hfk := of_decide_eq_false hfk | simp only [decide_eq_true_eq, decide_eq_false_iff_not, dh1, dh0, ne_eq, reduceCtorEq] at hfk)); (try (exfalso; first | omega | contradiction | exact Bool.noConfusion (Eq.trans (Eq.symm hfk) (by with_reducible assumption : _ = false)) | exact Bool.noConfusion (Eq.trans (Eq.symm hfk) (by with_reducible assumption : _ = true)))))) | (refine And.intro ?ob ?_; (case ob => (first | exact Chk.mk (by kernel_rfl) | exact True.intro | with_reducible assumption | exact rng64 (by omega) (by omega) | omega | (dsimp only; omega) | (show (_ : Nat) ≤ _; omega) | (simp only [ll1, ll2, ll0]; done) | (simp only [ll1, ll2, ll0]; omega) | (dsimp only; simp only [ll1, ll2, ll0]; omega)))) | exact True.intro | (show _ = _; first | with_reducible rfl | with_reducible assumption | omega | (simp only [ll1, ll2, ll0]; omega) | (rfl; done) | exact rfl) | with_reducible assumption | (apply And.intro) | omega | (intro j hj; exact rfl) | fail))
end Go.Proofs.Ytepjmnkleajibaa

/- Bitmaps (bmp): rows of pixels, turned; plain. No condition. -/
namespace Go.Proofs.Ytepjmnkleajibaa
open Go Go.RowKit
set_option linter.unusedVariables false
set_option linter.unusedSimpArgs false
set_option maxRecDepth 100000

/-- Lists one behind the other. -/
def catK (f : Nat → List Int) : Nat → List Int
  | 0 => []
  | k + 1 => catK f k ++ f k
theorem catK_len {f : Nat → List Int} {d Q : Nat} (hf : ∀ k, k < Q → (f k).length = d) : ∀ k, k ≤ Q → (catK f k).length = k * d
  | 0, _ => by simp [catK]
  | k + 1, h => by rw [catK, List.length_append, catK_len hf k (by omega), hf k h, Nat.succ_mul]
theorem catK_get {f : Nat → List Int} {d Q : Nat} (hf : ∀ k, k < Q → (f k).length = d) : ∀ m, m ≤ Q → ∀ k j, k < m → j < d → (catK f m).getD (k * d + j) 0 = (f k).getD j 0
  | 0, _, k, j, hk, _ => by omega
  | m + 1, hm, k, j, hk, hj => by
    have hl := catK_len hf m (by omega)
    have hq := hf m hm
    show (catK f m ++ f m).getD (k * d + j) 0 = _
    rw [List.getD_eq_getElem?_getD]
    by_cases he : k = m
    · subst he
      rw [List.getElem?_append_right (by omega), hl, Nat.add_sub_cancel_left, ← List.getD_eq_getElem?_getD]
    · have h1 := prod_of (n := d) (show k < m by omega)
      rw [List.getElem?_append_left (by omega), ← List.getD_eq_getElem?_getD]
      exact catK_get hf m (by omega) k j (by omega) hj
theorem eq_pieces {A B : List Int} {Q d : Nat} (ha : A.length = Q * d) (hb : B.length = Q * d) (h : ∀ k j, k < Q → j < d → A.getD (k * d + j) 0 = B.getD (k * d + j) 0) : A = B := by
  refine list_getD (by rw [ha, hb]) fun i hi => ?_
  rcases Nat.eq_zero_or_pos d with hd | hd
  · subst hd; rw [ha] at hi; omega
  rw [ha] at hi
  have h1 : i / d < Q := (Nat.div_lt_iff_lt_mul hd).2 hi
  have h2 : i % d < d := Nat.mod_lt _ hd
  have h3 : i / d * d + i % d = i := by rw [Nat.mul_comm]; exact Nat.div_add_mod i d
  have := h _ _ h1 h2
  rwa [h3] at this
/-! ### Pixels, turned -/
def sw (t : Nat) : Nat := if t = 0 then 2 else if t = 2 then 0 else t
theorem sw_lt {t c : Nat} (h : t < c) (hc : 3 ≤ c) : sw t < c := by unfold sw; split; omega; split <;> omega
theorem sw_sw (t : Nat) : sw (sw t) = t := by unfold sw; (repeat' split) <;> omega
theorem swapTo_get {L : List Int} {o c : Nat} (hc : 3 ≤ c) : ∀ Q, o + Q * c ≤ L.length →
    (∀ k t, k < Q → t < c → (swapTo L o c Q).getD (o + (k * c + t)) 0 = L.getD (o + (k * c + sw t)) 0) ∧ (∀ i, i < o ∨ o + Q * c ≤ i → (swapTo L o c Q).getD i 0 = L.getD i 0)
  | 0, _ => ⟨fun k t hk => by omega, fun i _ => rfl⟩
  | Q + 1, hl => by
    rw [Nat.succ_mul] at hl
    obtain ⟨i1, i2⟩ := swapTo_get (L := L) (o := o) hc Q (by omega)
    have hlen := swapTo_len L o c Q
    have g0 : (swapTo L o c Q).getD (o + Q * c) 0 = L.getD (o + Q * c) 0 := i2 _ (by right; omega)
    have g2 : (swapTo L o c Q).getD (o + Q * c + 2) 0 = L.getD (o + Q * c + 2) 0 := i2 _ (by right; omega)
    have st : ∀ i, (swapTo L o c (Q + 1)).getD i 0 = if i = o + Q * c + 2 then L.getD (o + Q * c) 0 else if i = o + Q * c then L.getD (o + Q * c + 2) 0 else (swapTo L o c Q).getD i 0 := fun i => by
      show (((swapTo L o c Q).set (o + Q * c) ((swapTo L o c Q).getD (o + Q * c + 2) 0)).set (o + Q * c + 2) ((swapTo L o c Q).getD (o + Q * c) 0)).getD i 0 = _
      rw [set_getD (by rw [List.length_set]; omega), set_getD (by omega), g0, g2]
    refine ⟨fun k t hk ht => ?_, fun i hi => ?_⟩
    · rw [st]
      by_cases hkQ : k = Q
      · subst hkQ
        unfold sw
        by_cases t0 : t = 0
        · subst t0
          rw [if_neg (by omega), if_pos (by omega), if_pos rfl]
          congr 1
        · by_cases t2 : t = 2
          · subst t2
            rw [if_pos (by omega), if_neg (by decide), if_pos rfl]
            congr 1
          · rw [if_neg (by omega), if_neg (by omega), if_neg t0, if_neg t2]
            exact i2 _ (by right; omega)
      · have := prod_of (n := c) (show k < Q by omega)
        rw [if_neg (by omega), if_neg (by omega)]
        exact i1 k t (by omega) ht
    · rw [Nat.succ_mul] at hi
      rw [st, if_neg (by omega), if_neg (by omega)]
      exact i2 i (by omega)
def wrRow (p : List Int) (c w h st k : Nat) : List Int := swapTo (piece p (w * c) (h - 1 - k)) 0 c w ++ List.replicate (st - w * c) 0
def wrB (p : List Int) (c w h st : Nat) : List Int := catK (wrRow p c w h st) h
end Go.Proofs.Ytepjmnkleajibaa

/- Bitmaps (bmp): what bytes are; the document's Read. No condition. -/
namespace Go.Proofs.Ytepjmnkleajibaa
open Go Go.RowKit
set_option linter.unusedVariables false
set_option linter.unusedSimpArgs false
set_option maxRecDepth 100000
set_option maxHeartbeats 4000000

abbrev hW (b : List Int) : Int := lw b 18 4
def fr (dn : Bool) (H r : Nat) : Nat := if dn = true then r else H - 1 - r
end Go.Proofs.Ytepjmnkleajibaa

