
/- Images: what the functions of the layer img and of the document's chapter 7 answer. No condition. -/
import Derived.Test.YtepjmnkleajibaaG9d
namespace Go.Proofs.Ytepjmnkleajibaa
open Go Go.RowKit
set_option linter.unusedVariables false
set_option linter.unusedSimpArgs false
set_option maxRecDepth 100000

/-! ### Plain -/
def fitsI (w h c : Int) : Int := if c ≠ 1 ∧ c ≠ 3 ∧ c ≠ 4 then 10 else if 32768 < w ∨ 32768 < h ∨ (0 < w ∧ 0 < h ∧ 4194304 < w * h) then 30 else if w < 1 ∨ h < 1 then 12 else 0
def imCheck (w h c n : Int) : Int := if fitsI w h c ≠ 0 then fitsI w h c else if n ≠ w * h * c then 12 else 0
theorem fits_inv {w h c : Int} (hf : fitsI w h c = 0) : (c = 1 ∨ c = 3 ∨ c = 4) ∧ 1 ≤ w ∧ w ≤ 32768 ∧ 1 ≤ h ∧ h ≤ 32768 ∧ w * h ≤ 4194304 ∧ 0 ≤ w * h ∧ 0 ≤ w * h * c ∧ w * h * c ≤ 16777216 := by
  unfold fitsI at hf
  split at hf
  · cases hf
  · split at hf
    · cases hf
    · split at hf
      · cases hf
      · rename_i h1 h2 h3
        have h4 : 0 ≤ w * h := Int.mul_nonneg (by omega) (by omega)
        have h5 : 0 ≤ w * h * c := Int.mul_nonneg h4 (by omega)
        have h6 : w * h ≤ 4194304 := by omega
        have h7 : w * h * c ≤ 4194304 * 4 := Int.mul_le_mul h6 (by omega) (by omega) (by omega)
        omega
theorem check_inv {w h c n : Int} (hf : imCheck w h c n = 0) : fitsI w h c = 0 ∧ n = w * h * c := by
  unfold imCheck at hf
  split at hf
  · rename_i h1; exact absurd hf h1
  · rename_i h1
    split at hf
    · cases hf
    · rename_i h2; exact ⟨by omega, by omega⟩
def inI (w h c x y k : Int) : Bool := decide (0 ≤ x) && decide (x < w) && decide (0 ≤ y) && decide (y < h) && decide (0 ≤ k) && decide (k < c)
def plI (w c x y k : Int) : Int := (y * w + x) * c + k
theorem in_inv {w h c x y k : Int} (hi : inI w h c x y k = true) : 0 ≤ x ∧ x < w ∧ 0 ≤ y ∧ y < h ∧ 0 ≤ k ∧ k < c := by
  simp only [inI, Bool.and_eq_true, decide_eq_true_eq] at hi; omega
theorem pl_bd {w h c x y k : Int} (hf : fitsI w h c = 0) (hi : inI w h c x y k = true) :
    (0 ≤ y * w ∧ y * w ≤ 4194304) ∧ (0 ≤ y * w + x ∧ y * w + x < w * h) ∧ (0 ≤ (y * w + x) * c ∧ (y * w + x) * c ≤ 16777216) ∧ 0 ≤ plI w c x y k ∧ plI w c x y k < w * h * c := by
  have hb := fits_inv hf
  have hh := in_inv hi
  have h1 : 0 ≤ y * w := Int.mul_nonneg (by omega) (by omega)
  have h2 : (y + 1) * w ≤ h * w := Int.mul_le_mul_of_nonneg_right (by omega) (by omega)
  rw [Int.add_mul, Int.one_mul, Int.mul_comm h w] at h2
  have h3 : 0 ≤ (y * w + x) * c := Int.mul_nonneg (by omega) (by omega)
  have h4 : (y * w + x + 1) * c ≤ w * h * c := Int.mul_le_mul_of_nonneg_right (by omega) (by omega)
  rw [Int.add_mul, Int.one_mul] at h4
  unfold plI
  omega

theorem in_of {w h c x y k : Int} (hi : 0 ≤ x ∧ x < w ∧ 0 ≤ y ∧ y < h ∧ 0 ≤ k ∧ k < c) : inI w h c x y k = true := by
  simp only [inI, Bool.and_eq_true, decide_eq_true_eq]; omega
theorem pl_rng {w h c x y k : Int} (hf : fitsI w h c = 0) (hi : inI w h c x y k = true) : rngI .i64 (y * w) ∧ rngI .i64 (y * w + x) ∧ rngI .i64 ((y * w + x) * c) ∧ rngI .i64 ((y * w + x) * c + k) := by
  have hb := pl_bd hf hi
  have hc := fits_inv hf
  unfold plI at hb
  exact ⟨rng64 (by omega) (by omega), rng64 (by omega) (by omega), rng64 (by omega) (by omega), rng64 (by omega) (by omega)⟩
/-! ### Answers -/
def sIII (f : Int → Int → Int → AV) : PSpec := fun l => match l with | [.int .i64 a, .int .i64 b, .int .i64 c] => some ([], f a b c) | _ => none
theorem sIII_inv {f : Int → Int → Int → AV} {l : List AV} {obs : List Prop} {v : AV} (h : sIII f l = some (obs, v)) : ∃ a b c, l = [.int .i64 a, .int .i64 b, .int .i64 c] ∧ v = f a b c := by
  unfold sIII at h
  split at h
  · simp only [Option.some.injEq, Prod.mk.injEq] at h; exact ⟨_, _, _, rfl, h.2.symm⟩
  · cases h
/-- An image as a value, its bytes read. -/
abbrev imA (w h c : Int) (l : List Int) : AV := .agg [.int .i64 w, .int .i64 h, .int .i64 c, .roi .u8 l]
def sM (ob : Int → Int → Int → List Int → List Prop) (f : Int → Int → Int → List Int → AV) : PSpec := fun l => match l with | [.agg [.int .i64 w, .int .i64 h, .int .i64 c, .roi .u8 p]] => some (ob w h c p, f w h c p) | _ => none
theorem sM_inv {ob : Int → Int → Int → List Int → List Prop} {f : Int → Int → Int → List Int → AV} {l : List AV} {obs : List Prop} {v : AV} (h : sM ob f l = some (obs, v)) : ∃ w hh c p, l = [imA w hh c p] ∧ obs = ob w hh c p ∧ v = f w hh c p := by
  unfold sM at h
  split at h
  · simp only [Option.some.injEq, Prod.mk.injEq] at h; exact ⟨_, _, _, _, rfl, h.1.symm, h.2.symm⟩
  · cases h
def sMI (ob : Int → Int → Int → List Int → Int → List Prop) (f : Int → Int → Int → List Int → Int → AV) : PSpec := fun l => match l with | [.agg [.int .i64 w, .int .i64 h, .int .i64 c, .roi .u8 p], .int .i64 x] => some (ob w h c p x, f w h c p x) | _ => none
theorem sMI_inv {ob : Int → Int → Int → List Int → Int → List Prop} {f : Int → Int → Int → List Int → Int → AV} {l : List AV} {obs : List Prop} {v : AV} (h : sMI ob f l = some (obs, v)) : ∃ w hh c p x, l = [imA w hh c p, .int .i64 x] ∧ obs = ob w hh c p x ∧ v = f w hh c p x := by
  unfold sMI at h
  split at h
  · simp only [Option.some.injEq, Prod.mk.injEq] at h; exact ⟨_, _, _, _, _, rfl, h.1.symm, h.2.symm⟩
  · cases h
def sM3 (ob : Int → Int → Int → List Int → Int → Int → Int → List Prop) (f : Int → Int → Int → List Int → Int → Int → Int → AV) : PSpec := fun l => match l with | [.agg [.int .i64 w, .int .i64 h, .int .i64 c, .roi .u8 p], .int .i64 x, .int .i64 y, .int .i64 k] => some (ob w h c p x y k, f w h c p x y k) | _ => none
theorem sM3_inv {ob : Int → Int → Int → List Int → Int → Int → Int → List Prop} {f : Int → Int → Int → List Int → Int → Int → Int → AV} {l : List AV} {obs : List Prop} {v : AV} (h : sM3 ob f l = some (obs, v)) : ∃ w hh c p x y k, l = [imA w hh c p, .int .i64 x, .int .i64 y, .int .i64 k] ∧ obs = ob w hh c p x y k ∧ v = f w hh c p x y k := by
  unfold sM3 at h
  split at h
  · simp only [Option.some.injEq, Prod.mk.injEq] at h; exact ⟨_, _, _, _, _, _, _, rfl, h.1.symm, h.2.symm⟩
  · cases h

theorem wh_rng {w h : Int} (h1 : decide (32768 < w) = false) (h2 : decide (32768 < h) = false) (h3 : decide (0 < w) = true) (h4 : decide (0 < h) = true) : rngI .i64 (w * h) := by
  replace h1 := of_decide_eq_false h1
  replace h2 := of_decide_eq_false h2
  replace h3 := of_decide_eq_true h3
  replace h4 := of_decide_eq_true h4
  have h5 : 0 ≤ w * h := Int.mul_nonneg (by omega) (by omega)
  have h6 : w * h ≤ 32768 * 32768 := Int.mul_le_mul (by omega) (by omega) (by omega) (by omega)
  exact rng64 (by omega) (by omega)
theorem fits_s : SOK Try.prog 148 (sIII fun w h c => .int .i64 (fitsI w h c)) := by
  refine sok_of (C := mkC 0 [] noG) (mkC_ok pok_nil noG_ok) rfl mixed ⟨Try.func148, by kernel_rfl, by kernel_rfl, by kernel_rfl⟩ fun l obs v h _ => ?_
  obtain ⟨w, hh, c, rfl, rfl⟩ := sIII_inv h
  clear h
  refine ⟨Nat.le_of_ble_eq_true rfl, ?_⟩
  (repeat' (first | apply And.intro | intro h)); (all_goals (try exact Chk.mk (by kernel_rfl)))
  all_goals first | exact wh_rng (by assumption) (by assumption) (by assumption) (by assumption) | (show _ = fitsI _ _ _; simp only [decide_eq_true_eq, decide_eq_false_iff_not, Bool.not_eq_true', Bool.not_eq_false', Bool.and_eq_true, Bool.or_eq_true, Bool.and_eq_false_iff, Bool.or_eq_false_iff, Int.not_lt, Int.not_le, ne_eq, Classical.not_not] at *; unfold fitsI; (repeat' split) <;> first | rfl | omega)
theorem rfits_s : SOK Try.prog 28 (sIII fun w h c => .int .i64 (fitsI w h c)) := by
  refine sok_of (C := mkC 0 [] noG) (mkC_ok pok_nil noG_ok) rfl mixed ⟨Try.func28, by kernel_rfl, by kernel_rfl, by kernel_rfl⟩ fun l obs v h _ => ?_
  obtain ⟨w, hh, c, rfl, rfl⟩ := sIII_inv h
  clear h
  refine ⟨Nat.le_of_ble_eq_true rfl, ?_⟩
  (repeat' (first | apply And.intro | intro h)); (all_goals (try exact Chk.mk (by kernel_rfl)))
  all_goals first | exact wh_rng (by assumption) (by assumption) (by assumption) (by assumption) | (show _ = fitsI _ _ _; simp only [decide_eq_true_eq, decide_eq_false_iff_not, Bool.not_eq_true', Bool.not_eq_false', Bool.and_eq_true, Bool.or_eq_true, Bool.and_eq_false_iff, Bool.or_eq_false_iff, Int.not_lt, Int.not_le, ne_eq, Classical.not_not] at *; unfold fitsI; (repeat' split) <;> first | rfl | omega)
abbrev fitsS : PSpec := sIII fun w h c => .int .i64 (fitsI w h c)
abbrev checkS : PSpec := sM (fun _ _ _ _ => []) fun w h c p => .int .i64 (imCheck w h c p.length)
theorem whc_rng {w h c : Int} (hf : fitsI w h c = 0) : rngI .i64 (w * h) ∧ rngI .i64 (w * h * c) := by
  have hb := fits_inv hf
  exact ⟨rng64 (by omega) (by omega), rng64 (by omega) (by omega)⟩
theorem check_s : SOK Try.prog 92 checkS := by
  refine sok_of (C := mkC 0 [(148, fitsS)] noG) (mkC_ok (pok_cons fits_s pok_nil) noG_ok) rfl mixed ⟨Try.func92, by kernel_rfl, by kernel_rfl, by kernel_rfl⟩ fun l obs v h _ => ?_
  obtain ⟨w, hh, c, p, rfl, rfl, rfl⟩ := sM_inv h
  clear h
  refine ⟨Nat.le_of_ble_eq_true rfl, ?_⟩
  refine ⟨fun h1 => ?_, fun h1 => ?_⟩
  · have h1 : ¬ fitsI w hh c = 0 := of_decide_eq_true h1
    have e : imCheck w hh c p.length = fitsI w hh c := if_pos h1
    rw [e]
    (repeat' (first | apply And.intro | intro h)); (all_goals (try exact Chk.mk (by kernel_rfl)))
    (all_goals (try first | exact True.intro | exact rfl | exact And.intro rfl rfl | exact And.intro rfl (fun _ _ => rfl)))
  · have h1 : fitsI w hh c = 0 := by simpa using h1
    have hr := whc_rng h1
    refine ⟨hr.1, hr.2, fun h2 => ?_, fun h2 => ?_⟩
    · have e : imCheck w hh c p.length = 12 := by unfold imCheck; rw [if_neg (by omega), if_pos (of_decide_eq_true h2)]
      rw [e]
      (repeat' (first | apply And.intro | intro h)); (all_goals (try exact Chk.mk (by kernel_rfl)))
      (all_goals (try first | exact True.intro | exact rfl | exact And.intro rfl rfl | exact And.intro rfl (fun _ _ => rfl)))
    · have e : imCheck w hh c p.length = 0 := by unfold imCheck; rw [if_neg (by omega), if_neg (of_decide_eq_false h2)]
      rw [e]
      (repeat' (first | apply And.intro | intro h)); (all_goals (try exact Chk.mk (by kernel_rfl)))
      (all_goals (try first | exact True.intro | exact rfl | exact And.intro rfl rfl | exact And.intro rfl (fun _ _ => rfl)))
theorem rcheck7_s : SOK Try.prog 37 checkS := by
  refine sok_of (C := mkC 0 [(28, fitsS)] noG) (mkC_ok (pok_cons rfits_s pok_nil) noG_ok) rfl mixed ⟨Try.func37, by kernel_rfl, by kernel_rfl, by kernel_rfl⟩ fun l obs v h _ => ?_
  obtain ⟨w, hh, c, p, rfl, rfl, rfl⟩ := sM_inv h
  clear h
  refine ⟨Nat.le_of_ble_eq_true rfl, ?_⟩
  refine ⟨fun h1 => ?_, fun h1 => ?_⟩
  · have h1 : fitsI w hh c = 0 := of_decide_eq_true h1
    have hr := whc_rng h1
    refine ⟨hr.1, hr.2, fun h2 => ?_, fun h2 => ?_⟩
    · have e : imCheck w hh c p.length = 12 := by unfold imCheck; rw [if_neg (by omega), if_pos (of_decide_eq_true h2)]
      rw [e]
      (repeat' (first | apply And.intro | intro h)); (all_goals (try exact Chk.mk (by kernel_rfl)))
      (all_goals (try first | exact True.intro | exact rfl | exact And.intro rfl rfl | exact And.intro rfl (fun _ _ => rfl)))
    · have e : imCheck w hh c p.length = fitsI w hh c := by unfold imCheck; rw [if_neg (by omega), if_neg (of_decide_eq_false h2), h1]
      rw [e]
      (repeat' (first | apply And.intro | intro h)); (all_goals (try exact Chk.mk (by kernel_rfl)))
      (all_goals (try first | exact True.intro | exact rfl | exact And.intro rfl rfl | exact And.intro rfl (fun _ _ => rfl)))
  · have h1 : ¬ fitsI w hh c = 0 := of_decide_eq_false h1
    have e : imCheck w hh c p.length = fitsI w hh c := if_pos h1
    rw [e]
    (repeat' (first | apply And.intro | intro h)); (all_goals (try exact Chk.mk (by kernel_rfl)))
    (all_goals (try first | exact True.intro | exact rfl | exact And.intro rfl rfl | exact And.intro rfl (fun _ _ => rfl)))
abbrev fewS : PSpec := sMI (fun _ _ _ _ _ => []) fun w h c p x => .bool (decide ((p.length : Int) ≤ x))
theorem few_s : SOK Try.prog 24 fewS := by
  refine sok_of (C := mkC 0 [] noG) (mkC_ok pok_nil noG_ok) rfl mixed ⟨Try.func24, by kernel_rfl, by kernel_rfl, by kernel_rfl⟩ fun l obs v h _ => ?_
  obtain ⟨w, hh, c, p, x, rfl, rfl, rfl⟩ := sMI_inv h
  clear h
  refine ⟨Nat.le_of_ble_eq_true rfl, ?_⟩
  (repeat' (first | apply And.intro | intro h)); (all_goals (try exact Chk.mk (by kernel_rfl)))
  (all_goals (try first | exact True.intro | exact rfl | exact And.intro rfl rfl | exact And.intro rfl (fun _ _ => rfl)))
def rplI (w h c n x y k : Int) : Int := if imCheck w h c n = 0 ∧ inI w h c x y k = true then plI w c x y k else -1
abbrev rplS : PSpec := sM3 (fun _ _ _ _ _ _ _ => []) fun w h c p x y k => .int .i64 (rplI w h c p.length x y k)
theorem rplace_s : SOK Try.prog 110 rplS := by
  refine sok_of (C := mkC 0 [(37, checkS)] noG) (mkC_ok (pok_cons rcheck7_s pok_nil) noG_ok) rfl mixed ⟨Try.func110, by kernel_rfl, by kernel_rfl, by kernel_rfl⟩ fun l obs v h _ => ?_
  obtain ⟨w, hh, c, p, x, y, k, rfl, rfl, rfl⟩ := sM3_inv h
  clear h
  refine ⟨Nat.le_of_ble_eq_true rfl, ?_⟩
  by_cases hin : imCheck w hh c p.length = 0 ∧ inI w hh c x y k = true
  · have e : rplI w hh c p.length x y k = plI w c x y k := if_pos hin
    obtain ⟨q1, q2, q3, q4⟩ := pl_rng (check_inv hin.1).1 hin.2
    have hi := in_inv hin.2
    have hz := hin.1
    rw [e]
    clear e hin
    (repeat' (first | apply And.intro | intro h)); (all_goals (try exact Chk.mk (by kernel_rfl)))
    (all_goals (try first | assumption | exact rfl | exact True.intro | contradiction | (exfalso; simp only [decide_eq_true_eq, decide_eq_false_iff_not, Bool.not_eq_true', Bool.not_eq_false', Bool.and_eq_true, Bool.or_eq_true, Bool.and_eq_false_iff, Bool.or_eq_false_iff, Int.not_lt, Int.not_le, ne_eq, Classical.not_not] at *; omega)))
  · have e : rplI w hh c p.length x y k = -1 := if_neg hin
    rw [e]
    replace hin : ¬ (imCheck w hh c p.length = 0 ∧ 0 ≤ x ∧ x < w ∧ 0 ≤ y ∧ y < hh ∧ 0 ≤ k ∧ k < c) := fun h => hin ⟨h.1, in_of h.2⟩
    clear e
    (repeat' (first | apply And.intro | intro h)); (all_goals (try exact Chk.mk (by kernel_rfl)))
    (all_goals (try first | assumption | exact rfl | exact True.intro | contradiction | (exfalso; simp only [decide_eq_true_eq, decide_eq_false_iff_not, Bool.not_eq_true', Bool.not_eq_false', Bool.and_eq_true, Bool.or_eq_true, Bool.and_eq_false_iff, Bool.or_eq_false_iff, Int.not_lt, Int.not_le, ne_eq, Classical.not_not] at *; omega)))
def sV3 (ob : Int → Int → Int → List Int → Int → Int → Int → List Prop) (f : Int → Int → Int → List Int → Int → Int → Int → AV) : PSpec := sM3 ob f
abbrev vplS : PSpec := sM3 (fun w h c p x y k => [fitsI w h c = 0]) fun w h c p x y k => .tup [.int .i64 (if inI w h c x y k = true then plI w c x y k else 0), .bool (inI w h c x y k)]
theorem vplace_s : SOK Try.prog 159 vplS := by
  refine sok_of (C := mkC 0 [] noG) (mkC_ok pok_nil noG_ok) rfl mixed ⟨Try.func159, by kernel_rfl, by kernel_rfl, by kernel_rfl⟩ fun l obs v h ho => ?_
  obtain ⟨w, hh, c, p, x, y, k, rfl, rfl, rfl⟩ := sM3_inv h
  clear h
  have hf : fitsI w hh c = 0 := ho _ (by simp)
  clear ho
  refine ⟨Nat.le_of_ble_eq_true rfl, ?_⟩
  by_cases hin : inI w hh c x y k = true
  · obtain ⟨q1, q2, q3, q4⟩ := pl_rng hf hin
    have hi := in_inv hin
    rw [if_pos hin, hin]
    clear hin
    (repeat' (first | apply And.intro | intro h)); (all_goals (try exact Chk.mk (by kernel_rfl)))
    (all_goals (try first | assumption | exact rfl | exact True.intro | contradiction | (exfalso; simp only [decide_eq_true_eq, decide_eq_false_iff_not, Bool.not_eq_true', Bool.not_eq_false', Bool.and_eq_true, Bool.or_eq_true, Bool.and_eq_false_iff, Bool.or_eq_false_iff, Int.not_lt, Int.not_le, ne_eq, Classical.not_not] at *; omega)))
  · rw [if_neg hin, Bool.eq_false_iff.2 hin]
    replace hin : ¬ (0 ≤ x ∧ x < w ∧ 0 ≤ y ∧ y < hh ∧ 0 ≤ k ∧ k < c) := fun h => hin (in_of h)
    (repeat' (first | apply And.intro | intro h)); (all_goals (try exact Chk.mk (by kernel_rfl)))
    (all_goals (try first | assumption | exact rfl | exact True.intro | contradiction | (exfalso; simp only [decide_eq_true_eq, decide_eq_false_iff_not, Bool.not_eq_true', Bool.not_eq_false', Bool.and_eq_true, Bool.or_eq_true, Bool.and_eq_false_iff, Bool.or_eq_false_iff, Int.not_lt, Int.not_le, ne_eq, Classical.not_not] at *; omega)))
def isI (w h c n x y k : Int) : Bool := decide (imCheck w h c n = 0) && inI w h c x y k
abbrev atS : PSpec := sM3 (fun _ _ _ _ _ _ _ => []) fun w h c p x y k => .tup [.int .u8 (if isI w h c p.length x y k = true then p.getD (plI w c x y k).toNat 0 else 0), .bool (isI w h c p.length x y k)]
def sB (ob : List Int → List Prop) (f : List Int → AV) : PSpec := fun l => match l with | [.roi .u8 p] => some (ob p, f p) | _ => none
theorem sB_inv {ob : List Int → List Prop} {f : List Int → AV} {l : List AV} {obs : List Prop} {v : AV} (h : sB ob f l = some (obs, v)) : ∃ p, l = [.roi .u8 p] ∧ obs = ob p ∧ v = f p := by
  unfold sB at h
  split at h
  · simp only [Option.some.injEq, Prod.mk.injEq] at h; exact ⟨_, rfl, h.1.symm, h.2.symm⟩
  · cases h
abbrev cloneS : PSpec := sB (fun p => [p.length ≤ 140737488355328]) fun p => .roi .u8 p
theorem clone_s : SOK Try.prog 78 cloneS := by
  refine sok_of (C := mkC 0 [] noG) (mkC_ok pok_nil noG_ok) rfl mixed ⟨Try.func78, by kernel_rfl, by kernel_rfl, by kernel_rfl⟩ fun l obs v h ho => ?_
  obtain ⟨p, rfl, rfl, rfl⟩ := sB_inv h
  have hl : p.length ≤ 140737488355328 := ho _ (by simp)
  clear h ho
  refine ⟨Nat.le_of_ble_eq_true rfl, ?_⟩
  refine fun b hb => ⟨fun h1 => ?_, fun h1 => ?_⟩
  · rw [hb h1]
    (repeat' (first | apply And.intro | intro h)); (all_goals (try exact Chk.mk (by kernel_rfl)))
    (all_goals (try first | exact True.intro | exact rfl | exact And.intro rfl rfl | exact And.intro rfl (fun _ _ => rfl)))
  · (repeat' (first | apply And.intro | intro h)); (all_goals (try exact Chk.mk (by kernel_rfl)))
    (all_goals (try first | exact True.intro | exact rfl | exact And.intro rfl rfl | exact And.intro rfl (fun _ _ => rfl)))
    · show (((0 : Nat) : Int) + (p.length : Int)) * ((1 : Nat) : Int) ≤ 140737488355328; omega
    · show 0 + p.length ≤ 140737488355328; omega
    · show 0 + (0 + p.length) ≤ p.length; omega
    · show List.take (0 + p.length) p = p; simp
theorem row_bd {w h c y : Int} (hf : fitsI w h c = 0) (h0 : 0 ≤ y) (h1 : y < h) : 0 ≤ w * c ∧ 0 ≤ y * (w * c) ∧ y * (w * c) + w * c ≤ w * h * c ∧ w * h * c ≤ 16777216 := by
  have hb := fits_inv hf
  have h2 : 0 ≤ w * c := Int.mul_nonneg (by omega) (by omega)
  have h3 : 0 ≤ y * (w * c) := Int.mul_nonneg h0 h2
  have h4 : (y + 1) * (w * c) ≤ h * (w * c) := Int.mul_le_mul_of_nonneg_right (by omega) h2
  rw [Int.add_mul, Int.one_mul, ← Int.mul_assoc, ← Int.mul_assoc h, Int.mul_comm h w] at h4
  rw [← Int.mul_assoc] at h3 ⊢
  omega
def rowI (w c y : Int) (p : List Int) : List Int := (p.drop (y * (w * c)).toNat).take (w * c).toNat
def isRow (w h c n y : Int) : Bool := decide (imCheck w h c n = 0) && decide (0 ≤ y) && decide (y < h)
abbrev rowS : PSpec := sMI (fun _ _ _ _ _ => []) fun w h c p y => .roi .u8 (if isRow w h c p.length y = true then rowI w c y p else [])
theorem row_s : SOK Try.prog 94 rowS := by
  refine sok_of (C := mkC 0 [(92, checkS), (78, cloneS)] noG) (mkC_ok (pok_cons check_s (pok_cons clone_s pok_nil)) noG_ok) rfl mixed ⟨Try.func94, by kernel_rfl, by kernel_rfl, by kernel_rfl⟩ fun l obs v h ho => ?_
  obtain ⟨w, hh, c, p, y, rfl, rfl, rfl⟩ := sMI_inv h
  clear h ho
  refine ⟨Nat.le_of_ble_eq_true rfl, ?_⟩
  by_cases hr : isRow w hh c p.length y = true
  · rw [if_pos hr]
    simp only [isRow, Bool.and_eq_true, decide_eq_true_eq] at hr
    have hc := check_inv hr.1.1
    obtain ⟨k1, k2, k3, k4⟩ := row_bd hc.1 hr.1.2 hr.2
    have hl := hc.2
    have q1 : rngI .i64 (w * c) := rng64 (by omega) (by omega)
    have q2 : rngI .i64 (y * (w * c)) := rng64 (by omega) (by omega)
    have q3 : rngI .i64 (y * (w * c) + w * c) := rng64 (by omega) (by omega)
    (repeat' (first | apply And.intro | intro h)); (all_goals (try exact Chk.mk (by kernel_rfl)))
    (all_goals (try first | assumption | exact rfl | exact True.intro | contradiction | (exfalso; simp only [decide_eq_true_eq, decide_eq_false_iff_not, Bool.not_eq_true', Bool.not_eq_false', Bool.and_eq_true, Bool.or_eq_true, Bool.and_eq_false_iff, Bool.or_eq_false_iff, Int.not_lt, Int.not_le, ne_eq, Classical.not_not] at *; omega)))
    · show 0 ≤ y * (w * c) + w * c; omega
    · show y * (w * c) + w * c ≤ (p.length : Int); omega
    · show y * (w * c) ≤ ((y * (w * c) + w * c).toNat : Int); omega
    · show (List.drop (y * (w * c)).toNat (List.take (y * (w * c) + w * c).toNat p)).length ≤ 140737488355328
      simp; omega
    · show List.drop (y * (w * c)).toNat (List.take (y * (w * c) + w * c).toNat p) = rowI w c y p
      unfold rowI
      rw [List.drop_take]
      congr 1; omega
  · rw [if_neg hr]
    simp only [isRow, Bool.and_eq_true, decide_eq_true_eq] at hr
    (repeat' (first | apply And.intro | intro h)); (all_goals (try exact Chk.mk (by kernel_rfl)))
    (all_goals (try first | assumption | exact rfl | exact True.intro | contradiction | (exfalso; simp only [decide_eq_true_eq, decide_eq_false_iff_not, Bool.not_eq_true', Bool.not_eq_false', Bool.and_eq_true, Bool.or_eq_true, Bool.and_eq_false_iff, Bool.or_eq_false_iff, Int.not_lt, Int.not_le, ne_eq, Classical.not_not] at *; omega)))
end Go.Proofs.Ytepjmnkleajibaa
