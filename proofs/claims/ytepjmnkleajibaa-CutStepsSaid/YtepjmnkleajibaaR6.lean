
/- What the functions of package rect and of its document answer. No condition. -/
import Derived.Test.YtepjmnkleajibaaA
import Derived.Test.YtepjmnkleajibaaR4
namespace Go.Proofs.Ytepjmnkleajibaa
open Go Go.RowKit
set_option linter.unusedVariables false
set_option linter.unusedSimpArgs false
set_option maxRecDepth 100000

abbrev R4.av (r : R4) : AV := .agg [.int .i64 r.x0, .int .i64 r.y0, .int .i64 r.x1, .int .i64 r.y1]
def sI (f : Int → AV) : PSpec := fun l => match l with | [.int .i64 x] => some ([], f x) | _ => none
def sR (f : R4 → AV) : PSpec := fun l => match l with | [.agg [.int .i64 a, .int .i64 b, .int .i64 c, .int .i64 d]] => some ([], f ⟨a, b, c, d⟩) | _ => none
def sRI (f : R4 → Int → AV) : PSpec := fun l => match l with | [.agg [.int .i64 a, .int .i64 b, .int .i64 c, .int .i64 d], .int .i64 x] => some ([], f ⟨a, b, c, d⟩ x) | _ => none
def sRII (f : R4 → Int → Int → AV) : PSpec := fun l => match l with | [.agg [.int .i64 a, .int .i64 b, .int .i64 c, .int .i64 d], .int .i64 x, .int .i64 y] => some ([], f ⟨a, b, c, d⟩ x y) | _ => none
def sRR (f : R4 → R4 → AV) : PSpec := fun l => match l with
  | [.agg [.int .i64 a, .int .i64 b, .int .i64 c, .int .i64 d], .agg [.int .i64 p, .int .i64 q, .int .i64 r, .int .i64 s]] => some ([], f ⟨a, b, c, d⟩ ⟨p, q, r, s⟩)
  | _ => none
theorem sI_inv {f : Int → AV} {l : List AV} {obs : List Prop} {v : AV} (h : sI f l = some (obs, v)) : ∃ x, l = [.int .i64 x] ∧ v = f x := by
  unfold sI at h; split at h
  · simp at h; exact ⟨_, rfl, h.2.symm⟩
  · cases h
theorem sR_inv {f : R4 → AV} {l : List AV} {obs : List Prop} {v : AV} (h : sR f l = some (obs, v)) : ∃ r : R4, l = [r.av] ∧ v = f r := by
  unfold sR at h; split at h
  · simp at h; exact ⟨⟨_, _, _, _⟩, rfl, h.2.symm⟩
  · cases h
theorem sRI_inv {f : R4 → Int → AV} {l : List AV} {obs : List Prop} {v : AV} (h : sRI f l = some (obs, v)) : ∃ (r : R4) (x : Int), l = [r.av, .int .i64 x] ∧ v = f r x := by
  unfold sRI at h; split at h
  · simp at h; exact ⟨⟨_, _, _, _⟩, _, rfl, h.2.symm⟩
  · cases h
theorem sRII_inv {f : R4 → Int → Int → AV} {l : List AV} {obs : List Prop} {v : AV} (h : sRII f l = some (obs, v)) : ∃ (r : R4) (x y : Int), l = [r.av, .int .i64 x, .int .i64 y] ∧ v = f r x y := by
  unfold sRII at h; split at h
  · simp at h; exact ⟨⟨_, _, _, _⟩, _, _, rfl, h.2.symm⟩
  · cases h
theorem sRR_inv {f : R4 → R4 → AV} {l : List AV} {obs : List Prop} {v : AV} (h : sRR f l = some (obs, v)) : ∃ r s : R4, l = [r.av, s.av] ∧ v = f r s := by
  unfold sRR at h; split at h
  · simp at h; exact ⟨⟨_, _, _, _⟩, ⟨_, _, _, _⟩, rfl, h.2.symm⟩
  · cases h


section
variable {r0 r1 r2 r3 k : Int}
theorem grow_rng1 (h : R4.empty ⟨r0, r1, r2, r3⟩ = false) (hk : inB k = true) : rngI .i64 (r0 - k) := by
  have hb := R4.bounds h; simp only [inB, Bool.and_eq_true, decide_eq_true_eq] at hk hb; exact rng64 (by omega) (by omega)
theorem grow_rng2 (h : R4.empty ⟨r0, r1, r2, r3⟩ = false) (hk : inB k = true) : rngI .i64 (r1 - k) := by
  have hb := R4.bounds h; simp only [inB, Bool.and_eq_true, decide_eq_true_eq] at hk hb; exact rng64 (by omega) (by omega)
theorem grow_rng3 (h : R4.empty ⟨r0, r1, r2, r3⟩ = false) (hk : inB k = true) : rngI .i64 (r2 + k) := by
  have hb := R4.bounds h; simp only [inB, Bool.and_eq_true, decide_eq_true_eq] at hk hb; exact rng64 (by omega) (by omega)
theorem grow_rng4 (h : R4.empty ⟨r0, r1, r2, r3⟩ = false) (hk : inB k = true) : rngI .i64 (r3 + k) := by
  have hb := R4.bounds h; simp only [inB, Bool.and_eq_true, decide_eq_true_eq] at hk hb; exact rng64 (by omega) (by omega)
theorem area_rng1 (h : R4.empty ⟨r0, r1, r2, r3⟩ = false) : rngI .i64 (r2 - r0) := by
  have hb := R4.bounds h; simp only at hb; exact rng64 (by omega) (by omega)
theorem area_rng2 (h : R4.empty ⟨r0, r1, r2, r3⟩ = false) : rngI .i64 (r3 - r1) := by
  have hb := R4.bounds h; simp only at hb; exact rng64 (by omega) (by omega)
theorem tdiv_area (h : R4.empty ⟨r0, r1, r2, r3⟩ = false) : Int.tdiv 9223372036854775807 (r3 - r1) = 9223372036854775807 / (r3 - r1) := Int.tdiv_eq_ediv_of_nonneg (by omega)
theorem area_rng3 (h : R4.empty ⟨r0, r1, r2, r3⟩ = false) : rngI .i64 (Int.tdiv 9223372036854775807 (r3 - r1)) := by
  have hb := R4.bounds h; simp only at hb
  rw [tdiv_area h]
  have h1 : 0 ≤ 9223372036854775807 / (r3 - r1) := Int.ediv_nonneg (by omega) (by omega)
  have h2 : 9223372036854775807 / (r3 - r1) ≤ 9223372036854775807 := Int.ediv_le_self _ (by omega)
  exact rng64 (by omega) (by omega)
theorem area_ne (h : R4.empty ⟨r0, r1, r2, r3⟩ = false) (h0 : r3 - r1 = 0) : False := by
  have hb := R4.bounds h; simp only at hb; omega
theorem area_rng4 (h : R4.empty ⟨r0, r1, r2, r3⟩ = false) (hd : decide (Int.tdiv 9223372036854775807 (r3 - r1) < r2 - r0) = false) : rngI .i64 ((r2 - r0) * (r3 - r1)) := by
  have hb := R4.bounds h; simp only at hb
  rw [tdiv_area h] at hd
  have := area_fit (w := r2 - r0) (h := r3 - r1) (by omega) (by omega) (by simpa using hd)
  exact rng64 (by omega) (by omega)
theorem area_val0 (h : R4.empty ⟨r0, r1, r2, r3⟩ = true) : R4.area ⟨r0, r1, r2, r3⟩ = 0 := by simp [R4.area, h]
theorem area_val1 (h : R4.empty ⟨r0, r1, r2, r3⟩ = false) (hd : decide (Int.tdiv 9223372036854775807 (r3 - r1) < r2 - r0) = true) : R4.area ⟨r0, r1, r2, r3⟩ = 9223372036854775807 := by
  rw [tdiv_area h] at hd; simp only [decide_eq_true_eq] at hd; simp [R4.area, h, hd]
theorem area_val2 (h : R4.empty ⟨r0, r1, r2, r3⟩ = false) (hd : decide (Int.tdiv 9223372036854775807 (r3 - r1) < r2 - r0) = false) : R4.area ⟨r0, r1, r2, r3⟩ = (r2 - r0) * (r3 - r1) := by
  rw [tdiv_area h] at hd; simp only [decide_eq_false_iff_not] at hd; simp [R4.area, h, hd]
end

theorem in_s : SOK Try.prog 191 (sI fun x => .bool (inB x)) := by
  refine sok_of (C := mkC 0 [] noG) (mkC_ok pok_nil noG_ok) rfl mixed ⟨Try.func191, by kernel_rfl, by kernel_rfl, by kernel_rfl⟩ fun l obs v h _ => ?_
  obtain ⟨x, rfl, rfl⟩ := sI_inv h
  skip
  refine ⟨Nat.le_of_ble_eq_true rfl, ?_⟩
  (repeat' (first | apply And.intro | intro h)); (all_goals (try exact Chk.mk (by kernel_rfl)))
  all_goals (show _ = _; (try simp_all [inB]); (try omega))

theorem right_s : SOK Try.prog 164 (sR fun r => .bool r.right) := by
  refine sok_of (C := mkC 0 [(191, sI fun x => .bool (inB x))] noG) (mkC_ok (pok_cons in_s pok_nil) noG_ok) rfl mixed ⟨Try.func164, by kernel_rfl, by kernel_rfl, by kernel_rfl⟩ fun l obs v h _ => ?_
  obtain ⟨r, rfl, rfl⟩ := sR_inv h
  obtain ⟨r0, r1, r2, r3⟩ := r
  refine ⟨Nat.le_of_ble_eq_true rfl, ?_⟩
  (repeat' (first | apply And.intro | intro h)); (all_goals (try exact Chk.mk (by kernel_rfl)))
  all_goals (show _ = _; (try simp_all [R4.right]); (try omega))

theorem empty_s : SOK Try.prog 121 (sR fun r => .bool r.empty) := by
  refine sok_of (C := mkC 0 [(164, sR fun r => .bool r.right)] noG) (mkC_ok (pok_cons right_s pok_nil) noG_ok) rfl mixed ⟨Try.func121, by kernel_rfl, by kernel_rfl, by kernel_rfl⟩ fun l obs v h _ => ?_
  obtain ⟨r, rfl, rfl⟩ := sR_inv h
  obtain ⟨r0, r1, r2, r3⟩ := r
  refine ⟨Nat.le_of_ble_eq_true rfl, ?_⟩
  (repeat' (first | apply And.intro | intro h)); (all_goals (try exact Chk.mk (by kernel_rfl)))
  all_goals (show _ = _; (try simp_all [R4.empty]); (try omega))

theorem norm_s : SOK Try.prog 188 (sR fun r => r.norm.av) := by
  refine sok_of (C := mkC 0 [(121, sR fun r => .bool r.empty)] noG) (mkC_ok (pok_cons empty_s pok_nil) noG_ok) rfl mixed ⟨Try.func188, by kernel_rfl, by kernel_rfl, by kernel_rfl⟩ fun l obs v h _ => ?_
  obtain ⟨r, rfl, rfl⟩ := sR_inv h
  obtain ⟨r0, r1, r2, r3⟩ := r
  refine ⟨Nat.le_of_ble_eq_true rfl, ?_⟩
  (repeat' (first | apply And.intro | intro h)); (all_goals (try exact Chk.mk (by kernel_rfl)))
  all_goals (show _ = _; (try simp_all [R4.norm, R4.zero]); (try omega))

theorem both_s : SOK Try.prog 154 (sRR fun a b => (a.both b).av) := by
  refine sok_of (C := mkC 0 [(121, sR fun r => .bool r.empty), (188, sR fun r => r.norm.av)] noG) (mkC_ok (pok_cons empty_s (pok_cons norm_s pok_nil)) noG_ok) rfl mixed ⟨Try.func154, by kernel_rfl, by kernel_rfl, by kernel_rfl⟩ fun l obs v h _ => ?_
  obtain ⟨a, b, rfl, rfl⟩ := sRR_inv h
  obtain ⟨a0, a1, a2, a3⟩ := a; obtain ⟨b0, b1, b2, b3⟩ := b
  refine ⟨Nat.le_of_ble_eq_true rfl, ?_⟩
  (repeat' (first | apply And.intro | intro h)); (all_goals (try exact Chk.mk (by kernel_rfl)))
  all_goals (show _ = _; (try simp_all [R4.both, R4.zero]); (try omega))

theorem inside_s : SOK Try.prog 158 (sRR fun a b => .bool (a.inside b)) := by
  refine sok_of (C := mkC 0 [(121, sR fun r => .bool r.empty), (154, sRR fun a b => (a.both b).av)] noG) (mkC_ok (pok_cons empty_s (pok_cons both_s pok_nil)) noG_ok) rfl mixed ⟨Try.func158, by kernel_rfl, by kernel_rfl, by kernel_rfl⟩ fun l obs v h _ => ?_
  obtain ⟨a, b, rfl, rfl⟩ := sRR_inv h
  obtain ⟨a0, a1, a2, a3⟩ := a; obtain ⟨b0, b1, b2, b3⟩ := b
  refine ⟨Nat.le_of_ble_eq_true rfl, ?_⟩
  (repeat' (first | apply And.intro | intro h)); (all_goals (try exact Chk.mk (by kernel_rfl)))
  all_goals (show _ = _; (try simp_all [R4.inside, R4.beq, beq8, Bool.and_assoc]); (try (rw [Bool.eq_iff_iff]; simp)))

theorem rin_s : SOK Try.prog 200 (sI fun x => .bool (inB x)) := by
  refine sok_of (C := mkC 0 [] noG) (mkC_ok pok_nil noG_ok) rfl mixed ⟨Try.func200, by kernel_rfl, by kernel_rfl, by kernel_rfl⟩ fun l obs v h _ => ?_
  obtain ⟨x, rfl, rfl⟩ := sI_inv h
  skip
  refine ⟨Nat.le_of_ble_eq_true rfl, ?_⟩
  (repeat' (first | apply And.intro | intro h)); (all_goals (try exact Chk.mk (by kernel_rfl)))
  all_goals (show _ = _; (try simp_all [inB]); (try omega))

theorem rright_s : SOK Try.prog 192 (sR fun r => .bool r.right) := by
  refine sok_of (C := mkC 0 [(200, sI fun x => .bool (inB x))] noG) (mkC_ok (pok_cons rin_s pok_nil) noG_ok) rfl mixed ⟨Try.func192, by kernel_rfl, by kernel_rfl, by kernel_rfl⟩ fun l obs v h _ => ?_
  obtain ⟨r, rfl, rfl⟩ := sR_inv h
  obtain ⟨r0, r1, r2, r3⟩ := r
  refine ⟨Nat.le_of_ble_eq_true rfl, ?_⟩
  (repeat' (first | apply And.intro | intro h)); (all_goals (try exact Chk.mk (by kernel_rfl)))
  all_goals (show _ = _; (try simp_all [R4.right]); (try omega))

theorem rnorm_s : SOK Try.prog 165 (sR fun r => r.norm.av) := by
  refine sok_of (C := mkC 0 [(192, sR fun r => .bool r.right)] noG) (mkC_ok (pok_cons rright_s pok_nil) noG_ok) rfl mixed ⟨Try.func165, by kernel_rfl, by kernel_rfl, by kernel_rfl⟩ fun l obs v h _ => ?_
  obtain ⟨r, rfl, rfl⟩ := sR_inv h
  obtain ⟨r0, r1, r2, r3⟩ := r
  refine ⟨Nat.le_of_ble_eq_true rfl, ?_⟩
  (repeat' (first | apply And.intro | intro h)); (all_goals (try exact Chk.mk (by kernel_rfl)))
  all_goals (show _ = _; (try simp_all [R4.norm, R4.empty, R4.zero]); (try (split <;> (try simp_all) <;> (try omega))))

end Go.Proofs.Ytepjmnkleajibaa
