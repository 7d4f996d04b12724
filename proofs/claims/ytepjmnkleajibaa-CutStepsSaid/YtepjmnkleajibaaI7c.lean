
/- Clones and rows of owned images: memory of their own. No condition. -/
import Derived.Test.YtepjmnkleajibaaI7b
namespace Go.Proofs.Ytepjmnkleajibaa
open Go Go.RowKit
set_option linter.unusedVariables false
set_option linter.unusedSimpArgs false
set_option maxRecDepth 100000

theorem tdL (q : List Int) : List.take q.length (List.drop 0 q) = q := by simp
def cloneF : FSpec := fun l es => match l, es with
  | [.roi .u8 p], [] => some ([p.length ≤ 140737488355328], .sl 0 1 0 p.length, [some (.ints 5 .u8 p)])
  | [.sl 0 1 o n], [.ints 5 .u8 p] => some ([o + n ≤ p.length, n ≤ 140737488355328], .sl 1 1 0 n, [some (.ints 5 .u8 p), some (.ints 5 .u8 ((p.drop o).take n))])
  | _, _ => none
theorem clone_g : GSOK Try.prog 78 (fG cloneF) := by
  refine fok (S := []) (G := noG) pok_nil noG_ok ⟨Try.func78, by kernel_rfl, by kernel_rfl, by kernel_rfl⟩ fun l es obs v es' h ho => ?_
  unfold cloneF at h
  split at h
  · rename_i p
    simp only [Option.some.injEq, Prod.mk.injEq] at h
    obtain ⟨rfl, rfl, rfl⟩ := h
    have hl : p.length ≤ 140737488355328 := ho _ (by simp)
    clear ho
    refine ⟨Nat.le_of_ble_eq_true rfl, ?_⟩
    refine fun b hb => ⟨fun h1 => ?_, fun h1 => ?_⟩
    · rw [hb h1]
      refine ⟨[none], ?_⟩
      (repeat' (first | apply And.intro | intro h)); (all_goals (try exact Chk.mk (by kernel_rfl)))
      (all_goals (try first | assumption | exact rfl | exact True.intro | contradiction | (exfalso; simp only [decide_eq_true_eq, decide_eq_false_iff_not, Bool.not_eq_true', Bool.not_eq_false', Bool.and_eq_true, Bool.or_eq_true, Bool.and_eq_false_iff, Bool.or_eq_false_iff, Int.not_lt, Int.not_le, ne_eq, Classical.not_not] at *; omega)))
    · (repeat' (first | apply And.intro | intro h)); (all_goals (try exact Chk.mk (by kernel_rfl)))
      (all_goals (try first | assumption | exact rfl | exact True.intro | contradiction | (exfalso; simp only [decide_eq_true_eq, decide_eq_false_iff_not, Bool.not_eq_true', Bool.not_eq_false', Bool.and_eq_true, Bool.or_eq_true, Bool.and_eq_false_iff, Bool.or_eq_false_iff, Int.not_lt, Int.not_le, ne_eq, Classical.not_not] at *; omega)))
      · show (((0 : Nat) : Int) + (p.length : Int)) * ((1 : Nat) : Int) ≤ 140737488355328; omega
      · show 0 + p.length ≤ 140737488355328; omega
      · refine ⟨[some 1], ?_⟩
        (repeat' (first | apply And.intro | intro h)); (all_goals (try exact Chk.mk (by kernel_rfl)))
        (all_goals (try first | assumption | exact rfl | exact True.intro | contradiction | (exfalso; simp only [decide_eq_true_eq, decide_eq_false_iff_not, Bool.not_eq_true', Bool.not_eq_false', Bool.and_eq_true, Bool.or_eq_true, Bool.and_eq_false_iff, Bool.or_eq_false_iff, Int.not_lt, Int.not_le, ne_eq, Classical.not_not] at *; omega)))
        · show 0 + p.length = p.length; omega
  · rename_i o n p
    simp only [Option.some.injEq, Prod.mk.injEq] at h
    obtain ⟨rfl, rfl, rfl⟩ := h
    have hl : o + n ≤ p.length := ho _ (by simp)
    have hl2 : n ≤ 140737488355328 := ho _ (by simp)
    clear ho
    refine ⟨Nat.le_of_ble_eq_true rfl, ?_⟩
    refine fun b hb => ⟨fun h1 => ?_, fun h1 => ?_⟩
    · have hn := hb h1
      subst hn
      refine ⟨[some 0, none], ?_⟩
      (repeat' (first | apply And.intro | intro h)); (all_goals (try exact Chk.mk (by kernel_rfl)))
      (all_goals (try first | assumption | exact rfl | exact True.intro | contradiction | (exfalso; simp only [decide_eq_true_eq, decide_eq_false_iff_not, Bool.not_eq_true', Bool.not_eq_false', Bool.and_eq_true, Bool.or_eq_true, Bool.and_eq_false_iff, Bool.or_eq_false_iff, Int.not_lt, Int.not_le, ne_eq, Classical.not_not] at *; omega)))
    · have e : (List.take n (List.drop o p)).length = n := by simp; omega
      (repeat' (first | apply And.intro | intro h)); (all_goals (try exact Chk.mk (by kernel_rfl)))
      (all_goals (try first | assumption | exact rfl | exact True.intro | contradiction | (exfalso; simp only [decide_eq_true_eq, decide_eq_false_iff_not, Bool.not_eq_true', Bool.not_eq_false', Bool.and_eq_true, Bool.or_eq_true, Bool.and_eq_false_iff, Bool.or_eq_false_iff, Int.not_lt, Int.not_le, ne_eq, Classical.not_not] at *; omega)))
      · show (((0 : Nat) : Int) + ((List.take n (List.drop o p)).length : Int)) * ((1 : Nat) : Int) ≤ 140737488355328; omega
      · show 0 + (List.take n (List.drop o p)).length ≤ 140737488355328; omega
      · refine ⟨[some 0, some 2], ?_⟩
        (repeat' (first | apply And.intro | intro h)); (all_goals (try exact Chk.mk (by kernel_rfl)))
        (all_goals (try first | assumption | exact rfl | exact True.intro | contradiction | (exfalso; simp only [decide_eq_true_eq, decide_eq_false_iff_not, Bool.not_eq_true', Bool.not_eq_false', Bool.and_eq_true, Bool.or_eq_true, Bool.and_eq_false_iff, Bool.or_eq_false_iff, Int.not_lt, Int.not_le, ne_eq, Classical.not_not] at *; omega)))
        · show 0 + (List.take n (List.drop o p)).length = n; omega
  · cases h
def imRow (w h c y : Int) (p : List Int) : List Int := if isRow w h c p.length y = true then rowI w c y p else []
def rowF : FSpec := fun l es => match l, es with
  | [.agg [.int .i64 w, .int .i64 h, .int .i64 c, .sl 0 1 0 n], .int .i64 y], [.ints 5 .u8 p] => some ([n = p.length], .sl 1 1 0 (imRow w h c y p).length, [some (.ints 5 .u8 p), some (.ints 5 .u8 (imRow w h c y p))])
  | _, _ => none
theorem row_g : GSOK Try.prog 94 (fG rowF) := by
  refine fok (S := [(92, checkS)]) (G := glook [(78, fG cloneF)]) (pok_cons check_s pok_nil) (gl_cons clone_g gl_nil) ⟨Try.func94, by kernel_rfl, by kernel_rfl, by kernel_rfl⟩ fun l es obs v es' h ho => ?_
  unfold rowF at h
  split at h
  · rename_i w hh c n y p
    simp only [Option.some.injEq, Prod.mk.injEq] at h
    obtain ⟨rfl, rfl, rfl⟩ := h
    have hn : n = p.length := ho _ (by simp)
    subst hn
    clear ho
    refine ⟨Nat.le_of_ble_eq_true rfl, ?_⟩
    by_cases hr : isRow w hh c p.length y = true
    · have e : imRow w hh c y p = rowI w c y p := if_pos hr
      rw [e]
      simp only [isRow, Bool.and_eq_true, decide_eq_true_eq] at hr
      have hc := check_inv hr.1.1
      obtain ⟨k1, k2, k3, k4⟩ := row_bd hc.1 hr.1.2 hr.2
      have hl := hc.2
      have q1 : rngI .i64 (w * c) := rng64 (by omega) (by omega)
      have q2 : rngI .i64 (y * (w * c)) := rng64 (by omega) (by omega)
      have q3 : rngI .i64 (y * (w * c) + w * c) := rng64 (by omega) (by omega)
      (repeat' (first | apply And.intro | intro h)); (all_goals (try exact Chk.mk (by kernel_rfl)))
      all_goals (try simp only [tdL] at *)
      (all_goals (try first | assumption | exact rfl | exact True.intro | contradiction | (exfalso; simp only [decide_eq_true_eq, decide_eq_false_iff_not, Bool.not_eq_true', Bool.not_eq_false', Bool.and_eq_true, Bool.or_eq_true, Bool.and_eq_false_iff, Bool.or_eq_false_iff, Int.not_lt, Int.not_le, ne_eq, Classical.not_not] at *; omega)))
      · exact Nat.le_of_eq (Nat.zero_add _)
      · show 0 ≤ y * (w * c) + w * c; omega
      · show y * (w * c) + w * c ≤ (p.length : Int); omega
      · show y * (w * c) ≤ ((y * (w * c) + w * c).toNat : Int); omega
      · refine ⟨[0], ⟨by kernel_rfl⟩, ?_, ?_, ?_⟩
        · show 0 + (y * (w * c)).toNat + ((y * (w * c) + w * c).toNat - (y * (w * c)).toNat) ≤ p.length; omega
        · show (y * (w * c) + w * c).toNat - (y * (w * c)).toNat ≤ 140737488355328; omega
        have e1 : (y * (w * c) + w * c).toNat - (y * (w * c)).toNat = (w * c).toNat := by omega
        have e2 : (rowI w c y p).length = (w * c).toNat := by simp [rowI]; omega
        refine ⟨[some 0, some 2], ⟨by kernel_rfl⟩, ⟨rfl, ?_⟩, rfl, ?_, True.intro⟩
        · show (y * (w * c) + w * c).toNat - (y * (w * c)).toNat = (rowI w c y p).length; omega
        · show List.take ((y * (w * c) + w * c).toNat - (y * (w * c)).toNat) (List.drop (0 + (y * (w * c)).toNat) p) = rowI w c y p
          rw [e1, Nat.zero_add]; rfl
    · have e : imRow w hh c y p = [] := if_neg hr
      rw [e]
      simp only [isRow, Bool.and_eq_true, decide_eq_true_eq] at hr
      (repeat' (first | apply And.intro | intro h)); (all_goals (try exact Chk.mk (by kernel_rfl)))
      all_goals (try simp only [tdL] at *)
      (all_goals (try first | assumption | exact rfl | exact True.intro | contradiction | (exfalso; simp only [decide_eq_true_eq, decide_eq_false_iff_not, Bool.not_eq_true', Bool.not_eq_false', Bool.and_eq_true, Bool.or_eq_true, Bool.and_eq_false_iff, Bool.or_eq_false_iff, Int.not_lt, Int.not_le, ne_eq, Classical.not_not] at *; omega)))
      · show 0 + p.length ≤ p.length; omega
      all_goals (refine ⟨[some 0, none], ?_⟩)
      all_goals (refine ⟨⟨by kernel_rfl⟩, rfl, ?_⟩)
      all_goals (exact ⟨rfl, rfl, True.intro⟩)
  · cases h
theorem imRow_neg {w h c y : Int} {p : List Int} (h1 : rplI w h c p.length 0 y 0 < 0) : imRow w h c y p = [] := by
  unfold imRow
  rw [if_neg]
  intro hr
  simp only [isRow, Bool.and_eq_true, decide_eq_true_eq] at hr
  have hf := fits_inv (check_inv hr.1.1).1
  have hin : inI w h c 0 y 0 = true := in_of (by omega)
  have e : rplI w h c p.length 0 y 0 = plI w c 0 y 0 := if_pos ⟨hr.1.1, hin⟩
  have := pl_bd (check_inv hr.1.1).1 hin
  omega
theorem imRow_pos {w h c y : Int} {p : List Int} (h1 : ¬ rplI w h c p.length 0 y 0 < 0) : (imRow w h c y p).length = (w * c).toNat ∧ 0 ≤ w * c ∧ w * c ≤ 16777216 ∧ rplI w h c p.length 0 y 0 + w * c ≤ (p.length : Int) ∧
    ∀ j : Nat, j < (w * c).toNat → (imRow w h c y p).getD j 0 = p.getD ((rplI w h c p.length 0 y 0).toNat + j) 0 := by
  by_cases hc : imCheck w h c p.length = 0 ∧ inI w h c 0 y 0 = true
  · have e : rplI w h c p.length 0 y 0 = plI w c 0 y 0 := if_pos hc
    have hi := in_inv hc.2
    have hr : isRow w h c p.length y = true := by
      simp only [isRow, Bool.and_eq_true, decide_eq_true_eq]; exact ⟨⟨hc.1, by omega⟩, by omega⟩
    have e2 : imRow w h c y p = rowI w c y p := if_pos hr
    have hck := check_inv hc.1
    obtain ⟨k1, k2, k3, k4⟩ := row_bd hck.1 (y := y) (by omega) (by omega)
    have e3 : plI w c 0 y 0 = y * (w * c) := by unfold plI; rw [Int.add_zero, Int.add_zero, Int.mul_assoc]
    have hl := hck.2
    rw [e, e2, e3]
    refine ⟨by simp [rowI]; omega, k1, by omega, by omega, fun j hj => ?_⟩
    simp [rowI, List.getD, List.getElem?_take_of_lt hj]
  · exact absurd (show rplI w h c p.length 0 y 0 < 0 by unfold rplI; rw [if_neg hc]; decide) h1
end Go.Proofs.Ytepjmnkleajibaa
