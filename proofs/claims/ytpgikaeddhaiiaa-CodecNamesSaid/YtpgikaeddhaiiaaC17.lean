
/- Kinds and names of the layer codec, and the document's. No condition. -/
import Derived.Test.YtpgikaeddhaiiaaG9d
namespace Go.Proofs.Ytpgikaeddhaiiaa
open Go Go.RowKit
set_option linter.unusedVariables false
set_option linter.unusedSimpArgs false
set_option maxRecDepth 100000

def nmC (k : Int) : List UInt8 := if k = 1 then [112, 103, 109] else if k = 2 then [112, 112, 109] else if k = 3 then [98, 109, 112, 50, 52] else if k = 4 then [98, 109, 112, 51, 50] else []
def chC (k : Int) : Int := if k = 1 then 1 else if k = 2 then 3 else if k = 3 then 3 else if k = 4 then 4 else 0
def idxC (s : List UInt8) : Int := if s = nmC 1 then 1 else if s = nmC 2 then 2 else if s = nmC 3 then 3 else if s = nmC 4 then 4 else -1
def formG (j : Nat) : AV := .agg [.str (nmC j), .int .i64 (chC j)]
theorem kind_cases (k : Int) : (k < 1 ∨ 4 < k) ∨ k = 1 ∨ k = 2 ∨ k = 3 ∨ k = 4 := by omega
theorem nmC_out {k : Int} (h : k < 1 ∨ 4 < k) : nmC k = [] ∧ chC k = 0 := by
  unfold nmC chC
  rw [if_neg (by omega), if_neg (by omega), if_neg (by omega), if_neg (by omega), if_neg (by omega), if_neg (by omega), if_neg (by omega), if_neg (by omega)]
  exact ⟨rfl, rfl⟩
theorem idxC_cases (s : List UInt8) : idxC s = -1 ∨ idxC s = 1 ∨ idxC s = 2 ∨ idxC s = 3 ∨ idxC s = 4 := by
  unfold idxC; (repeat' split) <;> omega
theorem idxC_iff {s : List UInt8} {k : Int} (h1 : 1 ≤ k) (h4 : k ≤ 4) : s = nmC k ↔ idxC s = k := by
  have hk : k = 1 ∨ k = 2 ∨ k = 3 ∨ k = 4 := by omega
  constructor
  · rintro rfl
    rcases hk with rfl | rfl | rfl | rfl <;> decide
  · intro h
    unfold idxC at h
    split at h
    · rename_i hs; subst h; exact hs
    · split at h
      · rename_i hs; subst h; exact hs
      · split at h
        · rename_i hs; subst h; exact hs
        · split at h
          · rename_i hs; subst h; exact hs
          · omega

def sS (f : List UInt8 → AV) : PSpec := fun l => match l with | [.str s] => some ([], f s) | _ => none
theorem sS_inv {f : List UInt8 → AV} {l : List AV} {obs : List Prop} {v : AV} (h : sS f l = some (obs, v)) : ∃ s, l = [.str s] ∧ v = f s := by
  unfold sS at h
  split at h
  · simp only [Option.some.injEq, Prod.mk.injEq] at h; exact ⟨_, rfl, h.2.symm⟩
  · cases h
def sSS (f : List UInt8 → List UInt8 → AV) : PSpec := fun l => match l with | [.str s, .str t] => some ([], f s t) | _ => none
theorem sSS_inv {f : List UInt8 → List UInt8 → AV} {l : List AV} {obs : List Prop} {v : AV} (h : sSS f l = some (obs, v)) : ∃ s t, l = [.str s, .str t] ∧ v = f s t := by
  unfold sSS at h
  split at h
  · simp only [Option.some.injEq, Prod.mk.injEq] at h; exact ⟨_, _, rfl, h.2.symm⟩
  · cases h
abbrev nameS : PSpec := sI fun k => .str (nmC k)
abbrev chanS : PSpec := sI fun k => .int .i64 (chC k)
theorem rname_s : SOK Try.prog 16 nameS := by
  refine sok_of (C := mkC 0 [] noG) (mkC_ok pok_nil noG_ok) rfl mixed ⟨Try.func16, by kernel_rfl, by kernel_rfl, by kernel_rfl⟩ fun l obs v h _ => ?_
  obtain ⟨k, rfl, rfl⟩ := sI_inv h
  clear h
  refine ⟨Nat.le_of_ble_eq_true rfl, ?_⟩
  rcases kind_cases k with hk | rfl | rfl | rfl | rfl
  · rw [(nmC_out hk).1]
    (repeat' (first | apply And.intro | intro h)); (all_goals (try exact Chk.mk (by kernel_rfl)))
    (all_goals (try first | assumption | exact rfl | exact True.intro | contradiction | (exfalso; simp only [decide_eq_true_eq, decide_eq_false_iff_not, Bool.not_eq_true', Bool.not_eq_false', Bool.and_eq_true, Bool.or_eq_true, Bool.and_eq_false_iff, Bool.or_eq_false_iff, Int.not_lt, Int.not_le, ne_eq, Classical.not_not] at *; omega)))
  all_goals
    (repeat (first | (refine ⟨fun hh => absurd hh ?prx, fun _ => ?_⟩; (case prx => (simp [nmC]; done))) | (refine ⟨fun _ => ?_, fun hh => absurd hh ?prx⟩; (case prx => (simp [nmC]; done))) | (refine ⟨?prx, ?_⟩; (case prx => (first | exact Chk.mk (by kernel_rfl) | exact rfl | (first | decide | exact rng64 (by decide) (by decide)))))))
    exact rfl
theorem rchan_s : SOK Try.prog 18 chanS := by
  refine sok_of (C := mkC 0 [] noG) (mkC_ok pok_nil noG_ok) rfl mixed ⟨Try.func18, by kernel_rfl, by kernel_rfl, by kernel_rfl⟩ fun l obs v h _ => ?_
  obtain ⟨k, rfl, rfl⟩ := sI_inv h
  clear h
  refine ⟨Nat.le_of_ble_eq_true rfl, ?_⟩
  rcases kind_cases k with hk | rfl | rfl | rfl | rfl
  · rw [(nmC_out hk).2]
    (repeat' (first | apply And.intro | intro h)); (all_goals (try exact Chk.mk (by kernel_rfl)))
    (all_goals (try first | assumption | exact rfl | exact True.intro | contradiction | (exfalso; simp only [decide_eq_true_eq, decide_eq_false_iff_not, Bool.not_eq_true', Bool.not_eq_false', Bool.and_eq_true, Bool.or_eq_true, Bool.and_eq_false_iff, Bool.or_eq_false_iff, Int.not_lt, Int.not_le, ne_eq, Classical.not_not] at *; omega)))
  all_goals
    (repeat (first | (refine ⟨fun hh => absurd hh ?prx, fun _ => ?_⟩; (case prx => (simp [chC]; done))) | (refine ⟨fun _ => ?_, fun hh => absurd hh ?prx⟩; (case prx => (simp [chC]; done))) | (refine ⟨?prx, ?_⟩; (case prx => (first | exact Chk.mk (by kernel_rfl) | exact rfl | (first | decide | exact rng64 (by decide) (by decide)))))))
    exact rfl
abbrev formsS : PSpec := sN (.ro 2 5 formG)
theorem forms_s : SOK Try.prog 70 formsS := by
  refine sok_of (C := mkC 0 [] noG) (mkC_ok pok_nil noG_ok) rfl mixed ⟨Try.func70, by kernel_rfl, by kernel_rfl, by kernel_rfl⟩ fun l obs v h ho => ?_
  obtain ⟨rfl, rfl⟩ := sN_inv h
  refine ⟨Nat.le_of_ble_eq_true rfl, ?_⟩
  refine ⟨Nat.le_refl _, rfl, fun j hj => ?_⟩
  have : j = 0 ∨ j = 1 ∨ j = 2 ∨ j = 3 ∨ j = 4 := by have : j < 5 := hj; omega
  rcases this with rfl | rfl | rfl | rfl | rfl <;> rfl
abbrev ofS : PSpec := sI fun k => .agg [.str (nmC k), .int .i64 (chC k)]
theorem of_s : SOK Try.prog 72 ofS := by
  refine sok_of (C := mkC 0 [(70, formsS)] noG) (mkC_ok (pok_cons forms_s pok_nil) noG_ok) rfl mixed ⟨Try.func72, by kernel_rfl, by kernel_rfl, by kernel_rfl⟩ fun l obs v h _ => ?_
  obtain ⟨k, rfl, rfl⟩ := sI_inv h
  clear h
  refine ⟨Nat.le_of_ble_eq_true rfl, ?_⟩
  rcases kind_cases k with hk | rfl | rfl | rfl | rfl
  · rw [(nmC_out hk).1, (nmC_out hk).2]
    (repeat' (first | apply And.intro | intro h)); (all_goals (try exact Chk.mk (by kernel_rfl)))
    (all_goals (try first | assumption | exact rfl | exact True.intro | contradiction | (exfalso; simp only [decide_eq_true_eq, decide_eq_false_iff_not, Bool.not_eq_true', Bool.not_eq_false', Bool.and_eq_true, Bool.or_eq_true, Bool.and_eq_false_iff, Bool.or_eq_false_iff, Int.not_lt, Int.not_le, ne_eq, Classical.not_not] at *; omega)))
  all_goals
    (repeat (first | (refine ⟨fun hh => absurd hh ?prx, fun _ => ?_⟩; (case prx => (simp [nmC]; done))) | (refine ⟨fun _ => ?_, fun hh => absurd hh ?prx⟩; (case prx => (simp [nmC]; done))) | (refine ⟨?prx, ?_⟩; (case prx => (first | exact Chk.mk (by kernel_rfl) | exact rfl | (first | decide | exact rng64 (by decide) (by decide)))))))
    exact rfl
theorem chan_s : SOK Try.prog 17 chanS := by
  refine sok_of (C := mkC 0 [(72, ofS)] noG) (mkC_ok (pok_cons of_s pok_nil) noG_ok) rfl mixed ⟨Try.func17, by kernel_rfl, by kernel_rfl, by kernel_rfl⟩ fun l obs v h _ => ?_
  obtain ⟨k, rfl, rfl⟩ := sI_inv h
  clear h
  refine ⟨Nat.le_of_ble_eq_true rfl, ?_⟩
  (repeat' (first | apply And.intro | intro h)); (all_goals (try exact Chk.mk (by kernel_rfl)))
  (all_goals (try first | assumption | exact rfl | exact True.intro | contradiction | (exfalso; simp only [decide_eq_true_eq, decide_eq_false_iff_not, Bool.not_eq_true', Bool.not_eq_false', Bool.and_eq_true, Bool.or_eq_true, Bool.and_eq_false_iff, Bool.or_eq_false_iff, Int.not_lt, Int.not_le, ne_eq, Classical.not_not] at *; omega)))
theorem name_s : SOK Try.prog 19 nameS := by
  refine sok_of (C := mkC 0 [(72, ofS)] noG) (mkC_ok (pok_cons of_s pok_nil) noG_ok) rfl mixed ⟨Try.func19, by kernel_rfl, by kernel_rfl, by kernel_rfl⟩ fun l obs v h _ => ?_
  obtain ⟨k, rfl, rfl⟩ := sI_inv h
  clear h
  refine ⟨Nat.le_of_ble_eq_true rfl, ?_⟩
  (repeat' (first | apply And.intro | intro h)); (all_goals (try exact Chk.mk (by kernel_rfl)))
  (all_goals (try first | assumption | exact rfl | exact True.intro | contradiction | (exfalso; simp only [decide_eq_true_eq, decide_eq_false_iff_not, Bool.not_eq_true', Bool.not_eq_false', Bool.and_eq_true, Bool.or_eq_true, Bool.and_eq_false_iff, Bool.or_eq_false_iff, Int.not_lt, Int.not_le, ne_eq, Classical.not_not] at *; omega)))
def isF : FSpec := fun l es => match l, es with
  | [.agg [.str a, .int .i64 k], .ptr 0 0], [.cells 9 [.str s]] => some ([], .bool (decide (0 < k) && decide (a = s)), [some (.cells 9 [.str s])])
  | _, _ => none
theorem is_g : GSOK Try.prog 71 (fG isF) := by
  refine fok (S := []) (G := noG) pok_nil noG_ok ⟨Try.func71, by kernel_rfl, by kernel_rfl, by kernel_rfl⟩ fun l es obs v es' h ho => ?_
  unfold isF at h
  split at h
  · rename_i a k s
    simp only [Option.some.injEq, Prod.mk.injEq] at h
    obtain ⟨rfl, rfl, rfl⟩ := h
    clear ho
    refine ⟨Nat.le_of_ble_eq_true rfl, ?_⟩
    refine ⟨fun h1 => ?_, fun h1 => ?_⟩
    · refine ⟨[some 0], ?_⟩
      rw [h1]
      (repeat' (first | apply And.intro | intro h)); (all_goals (try exact Chk.mk (by kernel_rfl)))
      (all_goals (try first | assumption | exact rfl | exact True.intro | contradiction | (exfalso; simp only [decide_eq_true_eq, decide_eq_false_iff_not, Bool.not_eq_true', Bool.not_eq_false', Bool.and_eq_true, Bool.or_eq_true, Bool.and_eq_false_iff, Bool.or_eq_false_iff, Int.not_lt, Int.not_le, ne_eq, Classical.not_not] at *; omega)))
      trace_state
    · refine ⟨[some 0], ?_⟩
      rw [h1]
      (repeat' (first | apply And.intro | intro h)); (all_goals (try exact Chk.mk (by kernel_rfl)))
      (all_goals (try first | assumption | exact rfl | exact True.intro | contradiction | (exfalso; simp only [decide_eq_true_eq, decide_eq_false_iff_not, Bool.not_eq_true', Bool.not_eq_false', Bool.and_eq_true, Bool.or_eq_true, Bool.and_eq_false_iff, Bool.or_eq_false_iff, Int.not_lt, Int.not_le, ne_eq, Classical.not_not] at *; omega)))
      trace_state
  · cases h
end Go.Proofs.Ytpgikaeddhaiiaa
