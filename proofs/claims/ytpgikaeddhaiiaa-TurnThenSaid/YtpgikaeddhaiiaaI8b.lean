
/- One image in another: what the document's Same, Made and Paste answer. No condition. -/
import Derived.Test.YtpgikaeddhaiiaaI8
namespace Go.Proofs.Ytpgikaeddhaiiaa
open Go Go.RowKit
set_option linter.unusedVariables false
set_option linter.unusedSimpArgs false
set_option maxRecDepth 100000

def sMM (f : Int → Int → Int → List Int → Int → Int → Int → List Int → AV) : PSpec := fun l => match l with
  | [.agg [.int .i64 w, .int .i64 h, .int .i64 c, .roi .u8 p], .agg [.int .i64 v, .int .i64 g, .int .i64 d, .roi .u8 q]] => some ([p.length ≤ 1152921504606846975], f w h c p v g d q) | _ => none
theorem sMM_inv {f : Int → Int → Int → List Int → Int → Int → Int → List Int → AV} {l : List AV} {obs : List Prop} {v : AV} (h : sMM f l = some (obs, v)) : ∃ w hh c p w' h' c' q, l = [imA w hh c p, imA w' h' c' q] ∧ obs = [p.length ≤ 1152921504606846975] ∧ v = f w hh c p w' h' c' q := by
  unfold sMM at h
  split at h
  · simp only [Option.some.injEq, Prod.mk.injEq] at h; exact ⟨_, _, _, _, _, _, _, _, rfl, h.1.symm, h.2.symm⟩
  · cases h
def sameM (w h c : Int) (p : List Int) (v g d : Int) (q : List Int) : Bool := decide (w = v ∧ h = g ∧ c = d ∧ p = q)
abbrev sameS : PSpec := sMM fun w h c p v g d q => .bool (sameM w h c p v g d q)
theorem list_getD {p q : List Int} (hl : p.length = q.length) (h : ∀ j, j < p.length → p.getD j 0 = q.getD j 0) : p = q := by
  refine List.ext_getElem hl fun j h1 h2 => ?_
  have := h j h1
  simpa [List.getD, h1, h2] using this
theorem rsame_s : SOK Try.prog 24 sameS := by
  refine sok_of (C := mkC 0 [] noG) (mkC_ok pok_nil noG_ok) rfl mixed ⟨Try.func24, by kernel_rfl, by kernel_rfl, by kernel_rfl⟩ fun l obs v h ho => ?_
  obtain ⟨w, hh, c, p, v, g, d, q, rfl, rfl, rfl⟩ := sMM_inv h
  have fit : p.length ≤ 1152921504606846975 := ho _ (by simp)
  clear h ho
  refine ⟨Nat.le_of_ble_eq_true rfl, ?_⟩
  by_cases hd : w = v ∧ hh = g ∧ c = d ∧ p.length = q.length
  · obtain ⟨rfl, rfl, rfl, hl⟩ := hd
    have hl2 : (p.length : Int) = q.length := by omega
    (repeat (first | (refine ⟨fun hh => absurd hh ?prx, fun _ => ?_⟩; (case prx => (simp [hl, hl2]; done))) | (refine ⟨fun _ => ?_, fun hh => absurd hh ?prx⟩; (case prx => (simp [hl, hl2]; done))) | (refine ⟨?prx, ?_⟩; (case prx => (first | exact Chk.mk (by kernel_rfl) | exact rfl | exact rfl)))))
    refine ⟨Nat, fun i => [(2, .ptr 0 0), (3, .ptr 1 0), (5, .int .i64 i)], fun i => ⟨2, [(0, some (.cells 32 [.int .i64 w, .int .i64 hh, .int .i64 c, .roi .u8 p])), (1, some (.cells 32 [.int .i64 w, .int .i64 hh, .int .i64 c, .roi .u8 q]))]⟩,
      fun i => i ≤ p.length ∧ ∀ j, j < i → p.getD j 0 = q.getD j 0, fun i => p.length - i, ⟨0, [some 0, some 1], ⟨Nat.zero_le _, fun j hj => by omega⟩, ?_⟩, fun i hi => ?_⟩
    · (repeat' (first | apply And.intro | intro h)); (all_goals (try exact Chk.mk (by kernel_rfl)))
      (all_goals (try first | exact True.intro | exact rfl | exact And.intro rfl rfl | exact And.intro rfl (fun _ _ => rfl)))
    refine ⟨fun hy => ?_, fun hy => ?_⟩
    · replace hy : (i : Int) < (p.length : Int) := of_decide_eq_true hy
      have hb := hi.2
      have b1 : 0 ≤ (i : Int) ∧ (i : Int) < (p.length : Int) := ⟨by omega, hy⟩
      have b2 : 0 ≤ (i : Int) ∧ (i : Int) < (q.length : Int) := ⟨by omega, by omega⟩
      have q1 : rngI .i64 ((i : Int) + 1) := rng64 (by omega) (by have := fit; omega)
      refine ⟨⟨by kernel_rfl⟩, b1, b2, fun h5 => ?_, fun h5 => ?_⟩
      · have h5 : ¬ p.getD i 0 = q.getD i 0 := of_decide_eq_true h5
        have e : sameM w hh c p w hh c q = false := by
          simp only [sameM, decide_eq_false_iff_not]
          rintro ⟨_, _, _, h4⟩
          exact h5 (by rw [h4])
        rw [e]
        (repeat' (first | apply And.intro | intro h)); (all_goals (try exact Chk.mk (by kernel_rfl)))
        (all_goals (try first | assumption | exact rfl | exact True.intro | contradiction | (exfalso; simp only [decide_eq_true_eq, decide_eq_false_iff_not, Bool.not_eq_true', Bool.not_eq_false', Bool.and_eq_true, Bool.or_eq_true, Bool.and_eq_false_iff, Bool.or_eq_false_iff, Int.not_lt, Int.not_le, ne_eq, Classical.not_not] at *; omega)))
      · have h5 : p.getD i 0 = q.getD i 0 := by simpa using h5
        refine ⟨q1, i + 1, [some 0, some 1], ⟨by omega, fun j hj => ?_⟩, (by show p.length - (i + 1) < p.length - i; omega), ?_⟩
        · by_cases hji : j = i
          · rw [hji]; exact h5
          · exact hb j (by omega)
        · (repeat' (first | apply And.intro | intro h)); (all_goals (try exact Chk.mk (by kernel_rfl)))
          (all_goals (try first | exact True.intro | exact rfl | exact And.intro rfl rfl | exact And.intro rfl (fun _ _ => rfl)))
    · replace hy : ¬ (i : Int) < (p.length : Int) := of_decide_eq_false hy
      have e : sameM w hh c p w hh c q = true := by
        have := list_getD hl (fun j hj => hi.2 j (by omega))
        simp [sameM, this]
      rw [e]
      (repeat' (first | apply And.intro | intro h)); (all_goals (try exact Chk.mk (by kernel_rfl)))
      (all_goals (try first | assumption | exact rfl | exact True.intro | contradiction | (exfalso; simp only [decide_eq_true_eq, decide_eq_false_iff_not, Bool.not_eq_true', Bool.not_eq_false', Bool.and_eq_true, Bool.or_eq_true, Bool.and_eq_false_iff, Bool.or_eq_false_iff, Int.not_lt, Int.not_le, ne_eq, Classical.not_not] at *; omega)))
  · have e : sameM w hh c p v g d q = false := by
      simp only [sameM, decide_eq_false_iff_not]
      rintro ⟨h1, h2, h3, h4⟩
      exact hd ⟨h1, h2, h3, by rw [h4]⟩
    rw [e]
    (repeat' (first | apply And.intro | intro h)); (all_goals (try exact Chk.mk (by kernel_rfl)))
    (all_goals (try first | assumption | exact rfl | exact True.intro | contradiction | (exfalso; simp only [decide_eq_true_eq, decide_eq_false_iff_not, Bool.not_eq_true', Bool.not_eq_false', Bool.and_eq_true, Bool.or_eq_true, Bool.and_eq_false_iff, Bool.or_eq_false_iff, Int.not_lt, Int.not_le, ne_eq, Classical.not_not] at *; omega)))
def madeF : FSpec := fun l es => match l, es with
  | [.int .i64 w, .int .i64 h, .int .i64 c, .sl 0 1 0 n], [.ints 5 .u8 p] => some ([], .agg [.int .i64 w, .int .i64 h, .int .i64 c, .sl 0 1 0 n], [some (.ints 5 .u8 p)])
  | _, _ => none
theorem made_g : GSOK Try.prog 88 (fG madeF) := by
  refine fok (S := []) (G := noG) pok_nil noG_ok ⟨Try.func88, by kernel_rfl, by kernel_rfl, by kernel_rfl⟩ fun l es obs v es' h ho => ?_
  unfold madeF at h
  split at h
  · rename_i w hh c n p
    simp only [Option.some.injEq, Prod.mk.injEq] at h
    obtain ⟨rfl, rfl, rfl⟩ := h
    refine ⟨Nat.le_of_ble_eq_true rfl, ?_⟩
    refine ⟨[some 0], ?_⟩
    (repeat' (first | apply And.intro | intro h)); (all_goals (try exact Chk.mk (by kernel_rfl)))
    (all_goals (try first | assumption | exact rfl | exact True.intro | contradiction | (exfalso; simp only [decide_eq_true_eq, decide_eq_false_iff_not, Bool.not_eq_true', Bool.not_eq_false', Bool.and_eq_true, Bool.or_eq_true, Bool.and_eq_false_iff, Bool.or_eq_false_iff, Int.not_lt, Int.not_le, ne_eq, Classical.not_not] at *; omega)))
  · cases h
abbrev pasteS : PSpec := fun l => match l with
  | [.agg [.int .i64 w, .int .i64 h, .int .i64 c, .roi .u8 m], .agg [.int .i64 v, .int .i64 g, .int .i64 d, .roi .u8 a], .int .i64 x, .int .i64 y] =>
    some ([], .tup [imA w h c (pasteL w h c m v g d a x y), .int .i64 (pasteC w h c m.length v g d a.length x y)])
  | _ => none
end Go.Proofs.Ytpgikaeddhaiiaa
