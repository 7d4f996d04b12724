
/- Images held against each other: what the layer diff and the document answer. No condition. -/
import Derived.Test.YtkenkpbkaeoifaaI8b
import Derived.Test.YtkenkpbkaeoifaaFi
namespace Go.Proofs.Ytkenkpbkaeoifaa
open Go Go.RowKit
set_option linter.unusedVariables false
set_option linter.unusedSimpArgs false
set_option maxRecDepth 100000

theorem w64 {n : Int} (h0 : 0 ≤ n) (h1 : n < 18446744073709551616) : IntKind.u64.wrap n = n := by
  simp only [IntKind.wrap, IntKind.signed, IntKind.bits, Bool.false_eq_true, if_false]
  exact Int.emod_eq_of_lt h0 (by simpa using h1)
theorem w8 {n : Int} (h0 : 0 ≤ n) (h1 : n < 256) : IntKind.u8.wrap n = n := by
  simp only [IntKind.wrap, IntKind.signed, IntKind.bits, Bool.false_eq_true, if_false]
  exact Int.emod_eq_of_lt h0 (by simpa using h1)
def apI (x y : Int) : Int := max x y - min x y
theorem apI_bd {x y : Int} (hx : 0 ≤ x ∧ x ≤ 255) (hy : 0 ≤ y ∧ y ≤ 255) : 0 ≤ apI x y ∧ apI x y ≤ 255 := by unfold apI; omega
theorem apI_sq {x y : Int} (hx : 0 ≤ x ∧ x ≤ 255) (hy : 0 ≤ y ∧ y ≤ 255) : 0 ≤ apI x y * apI x y ∧ apI x y * apI x y ≤ 65025 := by
  have h := apI_bd hx hy
  exact ⟨Int.mul_nonneg h.1 h.1, Int.le_trans (Int.mul_le_mul h.2 h.2 h.1 (by decide)) (by decide)⟩
abbrev apartS : PSpec := fun l => match l with | [.int .u8 x, .int .u8 y] => some ([0 ≤ x ∧ x ≤ 255, 0 ≤ y ∧ y ≤ 255], .int .i64 (apI x y)) | _ => none
theorem apart_s : SOK Try.prog 81 apartS := by
  refine sok_of (C := mkC 0 [] noG) (mkC_ok pok_nil noG_ok) rfl mixed ⟨Try.func81, by kernel_rfl, by kernel_rfl, by kernel_rfl⟩ fun l obs v h ho => ?_
  (unfold apartS at h; split at h; rotate_left; (focus (cases h)); rename_i x y; simp only [Option.some.injEq, Prod.mk.injEq] at h; obtain ⟨rfl, rfl⟩ := h; simp only [List.mem_cons, List.not_mem_nil, or_false, forall_eq_or_imp, forall_eq, false_implies, implies_true] at ho)
  refine ⟨Nat.le_of_ble_eq_true rfl, ?_⟩
  (repeat' (first | (refine And.intro (fun (hfk : _ = true) => ?_) (fun (hfk : _ = false) => ?_) <;> ((try (first | replace hfk := of_decide_eq_true hfk | replace hfk := of_decide_eq_false hfk | simp only [decide_eq_true_eq, decide_eq_false_iff_not, Bool.not_eq_true', Bool.not_eq_false', Bool.and_eq_true, Bool.or_eq_true, Bool.and_eq_false_iff, Bool.or_eq_false_iff, Int.not_lt, Int.not_le, ne_eq, Classical.not_not, Bool.true_eq_false, Bool.false_eq_true, or_false, false_or, and_true, true_and, not_true_eq_false, not_false_eq_true, reduceCtorEq] at hfk)); (try (exfalso; first | omega | contradiction)))) | (refine And.intro ?ob ?_; (case ob => (first | exact Chk.mk (by kernel_rfl) | exact True.intro | assumption | exact rng64 (by omega) (by omega) | omega | (dsimp only; omega) | (show (_ : Nat) ≤ _; omega) | exact Nat.le_of_ble_eq_true rfl | (constructor <;> omega)))) | exact True.intro | exact rfl | assumption | (show _ = _; first | assumption | omega | (simp only [apI]; omega; done) | fail) | (apply And.intro) | omega | (intro j hj; exact rfl) | fail))
theorem rapart_s : SOK Try.prog 27 apartS := by
  refine sok_of (C := mkC 0 [] noG) (mkC_ok pok_nil noG_ok) rfl mixed ⟨Try.func27, by kernel_rfl, by kernel_rfl, by kernel_rfl⟩ fun l obs v h ho => ?_
  (unfold apartS at h; split at h; rotate_left; (focus (cases h)); rename_i x y; simp only [Option.some.injEq, Prod.mk.injEq] at h; obtain ⟨rfl, rfl⟩ := h; simp only [List.mem_cons, List.not_mem_nil, or_false, forall_eq_or_imp, forall_eq, false_implies, implies_true] at ho)
  refine ⟨Nat.le_of_ble_eq_true rfl, ?_⟩
  (repeat' (first | (refine And.intro (fun (hfk : _ = true) => ?_) (fun (hfk : _ = false) => ?_) <;> ((try (first | replace hfk := of_decide_eq_true hfk | replace hfk := of_decide_eq_false hfk | simp only [decide_eq_true_eq, decide_eq_false_iff_not, Bool.not_eq_true', Bool.not_eq_false', Bool.and_eq_true, Bool.or_eq_true, Bool.and_eq_false_iff, Bool.or_eq_false_iff, Int.not_lt, Int.not_le, ne_eq, Classical.not_not, Bool.true_eq_false, Bool.false_eq_true, or_false, false_or, and_true, true_and, not_true_eq_false, not_false_eq_true, reduceCtorEq] at hfk)); (try (exfalso; first | omega | contradiction)))) | (refine And.intro ?ob ?_; (case ob => (first | exact Chk.mk (by kernel_rfl) | exact True.intro | assumption | exact rng64 (by omega) (by omega) | omega | (dsimp only; omega) | (show (_ : Nat) ≤ _; omega) | exact Nat.le_of_ble_eq_true rfl | (constructor <;> omega)))) | exact True.intro | exact rfl | assumption | (show _ = _; first | assumption | omega | (simp only [apI]; omega; done) | fail) | (apply And.intro) | omega | (intro j hj; exact rfl) | fail))
def noteF : FSpec := fun l es => match l, es with
  | [.ptr 0 0, .int .i64 x], [.cells 36 [.int .i64 c, .int .i64 m, .int .u64 s, .int .u64 q, .int .i64 X, .int .i64 Y, .int .i64 K]] =>
    some ([0 ≤ x ∧ x ≤ 255, 0 ≤ x * x ∧ x * x ≤ 65025, 0 ≤ c ∧ c ≤ 1000000000, 0 ≤ s ∧ s ≤ 1000000000000000, 0 ≤ q ∧ q ≤ 1000000000000000], .tup [], [some (.cells 36 [.int .i64 (if 0 < x then c + 1 else c), .int .i64 (max m x), .int .u64 (s + x), .int .u64 (q + x * x), .int .i64 X, .int .i64 Y, .int .i64 K])])
  | _, _ => none
theorem note_g : GSOK Try.prog 80 (fG noteF) := by
  refine fok (S := []) (G := noG) pok_nil noG_ok ⟨Try.func80, by kernel_rfl, by kernel_rfl, by kernel_rfl⟩ fun l es obs v es' h ho => ?_
  (unfold noteF at h; split at h; rotate_left; (focus (cases h)); rename_i x c m s q X Y K; simp only [Option.some.injEq, Prod.mk.injEq] at h; obtain ⟨rfl, rfl, rfl⟩ := h; simp only [List.mem_cons, List.not_mem_nil, or_false, forall_eq_or_imp, forall_eq, false_implies, implies_true] at ho)
  obtain ⟨h1, h2, h3, h4, h5⟩ := ho
  have e1 : IntKind.u64.wrap (s + IntKind.u64.wrap x) = s + x := by rw [w64 (n := x) (by omega) (by omega), w64 (by omega) (by omega)]
  have e2 : IntKind.u64.wrap (q + IntKind.u64.wrap (x * x)) = q + x * x := by rw [w64 (n := x * x) (by omega) (by omega), w64 (by omega) (by omega)]
  refine ⟨Nat.le_of_ble_eq_true rfl, ?_⟩
  (repeat' (first | (refine And.intro (fun (hfk : _ = true) => ?_) (fun (hfk : _ = false) => ?_) <;> ((try (first | replace hfk := of_decide_eq_true hfk | replace hfk := of_decide_eq_false hfk | simp only [decide_eq_true_eq, decide_eq_false_iff_not, Bool.not_eq_true', Bool.not_eq_false', Bool.and_eq_true, Bool.or_eq_true, Bool.and_eq_false_iff, Bool.or_eq_false_iff, Int.not_lt, Int.not_le, ne_eq, Classical.not_not, Bool.true_eq_false, Bool.false_eq_true, or_false, false_or, and_true, true_and, not_true_eq_false, not_false_eq_true, reduceCtorEq] at hfk)); (try (exfalso; first | omega | contradiction)))) | (refine And.intro ?ob ?_; (case ob => (first | exact Chk.mk (by kernel_rfl) | exact True.intro | assumption | exact rng64 (by omega) (by omega) | omega | (dsimp only; omega) | (show (_ : Nat) ≤ _; omega) | exact Nat.le_of_ble_eq_true rfl | (constructor <;> omega)))) | exact True.intro | exact rfl | assumption | (show _ = _; first | assumption | omega | (simp only [apI]; omega; done) | fail) | (apply And.intro) | omega | (intro j hj; exact rfl) | fail))
  all_goals (refine ⟨[some 0], ?_⟩)
  (repeat' (first | (refine And.intro (fun (hfk : _ = true) => ?_) (fun (hfk : _ = false) => ?_) <;> ((try (first | replace hfk := of_decide_eq_true hfk | replace hfk := of_decide_eq_false hfk | simp only [decide_eq_true_eq, decide_eq_false_iff_not, Bool.not_eq_true', Bool.not_eq_false', Bool.and_eq_true, Bool.or_eq_true, Bool.and_eq_false_iff, Bool.or_eq_false_iff, Int.not_lt, Int.not_le, ne_eq, Classical.not_not, Bool.true_eq_false, Bool.false_eq_true, or_false, false_or, and_true, true_and, not_true_eq_false, not_false_eq_true, reduceCtorEq] at hfk)); (try (exfalso; first | omega | contradiction)))) | (refine And.intro ?ob ?_; (case ob => (first | exact Chk.mk (by kernel_rfl) | exact True.intro | assumption | exact rng64 (by omega) (by omega) | omega | (dsimp only; omega) | (show (_ : Nat) ≤ _; omega) | exact Nat.le_of_ble_eq_true rfl | (constructor <;> omega)))) | exact True.intro | exact rfl | assumption | (show _ = _; first | assumption | omega | (simp [*]; done; done) | fail) | (apply And.intro) | omega | (intro j hj; exact rfl) | fail))
def imC (a b : Im) : Int := if imCheck a.w a.h a.c a.p.length ≠ 0 then imCheck a.w a.h a.c a.p.length else if imCheck b.w b.h b.c b.p.length ≠ 0 then imCheck b.w b.h b.c b.p.length else if a.c ≠ b.c then 10 else if a.w ≠ b.w ∨ a.h ≠ b.h then 12 else 0
abbrev chkS : PSpec := fun l => match l with
  | [.agg [.int .i64 w, .int .i64 h, .int .i64 c, .roi .u8 p], .agg [.int .i64 v, .int .i64 g, .int .i64 d, .roi .u8 q]] => some ([], .int .i64 (imC ⟨w, h, c, p⟩ ⟨v, g, d, q⟩)) | _ => none
theorem rchk_s : SOK Try.prog 20 chkS := by
  refine sok_of (C := mkC 0 [(26, checkS)] noG) (mkC_ok (pok_cons rcheck7_s pok_nil) noG_ok) rfl mixed ⟨Try.func20, by kernel_rfl, by kernel_rfl, by kernel_rfl⟩ fun l obs v h ho => ?_
  (unfold chkS at h; split at h; rotate_left; (focus (cases h)); rename_i w hh c p v g d q; simp only [Option.some.injEq, Prod.mk.injEq] at h; obtain ⟨rfl, rfl⟩ := h; simp only [List.mem_cons, List.not_mem_nil, or_false, forall_eq_or_imp, forall_eq, false_implies, implies_true] at ho)
  refine ⟨Nat.le_of_ble_eq_true rfl, ?_⟩
  (repeat' (first | (refine And.intro (fun (hfk : _ = true) => ?_) (fun (hfk : _ = false) => ?_) <;> ((try (first | replace hfk := of_decide_eq_true hfk | replace hfk := of_decide_eq_false hfk | simp only [decide_eq_true_eq, decide_eq_false_iff_not, Bool.not_eq_true', Bool.not_eq_false', Bool.and_eq_true, Bool.or_eq_true, Bool.and_eq_false_iff, Bool.or_eq_false_iff, Int.not_lt, Int.not_le, ne_eq, Classical.not_not, Bool.true_eq_false, Bool.false_eq_true, or_false, false_or, and_true, true_and, not_true_eq_false, not_false_eq_true, reduceCtorEq] at hfk)); (try (exfalso; first | omega | contradiction)))) | (refine And.intro ?ob ?_; (case ob => (first | exact Chk.mk (by kernel_rfl) | exact True.intro | assumption | exact rng64 (by omega) (by omega) | omega | (dsimp only; omega) | (show (_ : Nat) ≤ _; omega) | exact Nat.le_of_ble_eq_true rfl | (constructor <;> omega)))) | exact True.intro | exact rfl | assumption | (show _ = _; first | assumption | omega | (simp [imC, *]; done; done) | fail) | (apply And.intro) | omega | (intro j hj; exact rfl) | fail))
theorem chk_s : SOK Try.prog 24 chkS := by
  refine sok_of (C := mkC 0 [(82, checkS)] noG) (mkC_ok (pok_cons check_s pok_nil) noG_ok) rfl mixed ⟨Try.func24, by kernel_rfl, by kernel_rfl, by kernel_rfl⟩ fun l obs v h ho => ?_
  (unfold chkS at h; split at h; rotate_left; (focus (cases h)); rename_i w hh c p v g d q; simp only [Option.some.injEq, Prod.mk.injEq] at h; obtain ⟨rfl, rfl⟩ := h; simp only [List.mem_cons, List.not_mem_nil, or_false, forall_eq_or_imp, forall_eq, false_implies, implies_true] at ho)
  refine ⟨Nat.le_of_ble_eq_true rfl, ?_⟩
  refine ⟨Nat, fun i => [(2, .ptr 0 0), (3, .ptr 1 0), (4, .int .i64 0), (10, .agg [.int .i64 w, .int .i64 hh, .int .i64 c, .roi .u8 p, .int .i64 v, .int .i64 g, .int .i64 d, .roi .u8 q]), (11, .int .i64 i)],
      fun i => ⟨2, [(0, some (.cells 25 [.int .i64 w, .int .i64 hh, .int .i64 c, .roi .u8 p])), (1, some (.cells 25 [.int .i64 v, .int .i64 g, .int .i64 d, .roi .u8 q]))]⟩,
      fun i => i ≤ 2 ∧ (1 ≤ i → imCheck w hh c p.length = 0) ∧ (2 ≤ i → imCheck v g d q.length = 0), fun i => 2 - i, ⟨0, [some 0, some 1], by omega, ?_⟩, fun i hi => ?_⟩
  · (repeat' (first | (refine And.intro (fun (hfk : _ = true) => ?_) (fun (hfk : _ = false) => ?_) <;> ((try (first | replace hfk := of_decide_eq_true hfk | replace hfk := of_decide_eq_false hfk | simp only [decide_eq_true_eq, decide_eq_false_iff_not, Bool.not_eq_true', Bool.not_eq_false', Bool.and_eq_true, Bool.or_eq_true, Bool.and_eq_false_iff, Bool.or_eq_false_iff, Int.not_lt, Int.not_le, ne_eq, Classical.not_not, Bool.true_eq_false, Bool.false_eq_true, or_false, false_or, and_true, true_and, not_true_eq_false, not_false_eq_true, reduceCtorEq] at hfk)); (try (exfalso; first | omega | contradiction)))) | (refine And.intro ?ob ?_; (case ob => (first | exact Chk.mk (by kernel_rfl) | exact True.intro | assumption | exact rng64 (by omega) (by omega) | omega | (dsimp only; omega) | (show (_ : Nat) ≤ _; omega) | exact Nat.le_of_ble_eq_true rfl | (constructor <;> omega)))) | exact True.intro | exact rfl | assumption | (show _ = _; first | assumption | omega | (skip; done) | fail) | (apply And.intro) | omega | (intro j hj; exact rfl) | fail))
  obtain ⟨hi1, hi2, hi3⟩ := hi
  have hi : i = 0 ∨ i = 1 ∨ i = 2 := by omega
  rcases hi with rfl | rfl | rfl
  · (repeat' (first | (refine And.intro (fun (hfk : _ = true) => ?_) (fun (hfk : _ = false) => ?_) <;> ((try (first | replace hfk := of_decide_eq_true hfk | replace hfk := of_decide_eq_false hfk | simp only [decide_eq_true_eq, decide_eq_false_iff_not, Bool.not_eq_true', Bool.not_eq_false', Bool.and_eq_true, Bool.or_eq_true, Bool.and_eq_false_iff, Bool.or_eq_false_iff, Int.not_lt, Int.not_le, ne_eq, Classical.not_not, Bool.true_eq_false, Bool.false_eq_true, or_false, false_or, and_true, true_and, not_true_eq_false, not_false_eq_true, reduceCtorEq] at hfk)); (try (exfalso; first | omega | contradiction)))) | (refine And.intro ?ob ?_; (case ob => (first | exact Chk.mk (by kernel_rfl) | exact True.intro | assumption | exact rng64 (by omega) (by omega) | omega | (dsimp only; omega) | (show (_ : Nat) ≤ _; omega) | exact Nat.le_of_ble_eq_true rfl | (constructor <;> omega)))) | exact True.intro | exact rfl | assumption | (show _ = _; first | assumption | omega | (simp [imC, *]; done) | fail) | (apply And.intro) | omega | (intro j hj; exact rfl) | (refine ⟨1, [some 0, some 1], ?_, ?mu, ?_⟩; (case mu => ((try dsimp only); omega))) | fail))
  · (repeat' (first | (refine And.intro (fun (hfk : _ = true) => ?_) (fun (hfk : _ = false) => ?_) <;> ((try (first | replace hfk := of_decide_eq_true hfk | replace hfk := of_decide_eq_false hfk | simp only [decide_eq_true_eq, decide_eq_false_iff_not, Bool.not_eq_true', Bool.not_eq_false', Bool.and_eq_true, Bool.or_eq_true, Bool.and_eq_false_iff, Bool.or_eq_false_iff, Int.not_lt, Int.not_le, ne_eq, Classical.not_not, Bool.true_eq_false, Bool.false_eq_true, or_false, false_or, and_true, true_and, not_true_eq_false, not_false_eq_true, reduceCtorEq] at hfk)); (try (exfalso; first | omega | contradiction)))) | (refine And.intro ?ob ?_; (case ob => (first | exact Chk.mk (by kernel_rfl) | exact True.intro | assumption | exact rng64 (by omega) (by omega) | omega | (dsimp only; omega) | (show (_ : Nat) ≤ _; omega) | exact Nat.le_of_ble_eq_true rfl | (constructor <;> omega)))) | exact True.intro | exact rfl | assumption | (show _ = _; first | assumption | omega | (simp [imC, *]; done) | fail) | (apply And.intro) | omega | (intro j hj; exact rfl) | (refine ⟨2, [some 0, some 1], ?_, ?mu, ?_⟩; (case mu => ((try dsimp only); omega))) | fail))
  · have hi2 := hi2 (by omega)
    have hi3 := hi3 (by omega)
    (repeat' (first | (refine And.intro (fun (hfk : _ = true) => ?_) (fun (hfk : _ = false) => ?_) <;> ((try (first | replace hfk := of_decide_eq_true hfk | replace hfk := of_decide_eq_false hfk | simp only [decide_eq_true_eq, decide_eq_false_iff_not, Bool.not_eq_true', Bool.not_eq_false', Bool.and_eq_true, Bool.or_eq_true, Bool.and_eq_false_iff, Bool.or_eq_false_iff, Int.not_lt, Int.not_le, ne_eq, Classical.not_not, Bool.true_eq_false, Bool.false_eq_true, or_false, false_or, and_true, true_and, not_true_eq_false, not_false_eq_true, reduceCtorEq] at hfk)); (try (exfalso; first | omega | contradiction)))) | (refine And.intro ?ob ?_; (case ob => (first | exact Chk.mk (by kernel_rfl) | exact True.intro | assumption | exact rng64 (by omega) (by omega) | omega | (dsimp only; omega) | (show (_ : Nat) ≤ _; omega) | exact Nat.le_of_ble_eq_true rfl | (constructor <;> omega)))) | exact True.intro | exact rfl | assumption | (show _ = _; first | assumption | omega | (simp [imC, *]; done) | fail) | (apply And.intro) | omega | (intro j hj; exact rfl) | fail))
def Bytes (p : List Int) : Prop := ∀ x ∈ p, 0 ≤ x ∧ x ≤ 255
theorem Bytes.get {p : List Int} (h : Bytes p) (i : Nat) : 0 ≤ p.getD i 0 ∧ p.getD i 0 ≤ 255 := by
  by_cases hi : i < p.length
  · have : p.getD i 0 = p[i] := by simp [List.getD, hi]
    rw [this]; exact h _ (List.getElem_mem hi)
  · simp [List.getD, hi]
def apN (a b : List Int) (n : Nat) : Int := apI (a.getD n 0) (b.getD n 0)
def dCn (a b : List Int) : Nat → Int | 0 => 0 | n + 1 => if 0 < apN a b n then dCn a b n + 1 else dCn a b n
def dMx (a b : List Int) : Nat → Int | 0 => 0 | n + 1 => max (dMx a b n) (apN a b n)
def dSm (a b : List Int) : Nat → Int | 0 => 0 | n + 1 => dSm a b n + apN a b n
def dSq (a b : List Int) : Nat → Int | 0 => 0 | n + 1 => dSq a b n + apN a b n * apN a b n
def dFi (g : Nat → Int) (a b : List Int) : Nat → Int | 0 => 0 | n + 1 => if 0 < apN a b n ∧ dCn a b n = 0 then g n else dFi g a b n
def gX (w c : Int) (i : Nat) : Int := ((i : Int).tdiv c).tmod w
def gY (w c : Int) (i : Nat) : Int := ((i : Int).tdiv c).tdiv w
def gK (c : Int) (i : Nat) : Int := (i : Int).tmod c
theorem d_bd {a b : List Int} (ha : Bytes a) (hb : Bytes b) : ∀ n : Nat, (0 ≤ dCn a b n ∧ dCn a b n ≤ n) ∧ (0 ≤ dMx a b n ∧ dMx a b n ≤ 255) ∧ (0 ≤ dSm a b n ∧ dSm a b n ≤ 255 * n) ∧ 0 ≤ dSq a b n ∧ dSq a b n ≤ 65025 * n
  | 0 => by simp [dCn, dMx, dSm, dSq]
  | n + 1 => by
    have ih := d_bd ha hb n
    have h1 := apI_bd (ha.get n) (hb.get n)
    have h2 := apI_sq (ha.get n) (hb.get n)
    simp only [dCn, dMx, dSm, dSq]
    have e : apN a b n = apI (a.getD n 0) (b.getD n 0) := rfl
    rw [← e] at h1 h2
    generalize apN a b n * apN a b n = z at *
    split <;> omega
def diffA (w c : Int) (a b : List Int) (n : Nat) : AV := .agg [.int .i64 (dCn a b n), .int .i64 (dMx a b n), .int .u64 (dSm a b n), .int .u64 (dSq a b n), .int .i64 (dFi (gX w c) a b n), .int .i64 (dFi (gY w c) a b n), .int .i64 (dFi (gK c) a b n)]
def ofA (a b : Im) : AV := diffA a.w a.c a.p b.p (if imC a b = 0 then a.p.length else 0)
abbrev ofS : PSpec := fun l => match l with
  | [.agg [.int .i64 w, .int .i64 h, .int .i64 c, .roi .u8 p], .agg [.int .i64 v, .int .i64 g, .int .i64 d, .roi .u8 q]] => some ([Bytes p, Bytes q], .tup [ofA ⟨w, h, c, p⟩ ⟨v, g, d, q⟩, .int .i64 (imC ⟨w, h, c, p⟩ ⟨v, g, d, q⟩)]) | _ => none
theorem imC_ok {a b : Im} (h : imC a b = 0) : imCheck a.w a.h a.c a.p.length = 0 ∧ imCheck b.w b.h b.c b.p.length = 0 ∧ a.c = b.c ∧ a.w = b.w ∧ a.h = b.h ∧ a.p.length = b.p.length ∧ a.p.length ≤ 16777216 ∧ 1 ≤ a.c ∧ a.c ≤ 4 ∧ 1 ≤ a.w ∧ a.w ≤ 32768 := by
  unfold imC at h
  split at h
  · omega
  · rename_i k1
    split at h
    · omega
    · rename_i k2
      split at h
      · omega
      · rename_i k3
        split at h
        · omega
        · rename_i k4
          have k5 : a.w = b.w ∧ a.h = b.h := by omega
          have k1 : imCheck a.w a.h a.c a.p.length = 0 := by omega
          have k2 : imCheck b.w b.h b.c b.p.length = 0 := by omega
          have k3 : a.c = b.c := by omega
          have z1 := check_inv k1
          have z2 := check_inv k2
          have z3 := fits_inv z1.1
          have e : a.w * a.h * a.c = b.w * b.h * b.c := by rw [k3, k5.1, k5.2]
          exact ⟨k1, k2, k3, k5.1, k5.2, by omega, by omega, by omega, by omega, by omega, by omega⟩
set_option maxHeartbeats 4000000 in
theorem of_s : SOK Try.prog 21 ofS := by
  refine sok_of (C := mkC 0 [(24, chkS), (81, apartS)] (glook [(80, fG noteF)])) (mkC_ok (pok_cons chk_s (pok_cons apart_s pok_nil)) (gl_cons note_g gl_nil)) rfl mixed ⟨Try.func21, by kernel_rfl, by kernel_rfl, by kernel_rfl⟩ fun l obs v h ho => ?_
  (unfold ofS at h; split at h; rotate_left; (focus (cases h)); rename_i w hgt c p v g d q; simp only [Option.some.injEq, Prod.mk.injEq] at h; obtain ⟨rfl, rfl⟩ := h; simp only [List.mem_cons, List.not_mem_nil, or_false, forall_eq_or_imp, forall_eq, false_implies, implies_true] at ho)
  obtain ⟨ho1, ho2⟩ := ho
  refine ⟨Nat.le_of_ble_eq_true rfl, ?_⟩
  by_cases k : imC ⟨w, hgt, c, p⟩ ⟨v, g, d, q⟩ = 0
  · have k1 := imC_ok k
    dsimp only at k1
    have e : ofA ⟨w, hgt, c, p⟩ ⟨v, g, d, q⟩ = diffA w c p q p.length := by simp [ofA, k]
    rw [e, k]
    (repeat' (first | (refine And.intro (fun (hfk : _ = true) => ?_) (fun (hfk : _ = false) => ?_) <;> ((try (first | replace hfk := of_decide_eq_true hfk | replace hfk := of_decide_eq_false hfk | simp only [decide_eq_true_eq, decide_eq_false_iff_not, Bool.not_eq_true', Bool.not_eq_false', Bool.and_eq_true, Bool.or_eq_true, Bool.and_eq_false_iff, Bool.or_eq_false_iff, Int.not_lt, Int.not_le, ne_eq, Classical.not_not, Bool.true_eq_false, Bool.false_eq_true, or_false, false_or, and_true, true_and, not_true_eq_false, not_false_eq_true, reduceCtorEq] at hfk)); (try (exfalso; first | omega | contradiction)))) | (refine And.intro ?ob ?_; (case ob => (first | exact Chk.mk (by kernel_rfl) | exact True.intro | assumption | exact rng64 (by omega) (by omega) | omega | (dsimp only; omega) | (show (_ : Nat) ≤ _; omega) | exact Nat.le_of_ble_eq_true rfl | (constructor <;> omega)))) | exact True.intro | exact rfl | assumption | (show _ = _; first | assumption | omega | (simp [*]; done) | fail) | (apply And.intro) | omega | (intro j hj; exact rfl) | fail))
    refine ⟨Nat, fun i => [(2, .ptr 0 0), (3, .ptr 1 0), (4, .ptr 2 0), (5, .int .i64 0), (7, .ptr 3 0), (8, .fn 80 1 [.ptr 3 0]), (21, .roi .u8 p), (22, .int .i64 ↑p.length), (23, .int .i64 i)],
      fun i => ⟨4, [(0, some (.cells 25 [.int .i64 w, .int .i64 hgt, .int .i64 c, .roi .u8 p])), (1, some (.cells 25 [.int .i64 v, .int .i64 g, .int .i64 d, .roi .u8 q])), (2, some (.cells 36 [.int .i64 0, .int .i64 0, .int .u64 0, .int .u64 0, .int .i64 0, .int .i64 0, .int .i64 0])),
        (3, some (.cells 36 [.int .i64 (dCn p q i), .int .i64 (dMx p q i), .int .u64 (dSm p q i), .int .u64 (dSq p q i), .int .i64 (dFi (gX w c) p q i), .int .i64 (dFi (gY w c) p q i), .int .i64 (dFi (gK c) p q i)]))]⟩,
      fun i => i ≤ p.length, fun i => p.length - i, ⟨0, [some 0, some 1, some 2, some 3], by omega, ?_⟩, fun i hi => ?_⟩
    · (repeat' (first | (refine And.intro (fun (hfk : _ = true) => ?_) (fun (hfk : _ = false) => ?_) <;> ((try (first | replace hfk := of_decide_eq_true hfk | replace hfk := of_decide_eq_false hfk | simp only [decide_eq_true_eq, decide_eq_false_iff_not, Bool.not_eq_true', Bool.not_eq_false', Bool.and_eq_true, Bool.or_eq_true, Bool.and_eq_false_iff, Bool.or_eq_false_iff, Int.not_lt, Int.not_le, ne_eq, Classical.not_not, Bool.true_eq_false, Bool.false_eq_true, or_false, false_or, and_true, true_and, not_true_eq_false, not_false_eq_true, reduceCtorEq] at hfk)); (try (exfalso; first | omega | contradiction)))) | (refine And.intro ?ob ?_; (case ob => (first | exact Chk.mk (by kernel_rfl) | exact True.intro | assumption | exact rng64 (by omega) (by omega) | omega | (dsimp only; omega) | (show (_ : Nat) ≤ _; omega) | exact Nat.le_of_ble_eq_true rfl | (constructor <;> omega)))) | exact True.intro | exact rfl | assumption | (show _ = _; first | assumption | omega | (simp [*]; done) | fail) | (apply And.intro) | omega | (intro j hj; exact rfl) | fail))
    have hi : i ≤ p.length := hi
    have bd := d_bd ho1 ho2 i
    have b1 := ho1.get i
    have b2 := ho2.get i
    have b3 := apI_bd b1 b2
    have b4 := apI_sq b1 b2
    have c0 : c ≠ 0 := by omega
    have w0 : w ≠ 0 := by omega
    have t0 : 0 ≤ (i : Int).tdiv c ∧ (i : Int).tdiv c ≤ i := by
      rw [Int.tdiv_eq_ediv_of_nonneg (by omega)]
      exact ⟨Int.ediv_nonneg (by omega) (by omega), Int.ediv_le_self _ (by omega)⟩
    have t1 : 0 ≤ ((i : Int).tdiv c).tdiv w ∧ ((i : Int).tdiv c).tdiv w ≤ (i : Int).tdiv c := by
      rw [Int.tdiv_eq_ediv_of_nonneg (a := (i : Int).tdiv c) (by omega)]
      exact ⟨Int.ediv_nonneg (by omega) (by omega), Int.ediv_le_self _ (by omega)⟩
    refine ⟨fun hy => ?_, fun hy => ?_⟩
    · replace hy := of_decide_eq_true hy
      (repeat' (first | (refine And.intro (fun (hfk : _ = true) => ?_) (fun (hfk : _ = false) => ?_) <;> ((try (first | replace hfk := of_decide_eq_true hfk | replace hfk := of_decide_eq_false hfk | simp only [decide_eq_true_eq, decide_eq_false_iff_not, Bool.not_eq_true', Bool.not_eq_false', Bool.and_eq_true, Bool.or_eq_true, Bool.and_eq_false_iff, Bool.or_eq_false_iff, Int.not_lt, Int.not_le, ne_eq, Classical.not_not, Bool.true_eq_false, Bool.false_eq_true, or_false, false_or, and_true, true_and, not_true_eq_false, not_false_eq_true, reduceCtorEq] at hfk)); (try (exfalso; first | omega | contradiction)))) | (refine And.intro ?ob ?_; (case ob => (first | exact Chk.mk (by kernel_rfl) | exact True.intro | assumption | exact rng64 (by omega) (by omega) | omega | (dsimp only; omega) | (show (_ : Nat) ≤ _; omega) | exact Nat.le_of_ble_eq_true rfl | (constructor <;> omega)))) | exact True.intro | exact rfl | assumption | (show _ = _; first | assumption | omega | (first | (simp [dCn, dMx, dSm, dSq, dFi, apN, gX, gY, gK, *]; done) | (simp only [Int.toNat_natCast] at *; simp only [dFi, apN, gX, gY, gK]; first | exact (if_pos (And.intro (by omega) (by omega))).symm | exact (if_neg (by omega)).symm); done) | fail) | (apply And.intro) | omega | (intro j hj; exact rfl) | (first | (refine ⟨[3], ⟨by kernel_rfl⟩, ?_⟩) | (refine ⟨i + 1, [some 0, some 1, some 2, some 3], ?_, ?mu, ?_⟩; (case mu => ((try dsimp only); omega)))) | fail))
    · obtain rfl : i = p.length := by have := of_decide_eq_false hy; omega
      (repeat' (first | (refine And.intro (fun (hfk : _ = true) => ?_) (fun (hfk : _ = false) => ?_) <;> ((try (first | replace hfk := of_decide_eq_true hfk | replace hfk := of_decide_eq_false hfk | simp only [decide_eq_true_eq, decide_eq_false_iff_not, Bool.not_eq_true', Bool.not_eq_false', Bool.and_eq_true, Bool.or_eq_true, Bool.and_eq_false_iff, Bool.or_eq_false_iff, Int.not_lt, Int.not_le, ne_eq, Classical.not_not, Bool.true_eq_false, Bool.false_eq_true, or_false, false_or, and_true, true_and, not_true_eq_false, not_false_eq_true, reduceCtorEq] at hfk)); (try (exfalso; first | omega | contradiction)))) | (refine And.intro ?ob ?_; (case ob => (first | exact Chk.mk (by kernel_rfl) | exact True.intro | assumption | exact rng64 (by omega) (by omega) | omega | (dsimp only; omega) | (show (_ : Nat) ≤ _; omega) | exact Nat.le_of_ble_eq_true rfl | (constructor <;> omega)))) | exact True.intro | exact rfl | assumption | (show _ = _; first | assumption | omega | (simp [*]; done) | fail) | (apply And.intro) | omega | (intro j hj; exact rfl) | fail))
  · have e : ofA ⟨w, hgt, c, p⟩ ⟨v, g, d, q⟩ = diffA w c p q 0 := by simp [ofA, k]
    rw [e]
    (repeat' (first | (refine And.intro (fun (hfk : _ = true) => ?_) (fun (hfk : _ = false) => ?_) <;> ((try (first | replace hfk := of_decide_eq_true hfk | replace hfk := of_decide_eq_false hfk | simp only [decide_eq_true_eq, decide_eq_false_iff_not, Bool.not_eq_true', Bool.not_eq_false', Bool.and_eq_true, Bool.or_eq_true, Bool.and_eq_false_iff, Bool.or_eq_false_iff, Int.not_lt, Int.not_le, ne_eq, Classical.not_not, Bool.true_eq_false, Bool.false_eq_true, or_false, false_or, and_true, true_and, not_true_eq_false, not_false_eq_true, reduceCtorEq] at hfk)); (try (exfalso; first | omega | contradiction)))) | (refine And.intro ?ob ?_; (case ob => (first | exact Chk.mk (by kernel_rfl) | exact True.intro | assumption | exact rng64 (by omega) (by omega) | omega | (dsimp only; omega) | (show (_ : Nat) ≤ _; omega) | exact Nat.le_of_ble_eq_true rfl | (constructor <;> omega)))) | exact True.intro | exact rfl | assumption | (show _ = _; first | assumption | omega | (simp [*]; done) | fail) | (apply And.intro) | omega | (intro j hj; exact rfl) | fail))
end Go.Proofs.Ytkenkpbkaeoifaa
