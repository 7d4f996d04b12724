
/- Orders (the layer perm): round and round, inwards. No condition. -/
import Derived.Test.YtpgikaeddhaiiaaU
namespace Go.Proofs.Ytpgikaeddhaiiaa
open Go Go.RowKit
set_option linter.unusedVariables false
set_option linter.unusedSimpArgs false
set_option maxRecDepth 100000

/-- f of so many numbers, upwards from a; downwards from a. -/
def upN (a : Int) (f : Int → Int) (n : Nat) : List Int := (List.range n).map fun (i : Nat) => f (a + (i : Int))
def dnN (a : Int) (f : Int → Int) (n : Nat) : List Int := (List.range n).map fun (i : Nat) => f (a - (i : Int))
theorem upN_len (a : Int) (f : Int → Int) (n : Nat) : (upN a f n).length = n := by simp [upN]
theorem dnN_len (a : Int) (f : Int → Int) (n : Nat) : (dnN a f n).length = n := by simp [dnN]
theorem upN_succ (a : Int) (f : Int → Int) (n : Nat) : upN a f (n + 1) = upN a f n ++ [f (a + (n : Int))] := by simp [upN, List.range_succ]
theorem dnN_succ (a : Int) (f : Int → Int) (n : Nat) : dnN a f (n + 1) = dnN a f n ++ [f (a - (n : Int))] := by simp [dnN, List.range_succ]
/-- The k-th ring of c columns and r rows: its sides. -/
def r1n (c : Int) (k : Nat) : Nat := (c - 2 * k).toNat
def r2n (r : Int) (k : Nat) : Nat := (r - 2 * k - 1).toNat
def r3n (c r : Int) (k : Nat) : Nat := if (k : Int) < r - 1 - k then (c - 2 * k - 1).toNat else 0
def r4n (c r : Int) (k : Nat) : Nat := if (k : Int) < c - 1 - k then (r - 2 * k - 2).toNat else 0
def outA (c r : Int) (k : Nat) (L : List Int) : List Int := L ++ upN (k : Int) (fun x => (k : Int) * c + x) (r1n c k)
def outB (c r : Int) (k : Nat) (L : List Int) : List Int := outA c r k L ++ upN ((k : Int) + 1) (fun y => y * c + (c - 1 - k)) (r2n r k)
def outC (c r : Int) (k : Nat) (L : List Int) : List Int := outB c r k L ++ dnN (c - 1 - k - 1) (fun x => (r - 1 - k) * c + x) (r3n c r k)
def outD (c r : Int) (k : Nat) (L : List Int) : List Int := outC c r k L ++ dnN (r - 1 - k - 1) (fun y => y * c + k) (r4n c r k)
def outK (c r : Int) : Nat → List Int
  | 0 => []
  | k + 1 => outD c r k (outK c r k)
theorem outA_len (c r : Int) (k : Nat) (L : List Int) : (outA c r k L).length = L.length + r1n c k := by simp [outA, upN_len]
theorem outB_len (c r : Int) (k : Nat) (L : List Int) : (outB c r k L).length = L.length + r1n c k + r2n r k := by simp [outB, outA_len, upN_len]
theorem outC_len (c r : Int) (k : Nat) (L : List Int) : (outC c r k L).length = L.length + r1n c k + r2n r k + r3n c r k := by simp [outC, outB_len, dnN_len]
theorem outD_len (c r : Int) (k : Nat) (L : List Int) : (outD c r k L).length = L.length + r1n c k + r2n r k + r3n c r k + r4n c r k := by simp [outD, outC_len, dnN_len]
theorem ring_len {c r : Int} (hc : c ≤ 32768) (hr : r ≤ 32768) (k : Nat) : r1n c k ≤ 32768 ∧ r2n r k ≤ 32768 ∧ r3n c r k ≤ 32768 ∧ r4n c r k ≤ 32768 := by
  unfold r1n r2n r3n r4n
  refine ⟨by omega, by omega, ?_, ?_⟩ <;> split <;> omega
theorem outK_len {c r : Int} (hc : c ≤ 32768) (hr : r ≤ 32768) : ∀ k, (outK c r k).length ≤ k * 131072
  | 0 => Nat.zero_le _
  | k + 1 => by
    have := outK_len hc hr k
    obtain ⟨h1, h2, h3, h4⟩ := ring_len hc hr k
    simp only [outK, outD_len]
    omega
theorem sp_mul {c y : Int} (hc0 : 0 ≤ c) (hc : c ≤ 32768) (hy0 : 0 ≤ y) (hy : y ≤ 32768) : 0 ≤ y * c ∧ y * c ≤ 1073741824 := by
  refine ⟨Int.mul_nonneg hy0 hc0, ?_⟩
  calc y * c ≤ 32768 * c := Int.mul_le_mul_of_nonneg_right hy hc0
    _ ≤ 1073741824 := by omega
/-- How many rings there are. -/
def rings (c r : Int) : Nat := ((min c r + 1) / 2).toNat
def spirL (c r : Int) : List Int := outK c r (rings c r)
abbrev mkE (c r x : Int) : Ent := .cells 126 [.int .i64 c, .int .i64 r, .int .u64 x]
def spiralF : FSpec := fun l es => match l, es with
  | [.ptr 0 0], [.cells 126 [.int .i64 c, .int .i64 r, .int .u64 x]] => some ([1 ≤ c, 1 ≤ r, c ≤ 32768, r ≤ 32768], .sl 1 1 0 (spirL c r).length, [some (mkE c r x), some (.ints 3 .i64 (spirL c r))])
  | _, _ => none
set_option maxHeartbeats 4000000 in
theorem spiral_g : GSOK Try.prog 122 (fG spiralF) := by
  refine fok (S := []) (G := noG) pok_nil noG_ok ⟨Try.func122, by kernel_rfl, by kernel_rfl, by kernel_rfl⟩ fun l es obs v es' h ho => ?_
  (unfold spiralF at h; split at h; rotate_left; (focus (cases h)); rename_i c r x; simp only [Option.some.injEq, Prod.mk.injEq] at h; obtain ⟨rfl, rfl, rfl⟩ := h; simp only [List.mem_cons, List.not_mem_nil, or_false, forall_eq_or_imp, forall_eq, false_implies, implies_true] at ho)
  obtain ⟨h1, h2, h3, h4⟩ := ho
  refine ⟨Nat.le_of_ble_eq_true rfl, ?_⟩
  (repeat' (first | (refine And.intro (fun (hfk : _ = true) => ?_) (fun (hfk : _ = false) => ?_) <;> ((try (first | replace hfk := of_decide_eq_true hfk | replace hfk := of_decide_eq_false hfk | simp only [decide_eq_true_eq, decide_eq_false_iff_not, dh1, dh0, ne_eq, reduceCtorEq] at hfk)); (try (exfalso; first | omega | contradiction | exact Bool.noConfusion (Eq.trans (Eq.symm hfk) (by with_reducible assumption : _ = false)) | exact Bool.noConfusion (Eq.trans (Eq.symm hfk) (by with_reducible assumption : _ = true)))))) | (refine And.intro ?ob ?_; (case ob => (first | exact Chk.mk (by kernel_rfl) | exact True.intro | with_reducible assumption | exact rng64 (by omega) (by omega) | omega | (dsimp only; omega) | (show (_ : Nat) ≤ _; omega) | (simp only [ll1, ll2, ll0]; done) | (simp only [ll1, ll2, ll0]; omega) | (dsimp only; simp only [ll1, ll2, ll0]; omega)))) | exact True.intro | (show _ = _; first | with_reducible rfl | with_reducible assumption | omega | (simp only [ll1, ll2, ll0]; omega) | (skip; done) | exact rfl) | with_reducible assumption | (apply And.intro) | omega | (intro j hj; exact rfl) | fail))
  refine ⟨Nat, fun k => [(0, .ptr 0 0), (3, .sl 1 1 0 (outK c r k).length), (4, .int .i64 k), (5, .int .i64 k), (6, .int .i64 (c - 1 - k)), (7, .int .i64 (r - 1 - k))],
      fun k => ⟨2, [(0, some (mkE c r x)), (1, some (.ints 3 .i64 (outK c r k)))]⟩, fun k => k ≤ rings c r, fun k => rings c r - k, ⟨0, [some 0, none], by simp, ?_⟩, fun k hk => ?_⟩
  · (repeat' (first | (refine And.intro (fun (hfk : _ = true) => ?_) (fun (hfk : _ = false) => ?_) <;> ((try (first | replace hfk := of_decide_eq_true hfk | replace hfk := of_decide_eq_false hfk | simp only [decide_eq_true_eq, decide_eq_false_iff_not, dh1, dh0, ne_eq, reduceCtorEq] at hfk)); (try (exfalso; first | omega | contradiction | exact Bool.noConfusion (Eq.trans (Eq.symm hfk) (by with_reducible assumption : _ = false)) | exact Bool.noConfusion (Eq.trans (Eq.symm hfk) (by with_reducible assumption : _ = true)))))) | (refine And.intro ?ob ?_; (case ob => (first | exact Chk.mk (by kernel_rfl) | exact True.intro | with_reducible assumption | exact rng64 (by omega) (by omega) | omega | (dsimp only; omega) | (show (_ : Nat) ≤ _; omega) | (simp only [ll1, ll2, ll0]; done) | (simp only [ll1, ll2, ll0]; omega) | (dsimp only; simp only [ll1, ll2, ll0]; omega)))) | exact True.intro | (show _ = _; first | with_reducible rfl | with_reducible assumption | omega | (simp only [ll1, ll2, ll0]; omega) | (skip; done) | exact rfl) | with_reducible assumption | (apply And.intro) | omega | (intro j hj; exact rfl) | fail))
  have hk : k ≤ rings c r := hk
  have hL := outK_len h3 h4 k
  obtain ⟨g1, g2, g3, g4⟩ := ring_len h3 h4 k
  have hA := outA_len c r k (outK c r k)
  have hB := outB_len c r k (outK c r k)
  have hC := outC_len c r k (outK c r k)
  have hD := outD_len c r k (outK c r k)
  have hr : rings c r ≤ 16384 := by unfold rings; omega
  by_cases hkr : k < rings c r
  rotate_left
  · have hkk : k = rings c r := by omega
    have e : outK c r k = spirL c r := by rw [hkk]; rfl
    have e' : (outK c r k).length = (spirL c r).length := by rw [e]
    unfold rings at hkr hkk
    (repeat' (first | (refine And.intro (fun (hfk : _ = true) => ?_) (fun (hfk : _ = false) => ?_) <;> ((try (first | replace hfk := of_decide_eq_true hfk | replace hfk := of_decide_eq_false hfk | simp only [decide_eq_true_eq, decide_eq_false_iff_not, dh1, dh0, ne_eq, reduceCtorEq] at hfk)); (try (exfalso; first | omega | contradiction | exact Bool.noConfusion (Eq.trans (Eq.symm hfk) (by with_reducible assumption : _ = false)) | exact Bool.noConfusion (Eq.trans (Eq.symm hfk) (by with_reducible assumption : _ = true)))))) | (refine And.intro ?ob ?_; (case ob => (first | exact Chk.mk (by kernel_rfl) | exact True.intro | with_reducible assumption | exact rng64 (by omega) (by omega) | omega | (dsimp only; omega) | (show (_ : Nat) ≤ _; omega) | (simp only [ll1, ll2, ll0]; done) | (simp only [ll1, ll2, ll0]; omega) | (dsimp only; simp only [ll1, ll2, ll0]; omega)))) | exact True.intro | (show _ = _; first | with_reducible rfl | with_reducible assumption | omega | (simp only [ll1, ll2, ll0]; omega) | (skip; done) | exact rfl) | with_reducible assumption | (apply And.intro) | omega | (intro j hj; exact rfl) | fail))
    all_goals (refine ⟨[some 0, some 1], ?_⟩)
    (repeat' (first | (refine And.intro (fun (hfk : _ = true) => ?_) (fun (hfk : _ = false) => ?_) <;> ((try (first | replace hfk := of_decide_eq_true hfk | replace hfk := of_decide_eq_false hfk | simp only [decide_eq_true_eq, decide_eq_false_iff_not, dh1, dh0, ne_eq, reduceCtorEq] at hfk)); (try (exfalso; first | omega | contradiction | exact Bool.noConfusion (Eq.trans (Eq.symm hfk) (by with_reducible assumption : _ = false)) | exact Bool.noConfusion (Eq.trans (Eq.symm hfk) (by with_reducible assumption : _ = true)))))) | (refine And.intro ?ob ?_; (case ob => (first | exact Chk.mk (by kernel_rfl) | exact True.intro | with_reducible assumption | exact rng64 (by omega) (by omega) | omega | (dsimp only; omega) | (show (_ : Nat) ≤ _; omega) | (simp only [ll1, ll2, ll0]; done) | (simp only [ll1, ll2, ll0]; omega) | (dsimp only; simp only [ll1, ll2, ll0]; omega)))) | exact True.intro | (show _ = _; first | with_reducible rfl | with_reducible assumption | omega | (simp only [ll1, ll2, ll0]; omega) | ((first | exact e | exact e'); done) | exact rfl) | with_reducible assumption | (apply And.intro) | omega | (intro j hj; exact rfl) | fail))
  have hk2 : 2 * (k : Int) + 1 ≤ c ∧ 2 * (k : Int) + 1 ≤ r := by unfold rings at hkr; omega
  obtain ⟨hk3, hk4⟩ := hk2
  (repeat' (first | (refine And.intro (fun (hfk : _ = true) => ?_) (fun (hfk : _ = false) => ?_) <;> ((try (first | replace hfk := of_decide_eq_true hfk | replace hfk := of_decide_eq_false hfk | simp only [decide_eq_true_eq, decide_eq_false_iff_not, dh1, dh0, ne_eq, reduceCtorEq] at hfk)); (try (exfalso; first | omega | contradiction | exact Bool.noConfusion (Eq.trans (Eq.symm hfk) (by with_reducible assumption : _ = false)) | exact Bool.noConfusion (Eq.trans (Eq.symm hfk) (by with_reducible assumption : _ = true)))))) | (refine And.intro ?ob ?_; (case ob => (first | exact Chk.mk (by kernel_rfl) | exact True.intro | with_reducible assumption | exact rng64 (by omega) (by omega) | omega | (dsimp only; omega) | (show (_ : Nat) ≤ _; omega) | (simp only [ll1, ll2, ll0]; done) | (simp only [ll1, ll2, ll0]; omega) | (dsimp only; simp only [ll1, ll2, ll0]; omega)))) | exact True.intro | (show _ = _; first | with_reducible rfl | with_reducible assumption | omega | (simp only [ll1, ll2, ll0]; omega) | (skip; done) | exact rfl) | with_reducible assumption | (apply And.intro) | omega | (intro j hj; exact rfl) | fail))
  have ec0 : outK c r k = (outK c r k ++ upN (k : Int) (fun x => (k : Int) * c + x) 0) := by rw [show upN (k : Int) (fun x => (k : Int) * c + x) 0 = [] from rfl, List.append_nil]
  have el0 : (outK c r k).length = (outK c r k ++ upN (k : Int) (fun x => (k : Int) * c + x) 0).length := congrArg List.length ec0
  refine ⟨Nat, fun (i1 : Nat) => [(0, .ptr 0 0), (3, .sl 1 1 0 (outK c r k ++ upN (k : Int) (fun x => (k : Int) * c + x) i1).length), (4, .int .i64 k), (5, .int .i64 k), (6, .int .i64 (c - 1 - k)), (7, .int .i64 (r - 1 - k)), (8, .int .i64 ((k : Int) + (i1 : Int)))],
      fun i1 => ⟨2, [(0, some (mkE c r x)), (1, some (.ints 3 .i64 (outK c r k ++ upN (k : Int) (fun x => (k : Int) * c + x) i1)))]⟩, fun i1 => i1 ≤ r1n c k, fun i1 => r1n c k - i1, ⟨0, [some 0, some 1], Nat.zero_le _, ?_⟩, fun i1 hi => ?_⟩
  · (repeat' (first | (refine And.intro (fun (hfk : _ = true) => ?_) (fun (hfk : _ = false) => ?_) <;> ((try (first | replace hfk := of_decide_eq_true hfk | replace hfk := of_decide_eq_false hfk | simp only [decide_eq_true_eq, decide_eq_false_iff_not, dh1, dh0, ne_eq, reduceCtorEq] at hfk)); (try (exfalso; first | omega | contradiction | exact Bool.noConfusion (Eq.trans (Eq.symm hfk) (by with_reducible assumption : _ = false)) | exact Bool.noConfusion (Eq.trans (Eq.symm hfk) (by with_reducible assumption : _ = true)))))) | (refine And.intro ?ob ?_; (case ob => (first | exact Chk.mk (by kernel_rfl) | exact True.intro | with_reducible assumption | exact rng64 (by omega) (by omega) | omega | (dsimp only; omega) | (show (_ : Nat) ≤ _; omega) | (simp only [ll1, ll2, ll0]; done) | (simp only [ll1, ll2, ll0]; omega) | (dsimp only; simp only [ll1, ll2, ll0]; omega)))) | exact True.intro | (show _ = _; first | with_reducible rfl | with_reducible assumption | omega | (simp only [ll1, ll2, ll0]; omega) | ((first | exact ec0 | exact el0); done) | exact rfl) | with_reducible assumption | (apply And.intro) | omega | (intro j hj; exact rfl) | fail))
  clear ec0 el0
  have hi : i1 ≤ r1n c k := hi
  have l0 : (outK c r k ++ upN (k : Int) (fun x => (k : Int) * c + x) i1).length = (outK c r k).length + i1 := by rw [List.length_append, upN_len]
  have lu0 : (upN (k : Int) (fun x => (k : Int) * c + x) i1).length = i1 := upN_len _ _ _
  by_cases hlt : i1 < r1n c k
  · have l1 : (outK c r k ++ upN (k : Int) (fun x => (k : Int) * c + x) (i1 + 1)).length = (outK c r k).length + (i1 + 1) := by rw [List.length_append, upN_len]
    have hA : (outK c r k ++ upN (k : Int) (fun x => (k : Int) * c + x) i1) ++ [(k : Int) * c + ((k : Int) + (i1 : Int))] = (outK c r k ++ upN (k : Int) (fun x => (k : Int) * c + x) (i1 + 1)) := by rw [upN_succ, List.append_assoc]
    have lv0 : (upN (k : Int) (fun x => (k : Int) * c + x) (i1 + 1)).length = i1 + 1 := upN_len _ _ _
    have hlt2 := hlt
    unfold r1n at hlt
    have q := sp_mul (c := c) (y := (k : Int)) (by omega) h3 (by omega) (by omega)
    (repeat' (first | (refine And.intro (fun (hfk : _ = true) => ?_) (fun (hfk : _ = false) => ?_) <;> ((try (first | replace hfk := of_decide_eq_true hfk | replace hfk := of_decide_eq_false hfk | simp only [decide_eq_true_eq, decide_eq_false_iff_not, dh1, dh0, ne_eq, reduceCtorEq] at hfk)); (try (exfalso; first | omega | contradiction | exact Bool.noConfusion (Eq.trans (Eq.symm hfk) (by with_reducible assumption : _ = false)) | exact Bool.noConfusion (Eq.trans (Eq.symm hfk) (by with_reducible assumption : _ = true)))))) | (refine And.intro ?ob ?_; (case ob => (first | exact Chk.mk (by kernel_rfl) | exact True.intro | with_reducible assumption | exact rng64 (by omega) (by omega) | omega | (dsimp only; omega) | (show (_ : Nat) ≤ _; omega) | (simp only [ll1, ll2, ll0]; done) | (simp only [ll1, ll2, ll0]; omega) | (dsimp only; simp only [ll1, ll2, ll0]; omega)))) | exact True.intro | (show _ = _; first | with_reducible rfl | with_reducible assumption | omega | (simp only [ll1, ll2, ll0]; omega) | ((exact hA); done) | exact rfl) | with_reducible assumption | (apply And.intro) | omega | (intro j hj; exact rfl) | fail))
    all_goals
      refine ⟨i1 + 1, [some 0, some 3], ?_, ?mu, ?_⟩
      (case mu => ((try dsimp only); omega))
      · exact hlt2
      clear hlt2
      (repeat' (first | (refine And.intro (fun (hfk : _ = true) => ?_) (fun (hfk : _ = false) => ?_) <;> ((try (first | replace hfk := of_decide_eq_true hfk | replace hfk := of_decide_eq_false hfk | simp only [decide_eq_true_eq, decide_eq_false_iff_not, dh1, dh0, ne_eq, reduceCtorEq] at hfk)); (try (exfalso; first | omega | contradiction | exact Bool.noConfusion (Eq.trans (Eq.symm hfk) (by with_reducible assumption : _ = false)) | exact Bool.noConfusion (Eq.trans (Eq.symm hfk) (by with_reducible assumption : _ = true)))))) | (refine And.intro ?ob ?_; (case ob => (first | exact Chk.mk (by kernel_rfl) | exact True.intro | with_reducible assumption | exact rng64 (by omega) (by omega) | omega | (dsimp only; omega) | (show (_ : Nat) ≤ _; omega) | (simp only [ll1, ll2, ll0]; done) | (simp only [ll1, ll2, ll0]; omega) | (dsimp only; simp only [ll1, ll2, ll0]; omega)))) | exact True.intro | (show _ = _; first | with_reducible rfl | with_reducible assumption | omega | (simp only [ll1, ll2, ll0]; omega) | ((exact hA); done) | exact rfl) | with_reducible assumption | (apply And.intro) | omega | (intro j hj; exact rfl) | fail))
  have hin0 : i1 = r1n c k := by omega
  have hun0 := hin0
  unfold r1n at hun0
  clear hlt hi
  (repeat' (first | (refine And.intro (fun (hfk : _ = true) => ?_) (fun (hfk : _ = false) => ?_) <;> ((try (first | replace hfk := of_decide_eq_true hfk | replace hfk := of_decide_eq_false hfk | simp only [decide_eq_true_eq, decide_eq_false_iff_not, dh1, dh0, ne_eq, reduceCtorEq] at hfk)); (try (exfalso; first | omega | contradiction | exact Bool.noConfusion (Eq.trans (Eq.symm hfk) (by with_reducible assumption : _ = false)) | exact Bool.noConfusion (Eq.trans (Eq.symm hfk) (by with_reducible assumption : _ = true)))))) | (refine And.intro ?ob ?_; (case ob => (first | exact Chk.mk (by kernel_rfl) | exact True.intro | with_reducible assumption | exact rng64 (by omega) (by omega) | omega | (dsimp only; omega) | (show (_ : Nat) ≤ _; omega) | (simp only [ll1, ll2, ll0]; done) | (simp only [ll1, ll2, ll0]; omega) | (dsimp only; simp only [ll1, ll2, ll0]; omega)))) | exact True.intro | (show _ = _; first | with_reducible rfl | with_reducible assumption | omega | (simp only [ll1, ll2, ll0]; omega) | (skip; done) | exact rfl) | with_reducible assumption | (apply And.intro) | omega | (intro j hj; exact rfl) | fail))
  all_goals
    have ec1 : (outK c r k ++ upN (k : Int) (fun x => (k : Int) * c + x) i1) = (outA c r k (outK c r k) ++ upN ((k : Int) + 1) (fun y => y * c + (c - 1 - k)) 0) := by rw [show upN ((k : Int) + 1) (fun y => y * c + (c - 1 - k)) 0 = [] from rfl, List.append_nil, hin0]; rfl
    have el1 : ((outK c r k ++ upN (k : Int) (fun x => (k : Int) * c + x) i1)).length = (outA c r k (outK c r k) ++ upN ((k : Int) + 1) (fun y => y * c + (c - 1 - k)) 0).length := congrArg List.length ec1
    refine ⟨Nat, fun (i2 : Nat) => [(0, .ptr 0 0), (3, .sl 1 1 0 (outA c r k (outK c r k) ++ upN ((k : Int) + 1) (fun y => y * c + (c - 1 - k)) i2).length), (4, .int .i64 k), (5, .int .i64 k), (6, .int .i64 (c - 1 - k)), (7, .int .i64 (r - 1 - k)), (9, .int .i64 ((k : Int) + 1 + (i2 : Int)))],
        fun i2 => ⟨2, [(0, some (mkE c r x)), (1, some (.ints 3 .i64 (outA c r k (outK c r k) ++ upN ((k : Int) + 1) (fun y => y * c + (c - 1 - k)) i2)))]⟩, fun i2 => i2 ≤ r2n r k, fun i2 => r2n r k - i2, ⟨0, [some 0, some 1], Nat.zero_le _, ?_⟩, fun i2 hi => ?_⟩
    · (repeat' (first | (refine And.intro (fun (hfk : _ = true) => ?_) (fun (hfk : _ = false) => ?_) <;> ((try (first | replace hfk := of_decide_eq_true hfk | replace hfk := of_decide_eq_false hfk | simp only [decide_eq_true_eq, decide_eq_false_iff_not, dh1, dh0, ne_eq, reduceCtorEq] at hfk)); (try (exfalso; first | omega | contradiction | exact Bool.noConfusion (Eq.trans (Eq.symm hfk) (by with_reducible assumption : _ = false)) | exact Bool.noConfusion (Eq.trans (Eq.symm hfk) (by with_reducible assumption : _ = true)))))) | (refine And.intro ?ob ?_; (case ob => (first | exact Chk.mk (by kernel_rfl) | exact True.intro | with_reducible assumption | exact rng64 (by omega) (by omega) | omega | (dsimp only; omega) | (show (_ : Nat) ≤ _; omega) | (simp only [ll1, ll2, ll0]; done) | (simp only [ll1, ll2, ll0]; omega) | (dsimp only; simp only [ll1, ll2, ll0]; omega)))) | exact True.intro | (show _ = _; first | with_reducible rfl | with_reducible assumption | omega | (simp only [ll1, ll2, ll0]; omega) | ((first | exact ec1 | exact el1); done) | exact rfl) | with_reducible assumption | (apply And.intro) | omega | (intro j hj; exact rfl) | fail))
    clear ec1 el1
    have hi : i2 ≤ r2n r k := hi
    have l0 : (outA c r k (outK c r k) ++ upN ((k : Int) + 1) (fun y => y * c + (c - 1 - k)) i2).length = (outA c r k (outK c r k)).length + i2 := by rw [List.length_append, upN_len]
    have lu1 : (upN ((k : Int) + 1) (fun y => y * c + (c - 1 - k)) i2).length = i2 := upN_len _ _ _
    by_cases hlt : i2 < r2n r k
    · have l1 : (outA c r k (outK c r k) ++ upN ((k : Int) + 1) (fun y => y * c + (c - 1 - k)) (i2 + 1)).length = (outA c r k (outK c r k)).length + (i2 + 1) := by rw [List.length_append, upN_len]
      have hA : (outA c r k (outK c r k) ++ upN ((k : Int) + 1) (fun y => y * c + (c - 1 - k)) i2) ++ [((k : Int) + 1 + (i2 : Int)) * c + (c - 1 - k)] = (outA c r k (outK c r k) ++ upN ((k : Int) + 1) (fun y => y * c + (c - 1 - k)) (i2 + 1)) := by rw [upN_succ, List.append_assoc]
      have lv1 : (upN ((k : Int) + 1) (fun y => y * c + (c - 1 - k)) (i2 + 1)).length = i2 + 1 := upN_len _ _ _
      have hlt2 := hlt
      unfold r2n at hlt
      have q := sp_mul (c := c) (y := (k : Int) + 1 + (i2 : Int)) (by omega) h3 (by omega) (by omega)
      (repeat' (first | (refine And.intro (fun (hfk : _ = true) => ?_) (fun (hfk : _ = false) => ?_) <;> ((try (first | replace hfk := of_decide_eq_true hfk | replace hfk := of_decide_eq_false hfk | simp only [decide_eq_true_eq, decide_eq_false_iff_not, dh1, dh0, ne_eq, reduceCtorEq] at hfk)); (try (exfalso; first | omega | contradiction | exact Bool.noConfusion (Eq.trans (Eq.symm hfk) (by with_reducible assumption : _ = false)) | exact Bool.noConfusion (Eq.trans (Eq.symm hfk) (by with_reducible assumption : _ = true)))))) | (refine And.intro ?ob ?_; (case ob => (first | exact Chk.mk (by kernel_rfl) | exact True.intro | with_reducible assumption | exact rng64 (by omega) (by omega) | omega | (dsimp only; omega) | (show (_ : Nat) ≤ _; omega) | (simp only [ll1, ll2, ll0]; done) | (simp only [ll1, ll2, ll0]; omega) | (dsimp only; simp only [ll1, ll2, ll0]; omega)))) | exact True.intro | (show _ = _; first | with_reducible rfl | with_reducible assumption | omega | (simp only [ll1, ll2, ll0]; omega) | ((exact hA); done) | exact rfl) | with_reducible assumption | (apply And.intro) | omega | (intro j hj; exact rfl) | fail))
      all_goals
        refine ⟨i2 + 1, [some 0, some 3], ?_, ?mu, ?_⟩
        (case mu => ((try dsimp only); omega))
        · exact hlt2
        clear hlt2
        (repeat' (first | (refine And.intro (fun (hfk : _ = true) => ?_) (fun (hfk : _ = false) => ?_) <;> ((try (first | replace hfk := of_decide_eq_true hfk | replace hfk := of_decide_eq_false hfk | simp only [decide_eq_true_eq, decide_eq_false_iff_not, dh1, dh0, ne_eq, reduceCtorEq] at hfk)); (try (exfalso; first | omega | contradiction | exact Bool.noConfusion (Eq.trans (Eq.symm hfk) (by with_reducible assumption : _ = false)) | exact Bool.noConfusion (Eq.trans (Eq.symm hfk) (by with_reducible assumption : _ = true)))))) | (refine And.intro ?ob ?_; (case ob => (first | exact Chk.mk (by kernel_rfl) | exact True.intro | with_reducible assumption | exact rng64 (by omega) (by omega) | omega | (dsimp only; omega) | (show (_ : Nat) ≤ _; omega) | (simp only [ll1, ll2, ll0]; done) | (simp only [ll1, ll2, ll0]; omega) | (dsimp only; simp only [ll1, ll2, ll0]; omega)))) | exact True.intro | (show _ = _; first | with_reducible rfl | with_reducible assumption | omega | (simp only [ll1, ll2, ll0]; omega) | ((exact hA); done) | exact rfl) | with_reducible assumption | (apply And.intro) | omega | (intro j hj; exact rfl) | fail))
    have hin1 : i2 = r2n r k := by omega
    have hun1 := hin1
    unfold r2n at hun1
    clear hlt hi
    (repeat' (first | (refine And.intro (fun (hfk : _ = true) => ?_) (fun (hfk : _ = false) => ?_) <;> ((try (first | replace hfk := of_decide_eq_true hfk | replace hfk := of_decide_eq_false hfk | simp only [decide_eq_true_eq, decide_eq_false_iff_not, dh1, dh0, ne_eq, reduceCtorEq] at hfk)); (try (exfalso; first | omega | contradiction | exact Bool.noConfusion (Eq.trans (Eq.symm hfk) (by with_reducible assumption : _ = false)) | exact Bool.noConfusion (Eq.trans (Eq.symm hfk) (by with_reducible assumption : _ = true)))))) | (refine And.intro ?ob ?_; (case ob => (first | exact Chk.mk (by kernel_rfl) | exact True.intro | with_reducible assumption | exact rng64 (by omega) (by omega) | omega | (dsimp only; omega) | (show (_ : Nat) ≤ _; omega) | (simp only [ll1, ll2, ll0]; done) | (simp only [ll1, ll2, ll0]; omega) | (dsimp only; simp only [ll1, ll2, ll0]; omega)))) | exact True.intro | (show _ = _; first | with_reducible rfl | with_reducible assumption | omega | (simp only [ll1, ll2, ll0]; omega) | (skip; done) | exact rfl) | with_reducible assumption | (apply And.intro) | omega | (intro j hj; exact rfl) | fail))
    all_goals
      have ec2 : (outA c r k (outK c r k) ++ upN ((k : Int) + 1) (fun y => y * c + (c - 1 - k)) i2) = (outB c r k (outK c r k) ++ dnN (c - 1 - k - 1) (fun x => (r - 1 - k) * c + x) 0) := by rw [show dnN (c - 1 - k - 1) (fun x => (r - 1 - k) * c + x) 0 = [] from rfl, List.append_nil, hin1]; rfl
      have el2 : ((outA c r k (outK c r k) ++ upN ((k : Int) + 1) (fun y => y * c + (c - 1 - k)) i2)).length = (outB c r k (outK c r k) ++ dnN (c - 1 - k - 1) (fun x => (r - 1 - k) * c + x) 0).length := congrArg List.length ec2
      refine ⟨Nat, fun (i3 : Nat) => [(0, .ptr 0 0), (3, .sl 1 1 0 (outB c r k (outK c r k) ++ dnN (c - 1 - k - 1) (fun x => (r - 1 - k) * c + x) i3).length), (4, .int .i64 k), (5, .int .i64 k), (6, .int .i64 (c - 1 - k)), (7, .int .i64 (r - 1 - k)), (10, .int .i64 (c - 1 - (k : Int) - 1 - (i3 : Int)))],
          fun i3 => ⟨2, [(0, some (mkE c r x)), (1, some (.ints 3 .i64 (outB c r k (outK c r k) ++ dnN (c - 1 - k - 1) (fun x => (r - 1 - k) * c + x) i3)))]⟩, fun i3 => i3 ≤ r3n c r k, fun i3 => r3n c r k - i3, ⟨0, [some 0, some 1], Nat.zero_le _, ?_⟩, fun i3 hi => ?_⟩
      · (repeat' (first | (refine And.intro (fun (hfk : _ = true) => ?_) (fun (hfk : _ = false) => ?_) <;> ((try (first | replace hfk := of_decide_eq_true hfk | replace hfk := of_decide_eq_false hfk | simp only [decide_eq_true_eq, decide_eq_false_iff_not, dh1, dh0, ne_eq, reduceCtorEq] at hfk)); (try (exfalso; first | omega | contradiction | exact Bool.noConfusion (Eq.trans (Eq.symm hfk) (by with_reducible assumption : _ = false)) | exact Bool.noConfusion (Eq.trans (Eq.symm hfk) (by with_reducible assumption : _ = true)))))) | (refine And.intro ?ob ?_; (case ob => (first | exact Chk.mk (by kernel_rfl) | exact True.intro | with_reducible assumption | exact rng64 (by omega) (by omega) | omega | (dsimp only; omega) | (show (_ : Nat) ≤ _; omega) | (simp only [ll1, ll2, ll0]; done) | (simp only [ll1, ll2, ll0]; omega) | (dsimp only; simp only [ll1, ll2, ll0]; omega)))) | exact True.intro | (show _ = _; first | with_reducible rfl | with_reducible assumption | omega | (simp only [ll1, ll2, ll0]; omega) | ((first | exact ec2 | exact el2); done) | exact rfl) | with_reducible assumption | (apply And.intro) | omega | (intro j hj; exact rfl) | fail))
      clear ec2 el2
      have hi : i3 ≤ r3n c r k := hi
      have l0 : (outB c r k (outK c r k) ++ dnN (c - 1 - k - 1) (fun x => (r - 1 - k) * c + x) i3).length = (outB c r k (outK c r k)).length + i3 := by rw [List.length_append, dnN_len]
      have lu2 : (dnN (c - 1 - k - 1) (fun x => (r - 1 - k) * c + x) i3).length = i3 := dnN_len _ _ _
      by_cases hlt : i3 < r3n c r k
      · have l1 : (outB c r k (outK c r k) ++ dnN (c - 1 - k - 1) (fun x => (r - 1 - k) * c + x) (i3 + 1)).length = (outB c r k (outK c r k)).length + (i3 + 1) := by rw [List.length_append, dnN_len]
        have hA : (outB c r k (outK c r k) ++ dnN (c - 1 - k - 1) (fun x => (r - 1 - k) * c + x) i3) ++ [(r - 1 - k) * c + (c - 1 - (k : Int) - 1 - (i3 : Int))] = (outB c r k (outK c r k) ++ dnN (c - 1 - k - 1) (fun x => (r - 1 - k) * c + x) (i3 + 1)) := by rw [dnN_succ, List.append_assoc]
        have lv2 : (dnN (c - 1 - k - 1) (fun x => (r - 1 - k) * c + x) (i3 + 1)).length = i3 + 1 := dnN_len _ _ _
        have hlt2 := hlt
        unfold r3n at hlt
        split at hlt
        rotate_left
        · omega
        rename_i hsp
        have q := sp_mul (c := c) (y := (r - 1 - (k : Int))) (by omega) h3 (by omega) (by omega)
        (repeat' (first | (refine And.intro (fun (hfk : _ = true) => ?_) (fun (hfk : _ = false) => ?_) <;> ((try (first | replace hfk := of_decide_eq_true hfk | replace hfk := of_decide_eq_false hfk | simp only [decide_eq_true_eq, decide_eq_false_iff_not, dh1, dh0, ne_eq, reduceCtorEq] at hfk)); (try (exfalso; first | omega | contradiction | exact Bool.noConfusion (Eq.trans (Eq.symm hfk) (by with_reducible assumption : _ = false)) | exact Bool.noConfusion (Eq.trans (Eq.symm hfk) (by with_reducible assumption : _ = true)))))) | (refine And.intro ?ob ?_; (case ob => (first | exact Chk.mk (by kernel_rfl) | exact True.intro | with_reducible assumption | exact rng64 (by omega) (by omega) | omega | (dsimp only; omega) | (show (_ : Nat) ≤ _; omega) | (simp only [ll1, ll2, ll0]; done) | (simp only [ll1, ll2, ll0]; omega) | (dsimp only; simp only [ll1, ll2, ll0]; omega)))) | exact True.intro | (show _ = _; first | with_reducible rfl | with_reducible assumption | omega | (simp only [ll1, ll2, ll0]; omega) | ((exact hA); done) | exact rfl) | with_reducible assumption | (apply And.intro) | omega | (intro j hj; exact rfl) | fail))
        all_goals
          refine ⟨i3 + 1, [some 0, some 3], ?_, ?mu, ?_⟩
          (case mu => ((try dsimp only); omega))
          · exact hlt2
          clear hlt2
          (repeat' (first | (refine And.intro (fun (hfk : _ = true) => ?_) (fun (hfk : _ = false) => ?_) <;> ((try (first | replace hfk := of_decide_eq_true hfk | replace hfk := of_decide_eq_false hfk | simp only [decide_eq_true_eq, decide_eq_false_iff_not, dh1, dh0, ne_eq, reduceCtorEq] at hfk)); (try (exfalso; first | omega | contradiction | exact Bool.noConfusion (Eq.trans (Eq.symm hfk) (by with_reducible assumption : _ = false)) | exact Bool.noConfusion (Eq.trans (Eq.symm hfk) (by with_reducible assumption : _ = true)))))) | (refine And.intro ?ob ?_; (case ob => (first | exact Chk.mk (by kernel_rfl) | exact True.intro | with_reducible assumption | exact rng64 (by omega) (by omega) | omega | (dsimp only; omega) | (show (_ : Nat) ≤ _; omega) | (simp only [ll1, ll2, ll0]; done) | (simp only [ll1, ll2, ll0]; omega) | (dsimp only; simp only [ll1, ll2, ll0]; omega)))) | exact True.intro | (show _ = _; first | with_reducible rfl | with_reducible assumption | omega | (simp only [ll1, ll2, ll0]; omega) | ((exact hA); done) | exact rfl) | with_reducible assumption | (apply And.intro) | omega | (intro j hj; exact rfl) | fail))
      have hin2 : i3 = r3n c r k := by omega
      have hun2 := hin2
      unfold r3n at hun2
      have hun2b : ((k : Int) < r - 1 - k → (i3 : Int) = max 0 (c - 2 * k - 1)) ∧ (¬ ((k : Int) < r - 1 - k) → i3 = 0) := by split at hun2 <;> omega
      clear hun2
      clear hlt hi
      (repeat' (first | (refine And.intro (fun (hfk : _ = true) => ?_) (fun (hfk : _ = false) => ?_) <;> ((try (first | replace hfk := of_decide_eq_true hfk | replace hfk := of_decide_eq_false hfk | simp only [decide_eq_true_eq, decide_eq_false_iff_not, dh1, dh0, ne_eq, reduceCtorEq] at hfk)); (try (exfalso; first | omega | contradiction | exact Bool.noConfusion (Eq.trans (Eq.symm hfk) (by with_reducible assumption : _ = false)) | exact Bool.noConfusion (Eq.trans (Eq.symm hfk) (by with_reducible assumption : _ = true)))))) | (refine And.intro ?ob ?_; (case ob => (first | exact Chk.mk (by kernel_rfl) | exact True.intro | with_reducible assumption | exact rng64 (by omega) (by omega) | omega | (dsimp only; omega) | (show (_ : Nat) ≤ _; omega) | (simp only [ll1, ll2, ll0]; done) | (simp only [ll1, ll2, ll0]; omega) | (dsimp only; simp only [ll1, ll2, ll0]; omega)))) | exact True.intro | (show _ = _; first | with_reducible rfl | with_reducible assumption | omega | (simp only [ll1, ll2, ll0]; omega) | (skip; done) | exact rfl) | with_reducible assumption | (apply And.intro) | omega | (intro j hj; exact rfl) | fail))
      all_goals
        have ec3 : (outB c r k (outK c r k) ++ dnN (c - 1 - k - 1) (fun x => (r - 1 - k) * c + x) i3) = (outC c r k (outK c r k) ++ dnN (r - 1 - k - 1) (fun y => y * c + k) 0) := by rw [show dnN (r - 1 - k - 1) (fun y => y * c + k) 0 = [] from rfl, List.append_nil, hin2]; rfl
        have el3 : ((outB c r k (outK c r k) ++ dnN (c - 1 - k - 1) (fun x => (r - 1 - k) * c + x) i3)).length = (outC c r k (outK c r k) ++ dnN (r - 1 - k - 1) (fun y => y * c + k) 0).length := congrArg List.length ec3
        refine ⟨Nat, fun (i4 : Nat) => [(0, .ptr 0 0), (3, .sl 1 1 0 (outC c r k (outK c r k) ++ dnN (r - 1 - k - 1) (fun y => y * c + k) i4).length), (4, .int .i64 k), (5, .int .i64 k), (6, .int .i64 (c - 1 - k)), (7, .int .i64 (r - 1 - k)), (11, .int .i64 (r - 1 - (k : Int) - 1 - (i4 : Int)))],
            fun i4 => ⟨2, [(0, some (mkE c r x)), (1, some (.ints 3 .i64 (outC c r k (outK c r k) ++ dnN (r - 1 - k - 1) (fun y => y * c + k) i4)))]⟩, fun i4 => i4 ≤ r4n c r k, fun i4 => r4n c r k - i4, ⟨0, [some 0, some 1], Nat.zero_le _, ?_⟩, fun i4 hi => ?_⟩
        · (repeat' (first | (refine And.intro (fun (hfk : _ = true) => ?_) (fun (hfk : _ = false) => ?_) <;> ((try (first | replace hfk := of_decide_eq_true hfk | replace hfk := of_decide_eq_false hfk | simp only [decide_eq_true_eq, decide_eq_false_iff_not, dh1, dh0, ne_eq, reduceCtorEq] at hfk)); (try (exfalso; first | omega | contradiction | exact Bool.noConfusion (Eq.trans (Eq.symm hfk) (by with_reducible assumption : _ = false)) | exact Bool.noConfusion (Eq.trans (Eq.symm hfk) (by with_reducible assumption : _ = true)))))) | (refine And.intro ?ob ?_; (case ob => (first | exact Chk.mk (by kernel_rfl) | exact True.intro | with_reducible assumption | exact rng64 (by omega) (by omega) | omega | (dsimp only; omega) | (show (_ : Nat) ≤ _; omega) | (simp only [ll1, ll2, ll0]; done) | (simp only [ll1, ll2, ll0]; omega) | (dsimp only; simp only [ll1, ll2, ll0]; omega)))) | exact True.intro | (show _ = _; first | with_reducible rfl | with_reducible assumption | omega | (simp only [ll1, ll2, ll0]; omega) | ((first | exact ec3 | exact el3); done) | exact rfl) | with_reducible assumption | (apply And.intro) | omega | (intro j hj; exact rfl) | fail))
        clear ec3 el3
        have hi : i4 ≤ r4n c r k := hi
        have l0 : (outC c r k (outK c r k) ++ dnN (r - 1 - k - 1) (fun y => y * c + k) i4).length = (outC c r k (outK c r k)).length + i4 := by rw [List.length_append, dnN_len]
        have lu3 : (dnN (r - 1 - k - 1) (fun y => y * c + k) i4).length = i4 := dnN_len _ _ _
        by_cases hlt : i4 < r4n c r k
        · have l1 : (outC c r k (outK c r k) ++ dnN (r - 1 - k - 1) (fun y => y * c + k) (i4 + 1)).length = (outC c r k (outK c r k)).length + (i4 + 1) := by rw [List.length_append, dnN_len]
          have hA : (outC c r k (outK c r k) ++ dnN (r - 1 - k - 1) (fun y => y * c + k) i4) ++ [(r - 1 - (k : Int) - 1 - (i4 : Int)) * c + (k : Int)] = (outC c r k (outK c r k) ++ dnN (r - 1 - k - 1) (fun y => y * c + k) (i4 + 1)) := by rw [dnN_succ, List.append_assoc]
          have lv3 : (dnN (r - 1 - k - 1) (fun y => y * c + k) (i4 + 1)).length = i4 + 1 := dnN_len _ _ _
          have hlt2 := hlt
          unfold r4n at hlt
          split at hlt
          rotate_left
          · omega
          rename_i hsp
          have q := sp_mul (c := c) (y := (r - 1 - (k : Int) - 1 - (i4 : Int))) (by omega) h3 (by omega) (by omega)
          (repeat' (first | (refine And.intro (fun (hfk : _ = true) => ?_) (fun (hfk : _ = false) => ?_) <;> ((try (first | replace hfk := of_decide_eq_true hfk | replace hfk := of_decide_eq_false hfk | simp only [decide_eq_true_eq, decide_eq_false_iff_not, dh1, dh0, ne_eq, reduceCtorEq] at hfk)); (try (exfalso; first | omega | contradiction | exact Bool.noConfusion (Eq.trans (Eq.symm hfk) (by with_reducible assumption : _ = false)) | exact Bool.noConfusion (Eq.trans (Eq.symm hfk) (by with_reducible assumption : _ = true)))))) | (refine And.intro ?ob ?_; (case ob => (first | exact Chk.mk (by kernel_rfl) | exact True.intro | with_reducible assumption | exact rng64 (by omega) (by omega) | omega | (dsimp only; omega) | (show (_ : Nat) ≤ _; omega) | (simp only [ll1, ll2, ll0]; done) | (simp only [ll1, ll2, ll0]; omega) | (dsimp only; simp only [ll1, ll2, ll0]; omega)))) | exact True.intro | (show _ = _; first | with_reducible rfl | with_reducible assumption | omega | (simp only [ll1, ll2, ll0]; omega) | ((exact hA); done) | exact rfl) | with_reducible assumption | (apply And.intro) | omega | (intro j hj; exact rfl) | fail))
          all_goals
            refine ⟨i4 + 1, [some 0, some 3], ?_, ?mu, ?_⟩
            (case mu => ((try dsimp only); omega))
            · exact hlt2
            clear hlt2
            (repeat' (first | (refine And.intro (fun (hfk : _ = true) => ?_) (fun (hfk : _ = false) => ?_) <;> ((try (first | replace hfk := of_decide_eq_true hfk | replace hfk := of_decide_eq_false hfk | simp only [decide_eq_true_eq, decide_eq_false_iff_not, dh1, dh0, ne_eq, reduceCtorEq] at hfk)); (try (exfalso; first | omega | contradiction | exact Bool.noConfusion (Eq.trans (Eq.symm hfk) (by with_reducible assumption : _ = false)) | exact Bool.noConfusion (Eq.trans (Eq.symm hfk) (by with_reducible assumption : _ = true)))))) | (refine And.intro ?ob ?_; (case ob => (first | exact Chk.mk (by kernel_rfl) | exact True.intro | with_reducible assumption | exact rng64 (by omega) (by omega) | omega | (dsimp only; omega) | (show (_ : Nat) ≤ _; omega) | (simp only [ll1, ll2, ll0]; done) | (simp only [ll1, ll2, ll0]; omega) | (dsimp only; simp only [ll1, ll2, ll0]; omega)))) | exact True.intro | (show _ = _; first | with_reducible rfl | with_reducible assumption | omega | (simp only [ll1, ll2, ll0]; omega) | ((exact hA); done) | exact rfl) | with_reducible assumption | (apply And.intro) | omega | (intro j hj; exact rfl) | fail))
        have hin3 : i4 = r4n c r k := by omega
        have hun3 := hin3
        unfold r4n at hun3
        have hun3b : ((k : Int) < c - 1 - k → (i4 : Int) = max 0 (r - 2 * k - 2)) ∧ (¬ ((k : Int) < c - 1 - k) → i4 = 0) := by split at hun3 <;> omega
        clear hun3
        clear hlt hi
        (repeat' (first | (refine And.intro (fun (hfk : _ = true) => ?_) (fun (hfk : _ = false) => ?_) <;> ((try (first | replace hfk := of_decide_eq_true hfk | replace hfk := of_decide_eq_false hfk | simp only [decide_eq_true_eq, decide_eq_false_iff_not, dh1, dh0, ne_eq, reduceCtorEq] at hfk)); (try (exfalso; first | omega | contradiction | exact Bool.noConfusion (Eq.trans (Eq.symm hfk) (by with_reducible assumption : _ = false)) | exact Bool.noConfusion (Eq.trans (Eq.symm hfk) (by with_reducible assumption : _ = true)))))) | (refine And.intro ?ob ?_; (case ob => (first | exact Chk.mk (by kernel_rfl) | exact True.intro | with_reducible assumption | exact rng64 (by omega) (by omega) | omega | (dsimp only; omega) | (show (_ : Nat) ≤ _; omega) | (simp only [ll1, ll2, ll0]; done) | (simp only [ll1, ll2, ll0]; omega) | (dsimp only; simp only [ll1, ll2, ll0]; omega)))) | exact True.intro | (show _ = _; first | with_reducible rfl | with_reducible assumption | omega | (simp only [ll1, ll2, ll0]; omega) | (skip; done) | exact rfl) | with_reducible assumption | (apply And.intro) | omega | (intro j hj; exact rfl) | fail))
        all_goals
          refine ⟨k + 1, [some 0, some 1], ?_, ?mu, ?_⟩
          (case mu => ((try dsimp only); omega))
          · exact hkr
          have e2 : (outC c r k (outK c r k) ++ dnN (r - 1 - k - 1) (fun y => y * c + k) i4) = outK c r (k + 1) := by rw [hin3]; rfl
          have e3 : (outC c r k (outK c r k) ++ dnN (r - 1 - k - 1) (fun y => y * c + k) i4).length = (outK c r (k + 1)).length := congrArg List.length e2
          (repeat' (first | (refine And.intro (fun (hfk : _ = true) => ?_) (fun (hfk : _ = false) => ?_) <;> ((try (first | replace hfk := of_decide_eq_true hfk | replace hfk := of_decide_eq_false hfk | simp only [decide_eq_true_eq, decide_eq_false_iff_not, dh1, dh0, ne_eq, reduceCtorEq] at hfk)); (try (exfalso; first | omega | contradiction | exact Bool.noConfusion (Eq.trans (Eq.symm hfk) (by with_reducible assumption : _ = false)) | exact Bool.noConfusion (Eq.trans (Eq.symm hfk) (by with_reducible assumption : _ = true)))))) | (refine And.intro ?ob ?_; (case ob => (first | exact Chk.mk (by kernel_rfl) | exact True.intro | with_reducible assumption | exact rng64 (by omega) (by omega) | omega | (dsimp only; omega) | (show (_ : Nat) ≤ _; omega) | (simp only [ll1, ll2, ll0]; done) | (simp only [ll1, ll2, ll0]; omega) | (dsimp only; simp only [ll1, ll2, ll0]; omega)))) | exact True.intro | (show _ = _; first | with_reducible rfl | with_reducible assumption | omega | (simp only [ll1, ll2, ll0]; omega) | ((first | exact e2 | exact e3); done) | exact rfl) | with_reducible assumption | (apply And.intro) | omega | (intro j hj; exact rfl) | fail))
end Go.Proofs.Ytpgikaeddhaiiaa
