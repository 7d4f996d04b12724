
/- The tiles of a rectangle: the layer's and the document's answers. No condition. -/
import Derived.Test.YtpgikaeddhaiiaaGO
import Derived.Test.YtpgikaeddhaiiaaU
namespace Go.Proofs.Ytpgikaeddhaiiaa
open Go Go.RowKit
set_option linter.unusedVariables false
set_option linter.unusedSimpArgs false
set_option maxRecDepth 100000
set_option maxHeartbeats 4000000

def gw (g : R4) : R4 := ⟨0, 0, g.x0, g.y0⟩
/-- Which columns and rows of tiles a rectangle meets. -/
structure OvN (g b : R4) (n X0 X1 Y0 Y1 : Nat) : Prop where
  cn : gcols g = (n : Int)
  n0 : 0 < n
  ne : b.empty = false
  f0 : gof g b.x0 b.y0 = ((Y0 * n + X0 : Nat) : Int)
  f1 : gof g (b.x1 - 1) (b.y1 - 1) = ((Y1 * n + X1 : Nat) : Int)
  x0 : X0 ≤ X1
  x1 : X1 < n
  y0 : Y0 ≤ Y1
  y1 : Y1 < rN g
  nn : n = cN g
  qx0 : b.x0 / g.x1 = X0
  qx1 : (b.x1 - 1) / g.x1 = X1
  qy0 : b.y0 / g.y1 = Y0
  qy1 : (b.y1 - 1) / g.y1 = Y1
theorem ov_num {g r : R4} (hg : gcheck g = 0) (hb : (r.both (gw g)).empty = false) : ∃ n X0 X1 Y0 Y1 : Nat, OvN g (r.both (gw g)) n X0 X1 Y0 Y1 := by
  have hi := gcheck_inv hg
  have hbd := R4.bounds hb
  have in0 : gin g (r.both (gw g)).x0 (r.both (gw g)).y0 = true := by
    unfold gin
    rw [decide_eq_true hg, Bool.true_and]
    have h1 : (r.both (gw g)).has (r.both (gw g)).x0 (r.both (gw g)).y0 = true := by
      simp only [R4.has, hb, Bool.not_false, Bool.true_and, Bool.and_eq_true, decide_eq_true_eq]; omega
    rw [R4.both_has, Bool.and_eq_true] at h1
    exact h1.2
  have in1 : gin g ((r.both (gw g)).x1 - 1) ((r.both (gw g)).y1 - 1) = true := by
    unfold gin
    rw [decide_eq_true hg, Bool.true_and]
    have h1 : (r.both (gw g)).has ((r.both (gw g)).x1 - 1) ((r.both (gw g)).y1 - 1) = true := by
      simp only [R4.has, hb, Bool.not_false, Bool.true_and, Bool.and_eq_true, decide_eq_true_eq]; omega
    rw [R4.both_has, Bool.and_eq_true] at h1
    exact h1.2
  obtain ⟨X0, Y0, a1, a2, a3, a4, a5, _, _⟩ := gof_nat in0
  obtain ⟨X1, Y1, b1, b2, b3, b4, b5, _, _⟩ := gof_nat in1
  refine ⟨cN g, X0, X1, Y0, Y1, (cN_eq hg).symm, cN_pos hg, hb, a5, b5, ?_, b3, ?_, b4, rfl, a1, b1, a2, b2⟩
  · have := Int.ediv_le_ediv (c := g.x1) (by omega) (show (r.both (gw g)).x0 ≤ (r.both (gw g)).x1 - 1 by omega)
    omega
  · have := Int.ediv_le_ediv (c := g.y1) (by omega) (show (r.both (gw g)).y0 ≤ (r.both (gw g)).y1 - 1 by omega)
    omega
def overL (g r : R4) : List Int := if gcheck g = 0 ∧ (r.both (gw g)).empty = false then
    blkR (cN g) ((r.both (gw g)).y0 / g.y1).toNat ((r.both (gw g)).x0 / g.x1).toNat (((r.both (gw g)).x1 - 1) / g.x1 - (r.both (gw g)).x0 / g.x1 + 1).toNat (((r.both (gw g)).y1 - 1) / g.y1 - (r.both (gw g)).y0 / g.y1 + 1).toNat else []
abbrev overS : PSpec := sRR fun g r => .roi .i64 (overL g r)
theorem over_s : SOK Try.prog 54 overS := by
  refine sok_of (C := mkK 0 [(90, sR fun g => .bool (decide (gcheck g = 0))), (92, sR fun g => (R4.mk 0 0 g.x0 g.y0).av), (91, sRR fun a b => (a.both b).av), (93, sR fun r => .bool r.empty), (94, sRII fun g x y => .tup [.int .i64 (gof g x y), .bool (gin g x y)]), (95, sR fun g => .int .i64 (gcols g))] noG [3, 8])
    (mkK_ok (pok_cons gright_s (pok_cons gwhole_s (pok_cons both_s (pok_cons empty_s (pok_cons gof_s (pok_cons gcols_s pok_nil)))))) noG_ok) rfl mixed ⟨Try.func54, by kernel_rfl, by kernel_rfl, by kernel_rfl⟩ fun l obs v h ho => ?_
  obtain ⟨g, r, rfl, rfl⟩ := sRR_inv h
  obtain ⟨g0, g1, g2, g3⟩ := g
  obtain ⟨r0, r1, r2, r3⟩ := r
  refine ⟨Nat.le_of_ble_eq_true rfl, ?_⟩
  by_cases hg : gcheck ⟨g0, g1, g2, g3⟩ = 0
  rotate_left
  · have e : overL ⟨g0, g1, g2, g3⟩ ⟨r0, r1, r2, r3⟩ = [] := if_neg (fun h => hg h.1)
    rw [e]
    (repeat' (first | (refine And.intro (fun (hfk : _ = true) => ?_) (fun (hfk : _ = false) => ?_) <;> ((try (first | replace hfk := of_decide_eq_true hfk | replace hfk := of_decide_eq_false hfk | simp only [decide_eq_true_eq, decide_eq_false_iff_not, dh1, dh0, ne_eq, reduceCtorEq] at hfk)); (try (exfalso; first | omega | contradiction | exact Bool.noConfusion (Eq.trans (Eq.symm hfk) (by with_reducible assumption : _ = false)) | exact Bool.noConfusion (Eq.trans (Eq.symm hfk) (by with_reducible assumption : _ = true)))))) | (refine And.intro ?ob ?_; (case ob => (first | exact Chk.mk (by kernel_rfl) | exact True.intro | with_reducible assumption | exact rng64 (by omega) (by omega) | omega | (dsimp only; omega) | (show (_ : Nat) ≤ _; omega) | (simp only [ll1, ll2, ll0]; done) | (simp only [ll1, ll2, ll0]; omega) | (dsimp only; simp only [ll1, ll2, ll0]; omega)))) | exact True.intro | (show _ = _; first | with_reducible rfl | with_reducible assumption | omega | (simp only [ll1, ll2, ll0]; omega) | (skip; done) | exact rfl) | with_reducible assumption | (apply And.intro) | omega | (intro j hj; exact rfl) | fail))
  (repeat' (first | (refine And.intro (fun (hfk : _ = true) => ?_) (fun (hfk : _ = false) => ?_) <;> ((try (first | replace hfk := of_decide_eq_true hfk | replace hfk := of_decide_eq_false hfk | simp only [decide_eq_true_eq, decide_eq_false_iff_not, dh1, dh0, ne_eq, reduceCtorEq] at hfk)); (try (exfalso; first | omega | contradiction | exact Bool.noConfusion (Eq.trans (Eq.symm hfk) (by with_reducible assumption : _ = false)) | exact Bool.noConfusion (Eq.trans (Eq.symm hfk) (by with_reducible assumption : _ = true)))))) | (refine And.intro ?ob ?_; (case ob => (first | exact Chk.mk (by kernel_rfl) | exact True.intro | with_reducible assumption | exact rng64 (by omega) (by omega) | omega | (dsimp only; omega) | (show (_ : Nat) ≤ _; omega) | (simp only [ll1, ll2, ll0]; done) | (simp only [ll1, ll2, ll0]; omega) | (dsimp only; simp only [ll1, ll2, ll0]; omega)))) | exact True.intro | (show _ = _; first | with_reducible rfl | with_reducible assumption | omega | (simp only [ll1, ll2, ll0]; omega) | (skip; done) | exact rfl) | with_reducible assumption | (apply And.intro) | omega | (intro j hj; exact rfl) | fail))
  obtain ⟨b0, b1, b2, b3, hB⟩ : ∃ b0 b1 b2 b3, (R4.mk r0 r1 r2 r3).both (gw ⟨g0, g1, g2, g3⟩) = ⟨b0, b1, b2, b3⟩ := by
    cases (R4.mk r0 r1 r2 r3).both (gw ⟨g0, g1, g2, g3⟩) with | mk a b c d => exact ⟨a, b, c, d, rfl⟩
  refine ⟨[(2, .ptr 0 0), (3, .ptr 1 0), (4, .nils)],
      ⟨2, [(0, some (.cells 75 [.int .i64 g0, .int .i64 g1, .int .i64 g2, .int .i64 g3])), (1, some (.cells 77 [.int .i64 b0, .int .i64 b1, .int .i64 b2, .int .i64 b3]))]⟩, [some 0, some 1], ?_, ?_⟩
  · (repeat' (first | (refine And.intro (fun (hfk : _ = true) => ?_) (fun (hfk : _ = false) => ?_) <;> ((try (first | replace hfk := of_decide_eq_true hfk | replace hfk := of_decide_eq_false hfk | simp only [decide_eq_true_eq, decide_eq_false_iff_not, dh1, dh0, ne_eq, reduceCtorEq] at hfk)); (try (exfalso; first | omega | contradiction | exact Bool.noConfusion (Eq.trans (Eq.symm hfk) (by with_reducible assumption : _ = false)) | exact Bool.noConfusion (Eq.trans (Eq.symm hfk) (by with_reducible assumption : _ = true)))))) | (refine And.intro ?ob ?_; (case ob => (first | exact Chk.mk (by kernel_rfl) | exact True.intro | with_reducible assumption | exact rng64 (by omega) (by omega) | omega | (dsimp only; omega) | (show (_ : Nat) ≤ _; omega) | (simp only [ll1, ll2, ll0]; done) | (simp only [ll1, ll2, ll0]; omega) | (dsimp only; simp only [ll1, ll2, ll0]; omega)))) | exact True.intro | (show _ = _; first | with_reducible rfl | with_reducible assumption | omega | (simp only [ll1, ll2, ll0]; omega) | ((first | exact congrArg R4.x0 hB | exact congrArg R4.y0 hB | exact congrArg R4.x1 hB | exact congrArg R4.y1 hB); done) | exact rfl) | with_reducible assumption | (apply And.intro) | omega | (intro j hj; exact rfl) | fail))
  by_cases hb : (R4.mk b0 b1 b2 b3).empty = true
  · have e : overL ⟨g0, g1, g2, g3⟩ ⟨r0, r1, r2, r3⟩ = [] := if_neg (fun h => by rw [hB, hb] at h; exact absurd h.2 (by decide))
    rw [e]
    (repeat' (first | (refine And.intro (fun (hfk : _ = true) => ?_) (fun (hfk : _ = false) => ?_) <;> ((try (first | replace hfk := of_decide_eq_true hfk | replace hfk := of_decide_eq_false hfk | simp only [decide_eq_true_eq, decide_eq_false_iff_not, dh1, dh0, ne_eq, reduceCtorEq] at hfk)); (try (exfalso; first | omega | contradiction | exact Bool.noConfusion (Eq.trans (Eq.symm hfk) (by with_reducible assumption : _ = false)) | exact Bool.noConfusion (Eq.trans (Eq.symm hfk) (by with_reducible assumption : _ = true)))))) | (refine And.intro ?ob ?_; (case ob => (first | exact Chk.mk (by kernel_rfl) | exact True.intro | with_reducible assumption | exact rng64 (by omega) (by omega) | omega | (dsimp only; omega) | (show (_ : Nat) ≤ _; omega) | (simp only [ll1, ll2, ll0]; done) | (simp only [ll1, ll2, ll0]; omega) | (dsimp only; simp only [ll1, ll2, ll0]; omega)))) | exact True.intro | (show _ = _; first | with_reducible rfl | with_reducible assumption | omega | (simp only [ll1, ll2, ll0]; omega) | (skip; done) | exact rfl) | with_reducible assumption | (apply And.intro) | omega | (intro j hj; exact rfl) | fail))
  have hb : (R4.mk b0 b1 b2 b3).empty = false := Bool.eq_false_iff.2 hb
  obtain ⟨n, X0, X1, Y0, Y1, hO⟩ := ov_num hg (r := ⟨r0, r1, r2, r3⟩) (by rw [hB]; exact hb)
  rw [hB] at hO
  obtain ⟨o1, o2, o3, o4, o5, o6, o7, o8, o9, o10, o11, o12, o13, o14⟩ := hO
  have hbd := R4.bounds hb
  have e : overL ⟨g0, g1, g2, g3⟩ ⟨r0, r1, r2, r3⟩ = blkR n Y0 X0 (X1 - X0 + 1) (Y1 - Y0 + 1) := by
    unfold overL
    rw [if_pos ⟨hg, by rw [hB]; exact hb⟩, hB]
    dsimp only at o11 o12 o13 o14 ⊢
    rw [o11, o12, o13, o14, ← o10]
    congr 1 <;> omega
  rw [e]
  have hgb := gcols_bd ⟨g0, g1, g2, g3⟩
  have hrb := grows_bd ⟨g0, g1, g2, g3⟩
  have hrN := rN_eq hg
  dsimp only at hbd
  obtain ⟨z1, z2, z3, z4, z5, z6⟩ := hbd
  (repeat' (first | (refine And.intro (fun (hfk : _ = true) => ?_) (fun (hfk : _ = false) => ?_) <;> ((try (first | replace hfk := of_decide_eq_true hfk | replace hfk := of_decide_eq_false hfk | simp only [decide_eq_true_eq, decide_eq_false_iff_not, dh1, dh0, ne_eq, reduceCtorEq] at hfk)); (try (exfalso; first | omega | contradiction | exact Bool.noConfusion (Eq.trans (Eq.symm hfk) (by with_reducible assumption : _ = false)) | exact Bool.noConfusion (Eq.trans (Eq.symm hfk) (by with_reducible assumption : _ = true)))))) | (refine And.intro ?ob ?_; (case ob => (first | exact Chk.mk (by kernel_rfl) | exact True.intro | with_reducible assumption | exact rng64 (by omega) (by omega) | omega | (dsimp only; omega) | (show (_ : Nat) ≤ _; omega) | (simp only [ll1, ll2, ll0]; done) | (simp only [ll1, ll2, ll0]; omega) | (dsimp only; simp only [ll1, ll2, ll0]; omega)))) | exact True.intro | (show _ = _; first | with_reducible rfl | with_reducible assumption | omega | (simp only [ll1, ll2, ll0]; omega) | (skip; done) | exact rfl) | with_reducible assumption | (apply And.intro) | omega | (intro j hj; exact rfl) | fail))
  refine ⟨[(4, .nils), (5, .int .i64 ((Y0 * n + X0 : Nat) : Int)), (7, .int .i64 ((Y1 * n + X1 : Nat) : Int)), (9, .int .i64 n)], ⟨0, []⟩, [], ?_, ?_⟩
  · (repeat' (first | (refine And.intro (fun (hfk : _ = true) => ?_) (fun (hfk : _ = false) => ?_) <;> ((try (first | replace hfk := of_decide_eq_true hfk | replace hfk := of_decide_eq_false hfk | simp only [decide_eq_true_eq, decide_eq_false_iff_not, dh1, dh0, ne_eq, reduceCtorEq] at hfk)); (try (exfalso; first | omega | contradiction | exact Bool.noConfusion (Eq.trans (Eq.symm hfk) (by with_reducible assumption : _ = false)) | exact Bool.noConfusion (Eq.trans (Eq.symm hfk) (by with_reducible assumption : _ = true)))))) | (refine And.intro ?ob ?_; (case ob => (first | exact Chk.mk (by kernel_rfl) | exact True.intro | with_reducible assumption | exact rng64 (by omega) (by omega) | omega | (dsimp only; omega) | (show (_ : Nat) ≤ _; omega) | (simp only [ll1, ll2, ll0]; done) | (simp only [ll1, ll2, ll0]; omega) | (dsimp only; simp only [ll1, ll2, ll0]; omega)))) | exact True.intro | (show _ = _; first | with_reducible rfl | with_reducible assumption | omega | (simp only [ll1, ll2, ll0]; omega) | ((first | exact o4 | exact o5 | exact o1); done) | exact rfl) | with_reducible assumption | (apply And.intro) | omega | (intro j hj; exact rfl) | fail))
  obtain ⟨w, hw⟩ : ∃ w, X1 - X0 + 1 = w := ⟨_, rfl⟩
  obtain ⟨h, hh⟩ : ∃ h, Y1 - Y0 + 1 = h := ⟨_, rfl⟩
  rw [hw, hh]
  have dm : ∀ u v : Nat, u < n → ((v * n + u : Nat) : Int).tdiv n = (v : Int) ∧ ((v * n + u : Nat) : Int).tmod n = (u : Int) := fun u v hu => by
    have h1 : (v * n + u) / n = v := by rw [Nat.add_comm, Nat.add_mul_div_right _ _ o2, Nat.div_eq_of_lt hu, Nat.zero_add]
    have h2 : (v * n + u) % n = u := by rw [Nat.add_comm, Nat.add_mul_mod_self_right, Nat.mod_eq_of_lt hu]
    exact ⟨congrArg Int.ofNat h1, congrArg Int.ofNat h2⟩
  obtain ⟨t1, t2⟩ := dm X0 Y0 (by omega)
  obtain ⟨t3, t4⟩ := dm X1 Y1 o7
  clear dm
  have hn1 : n ≤ 32768 := by omega
  have hY1 : Y1 < 32768 := by omega
  clear o1 o4 o5 o10 o11 o12 o13 o14 e hB hb z1 z2 z3 z4 z5 z6 hgb hrb
  (repeat' (first | (refine And.intro (fun (hfk : _ = true) => ?_) (fun (hfk : _ = false) => ?_) <;> ((try (first | replace hfk := of_decide_eq_true hfk | replace hfk := of_decide_eq_false hfk | simp only [decide_eq_true_eq, decide_eq_false_iff_not, dh1, dh0, ne_eq, reduceCtorEq] at hfk)); (try (exfalso; first | omega | contradiction | exact Bool.noConfusion (Eq.trans (Eq.symm hfk) (by with_reducible assumption : _ = false)) | exact Bool.noConfusion (Eq.trans (Eq.symm hfk) (by with_reducible assumption : _ = true)))))) | (refine And.intro ?ob ?_; (case ob => (first | exact Chk.mk (by kernel_rfl) | exact True.intro | with_reducible assumption | exact rng64 (by omega) (by omega) | omega | (dsimp only; omega) | (show (_ : Nat) ≤ _; omega) | (simp only [ll1, ll2, ll0]; done) | (simp only [ll1, ll2, ll0]; omega) | (dsimp only; simp only [ll1, ll2, ll0]; omega)))) | exact True.intro | (show _ = _; first | with_reducible rfl | with_reducible assumption | omega | (simp only [ll1, ll2, ll0]; omega) | (skip; done) | exact rfl) | with_reducible assumption | (apply And.intro) | omega | (intro j hj; exact rfl) | fail))
  refine ⟨Nat, fun (j : Nat) => [(4, .nils), (5, .int .i64 ((Y0 * n + X0 : Nat) : Int)), (7, .int .i64 ((Y1 * n + X1 : Nat) : Int)), (9, .int .i64 n), (10, .sl 0 1 0 (j * w)), (11, .int .i64 ((Y0 : Int) + j))], fun j => ⟨1, [(0, some (.ints 3 .i64 (blkR n Y0 X0 w j)))]⟩, fun j => j ≤ h, fun j => h - j, ⟨0, [none], Nat.zero_le _, ?_⟩, fun j hj => ?_⟩
  · have e0 : 0 = 0 * w := (Nat.zero_mul w).symm
    have e1 : ((Y0 * n + X0 : Nat) : Int).tdiv n = (Y0 : Int) + ((0 : Nat) : Int) := by rw [t1]; omega
    (repeat' (first | (refine And.intro (fun (hfk : _ = true) => ?_) (fun (hfk : _ = false) => ?_) <;> ((try (first | replace hfk := of_decide_eq_true hfk | replace hfk := of_decide_eq_false hfk | simp only [decide_eq_true_eq, decide_eq_false_iff_not, dh1, dh0, ne_eq, reduceCtorEq] at hfk)); (try (exfalso; first | omega | contradiction | exact Bool.noConfusion (Eq.trans (Eq.symm hfk) (by with_reducible assumption : _ = false)) | exact Bool.noConfusion (Eq.trans (Eq.symm hfk) (by with_reducible assumption : _ = true)))))) | (refine And.intro ?ob ?_; (case ob => (first | exact Chk.mk (by kernel_rfl) | exact True.intro | with_reducible assumption | exact rng64 (by omega) (by omega) | omega | (dsimp only; omega) | (show (_ : Nat) ≤ _; omega) | (simp only [ll1, ll2, ll0]; done) | (simp only [ll1, ll2, ll0]; omega) | (dsimp only; simp only [ll1, ll2, ll0]; omega)))) | exact True.intro | (show _ = _; first | with_reducible rfl | with_reducible assumption | omega | (simp only [ll1, ll2, ll0]; omega) | ((first | exact e0 | exact e1); done) | exact rfl) | with_reducible assumption | (apply And.intro) | omega | (intro j hj; exact rfl) | fail))
  have hj : j ≤ h := hj
  have hl := blkR_len n Y0 X0 w j
  have hjw : j * w ≤ 32768 * 32768 := Nat.mul_le_mul (by omega) (by omega)
  by_cases hlt : j < h
  · (repeat' (first | (refine And.intro (fun (hfk : _ = true) => ?_) (fun (hfk : _ = false) => ?_) <;> ((try (first | replace hfk := of_decide_eq_true hfk | replace hfk := of_decide_eq_false hfk | simp only [decide_eq_true_eq, decide_eq_false_iff_not, dh1, dh0, ne_eq, reduceCtorEq] at hfk)); (try (exfalso; first | omega | contradiction | exact Bool.noConfusion (Eq.trans (Eq.symm hfk) (by with_reducible assumption : _ = false)) | exact Bool.noConfusion (Eq.trans (Eq.symm hfk) (by with_reducible assumption : _ = true)))))) | (refine And.intro ?ob ?_; (case ob => (first | exact Chk.mk (by kernel_rfl) | exact True.intro | with_reducible assumption | exact rng64 (by omega) (by omega) | omega | (dsimp only; omega) | (show (_ : Nat) ≤ _; omega) | (simp only [ll1, ll2, ll0]; done) | (simp only [ll1, ll2, ll0]; omega) | (dsimp only; simp only [ll1, ll2, ll0]; omega)))) | exact True.intro | (show _ = _; first | with_reducible rfl | with_reducible assumption | omega | (simp only [ll1, ll2, ll0]; omega) | (skip; done) | exact rfl) | with_reducible assumption | (apply And.intro) | omega | (intro j hj; exact rfl) | fail))
    refine ⟨Nat, fun (i : Nat) => [(4, .nils), (5, .int .i64 ((Y0 * n + X0 : Nat) : Int)), (7, .int .i64 ((Y1 * n + X1 : Nat) : Int)), (9, .int .i64 n), (10, .sl 0 1 0 (j * w + i)), (11, .int .i64 ((Y0 : Int) + j)), (12, .int .i64 ((X0 : Int) + i))], fun i => ⟨1, [(0, some (.ints 3 .i64 (blkP n Y0 X0 w j i)))]⟩, fun i => i ≤ w, fun i => w - i, ⟨0, [some 0], Nat.zero_le _, ?_⟩, fun i hi => ?_⟩
    · have e0 := (blkP_zero n Y0 X0 w j).symm
      have e1 : ((Y0 * n + X0 : Nat) : Int).tmod n = (X0 : Int) + ((0 : Nat) : Int) := by rw [t2]; omega
      (repeat' (first | (refine And.intro (fun (hfk : _ = true) => ?_) (fun (hfk : _ = false) => ?_) <;> ((try (first | replace hfk := of_decide_eq_true hfk | replace hfk := of_decide_eq_false hfk | simp only [decide_eq_true_eq, decide_eq_false_iff_not, dh1, dh0, ne_eq, reduceCtorEq] at hfk)); (try (exfalso; first | omega | contradiction | exact Bool.noConfusion (Eq.trans (Eq.symm hfk) (by with_reducible assumption : _ = false)) | exact Bool.noConfusion (Eq.trans (Eq.symm hfk) (by with_reducible assumption : _ = true)))))) | (refine And.intro ?ob ?_; (case ob => (first | exact Chk.mk (by kernel_rfl) | exact True.intro | with_reducible assumption | exact rng64 (by omega) (by omega) | omega | (dsimp only; omega) | (show (_ : Nat) ≤ _; omega) | (simp only [ll1, ll2, ll0]; done) | (simp only [ll1, ll2, ll0]; omega) | (dsimp only; simp only [ll1, ll2, ll0]; omega)))) | exact True.intro | (show _ = _; first | with_reducible rfl | with_reducible assumption | omega | (simp only [ll1, ll2, ll0]; omega) | ((first | exact e0 | exact e1); done) | exact rfl) | with_reducible assumption | (apply And.intro) | omega | (intro j hj; exact rfl) | fail))
    have hi : i ≤ w := hi
    have hl2 := blkP_len n Y0 X0 w j i
    by_cases hli : i < w
    · have ev : ((Y0 : Int) + j) * n + ((X0 : Int) + i) = (((Y0 + j) * n + (X0 + i) : Nat) : Int) := by push_cast; rfl
      have e0 : blkP n Y0 X0 w j i ++ [((Y0 : Int) + j) * n + ((X0 : Int) + i)] = blkP n Y0 X0 w j (i + 1) := by rw [ev, blkP_succ]
      have em : (Y0 + j) * n ≤ 32768 * 32768 := Nat.mul_le_mul (by omega) (by omega)
      have em2 : ((Y0 : Int) + j) * n = (((Y0 + j) * n : Nat) : Int) := by push_cast; rfl
      have e1 : j * w + i + 1 = j * w + (i + 1) := by omega
      (repeat' (first | (refine And.intro (fun (hfk : _ = true) => ?_) (fun (hfk : _ = false) => ?_) <;> ((try (first | replace hfk := of_decide_eq_true hfk | replace hfk := of_decide_eq_false hfk | simp only [decide_eq_true_eq, decide_eq_false_iff_not, dh1, dh0, ne_eq, reduceCtorEq] at hfk)); (try (exfalso; first | omega | contradiction | exact Bool.noConfusion (Eq.trans (Eq.symm hfk) (by with_reducible assumption : _ = false)) | exact Bool.noConfusion (Eq.trans (Eq.symm hfk) (by with_reducible assumption : _ = true)))))) | (refine And.intro ?ob ?_; (case ob => (first | exact Chk.mk (by kernel_rfl) | exact True.intro | with_reducible assumption | exact rng64 (by omega) (by omega) | omega | (dsimp only; omega) | (show (_ : Nat) ≤ _; omega) | (simp only [ll1, ll2, ll0]; done) | (simp only [ll1, ll2, ll0]; omega) | (dsimp only; simp only [ll1, ll2, ll0]; omega)))) | exact True.intro | (show _ = _; first | with_reducible rfl | with_reducible assumption | omega | (simp only [ll1, ll2, ll0]; omega) | (skip; done) | exact rfl) | with_reducible assumption | (apply And.intro) | omega | (intro j hj; exact rfl) | fail))
      (refine ⟨i + 1, [some 2], ?_, ?mu, ?_⟩; (case mu => ((try dsimp only); omega)))
      · exact hli
      (repeat' (first | (refine And.intro (fun (hfk : _ = true) => ?_) (fun (hfk : _ = false) => ?_) <;> ((try (first | replace hfk := of_decide_eq_true hfk | replace hfk := of_decide_eq_false hfk | simp only [decide_eq_true_eq, decide_eq_false_iff_not, dh1, dh0, ne_eq, reduceCtorEq] at hfk)); (try (exfalso; first | omega | contradiction | exact Bool.noConfusion (Eq.trans (Eq.symm hfk) (by with_reducible assumption : _ = false)) | exact Bool.noConfusion (Eq.trans (Eq.symm hfk) (by with_reducible assumption : _ = true)))))) | (refine And.intro ?ob ?_; (case ob => (first | exact Chk.mk (by kernel_rfl) | exact True.intro | with_reducible assumption | exact rng64 (by omega) (by omega) | omega | (dsimp only; omega) | (show (_ : Nat) ≤ _; omega) | (simp only [ll1, ll2, ll0]; done) | (simp only [ll1, ll2, ll0]; omega) | (dsimp only; simp only [ll1, ll2, ll0]; omega)))) | exact True.intro | (show _ = _; first | with_reducible rfl | with_reducible assumption | omega | (simp only [ll1, ll2, ll0]; omega) | ((first | exact e0 | exact e1); done) | exact rfl) | with_reducible assumption | (apply And.intro) | omega | (intro j hj; exact rfl) | fail))
    · obtain rfl : i = w := by omega
      have e0 := blkP_end n Y0 X0 i j
      have e1 : j * i + i = (j + 1) * i := (Nat.succ_mul j i).symm
      (repeat' (first | (refine And.intro (fun (hfk : _ = true) => ?_) (fun (hfk : _ = false) => ?_) <;> ((try (first | replace hfk := of_decide_eq_true hfk | replace hfk := of_decide_eq_false hfk | simp only [decide_eq_true_eq, decide_eq_false_iff_not, dh1, dh0, ne_eq, reduceCtorEq] at hfk)); (try (exfalso; first | omega | contradiction | exact Bool.noConfusion (Eq.trans (Eq.symm hfk) (by with_reducible assumption : _ = false)) | exact Bool.noConfusion (Eq.trans (Eq.symm hfk) (by with_reducible assumption : _ = true)))))) | (refine And.intro ?ob ?_; (case ob => (first | exact Chk.mk (by kernel_rfl) | exact True.intro | with_reducible assumption | exact rng64 (by omega) (by omega) | omega | (dsimp only; omega) | (show (_ : Nat) ≤ _; omega) | (simp only [ll1, ll2, ll0]; done) | (simp only [ll1, ll2, ll0]; omega) | (dsimp only; simp only [ll1, ll2, ll0]; omega)))) | exact True.intro | (show _ = _; first | with_reducible rfl | with_reducible assumption | omega | (simp only [ll1, ll2, ll0]; omega) | (skip; done) | exact rfl) | with_reducible assumption | (apply And.intro) | omega | (intro j hj; exact rfl) | fail))
      (refine ⟨j + 1, [some 0], ?_, ?mu, ?_⟩; (case mu => ((try dsimp only); omega)))
      · exact hlt
      (repeat' (first | (refine And.intro (fun (hfk : _ = true) => ?_) (fun (hfk : _ = false) => ?_) <;> ((try (first | replace hfk := of_decide_eq_true hfk | replace hfk := of_decide_eq_false hfk | simp only [decide_eq_true_eq, decide_eq_false_iff_not, dh1, dh0, ne_eq, reduceCtorEq] at hfk)); (try (exfalso; first | omega | contradiction | exact Bool.noConfusion (Eq.trans (Eq.symm hfk) (by with_reducible assumption : _ = false)) | exact Bool.noConfusion (Eq.trans (Eq.symm hfk) (by with_reducible assumption : _ = true)))))) | (refine And.intro ?ob ?_; (case ob => (first | exact Chk.mk (by kernel_rfl) | exact True.intro | with_reducible assumption | exact rng64 (by omega) (by omega) | omega | (dsimp only; omega) | (show (_ : Nat) ≤ _; omega) | (simp only [ll1, ll2, ll0]; done) | (simp only [ll1, ll2, ll0]; omega) | (dsimp only; simp only [ll1, ll2, ll0]; omega)))) | exact True.intro | (show _ = _; first | with_reducible rfl | with_reducible assumption | omega | (simp only [ll1, ll2, ll0]; omega) | ((first | exact e0 | exact e1); done) | exact rfl) | with_reducible assumption | (apply And.intro) | omega | (intro j hj; exact rfl) | fail))
  · obtain rfl : j = h := by omega
    have et : List.take (j * w) (List.drop 0 (blkR n Y0 X0 w j)) = blkR n Y0 X0 w j := by rw [List.drop_zero, List.take_of_length_le (by omega)]
    (repeat' (first | (refine And.intro (fun (hfk : _ = true) => ?_) (fun (hfk : _ = false) => ?_) <;> ((try (first | replace hfk := of_decide_eq_true hfk | replace hfk := of_decide_eq_false hfk | simp only [decide_eq_true_eq, decide_eq_false_iff_not, dh1, dh0, ne_eq, reduceCtorEq] at hfk)); (try (exfalso; first | omega | contradiction | exact Bool.noConfusion (Eq.trans (Eq.symm hfk) (by with_reducible assumption : _ = false)) | exact Bool.noConfusion (Eq.trans (Eq.symm hfk) (by with_reducible assumption : _ = true)))))) | (refine And.intro ?ob ?_; (case ob => (first | exact Chk.mk (by kernel_rfl) | exact True.intro | with_reducible assumption | exact rng64 (by omega) (by omega) | omega | (dsimp only; omega) | (show (_ : Nat) ≤ _; omega) | (simp only [ll1, ll2, ll0]; done) | (simp only [ll1, ll2, ll0]; omega) | (dsimp only; simp only [ll1, ll2, ll0]; omega)))) | exact True.intro | (show _ = _; first | with_reducible rfl | with_reducible assumption | omega | (simp only [ll1, ll2, ll0]; omega) | ((exact et); done) | exact rfl) | with_reducible assumption | (apply And.intro) | omega | (intro j hj; exact rfl) | fail))
end Go.Proofs.Ytpgikaeddhaiiaa
