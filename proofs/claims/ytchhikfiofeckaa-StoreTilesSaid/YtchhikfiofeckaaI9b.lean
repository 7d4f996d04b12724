
/- Parts of images that are there: what the layer img's Crop and the document's make. No condition. -/
import Derived.Test.YtchhikfiofeckaaI9
namespace Go.Proofs.Ytchhikfiofeckaa
open Go Go.RowKit
set_option linter.unusedVariables false
set_option linter.unusedSimpArgs false
set_option maxRecDepth 100000

theorem CropOK.fit {w h c : Int} {p : List Int} {r : R4} (H : CropOK w h c p r) {k : Nat} (hk : (k : Int) ≤ r.y1 - r.y0) : k * cropN c r ≤ 16777216 := by
  have b := H.b
  have y := fits_inv H.f
  have n0 : 0 ≤ (r.x1 - r.x0) * c := Int.mul_nonneg (by omega) (by omega)
  have n1 : (cropN c r : Int) = (r.x1 - r.x0) * c := by unfold cropN; omega
  have a1 : (r.x1 - r.x0) * (r.y1 - r.y0) ≤ w * h := Int.mul_le_mul (by omega) (by omega) (by omega) (by omega)
  have a2 : (r.x1 - r.x0) * (r.y1 - r.y0) * c ≤ w * h * c := Int.mul_le_mul_of_nonneg_right a1 (by omega)
  have a3 : (k : Int) * ((r.x1 - r.x0) * c) ≤ (r.y1 - r.y0) * ((r.x1 - r.x0) * c) := Int.mul_le_mul_of_nonneg_right hk n0
  have a4 : (r.y1 - r.y0) * ((r.x1 - r.x0) * c) = (r.x1 - r.x0) * (r.y1 - r.y0) * c := by rw [Int.mul_comm (r.x1 - r.x0) (r.y1 - r.y0), Int.mul_assoc]
  have a5 : ((k * cropN c r : Nat) : Int) = (k : Int) * ((r.x1 - r.x0) * c) := by rw [Int.natCast_mul, n1]
  omega
abbrev vpl1S : PSpec := fun l => match l with
  | [.agg [.int .i64 w, .int .i64 h, .int .i64 c, .roi .u8 p], .int .i64 x, .int .i64 y, .int .i64 k] => some ([fitsI w h c = 0, inI w h c x y k = true], .tup [.int .i64 (plI w c x y k), .bool true]) | _ => none
theorem vpl1_s : SOK Try.prog 151 vpl1S := by
  refine sok_weak vplace_s fun l obs v h ho => ?_
  (unfold vpl1S at h; split at h; rotate_left; (focus (cases h)); rename_i w hgt c p x y k; simp only [Option.some.injEq, Prod.mk.injEq] at h; obtain ⟨rfl, rfl⟩ := h; simp only [List.mem_cons, List.not_mem_nil, or_false, forall_eq_or_imp, forall_eq, false_implies, implies_true] at ho)
  obtain ⟨h1, h2⟩ := ho
  refine ⟨[fitsI w hgt c = 0], by simp [vplS, sM3, h2], ?_⟩
  intro x hx
  simp only [List.mem_cons, List.not_mem_nil, or_false] at hx
  subst hx; exact h1
def cropF : FSpec := fun l es => match l, es with
  | [.agg [.int .i64 w, .int .i64 h, .int .i64 c, .roi .u8 p], .agg [.int .i64 x0, .int .i64 y0, .int .i64 x1, .int .i64 y1]], [] => some ([cropC w h c p.length ⟨x0, y0, x1, y1⟩ = 0],
    .tup [.agg [.int .i64 (x1 - x0), .int .i64 (y1 - y0), .int .i64 c, .sl 0 1 0 ((y1 - y0).toNat * cropN c ⟨x0, y0, x1, y1⟩)], .int .i64 0], [some (.ints 5 .u8 (cropL w c p ⟨x0, y0, x1, y1⟩ (y1 - y0).toNat))])
  | _, _ => none
set_option maxHeartbeats 4000000 in
theorem crop_g : GSOK Try.prog 118 (fG cropF) := by
  refine fok (S := [(91, checkS), (123, sR fun r => .bool r.empty), (150, sRR fun a b => .bool (a.inside b)), (151, vpl1S)]) (G := noG) (pok_cons check_s (pok_cons empty_s (pok_cons inside_s (pok_cons vpl1_s pok_nil)))) noG_ok ⟨Try.func118, by kernel_rfl, by kernel_rfl, by kernel_rfl⟩ fun l es obs v es' h ho => ?_
  (unfold cropF at h; split at h; rotate_left; (focus (cases h)); rename_i w hgt c p x0 y0 x1 y1; simp only [Option.some.injEq, Prod.mk.injEq] at h; obtain ⟨rfl, rfl, rfl⟩ := h; simp only [List.mem_cons, List.not_mem_nil, or_false, forall_eq_or_imp, forall_eq, false_implies, implies_true] at ho)
  have H := crop_ok ho
  have H1 := H.i
  have H2 := H.f
  have H3 := H.e
  have H4 := H.s
  have H5 := H.b
  have H6 := fits_inv H.f
  have H7 := H.l
  dsimp only at H5
  refine ⟨Nat.le_of_ble_eq_true rfl, ?_⟩
  (repeat' (first | (refine And.intro (fun (hfk : _ = true) => ?_) (fun (hfk : _ = false) => ?_) <;> ((try (first | replace hfk := of_decide_eq_true hfk | replace hfk := of_decide_eq_false hfk | simp only [decide_eq_true_eq, decide_eq_false_iff_not, dh1, dh0, ne_eq, reduceCtorEq] at hfk)); (try (exfalso; first | omega | contradiction | exact Bool.noConfusion (Eq.trans (Eq.symm hfk) (by with_reducible assumption : _ = false)) | exact Bool.noConfusion (Eq.trans (Eq.symm hfk) (by with_reducible assumption : _ = true)))))) | (refine And.intro ?ob ?_; (case ob => (first | exact Chk.mk (by kernel_rfl) | exact True.intro | with_reducible assumption | exact rng64 (by omega) (by omega) | omega | (dsimp only; omega) | (show (_ : Nat) ≤ _; omega) | (simp only [ll1, ll2, ll0]; done) | (simp only [ll1, ll2, ll0]; omega) | (dsimp only; simp only [ll1, ll2, ll0]; omega)))) | exact True.intro | (show _ = _; first | with_reducible rfl | with_reducible assumption | omega | (simp only [ll1, ll2, ll0]; omega) | (skip; done) | exact rfl) | with_reducible assumption | (apply And.intro) | omega | (intro j hj; exact rfl) | fail))
  refine ⟨Nat, fun i => [(2, .ptr 0 0), (3, .ptr 1 0), (4, .ptr 2 0), (5, .int .i64 0), (7, .ptr 3 0), (8, .fn 151 1 [.agg [.int .i64 w, .int .i64 hgt, .int .i64 c, .roi .u8 p]]), (9, .int .i64 (y0 + (i : Int)))],
      fun i => ⟨5, [(0, some (.cells 26 [.int .i64 w, .int .i64 hgt, .int .i64 c, .roi .u8 p])), (1, some (.cells 86 [.int .i64 x0, .int .i64 y0, .int .i64 x1, .int .i64 y1])), (2, some (.cells 26 [.int .i64 0, .int .i64 0, .int .i64 0, .nils])), (3, some (.cells 26 [.int .i64 (x1 - x0), .int .i64 (y1 - y0), .int .i64 c, .sl 4 1 0 (i * cropN c ⟨x0, y0, x1, y1⟩)])), (4, some (.ints 5 .u8 (cropL w c p ⟨x0, y0, x1, y1⟩ i)))]⟩,
      fun i => i ≤ (y1 - y0).toNat, fun i => (y1 - y0).toNat - i, ⟨0, [some 0, some 1, some 2, some 3, none], by omega, ?_⟩, fun i hi => ?_⟩
  · (repeat' (first | (refine And.intro (fun (hfk : _ = true) => ?_) (fun (hfk : _ = false) => ?_) <;> ((try (first | replace hfk := of_decide_eq_true hfk | replace hfk := of_decide_eq_false hfk | simp only [decide_eq_true_eq, decide_eq_false_iff_not, dh1, dh0, ne_eq, reduceCtorEq] at hfk)); (try (exfalso; first | omega | contradiction | exact Bool.noConfusion (Eq.trans (Eq.symm hfk) (by with_reducible assumption : _ = false)) | exact Bool.noConfusion (Eq.trans (Eq.symm hfk) (by with_reducible assumption : _ = true)))))) | (refine And.intro ?ob ?_; (case ob => (first | exact Chk.mk (by kernel_rfl) | exact True.intro | with_reducible assumption | exact rng64 (by omega) (by omega) | omega | (dsimp only; omega) | (show (_ : Nat) ≤ _; omega) | (simp only [ll1, ll2, ll0]; done) | (simp only [ll1, ll2, ll0]; omega) | (dsimp only; simp only [ll1, ll2, ll0]; omega)))) | exact True.intro | (show _ = _; first | with_reducible rfl | with_reducible assumption | omega | (simp only [ll1, ll2, ll0]; omega) | (simp; done) | exact rfl) | with_reducible assumption | (apply And.intro) | omega | (intro j hj; exact rfl) | fail))
  have hi : i ≤ (y1 - y0).toNat := hi
  have cl := H.len i (by dsimp only; omega)
  refine ⟨fun hy => ?_, fun hy => ?_⟩
  · replace hy := of_decide_eq_true hy
    obtain ⟨i1, i2, p1, p2, p3, p4⟩ := H.row (k := i) (by dsimp only; omega)
    have ft := H.fit (k := i + 1) (by dsimp only; omega)
    have ps := H.len (i + 1) (by dsimp only; omega)
    rw [Nat.add_mul, Nat.one_mul] at ps ft
    dsimp only at i1 i2 p1 p2 p4
    have e1 : plI w c x0 (y0 + ↑i) 0 = (cropP w c ⟨x0, y0, x1, y1⟩ i : Int) := p1
    have e2 : (plI w c x0 (y0 + ↑i) 0).toNat = cropP w c ⟨x0, y0, x1, y1⟩ i := by rw [e1]; rfl
    have e3 : (plI w c x0 (y0 + ↑i) 0 + (x1 - x0) * c).toNat = cropP w c ⟨x0, y0, x1, y1⟩ i + cropN c ⟨x0, y0, x1, y1⟩ := by rw [e1, p4]; omega
    have e4 : (List.drop (cropP w c ⟨x0, y0, x1, y1⟩ i) (List.take (cropP w c ⟨x0, y0, x1, y1⟩ i + cropN c ⟨x0, y0, x1, y1⟩) p)).length = cropN c ⟨x0, y0, x1, y1⟩ := by
      simp only [List.length_drop, List.length_take]; omega
    have e5 := e4
    rw [← e3, ← e2] at e5
    have z : (i + 1) * cropN c ⟨x0, y0, x1, y1⟩ = i * cropN c ⟨x0, y0, x1, y1⟩ + cropN c ⟨x0, y0, x1, y1⟩ := by rw [Nat.add_mul, Nat.one_mul]
    (repeat' (first | (refine And.intro (fun (hfk : _ = true) => ?_) (fun (hfk : _ = false) => ?_) <;> ((try (first | replace hfk := of_decide_eq_true hfk | replace hfk := of_decide_eq_false hfk | simp only [decide_eq_true_eq, decide_eq_false_iff_not, dh1, dh0, ne_eq, reduceCtorEq] at hfk)); (try (exfalso; first | omega | contradiction | exact Bool.noConfusion (Eq.trans (Eq.symm hfk) (by with_reducible assumption : _ = false)) | exact Bool.noConfusion (Eq.trans (Eq.symm hfk) (by with_reducible assumption : _ = true)))))) | (refine And.intro ?ob ?_; (case ob => (first | exact Chk.mk (by kernel_rfl) | exact True.intro | with_reducible assumption | exact rng64 (by omega) (by omega) | omega | (dsimp only; omega) | (show (_ : Nat) ≤ _; omega) | (simp only [ll1, ll2, ll0]; done) | (simp only [ll1, ll2, ll0]; omega) | (dsimp only; simp only [ll1, ll2, ll0]; omega)))) | exact True.intro | (show _ = _; first | with_reducible rfl | with_reducible assumption | omega | (simp only [ll1, ll2, ll0]; omega) | (skip; done) | exact rfl) | with_reducible assumption | (apply And.intro) | omega | (intro j hj; exact rfl) | fail))
    (refine ⟨i + 1, [some 0, some 1, some 2, some 3, some 5], ?_, ?mu, ?_⟩; (case mu => ((try dsimp only); omega)))
    · show i + 1 ≤ _; omega
    (repeat' (first | (refine And.intro ?_ ?_) | exact True.intro | (show _ = _; with_reducible rfl) | exact Chk.mk (by kernel_rfl)))
    · show (_ : Int) = _; omega
    · show (_ : Nat) = _; omega
    · show _ = _; rw [e2, e3]; rfl
  · obtain rfl : i = (y1 - y0).toNat := by have := of_decide_eq_false hy; omega
    (repeat' (first | (refine And.intro (fun (hfk : _ = true) => ?_) (fun (hfk : _ = false) => ?_) <;> ((try (first | replace hfk := of_decide_eq_true hfk | replace hfk := of_decide_eq_false hfk | simp only [decide_eq_true_eq, decide_eq_false_iff_not, dh1, dh0, ne_eq, reduceCtorEq] at hfk)); (try (exfalso; first | omega | contradiction | exact Bool.noConfusion (Eq.trans (Eq.symm hfk) (by with_reducible assumption : _ = false)) | exact Bool.noConfusion (Eq.trans (Eq.symm hfk) (by with_reducible assumption : _ = true)))))) | (refine And.intro ?ob ?_; (case ob => (first | exact Chk.mk (by kernel_rfl) | exact True.intro | with_reducible assumption | exact rng64 (by omega) (by omega) | omega | (dsimp only; omega) | (show (_ : Nat) ≤ _; omega) | (simp only [ll1, ll2, ll0]; done) | (simp only [ll1, ll2, ll0]; omega) | (dsimp only; simp only [ll1, ll2, ll0]; omega)))) | exact True.intro | (show _ = _; first | with_reducible rfl | with_reducible assumption | omega | (simp only [ll1, ll2, ll0]; omega) | (skip; done) | exact rfl) | with_reducible assumption | (apply And.intro) | omega | (intro j hj; exact rfl) | (refine ⟨[some 4], ?_⟩) | fail))
set_option maxHeartbeats 4000000 in
theorem rcrop_g : GSOK Try.prog 119 (fG cropF) := by
  refine fok (S := [(22, checkS), (125, sR fun r => .int .i64 r.rarea), (152, sRR fun a b => (a.rboth b).av), (153, allS), (108, rplS)]) (G := glook [(104, fG madeF)]) (pok_cons rcheck7_s (pok_cons rarea_s (pok_cons rboth_s (pok_cons all_s (pok_cons rplace_s pok_nil))))) (gl_cons made_g gl_nil) ⟨Try.func119, by kernel_rfl, by kernel_rfl, by kernel_rfl⟩ fun l es obs v es' h ho => ?_
  (unfold cropF at h; split at h; rotate_left; (focus (cases h)); rename_i w hgt c p x0 y0 x1 y1; simp only [Option.some.injEq, Prod.mk.injEq] at h; obtain ⟨rfl, rfl, rfl⟩ := h; simp only [List.mem_cons, List.not_mem_nil, or_false, forall_eq_or_imp, forall_eq, false_implies, implies_true] at ho)
  have H := crop_ok ho
  have H1 := H.i
  have H2 := H.f
  have H3 := H.a
  have H4 := H.m
  have H4a : (R4.rboth ⟨x0, y0, x1, y1⟩ ⟨0, 0, w, hgt⟩).x0 = x0 := by rw [H4]
  have H4b : (R4.rboth ⟨x0, y0, x1, y1⟩ ⟨0, 0, w, hgt⟩).y0 = y0 := by rw [H4]
  have H4c : (R4.rboth ⟨x0, y0, x1, y1⟩ ⟨0, 0, w, hgt⟩).x1 = x1 := by rw [H4]
  have H4d : (R4.rboth ⟨x0, y0, x1, y1⟩ ⟨0, 0, w, hgt⟩).y1 = y1 := by rw [H4]
  have H5 := H.b
  have H6 := fits_inv H.f
  have H7 := H.l
  dsimp only at H5
  refine ⟨Nat.le_of_ble_eq_true rfl, ?_⟩
  (repeat' (first | (refine And.intro (fun (hfk : _ = true) => ?_) (fun (hfk : _ = false) => ?_) <;> ((try (first | replace hfk := of_decide_eq_true hfk | replace hfk := of_decide_eq_false hfk | simp only [decide_eq_true_eq, decide_eq_false_iff_not, dh1, dh0, ne_eq, reduceCtorEq] at hfk)); (try (exfalso; first | omega | contradiction | exact Bool.noConfusion (Eq.trans (Eq.symm hfk) (by with_reducible assumption : _ = false)) | exact Bool.noConfusion (Eq.trans (Eq.symm hfk) (by with_reducible assumption : _ = true)))))) | (refine And.intro ?ob ?_; (case ob => (first | exact Chk.mk (by kernel_rfl) | exact True.intro | with_reducible assumption | exact rng64 (by omega) (by omega) | omega | (dsimp only; omega) | (show (_ : Nat) ≤ _; omega) | (simp only [ll1, ll2, ll0]; done) | (simp only [ll1, ll2, ll0]; omega) | (dsimp only; simp only [ll1, ll2, ll0]; omega)))) | exact True.intro | (show _ = _; first | with_reducible rfl | with_reducible assumption | omega | (simp only [ll1, ll2, ll0]; omega) | (skip; done) | exact rfl) | with_reducible assumption | (apply And.intro) | omega | (intro j hj; exact rfl) | fail))
  refine ⟨Nat, fun i => [(2, .ptr 0 0), (3, .ptr 1 0), (4, .ptr 2 0), (5, .int .i64 0), (7, .sl 3 1 0 (i * cropN c ⟨x0, y0, x1, y1⟩)), (8, .int .i64 (y0 + (i : Int)))],
      fun i => ⟨4, [(0, some (.cells 26 [.int .i64 w, .int .i64 hgt, .int .i64 c, .roi .u8 p])), (1, some (.cells 86 [.int .i64 x0, .int .i64 y0, .int .i64 x1, .int .i64 y1])), (2, some (.cells 26 [.int .i64 0, .int .i64 0, .int .i64 0, .nils])), (3, some (.ints 5 .u8 (cropL w c p ⟨x0, y0, x1, y1⟩ i)))]⟩,
      fun i => i ≤ (y1 - y0).toNat, fun i => (y1 - y0).toNat - i, ⟨0, [some 0, some 1, some 2, none], by omega, ?_⟩, fun i hi => ?_⟩
  · (repeat' (first | (refine And.intro (fun (hfk : _ = true) => ?_) (fun (hfk : _ = false) => ?_) <;> ((try (first | replace hfk := of_decide_eq_true hfk | replace hfk := of_decide_eq_false hfk | simp only [decide_eq_true_eq, decide_eq_false_iff_not, dh1, dh0, ne_eq, reduceCtorEq] at hfk)); (try (exfalso; first | omega | contradiction | exact Bool.noConfusion (Eq.trans (Eq.symm hfk) (by with_reducible assumption : _ = false)) | exact Bool.noConfusion (Eq.trans (Eq.symm hfk) (by with_reducible assumption : _ = true)))))) | (refine And.intro ?ob ?_; (case ob => (first | exact Chk.mk (by kernel_rfl) | exact True.intro | with_reducible assumption | exact rng64 (by omega) (by omega) | omega | (dsimp only; omega) | (show (_ : Nat) ≤ _; omega) | (simp only [ll1, ll2, ll0]; done) | (simp only [ll1, ll2, ll0]; omega) | (dsimp only; simp only [ll1, ll2, ll0]; omega)))) | exact True.intro | (show _ = _; first | with_reducible rfl | with_reducible assumption | omega | (simp only [ll1, ll2, ll0]; omega) | (simp; done) | exact rfl) | with_reducible assumption | (apply And.intro) | omega | (intro j hj; exact rfl) | fail))
  have hi : i ≤ (y1 - y0).toNat := hi
  have cl := H.len i (by dsimp only; omega)
  refine ⟨fun hy => ?_, fun hy => ?_⟩
  · replace hy := of_decide_eq_true hy
    obtain ⟨i1, i2, p1, p2, p3, p4⟩ := H.row (k := i) (by dsimp only; omega)
    have ft := H.fit (k := i + 1) (by dsimp only; omega)
    have ps := H.len (i + 1) (by dsimp only; omega)
    rw [Nat.add_mul, Nat.one_mul] at ps ft
    dsimp only at i1 i2 p1 p2 p4
    have e1 : rplI w hgt c p.length x0 (y0 + ↑i) 0 = (cropP w c ⟨x0, y0, x1, y1⟩ i : Int) := by unfold rplI; rw [if_pos ⟨H1, i1⟩]; exact p1
    have e1' : rplI w hgt c p.length (x1 - 1) (y0 + ↑i) 0 + c = (cropP w c ⟨x0, y0, x1, y1⟩ i + cropN c ⟨x0, y0, x1, y1⟩ : Nat) := by unfold rplI; rw [if_pos ⟨H1, i2⟩]; exact p2
    have e2 : (rplI w hgt c p.length x0 (y0 + ↑i) 0).toNat = cropP w c ⟨x0, y0, x1, y1⟩ i := by rw [e1]; rfl
    have e3 : (rplI w hgt c p.length (x1 - 1) (y0 + ↑i) 0 + c).toNat = cropP w c ⟨x0, y0, x1, y1⟩ i + cropN c ⟨x0, y0, x1, y1⟩ := by rw [e1']; rfl
    have e4 : (List.drop (cropP w c ⟨x0, y0, x1, y1⟩ i) (List.take (cropP w c ⟨x0, y0, x1, y1⟩ i + cropN c ⟨x0, y0, x1, y1⟩) p)).length = cropN c ⟨x0, y0, x1, y1⟩ := by
      simp only [List.length_drop, List.length_take]; omega
    have e5 := e4
    rw [← e3, ← e2] at e5
    have z : (i + 1) * cropN c ⟨x0, y0, x1, y1⟩ = i * cropN c ⟨x0, y0, x1, y1⟩ + cropN c ⟨x0, y0, x1, y1⟩ := by rw [Nat.add_mul, Nat.one_mul]
    (repeat' (first | (refine And.intro (fun (hfk : _ = true) => ?_) (fun (hfk : _ = false) => ?_) <;> ((try (first | replace hfk := of_decide_eq_true hfk | replace hfk := of_decide_eq_false hfk | simp only [decide_eq_true_eq, decide_eq_false_iff_not, dh1, dh0, ne_eq, reduceCtorEq] at hfk)); (try (exfalso; first | omega | contradiction | exact Bool.noConfusion (Eq.trans (Eq.symm hfk) (by with_reducible assumption : _ = false)) | exact Bool.noConfusion (Eq.trans (Eq.symm hfk) (by with_reducible assumption : _ = true)))))) | (refine And.intro ?ob ?_; (case ob => (first | exact Chk.mk (by kernel_rfl) | exact True.intro | with_reducible assumption | exact rng64 (by omega) (by omega) | omega | (dsimp only; omega) | (show (_ : Nat) ≤ _; omega) | (simp only [ll1, ll2, ll0]; done) | (simp only [ll1, ll2, ll0]; omega) | (dsimp only; simp only [ll1, ll2, ll0]; omega)))) | exact True.intro | (show _ = _; first | with_reducible rfl | with_reducible assumption | omega | (simp only [ll1, ll2, ll0]; omega) | (skip; done) | exact rfl) | with_reducible assumption | (apply And.intro) | omega | (intro j hj; exact rfl) | fail))
    (refine ⟨i + 1, [some 0, some 1, some 2, some 4], ?_, ?mu, ?_⟩; (case mu => ((try dsimp only); omega)))
    · show i + 1 ≤ _; omega
    (repeat' (first | (refine And.intro ?_ ?_) | exact True.intro | (show _ = _; with_reducible rfl) | exact Chk.mk (by kernel_rfl)))
    · show (_ : Nat) = _; omega
    · show (_ : Int) = _; omega
    · show _ = _; rw [e2, e3]; rfl
  · obtain rfl : i = (y1 - y0).toNat := by have := of_decide_eq_false hy; omega
    (repeat' (first | (refine And.intro (fun (hfk : _ = true) => ?_) (fun (hfk : _ = false) => ?_) <;> ((try (first | replace hfk := of_decide_eq_true hfk | replace hfk := of_decide_eq_false hfk | simp only [decide_eq_true_eq, decide_eq_false_iff_not, dh1, dh0, ne_eq, reduceCtorEq] at hfk)); (try (exfalso; first | omega | contradiction | exact Bool.noConfusion (Eq.trans (Eq.symm hfk) (by with_reducible assumption : _ = false)) | exact Bool.noConfusion (Eq.trans (Eq.symm hfk) (by with_reducible assumption : _ = true)))))) | (refine And.intro ?ob ?_; (case ob => (first | exact Chk.mk (by kernel_rfl) | exact True.intro | with_reducible assumption | exact rng64 (by omega) (by omega) | omega | (dsimp only; omega) | (show (_ : Nat) ≤ _; omega) | (simp only [ll1, ll2, ll0]; done) | (simp only [ll1, ll2, ll0]; omega) | (dsimp only; simp only [ll1, ll2, ll0]; omega)))) | exact True.intro | (show _ = _; first | with_reducible rfl | with_reducible assumption | omega | (simp only [ll1, ll2, ll0]; omega) | (skip; done) | exact rfl) | with_reducible assumption | (apply And.intro) | omega | (intro j hj; exact rfl) | (first | (refine ⟨[3], ⟨by kernel_rfl⟩, ?_⟩) | (refine ⟨[some 3], ?_⟩)) | fail))
end Go.Proofs.Ytchhikfiofeckaa
