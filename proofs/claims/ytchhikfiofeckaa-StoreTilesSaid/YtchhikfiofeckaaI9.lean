
/- Parts of images: what the layer img's Crop and the document's answer. No condition. -/
import Derived.Test.YtchhikfiofeckaaI8c
import Derived.Test.YtchhikfiofeckaaR6b
import Derived.Test.YtchhikfiofeckaaU
namespace Go.Proofs.Ytchhikfiofeckaa
open Go Go.RowKit
set_option linter.unusedVariables false
set_option linter.unusedSimpArgs false
set_option maxRecDepth 100000

def cropB (w h : Int) (r : R4) : Bool := !r.empty && r.inside ⟨0, 0, w, h⟩
def cropC (w h c n : Int) (r : R4) : Int := if imCheck w h c n ≠ 0 then imCheck w h c n else if cropB w h r = true then 0 else 11
def cropN (c : Int) (r : R4) : Nat := ((r.x1 - r.x0) * c).toNat
def cropP (w c : Int) (r : R4) (k : Nat) : Nat := (((r.y0 + k) * w + r.x0) * c).toNat
def cropL (w c : Int) (p : List Int) (r : R4) : Nat → List Int
  | 0 => []
  | k + 1 => cropL w c p r k ++ (p.take (cropP w c r k + cropN c r)).drop (cropP w c r k)
structure CropOK (w h c : Int) (p : List Int) (r : R4) : Prop where
  i : imCheck w h c p.length = 0
  f : fitsI w h c = 0
  l : (p.length : Int) = w * h * c
  e : r.empty = false
  s : r.inside ⟨0, 0, w, h⟩ = true
  b : 0 ≤ r.x0 ∧ r.x0 < r.x1 ∧ r.x1 ≤ w ∧ 0 ≤ r.y0 ∧ r.y0 < r.y1 ∧ r.y1 ≤ h
  m : r.rboth ⟨0, 0, w, h⟩ = r
  a : r.rarea ≠ 0
theorem crop_ok {w h c : Int} {p : List Int} {r : R4} (hc : cropC w h c p.length r = 0) : CropOK w h c p r := by
  unfold cropC at hc
  split at hc
  · omega
  · rename_i k1
    have k1 : imCheck w h c p.length = 0 := by omega
    split at hc
    · rename_i k2
      simp only [cropB, Bool.and_eq_true, Bool.not_eq_true'] at k2
      have z := check_inv k1
      have y := fits_inv z.1
      have hb : r.both ⟨0, 0, w, h⟩ = r := by
        have := k2.2
        simp only [R4.inside, k2.1, Bool.false_or] at this
        exact (R4.beq_iff _ _).1 this
      have hm := R4.rboth_eq r ⟨0, 0, w, h⟩
      have ha : r.rarea ≠ 0 := by rw [R4.rarea_eq]; exact R4.area_pos k2.1
      refine ⟨k1, z.1, z.2, k2.1, k2.2, ?_, by rw [hm, hb], ha⟩
      have e2 : (R4.mk 0 0 w h).empty = false := (R4.empty_iff _).2 (by dsimp only; omega)
      have hb' := hb
      unfold R4.both at hb'
      simp only [k2.1, e2, Bool.false_eq_true, if_false] at hb'
      have bd := (R4.empty_iff _).1 k2.1
      unfold R4.norm at hb'
      split at hb'
      · have h0 := congrArg R4.x0 hb'
        have h1 := congrArg R4.x1 hb'
        simp at h0 h1
        omega
      · have h0 := congrArg R4.x0 hb'
        have h1 := congrArg R4.x1 hb'
        have h2 := congrArg R4.y0 hb'
        have h3 := congrArg R4.y1 hb'
        simp only at h0 h1 h2 h3
        omega
    · omega
theorem crop_bad {w h c n : Int} {r : R4} (hi : imCheck w h c n = 0) (hc : cropC w h c n r ≠ 0) : cropC w h c n r = 11 ∧ (r.empty = true ∨ r.empty = false ∧ r.inside ⟨0, 0, w, h⟩ = false) ∧ (r.rarea = 0 ∨ r.rarea ≠ 0 ∧ r.rboth ⟨0, 0, w, h⟩ ≠ r) := by
  unfold cropC at hc ⊢
  simp only [hi, ne_eq, not_true_eq_false, if_false] at hc ⊢
  by_cases k : cropB w h r = true
  · simp [k] at hc
  · refine ⟨by simp [k], ?_⟩
    cases he : r.empty with
    | true =>
      refine ⟨.inl rfl, .inl ?_⟩
      rw [R4.rarea_eq, R4.area, if_pos he]
    | false =>
      have hs : r.inside ⟨0, 0, w, h⟩ = false := by
        cases hs : r.inside ⟨0, 0, w, h⟩ with
        | false => rfl
        | true => simp [cropB, he, hs] at k
      refine ⟨.inr ⟨rfl, hs⟩, .inr ⟨by rw [R4.rarea_eq]; exact R4.area_pos he, fun hb => ?_⟩⟩
      rw [R4.rboth_eq] at hb
      simp [R4.inside, he, (R4.beq_iff _ _).2 hb] at hs
/-- Row k of a part. -/
theorem CropOK.row {w h c : Int} {p : List Int} {r : R4} (H : CropOK w h c p r) {k : Nat} (hk : (k : Int) < r.y1 - r.y0) :
    inI w h c r.x0 (r.y0 + k) 0 = true ∧ inI w h c (r.x1 - 1) (r.y0 + k) 0 = true ∧ plI w c r.x0 (r.y0 + k) 0 = (cropP w c r k : Int) ∧ plI w c (r.x1 - 1) (r.y0 + k) 0 + c = (cropP w c r k + cropN c r : Nat) ∧ cropP w c r k + cropN c r ≤ p.length ∧ (r.x1 - r.x0) * c = (cropN c r : Int) := by
  have b := H.b
  have y := fits_inv H.f
  have i1 : inI w h c r.x0 (r.y0 + k) 0 = true := by simp [inI]; omega
  have i2 : inI w h c (r.x1 - 1) (r.y0 + k) 0 = true := by simp [inI]; omega
  have p1 := pl_bd H.f i1
  have p2 := pl_bd H.f i2
  have e0 : 0 ≤ (r.x1 - r.x0) * c := Int.mul_nonneg (by omega) (by omega)
  have e1 : (cropN c r : Int) = (r.x1 - r.x0) * c := by unfold cropN; omega
  have e2 : (cropP w c r k : Int) = ((r.y0 + k) * w + r.x0) * c := by unfold cropP; omega
  have q : plI w c (r.x1 - 1) (r.y0 + k) 0 + c = plI w c r.x0 (r.y0 + k) 0 + (r.x1 - r.x0) * c := by
    unfold plI
    simp only [Int.sub_mul, Int.add_mul, Int.one_mul]; omega
  have e3 : plI w c r.x0 (r.y0 + k) 0 = ((r.y0 + k) * w + r.x0) * c := by unfold plI; omega
  have l := H.l
  refine ⟨i1, i2, by rw [e2, e3], by omega, ?_, e1.symm⟩
  have p3 : (plI w c (r.x1 - 1) (r.y0 + k) 0) + c ≤ w * h * c := by
    have e4 : plI w c (r.x1 - 1) (r.y0 + k) 0 = ((r.y0 + k) * w + (r.x1 - 1)) * c := by unfold plI; omega
    have : ((r.y0 + k) * w + (r.x1 - 1) + 1) * c ≤ w * h * c := Int.mul_le_mul_of_nonneg_right (by omega) (by omega)
    rw [Int.add_mul _ 1, Int.one_mul] at this
    omega
  omega
theorem CropOK.len {w h c : Int} {p : List Int} {r : R4} (H : CropOK w h c p r) : ∀ k : Nat, (k : Int) ≤ r.y1 - r.y0 → (cropL w c p r k).length = k * cropN c r
  | 0, _ => by simp [cropL]
  | k + 1, hk => by
    have ih := H.len k (by omega)
    have rw1 := H.row (k := k) (by omega)
    simp only [cropL, List.length_append, ih, List.length_drop, List.length_take, Nat.add_mul, Nat.one_mul]
    omega
abbrev allS : PSpec := fun l => match l with
  | [.agg [.int .i64 w, .int .i64 h, .int .i64 c, .roi .u8 p]] => some ([], .agg [.int .i64 0, .int .i64 0, .int .i64 w, .int .i64 h]) | _ => none
theorem all_s : SOK Try.prog 153 allS := by
  refine sok_of (C := mkC 0 [] noG) (mkC_ok pok_nil noG_ok) rfl mixed ⟨Try.func153, by kernel_rfl, by kernel_rfl, by kernel_rfl⟩ fun l obs v h ho => ?_
  (unfold allS at h; split at h; rotate_left; (focus (cases h)); rename_i w hgt c p; simp only [Option.some.injEq, Prod.mk.injEq] at h; obtain ⟨rfl, rfl⟩ := h; simp only [List.mem_cons, List.not_mem_nil, or_false, forall_eq_or_imp, forall_eq, false_implies, implies_true] at ho)
  refine ⟨Nat.le_of_ble_eq_true rfl, ?_⟩
  (repeat' (first | (refine And.intro (fun (hfk : _ = true) => ?_) (fun (hfk : _ = false) => ?_) <;> ((try (first | replace hfk := of_decide_eq_true hfk | replace hfk := of_decide_eq_false hfk | simp only [decide_eq_true_eq, decide_eq_false_iff_not, dh1, dh0, ne_eq, reduceCtorEq] at hfk)); (try (exfalso; first | omega | contradiction | exact Bool.noConfusion (Eq.trans (Eq.symm hfk) (by with_reducible assumption : _ = false)) | exact Bool.noConfusion (Eq.trans (Eq.symm hfk) (by with_reducible assumption : _ = true)))))) | (refine And.intro ?ob ?_; (case ob => (first | exact Chk.mk (by kernel_rfl) | exact True.intro | with_reducible assumption | exact rng64 (by omega) (by omega) | omega | (dsimp only; omega) | (show (_ : Nat) ≤ _; omega) | (simp only [ll1, ll2, ll0]; done) | (simp only [ll1, ll2, ll0]; omega) | (dsimp only; simp only [ll1, ll2, ll0]; omega)))) | exact True.intro | (show _ = _; first | with_reducible rfl | with_reducible assumption | omega | (simp only [ll1, ll2, ll0]; omega) | (skip; done) | exact rfl) | with_reducible assumption | (apply And.intro) | omega | (intro j hj; exact rfl) | fail))
abbrev cropBadS : PSpec := fun l => match l with
  | [.agg [.int .i64 w, .int .i64 h, .int .i64 c, .roi .u8 p], .agg [.int .i64 x0, .int .i64 y0, .int .i64 x1, .int .i64 y1]] => some ([cropC w h c p.length ⟨x0, y0, x1, y1⟩ ≠ 0], .tup [imA 0 0 0 [], .int .i64 (cropC w h c p.length ⟨x0, y0, x1, y1⟩)]) | _ => none
set_option maxHeartbeats 4000000 in
theorem cropBad_s : SOK Try.prog 118 cropBadS := by
  refine sok_of (C := mkC 0 [(91, checkS), (123, sR fun r => .bool r.empty), (150, sRR fun a b => .bool (a.inside b))] noG) (mkC_ok (pok_cons check_s (pok_cons empty_s (pok_cons inside_s pok_nil))) noG_ok) rfl mixed ⟨Try.func118, by kernel_rfl, by kernel_rfl, by kernel_rfl⟩ fun l obs v h ho => ?_
  (unfold cropBadS at h; split at h; rotate_left; (focus (cases h)); rename_i w hgt c p x0 y0 x1 y1; simp only [Option.some.injEq, Prod.mk.injEq] at h; obtain ⟨rfl, rfl⟩ := h; simp only [List.mem_cons, List.not_mem_nil, or_false, forall_eq_or_imp, forall_eq, false_implies, implies_true] at ho)
  refine ⟨Nat.le_of_ble_eq_true rfl, ?_⟩
  by_cases k : imCheck w hgt c p.length = 0
  · obtain ⟨e, k2, -⟩ := crop_bad k ho
    rw [e]
    rcases k2 with k2 | ⟨k2, k3⟩
    · (repeat' (first | (refine And.intro (fun (hfk : _ = true) => ?_) (fun (hfk : _ = false) => ?_) <;> ((try (first | replace hfk := of_decide_eq_true hfk | replace hfk := of_decide_eq_false hfk | simp only [decide_eq_true_eq, decide_eq_false_iff_not, dh1, dh0, ne_eq, reduceCtorEq] at hfk)); (try (exfalso; first | omega | contradiction | exact Bool.noConfusion (Eq.trans (Eq.symm hfk) (by with_reducible assumption : _ = false)) | exact Bool.noConfusion (Eq.trans (Eq.symm hfk) (by with_reducible assumption : _ = true)))))) | (refine And.intro ?ob ?_; (case ob => (first | exact Chk.mk (by kernel_rfl) | exact True.intro | with_reducible assumption | exact rng64 (by omega) (by omega) | omega | (dsimp only; omega) | (show (_ : Nat) ≤ _; omega) | (simp only [ll1, ll2, ll0]; done) | (simp only [ll1, ll2, ll0]; omega) | (dsimp only; simp only [ll1, ll2, ll0]; omega)))) | exact True.intro | (show _ = _; first | with_reducible rfl | with_reducible assumption | omega | (simp only [ll1, ll2, ll0]; omega) | (skip; done) | exact rfl) | with_reducible assumption | (apply And.intro) | omega | (intro j hj; exact rfl) | fail))
    · (repeat' (first | (refine And.intro (fun (hfk : _ = true) => ?_) (fun (hfk : _ = false) => ?_) <;> ((try (first | replace hfk := of_decide_eq_true hfk | replace hfk := of_decide_eq_false hfk | simp only [decide_eq_true_eq, decide_eq_false_iff_not, dh1, dh0, ne_eq, reduceCtorEq] at hfk)); (try (exfalso; first | omega | contradiction | exact Bool.noConfusion (Eq.trans (Eq.symm hfk) (by with_reducible assumption : _ = false)) | exact Bool.noConfusion (Eq.trans (Eq.symm hfk) (by with_reducible assumption : _ = true)))))) | (refine And.intro ?ob ?_; (case ob => (first | exact Chk.mk (by kernel_rfl) | exact True.intro | with_reducible assumption | exact rng64 (by omega) (by omega) | omega | (dsimp only; omega) | (show (_ : Nat) ≤ _; omega) | (simp only [ll1, ll2, ll0]; done) | (simp only [ll1, ll2, ll0]; omega) | (dsimp only; simp only [ll1, ll2, ll0]; omega)))) | exact True.intro | (show _ = _; first | with_reducible rfl | with_reducible assumption | omega | (simp only [ll1, ll2, ll0]; omega) | (skip; done) | exact rfl) | with_reducible assumption | (apply And.intro) | omega | (intro j hj; exact rfl) | fail))
  · have e : cropC w hgt c p.length ⟨x0, y0, x1, y1⟩ = imCheck w hgt c p.length := by simp [cropC, k]
    rw [e]
    (repeat' (first | (refine And.intro (fun (hfk : _ = true) => ?_) (fun (hfk : _ = false) => ?_) <;> ((try (first | replace hfk := of_decide_eq_true hfk | replace hfk := of_decide_eq_false hfk | simp only [decide_eq_true_eq, decide_eq_false_iff_not, dh1, dh0, ne_eq, reduceCtorEq] at hfk)); (try (exfalso; first | omega | contradiction | exact Bool.noConfusion (Eq.trans (Eq.symm hfk) (by with_reducible assumption : _ = false)) | exact Bool.noConfusion (Eq.trans (Eq.symm hfk) (by with_reducible assumption : _ = true)))))) | (refine And.intro ?ob ?_; (case ob => (first | exact Chk.mk (by kernel_rfl) | exact True.intro | with_reducible assumption | exact rng64 (by omega) (by omega) | omega | (dsimp only; omega) | (show (_ : Nat) ≤ _; omega) | (simp only [ll1, ll2, ll0]; done) | (simp only [ll1, ll2, ll0]; omega) | (dsimp only; simp only [ll1, ll2, ll0]; omega)))) | exact True.intro | (show _ = _; first | with_reducible rfl | with_reducible assumption | omega | (simp only [ll1, ll2, ll0]; omega) | (skip; done) | exact rfl) | with_reducible assumption | (apply And.intro) | omega | (intro j hj; exact rfl) | fail))
set_option maxHeartbeats 4000000 in
theorem rcropBad_s : SOK Try.prog 119 cropBadS := by
  refine sok_of (C := mkC 0 [(22, checkS), (125, sR fun r => .int .i64 r.rarea), (152, sRR fun a b => (a.rboth b).av), (153, allS)] noG) (mkC_ok (pok_cons rcheck7_s (pok_cons rarea_s (pok_cons rboth_s (pok_cons all_s pok_nil)))) noG_ok) rfl mixed ⟨Try.func119, by kernel_rfl, by kernel_rfl, by kernel_rfl⟩ fun l obs v h ho => ?_
  (unfold cropBadS at h; split at h; rotate_left; (focus (cases h)); rename_i w hgt c p x0 y0 x1 y1; simp only [Option.some.injEq, Prod.mk.injEq] at h; obtain ⟨rfl, rfl⟩ := h; simp only [List.mem_cons, List.not_mem_nil, or_false, forall_eq_or_imp, forall_eq, false_implies, implies_true] at ho)
  refine ⟨Nat.le_of_ble_eq_true rfl, ?_⟩
  by_cases k : imCheck w hgt c p.length = 0
  · obtain ⟨e, -, k2⟩ := crop_bad k ho
    rw [e]
    rcases k2 with k2 | ⟨k2, k3⟩
    · (repeat' (first | (refine And.intro (fun (hfk : _ = true) => ?_) (fun (hfk : _ = false) => ?_) <;> ((try (first | replace hfk := of_decide_eq_true hfk | replace hfk := of_decide_eq_false hfk | simp only [decide_eq_true_eq, decide_eq_false_iff_not, dh1, dh0, ne_eq, reduceCtorEq] at hfk)); (try (exfalso; first | omega | contradiction | exact Bool.noConfusion (Eq.trans (Eq.symm hfk) (by with_reducible assumption : _ = false)) | exact Bool.noConfusion (Eq.trans (Eq.symm hfk) (by with_reducible assumption : _ = true)))))) | (refine And.intro ?ob ?_; (case ob => (first | exact Chk.mk (by kernel_rfl) | exact True.intro | with_reducible assumption | exact rng64 (by omega) (by omega) | omega | (dsimp only; omega) | (show (_ : Nat) ≤ _; omega) | (simp only [ll1, ll2, ll0]; done) | (simp only [ll1, ll2, ll0]; omega) | (dsimp only; simp only [ll1, ll2, ll0]; omega)))) | exact True.intro | (show _ = _; first | with_reducible rfl | with_reducible assumption | omega | (simp only [ll1, ll2, ll0]; omega) | (skip; done) | exact rfl) | with_reducible assumption | (apply And.intro) | omega | (intro j hj; exact rfl) | fail))
    · have k4 : ¬ ((R4.rboth ⟨x0, y0, x1, y1⟩ ⟨0, 0, w, hgt⟩).x0 = x0 ∧ (R4.rboth ⟨x0, y0, x1, y1⟩ ⟨0, 0, w, hgt⟩).y0 = y0 ∧ (R4.rboth ⟨x0, y0, x1, y1⟩ ⟨0, 0, w, hgt⟩).x1 = x1 ∧ (R4.rboth ⟨x0, y0, x1, y1⟩ ⟨0, 0, w, hgt⟩).y1 = y1) := fun ⟨h0, h1, h2, h3⟩ => k3 (R4.ext' h0 h1 h2 h3)
      (repeat' (first | (refine And.intro (fun (hfk : _ = true) => ?_) (fun (hfk : _ = false) => ?_) <;> ((try (first | replace hfk := of_decide_eq_true hfk | replace hfk := of_decide_eq_false hfk | simp only [decide_eq_true_eq, decide_eq_false_iff_not, dh1, dh0, ne_eq, reduceCtorEq] at hfk)); (try (exfalso; first | omega | contradiction | exact Bool.noConfusion (Eq.trans (Eq.symm hfk) (by with_reducible assumption : _ = false)) | exact Bool.noConfusion (Eq.trans (Eq.symm hfk) (by with_reducible assumption : _ = true)))))) | (refine And.intro ?ob ?_; (case ob => (first | exact Chk.mk (by kernel_rfl) | exact True.intro | with_reducible assumption | exact rng64 (by omega) (by omega) | omega | (dsimp only; omega) | (show (_ : Nat) ≤ _; omega) | (simp only [ll1, ll2, ll0]; done) | (simp only [ll1, ll2, ll0]; omega) | (dsimp only; simp only [ll1, ll2, ll0]; omega)))) | exact True.intro | (show _ = _; first | with_reducible rfl | with_reducible assumption | omega | (simp only [ll1, ll2, ll0]; omega) | (skip; done) | exact rfl) | with_reducible assumption | (apply And.intro) | omega | (intro j hj; exact rfl) | fail))
  · have e : cropC w hgt c p.length ⟨x0, y0, x1, y1⟩ = imCheck w hgt c p.length := by simp [cropC, k]
    rw [e]
    (repeat' (first | (refine And.intro (fun (hfk : _ = true) => ?_) (fun (hfk : _ = false) => ?_) <;> ((try (first | replace hfk := of_decide_eq_true hfk | replace hfk := of_decide_eq_false hfk | simp only [decide_eq_true_eq, decide_eq_false_iff_not, dh1, dh0, ne_eq, reduceCtorEq] at hfk)); (try (exfalso; first | omega | contradiction | exact Bool.noConfusion (Eq.trans (Eq.symm hfk) (by with_reducible assumption : _ = false)) | exact Bool.noConfusion (Eq.trans (Eq.symm hfk) (by with_reducible assumption : _ = true)))))) | (refine And.intro ?ob ?_; (case ob => (first | exact Chk.mk (by kernel_rfl) | exact True.intro | with_reducible assumption | exact rng64 (by omega) (by omega) | omega | (dsimp only; omega) | (show (_ : Nat) ≤ _; omega) | (simp only [ll1, ll2, ll0]; done) | (simp only [ll1, ll2, ll0]; omega) | (dsimp only; simp only [ll1, ll2, ll0]; omega)))) | exact True.intro | (show _ = _; first | with_reducible rfl | with_reducible assumption | omega | (simp only [ll1, ll2, ll0]; omega) | (skip; done) | exact rfl) | with_reducible assumption | (apply And.intro) | omega | (intro j hj; exact rfl) | fail))
end Go.Proofs.Ytchhikfiofeckaa
