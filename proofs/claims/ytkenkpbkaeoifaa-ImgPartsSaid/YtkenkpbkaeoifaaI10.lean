
/- A part put back where it was; the law ImgParts. No condition. -/
import Derived.Test.YtkenkpbkaeoifaaI9c
namespace Go.Proofs.Ytkenkpbkaeoifaa
open Go Go.RowKit
set_option linter.unusedVariables false
set_option linter.unusedSimpArgs false
set_option maxRecDepth 100000

theorem cropL_get {w h c : Int} {p : List Int} {r : R4} (H : CropOK w h c p r) (hn : 0 < cropN c r) : ∀ (k : Nat), (k : Int) ≤ r.y1 - r.y0 → ∀ i, i < k * cropN c r → (cropL w c p r k).getD i 0 = p.getD (cropP w c r (i / cropN c r) + i % cropN c r) 0
  | 0, _, i, hi => by omega
  | k + 1, hk, i, hi => by
    have hl := H.len k (by omega)
    have hr := (H.row (k := k) (by omega)).2.2.2.2.1
    rw [Nat.add_mul, Nat.one_mul] at hi
    simp only [cropL, List.getD_eq_getElem?_getD]
    by_cases h1 : i < k * cropN c r
    · rw [List.getElem?_append_left (by omega)]
      have := cropL_get H hn k (by omega) i h1
      simpa only [List.getD_eq_getElem?_getD] using this
    · rw [List.getElem?_append_right (by omega), hl]
      have e1 : i / cropN c r = k := Nat.div_eq_of_lt_le (by omega) (by rw [Nat.add_mul, Nat.one_mul]; omega)
      have e2 : i % cropN c r = i - k * cropN c r := by
        have := Nat.div_add_mod i (cropN c r)
        rw [e1, Nat.mul_comm] at this; omega
      rw [e1, e2, List.getElem?_drop, List.getElem?_take]
      rw [if_pos (by omega)]
theorem set_same {l : List Int} {n : Nat} (h : n < l.length) : l.set n (l.getD n 0) = l := by
  refine list_getD (by simp) fun j hj => ?_
  rw [set_getD h]
  split
  · rename_i e; rw [e]
  · rfl
structure Back (w h c : Int) (p : List Int) (r : R4) : Prop where
  len : (cropL w c p r (r.y1 - r.y0).toNat).length = (r.y1 - r.y0).toNat * cropN c r
  fit : (cropL w c p r (r.y1 - r.y0).toNat).length ≤ 16777216
  pos : 0 < (cropL w c p r (r.y1 - r.y0).toNat).length
  code : pasteC w h c p.length (r.x1 - r.x0) (r.y1 - r.y0) c (cropL w c p r (r.y1 - r.y0).toNat).length r.x0 r.y0 = 0
  same : pasteI w h c p (r.x1 - r.x0) (r.y1 - r.y0) c (cropL w c p r (r.y1 - r.y0).toNat) r.x0 r.y0 = p
theorem CropOK.back {w h c : Int} {p : List Int} {r : R4} (H : CropOK w h c p r) : Back w h c p r := by
  have b := H.b
  have y := fits_inv H.f
  have l := H.l
  have hlen := H.len (r.y1 - r.y0).toNat (by omega)
  have n0 : 0 ≤ (r.x1 - r.x0) * c := Int.mul_nonneg (by omega) (by omega)
  have n1 : (cropN c r : Int) = (r.x1 - r.x0) * c := by unfold cropN; omega
  have n2 : 0 < (r.x1 - r.x0) * c := Int.mul_pos (by omega) (by omega)
  have hn : 0 < cropN c r := by omega
  have a1 : (r.x1 - r.x0) * (r.y1 - r.y0) ≤ w * h := Int.mul_le_mul (by omega) (by omega) (by omega) (by omega)
  have a0 : 0 < (r.x1 - r.x0) * (r.y1 - r.y0) := Int.mul_pos (by omega) (by omega)
  have a2 : (r.x1 - r.x0) * (r.y1 - r.y0) * c ≤ w * h * c := Int.mul_le_mul_of_nonneg_right a1 (by omega)
  have hL : (((r.y1 - r.y0).toNat * cropN c r : Nat) : Int) = (r.x1 - r.x0) * (r.y1 - r.y0) * c := by
    rw [Int.natCast_mul, n1, Int.toNat_of_nonneg (by omega), Int.mul_comm (r.x1 - r.x0) (r.y1 - r.y0), Int.mul_assoc]
  have f2 : fitsI (r.x1 - r.x0) (r.y1 - r.y0) c = 0 := by
    unfold fitsI
    rw [if_neg (by omega), if_neg (by omega), if_neg (by omega)]
  have k2 : imCheck (r.x1 - r.x0) (r.y1 - r.y0) c (cropL w c p r (r.y1 - r.y0).toNat).length = 0 := by
    unfold imCheck
    rw [if_neg (by omega), if_neg (by rw [hlen, hL]; omega)]
  have hc : pasteC w h c p.length (r.x1 - r.x0) (r.y1 - r.y0) c (cropL w c p r (r.y1 - r.y0).toNat).length r.x0 r.y0 = 0 := by
    have k1 := H.i
    unfold pasteC
    rw [if_neg (by omega), if_neg (by omega), if_neg (by omega), if_neg (by omega)]
  have hpos : 0 < (r.y1 - r.y0).toNat * cropN c r := Nat.mul_pos (by omega) hn
  refine ⟨hlen, by omega, by omega, hc, ?_⟩
  rw [paste_eq]
  unfold pasteL
  rw [if_pos hc]
  have key : ∀ i, i ≤ (cropL w c p r (r.y1 - r.y0).toNat).length → stepL p (cropL w c p r (r.y1 - r.y0).toNat) ((r.x1 - r.x0) * c).toNat (baseR w c r.x0 r.y0) i = p := by
    intro i
    induction i with
    | zero => intro _; rfl
    | succ i ih =>
      intro hi
      show (stepL p _ _ _ i).set _ _ = p
      rw [ih (by omega)]
      have hg := cropL_get H hn (r.y1 - r.y0).toNat (by omega) i (by omega)
      rw [hg]
      have hq : i / cropN c r < (r.y1 - r.y0).toNat := by rw [Nat.div_lt_iff_lt_mul hn]; omega
      have hm := Nat.mod_lt i hn
      have hr := (H.row (k := i / cropN c r) (by omega)).2.2.2.2.1
      exact set_same (l := p) (n := cropP w c r (i / cropN c r) + i % cropN c r) (by omega)
  exact key _ (Nat.le_refl _)
set_option maxHeartbeats 4000000 in
theorem walk_ImgParts' (w h c : Int) (p : List Int) (x0 y0 x1 y1 : Int) (W : World) {cl : List Value} (hcl : CRel noN W NoO [imA w h c p, .agg [.int .i64 x0, .int .i64 y0, .int .i64 x1, .int .i64 y1]] cl) :
    Calls Try.prog 9 cl.toArray W fun e W' => e = .returned (.bool true) ∧ Below W.heap.size W W' := by
  by_cases k1 : cropC w h c p.length ⟨x0, y0, x1, y1⟩ = 0
  · refine law_of (C := mkK 0 [(15, fewS), (18, sameS), (49, aliveS)] (glook [(47, fG cropF), (48, fG cropF), (50, fG pasteOF)]) [4, 9, 10])
      (mkK_ok (pok_cons few_s (pok_cons rsame_s (pok_cons alive7_s pok_nil))) (gl_cons crop_g (gl_cons rcrop_g (gl_cons pasteO_g gl_nil)))) rfl ⟨Try.func9, by kernel_rfl, by kernel_rfl, by kernel_rfl⟩ (by exact Nat.le_of_ble_eq_true rfl) ?_ hcl
    have H := crop_ok k1
    have B := H.back
    have B1 := B.len
    have B2 := B.fit
    have B3 := B.pos
    have B4 := B.code
    have B5 := B.same
    dsimp only at B1 B2 B3 B4 B5
    obtain ⟨Q, hQ⟩ : ∃ Q, Q = cropL w c p ⟨x0, y0, x1, y1⟩ (y1 - y0).toNat := ⟨_, rfl⟩
    rw [← hQ] at B1 B2 B3 B4 B5
    have ml : (Q.drop 0).take Q.length = Q := by simp
    have mp : (p.drop 0).take p.length = p := by simp
    (repeat' (first | (refine And.intro (fun (hfk : _ = true) => ?_) (fun (hfk : _ = false) => ?_) <;> ((try (first | replace hfk := of_decide_eq_true hfk | replace hfk := of_decide_eq_false hfk | simp only [decide_eq_true_eq, decide_eq_false_iff_not, Bool.not_eq_true', Bool.not_eq_false', Bool.and_eq_true, Bool.or_eq_true, Bool.and_eq_false_iff, Bool.or_eq_false_iff, Int.not_lt, Int.not_le, ne_eq, Classical.not_not, Bool.true_eq_false, Bool.false_eq_true, or_false, false_or, and_true, true_and, not_true_eq_false, not_false_eq_true, reduceCtorEq] at hfk)); (try (exfalso; first | omega | contradiction | exact Bool.noConfusion (Eq.trans (Eq.symm hfk) (by with_reducible assumption : _ = false)) | exact Bool.noConfusion (Eq.trans (Eq.symm hfk) (by with_reducible assumption : _ = true)))))) | (refine And.intro ?ob ?_; (case ob => (first | exact Chk.mk (by kernel_rfl) | exact True.intro | with_reducible assumption | exact rng64 (by omega) (by omega) | omega | (dsimp only; omega) | (show (_ : Nat) ≤ _; omega) | (simp only [List.length_cons, List.length_nil, List.length_append, List.length_take, List.length_drop, List.length_set, List.length_replicate, List.length_map, List.drop_zero, List.take_zero, Nat.zero_add, Nat.add_zero, Nat.zero_le, Int.natCast_one, Int.mul_one, Int.natCast_zero, Nat.le_refl]; done) | (simp only [List.length_cons, List.length_nil, List.length_append, List.length_take, List.length_drop, List.length_set, List.length_replicate, List.length_map, List.drop_zero, List.take_zero, Nat.zero_add, Nat.add_zero, Nat.zero_le, Int.natCast_one, Int.mul_one, Int.natCast_zero, Nat.le_refl]; omega)))) | exact True.intro | (show _ = _; first | with_reducible rfl | with_reducible assumption | omega | (simp only [List.length_cons, List.length_nil, List.length_append, List.length_take, List.length_drop, List.length_set, List.length_replicate, List.length_map, List.drop_zero, List.take_zero, Nat.zero_add, Nat.add_zero, Nat.zero_le, Int.natCast_one, Int.mul_one, Int.natCast_zero, Nat.le_refl]; omega) | (skip; done) | exact rfl) | with_reducible assumption | (apply And.intro) | omega | (intro j hj; exact rfl) | fail))
    (refine ⟨[], ⟨by kernel_rfl⟩, ?_⟩)
    (repeat' (first | (refine And.intro (fun (hfk : _ = true) => ?_) (fun (hfk : _ = false) => ?_) <;> ((try (first | replace hfk := of_decide_eq_true hfk | replace hfk := of_decide_eq_false hfk | simp only [decide_eq_true_eq, decide_eq_false_iff_not, Bool.not_eq_true', Bool.not_eq_false', Bool.and_eq_true, Bool.or_eq_true, Bool.and_eq_false_iff, Bool.or_eq_false_iff, Int.not_lt, Int.not_le, ne_eq, Classical.not_not, Bool.true_eq_false, Bool.false_eq_true, or_false, false_or, and_true, true_and, not_true_eq_false, not_false_eq_true, reduceCtorEq] at hfk)); (try (exfalso; first | omega | contradiction | exact Bool.noConfusion (Eq.trans (Eq.symm hfk) (by with_reducible assumption : _ = false)) | exact Bool.noConfusion (Eq.trans (Eq.symm hfk) (by with_reducible assumption : _ = true)))))) | (refine And.intro ?ob ?_; (case ob => (first | exact Chk.mk (by kernel_rfl) | exact True.intro | with_reducible assumption | exact rng64 (by omega) (by omega) | omega | (dsimp only; omega) | (show (_ : Nat) ≤ _; omega) | (simp only [List.length_cons, List.length_nil, List.length_append, List.length_take, List.length_drop, List.length_set, List.length_replicate, List.length_map, List.drop_zero, List.take_zero, Nat.zero_add, Nat.add_zero, Nat.zero_le, Int.natCast_one, Int.mul_one, Int.natCast_zero, Nat.le_refl]; done) | (simp only [List.length_cons, List.length_nil, List.length_append, List.length_take, List.length_drop, List.length_set, List.length_replicate, List.length_map, List.drop_zero, List.take_zero, Nat.zero_add, Nat.add_zero, Nat.zero_le, Int.natCast_one, Int.mul_one, Int.natCast_zero, Nat.le_refl]; omega)))) | exact True.intro | (show _ = _; first | with_reducible rfl | with_reducible assumption | omega | (simp only [List.length_cons, List.length_nil, List.length_append, List.length_take, List.length_drop, List.length_set, List.length_replicate, List.length_map, List.drop_zero, List.take_zero, Nat.zero_add, Nat.add_zero, Nat.zero_le, Int.natCast_one, Int.mul_one, Int.natCast_zero, Nat.le_refl]; omega) | (skip; done) | exact rfl) | with_reducible assumption | (apply And.intro) | omega | (intro j hj; exact rfl) | fail))
    (refine ⟨[], ⟨by kernel_rfl⟩, ?_⟩)
    (repeat' (first | (refine And.intro (fun (hfk : _ = true) => ?_) (fun (hfk : _ = false) => ?_) <;> ((try (first | replace hfk := of_decide_eq_true hfk | replace hfk := of_decide_eq_false hfk | simp only [decide_eq_true_eq, decide_eq_false_iff_not, Bool.not_eq_true', Bool.not_eq_false', Bool.and_eq_true, Bool.or_eq_true, Bool.and_eq_false_iff, Bool.or_eq_false_iff, Int.not_lt, Int.not_le, ne_eq, Classical.not_not, Bool.true_eq_false, Bool.false_eq_true, or_false, false_or, and_true, true_and, not_true_eq_false, not_false_eq_true, reduceCtorEq] at hfk)); (try (exfalso; first | omega | contradiction | exact Bool.noConfusion (Eq.trans (Eq.symm hfk) (by with_reducible assumption : _ = false)) | exact Bool.noConfusion (Eq.trans (Eq.symm hfk) (by with_reducible assumption : _ = true)))))) | (refine And.intro ?ob ?_; (case ob => (first | exact Chk.mk (by kernel_rfl) | exact True.intro | with_reducible assumption | exact rng64 (by omega) (by omega) | omega | (dsimp only; omega) | (show (_ : Nat) ≤ _; omega) | (simp only [List.length_cons, List.length_nil, List.length_append, List.length_take, List.length_drop, List.length_set, List.length_replicate, List.length_map, List.drop_zero, List.take_zero, Nat.zero_add, Nat.add_zero, Nat.zero_le, Int.natCast_one, Int.mul_one, Int.natCast_zero, Nat.le_refl]; done) | (simp only [List.length_cons, List.length_nil, List.length_append, List.length_take, List.length_drop, List.length_set, List.length_replicate, List.length_map, List.drop_zero, List.take_zero, Nat.zero_add, Nat.add_zero, Nat.zero_le, Int.natCast_one, Int.mul_one, Int.natCast_zero, Nat.le_refl]; omega)))) | exact True.intro | (show _ = _; first | with_reducible rfl | with_reducible assumption | omega | (simp only [List.length_cons, List.length_nil, List.length_append, List.length_take, List.length_drop, List.length_set, List.length_replicate, List.length_map, List.drop_zero, List.take_zero, Nat.zero_add, Nat.add_zero, Nat.zero_le, Int.natCast_one, Int.mul_one, Int.natCast_zero, Nat.le_refl]; omega) | (skip; done) | exact rfl) | with_reducible assumption | (apply And.intro) | omega | (intro j hj; exact rfl) | fail))
    refine ⟨[(2, .ptr 0 0), (3, .ptr 1 0), (4, .fls), (5, .ptr 3 0), (6, .int .i64 0), (7, .ptr 5 0), (8, .int .i64 0)],
      ⟨6, [(0, some (.cells 25 [.int .i64 w, .int .i64 h, .int .i64 c, .roi .u8 p])), (1, some (.cells 66 [.int .i64 x0, .int .i64 y0, .int .i64 x1, .int .i64 y1])), (2, some (.ints 5 .u8 Q)), (3, some (.cells 25 [.int .i64 (x1 - x0), .int .i64 (y1 - y0), .int .i64 c, .sl 2 1 0 Q.length])), (4, some (.ints 5 .u8 Q)), (5, some (.cells 25 [.int .i64 (x1 - x0), .int .i64 (y1 - y0), .int .i64 c, .sl 4 1 0 Q.length]))]⟩, [some 0, some 1, some 2, some 3, some 4, some 5], ?_, ?_⟩
    · (repeat' (first | (refine And.intro ?_ ?_) | exact True.intro | (show _ = _; with_reducible rfl) | exact Chk.mk (by kernel_rfl)))
      all_goals first | (show _ = _; exact hQ.symm) | (show _ = _; exact B1.symm)
    have sm : sameM (x1 - x0) (y1 - y0) c (List.take Q.length (List.drop 0 Q)) (x1 - x0) (y1 - y0) c (List.take Q.length (List.drop 0 Q)) = true := by simp [sameM]
    (repeat' (first | (refine And.intro (fun (hfk : _ = true) => ?_) (fun (hfk : _ = false) => ?_) <;> ((try (first | replace hfk := of_decide_eq_true hfk | replace hfk := of_decide_eq_false hfk | simp only [decide_eq_true_eq, decide_eq_false_iff_not, Bool.not_eq_true', Bool.not_eq_false', Bool.and_eq_true, Bool.or_eq_true, Bool.and_eq_false_iff, Bool.or_eq_false_iff, Int.not_lt, Int.not_le, ne_eq, Classical.not_not, Bool.true_eq_false, Bool.false_eq_true, or_false, false_or, and_true, true_and, not_true_eq_false, not_false_eq_true, reduceCtorEq] at hfk)); (try (exfalso; first | omega | contradiction | exact Bool.noConfusion (Eq.trans (Eq.symm hfk) (by with_reducible assumption : _ = false)) | exact Bool.noConfusion (Eq.trans (Eq.symm hfk) (by with_reducible assumption : _ = true)))))) | (refine And.intro ?ob ?_; (case ob => (first | exact Chk.mk (by kernel_rfl) | exact True.intro | with_reducible assumption | exact rng64 (by omega) (by omega) | omega | (dsimp only; omega) | (show (_ : Nat) ≤ _; omega) | (simp only [List.length_cons, List.length_nil, List.length_append, List.length_take, List.length_drop, List.length_set, List.length_replicate, List.length_map, List.drop_zero, List.take_zero, Nat.zero_add, Nat.add_zero, Nat.zero_le, Int.natCast_one, Int.mul_one, Int.natCast_zero, Nat.le_refl]; done) | (simp only [List.length_cons, List.length_nil, List.length_append, List.length_take, List.length_drop, List.length_set, List.length_replicate, List.length_map, List.drop_zero, List.take_zero, Nat.zero_add, Nat.add_zero, Nat.zero_le, Int.natCast_one, Int.mul_one, Int.natCast_zero, Nat.le_refl]; omega)))) | exact True.intro | (show _ = _; first | with_reducible rfl | with_reducible assumption | omega | (simp only [List.length_cons, List.length_nil, List.length_append, List.length_take, List.length_drop, List.length_set, List.length_replicate, List.length_map, List.drop_zero, List.take_zero, Nat.zero_add, Nat.add_zero, Nat.zero_le, Int.natCast_one, Int.mul_one, Int.natCast_zero, Nat.le_refl]; omega) | (skip; done) | exact rfl) | with_reducible assumption | (apply And.intro) | omega | (intro j hj; exact rfl) | fail))
    refine ⟨[(2, .ptr 0 0), (3, .ptr 1 0), (4, .fls), (5, .ptr 3 0), (9, .ptr 5 0)],
      ⟨6, [(0, some (.cells 25 [.int .i64 w, .int .i64 h, .int .i64 c, .roi .u8 p])), (1, some (.cells 66 [.int .i64 x0, .int .i64 y0, .int .i64 x1, .int .i64 y1])), (2, some (.ints 5 .u8 Q)), (3, some (.cells 25 [.int .i64 (x1 - x0), .int .i64 (y1 - y0), .int .i64 c, .sl 2 1 0 Q.length])), (4, some (.ints 5 .u8 p)), (5, some (.cells 25 [.int .i64 w, .int .i64 h, .int .i64 c, .sl 4 1 0 p.length]))]⟩, [some 0, some 1, some 2, some 3, some 7, some 8], ?_, ?_⟩
    · (repeat' (first | (refine And.intro ?_ ?_) | exact True.intro | (show _ = _; with_reducible rfl) | exact Chk.mk (by kernel_rfl)))
      all_goals first | (show _ = _; exact Nat.zero_add _) | (show _ = _; exact rfl)
    (repeat' (first | (refine And.intro (fun (hfk : _ = true) => ?_) (fun (hfk : _ = false) => ?_) <;> ((try (first | replace hfk := of_decide_eq_true hfk | replace hfk := of_decide_eq_false hfk | simp only [decide_eq_true_eq, decide_eq_false_iff_not, Bool.not_eq_true', Bool.not_eq_false', Bool.and_eq_true, Bool.or_eq_true, Bool.and_eq_false_iff, Bool.or_eq_false_iff, Int.not_lt, Int.not_le, ne_eq, Classical.not_not, Bool.true_eq_false, Bool.false_eq_true, or_false, false_or, and_true, true_and, not_true_eq_false, not_false_eq_true, reduceCtorEq] at hfk)); (try (exfalso; first | omega | contradiction | exact Bool.noConfusion (Eq.trans (Eq.symm hfk) (by with_reducible assumption : _ = false)) | exact Bool.noConfusion (Eq.trans (Eq.symm hfk) (by with_reducible assumption : _ = true)))))) | (refine And.intro ?ob ?_; (case ob => (first | exact Chk.mk (by kernel_rfl) | exact True.intro | with_reducible assumption | exact rng64 (by omega) (by omega) | omega | (dsimp only; omega) | (show (_ : Nat) ≤ _; omega) | (simp only [List.length_cons, List.length_nil, List.length_append, List.length_take, List.length_drop, List.length_set, List.length_replicate, List.length_map, List.drop_zero, List.take_zero, Nat.zero_add, Nat.add_zero, Nat.zero_le, Int.natCast_one, Int.mul_one, Int.natCast_zero, Nat.le_refl]; done) | (simp only [List.length_cons, List.length_nil, List.length_append, List.length_take, List.length_drop, List.length_set, List.length_replicate, List.length_map, List.drop_zero, List.take_zero, Nat.zero_add, Nat.add_zero, Nat.zero_le, Int.natCast_one, Int.mul_one, Int.natCast_zero, Nat.le_refl]; omega)))) | exact True.intro | (show _ = _; first | with_reducible rfl | with_reducible assumption | omega | (simp only [List.length_cons, List.length_nil, List.length_append, List.length_take, List.length_drop, List.length_set, List.length_replicate, List.length_map, List.drop_zero, List.take_zero, Nat.zero_add, Nat.add_zero, Nat.zero_le, Int.natCast_one, Int.mul_one, Int.natCast_zero, Nat.le_refl]; omega) | (skip; done) | exact rfl) | with_reducible assumption | (apply And.intro) | omega | (intro j hj; exact rfl) | fail))
    (refine ⟨[5, 4, 2], ⟨by kernel_rfl⟩, ?_⟩)
    (repeat' (first | (refine And.intro (fun (hfk : _ = true) => ?_) (fun (hfk : _ = false) => ?_) <;> ((try (first | replace hfk := of_decide_eq_true hfk | replace hfk := of_decide_eq_false hfk | simp only [decide_eq_true_eq, decide_eq_false_iff_not, Bool.not_eq_true', Bool.not_eq_false', Bool.and_eq_true, Bool.or_eq_true, Bool.and_eq_false_iff, Bool.or_eq_false_iff, Int.not_lt, Int.not_le, ne_eq, Classical.not_not, Bool.true_eq_false, Bool.false_eq_true, or_false, false_or, and_true, true_and, not_true_eq_false, not_false_eq_true, reduceCtorEq] at hfk)); (try (exfalso; first | omega | contradiction | exact Bool.noConfusion (Eq.trans (Eq.symm hfk) (by with_reducible assumption : _ = false)) | exact Bool.noConfusion (Eq.trans (Eq.symm hfk) (by with_reducible assumption : _ = true)))))) | (refine And.intro ?ob ?_; (case ob => (first | exact Chk.mk (by kernel_rfl) | exact True.intro | with_reducible assumption | exact rng64 (by omega) (by omega) | omega | (dsimp only; omega) | (show (_ : Nat) ≤ _; omega) | (simp only [List.length_cons, List.length_nil, List.length_append, List.length_take, List.length_drop, List.length_set, List.length_replicate, List.length_map, List.drop_zero, List.take_zero, Nat.zero_add, Nat.add_zero, Nat.zero_le, Int.natCast_one, Int.mul_one, Int.natCast_zero, Nat.le_refl]; done) | (simp only [List.length_cons, List.length_nil, List.length_append, List.length_take, List.length_drop, List.length_set, List.length_replicate, List.length_map, List.drop_zero, List.take_zero, Nat.zero_add, Nat.add_zero, Nat.zero_le, Int.natCast_one, Int.mul_one, Int.natCast_zero, Nat.le_refl]; omega)))) | exact True.intro | (show _ = _; first | with_reducible rfl | with_reducible assumption | omega | (simp only [List.length_cons, List.length_nil, List.length_append, List.length_take, List.length_drop, List.length_set, List.length_replicate, List.length_map, List.drop_zero, List.take_zero, Nat.zero_add, Nat.add_zero, Nat.zero_le, Int.natCast_one, Int.mul_one, Int.natCast_zero, Nat.le_refl]; omega) | (skip; done) | exact rfl) | with_reducible assumption | (apply And.intro) | omega | (intro j hj; exact rfl) | fail))
    refine ⟨[(2, .ptr 0 0), (3, .ptr 1 0), (4, .fls), (5, .ptr 3 0), (9, .ptr 5 0), (10, .int .i64 0)],
      ⟨6, [(0, some (.cells 25 [.int .i64 w, .int .i64 h, .int .i64 c, .roi .u8 p])), (1, some (.cells 66 [.int .i64 x0, .int .i64 y0, .int .i64 x1, .int .i64 y1])), (2, some (.ints 5 .u8 Q)), (3, some (.cells 25 [.int .i64 (x1 - x0), .int .i64 (y1 - y0), .int .i64 c, .sl 2 1 0 Q.length])), (4, some (.ints 5 .u8 p)), (5, some (.cells 25 [.int .i64 w, .int .i64 h, .int .i64 c, .sl 4 1 0 p.length]))]⟩, [some 0, some 1, some 2, some 3, some 4, some 5], ?_, ?_⟩
    · (repeat' (first | (refine And.intro ?_ ?_) | exact True.intro | (show _ = _; with_reducible rfl) | exact Chk.mk (by kernel_rfl)))
      all_goals (show _ = _; exact B5)
    have sm2 : sameM w h c (List.take p.length (List.drop 0 p)) w h c p = true := by rw [mp]; simp [sameM]
    have lp : (List.take p.length (List.drop 0 p)).length = p.length := by rw [mp]
    (repeat' (first | (refine And.intro (fun (hfk : _ = true) => ?_) (fun (hfk : _ = false) => ?_) <;> ((try (first | replace hfk := of_decide_eq_true hfk | replace hfk := of_decide_eq_false hfk | simp only [decide_eq_true_eq, decide_eq_false_iff_not, Bool.not_eq_true', Bool.not_eq_false', Bool.and_eq_true, Bool.or_eq_true, Bool.and_eq_false_iff, Bool.or_eq_false_iff, Int.not_lt, Int.not_le, ne_eq, Classical.not_not, Bool.true_eq_false, Bool.false_eq_true, or_false, false_or, and_true, true_and, not_true_eq_false, not_false_eq_true, reduceCtorEq] at hfk)); (try (exfalso; first | omega | contradiction | exact Bool.noConfusion (Eq.trans (Eq.symm hfk) (by with_reducible assumption : _ = false)) | exact Bool.noConfusion (Eq.trans (Eq.symm hfk) (by with_reducible assumption : _ = true)))))) | (refine And.intro ?ob ?_; (case ob => (first | exact Chk.mk (by kernel_rfl) | exact True.intro | with_reducible assumption | exact rng64 (by omega) (by omega) | omega | (dsimp only; omega) | (show (_ : Nat) ≤ _; omega) | (simp only [List.length_cons, List.length_nil, List.length_append, List.length_take, List.length_drop, List.length_set, List.length_replicate, List.length_map, List.drop_zero, List.take_zero, Nat.zero_add, Nat.add_zero, Nat.zero_le, Int.natCast_one, Int.mul_one, Int.natCast_zero, Nat.le_refl]; done) | (simp only [List.length_cons, List.length_nil, List.length_append, List.length_take, List.length_drop, List.length_set, List.length_replicate, List.length_map, List.drop_zero, List.take_zero, Nat.zero_add, Nat.add_zero, Nat.zero_le, Int.natCast_one, Int.mul_one, Int.natCast_zero, Nat.le_refl]; omega)))) | exact True.intro | (show _ = _; first | with_reducible rfl | with_reducible assumption | omega | (simp only [List.length_cons, List.length_nil, List.length_append, List.length_take, List.length_drop, List.length_set, List.length_replicate, List.length_map, List.drop_zero, List.take_zero, Nat.zero_add, Nat.add_zero, Nat.zero_le, Int.natCast_one, Int.mul_one, Int.natCast_zero, Nat.le_refl]; omega) | (skip; done) | exact rfl) | with_reducible assumption | (apply And.intro) | omega | (intro j hj; exact rfl) | fail))
    exact absurd (And.intro rfl (And.intro rfl (And.intro rfl mp))) (by with_reducible assumption)
  · refine law_of (C := mkC 0 [(15, fewS), (18, sameS), (49, aliveS), (47, cropBadS), (48, cropBadS)] noG)
      (mkC_ok (pok_cons few_s (pok_cons rsame_s (pok_cons alive7_s (pok_cons cropBad_s (pok_cons rcropBad_s pok_nil))))) noG_ok) rfl ⟨Try.func9, by kernel_rfl, by kernel_rfl, by kernel_rfl⟩ (by exact Nat.le_of_ble_eq_true rfl) ?_ hcl
    (repeat' (first | (refine And.intro (fun (hfk : _ = true) => ?_) (fun (hfk : _ = false) => ?_) <;> ((try (first | replace hfk := of_decide_eq_true hfk | replace hfk := of_decide_eq_false hfk | simp only [decide_eq_true_eq, decide_eq_false_iff_not, Bool.not_eq_true', Bool.not_eq_false', Bool.and_eq_true, Bool.or_eq_true, Bool.and_eq_false_iff, Bool.or_eq_false_iff, Int.not_lt, Int.not_le, ne_eq, Classical.not_not, Bool.true_eq_false, Bool.false_eq_true, or_false, false_or, and_true, true_and, not_true_eq_false, not_false_eq_true, reduceCtorEq] at hfk)); (try (exfalso; first | omega | contradiction | exact Bool.noConfusion (Eq.trans (Eq.symm hfk) (by with_reducible assumption : _ = false)) | exact Bool.noConfusion (Eq.trans (Eq.symm hfk) (by with_reducible assumption : _ = true)))))) | (refine And.intro ?ob ?_; (case ob => (first | exact Chk.mk (by kernel_rfl) | exact True.intro | with_reducible assumption | exact rng64 (by omega) (by omega) | omega | (dsimp only; omega) | (show (_ : Nat) ≤ _; omega) | (simp only [List.length_cons, List.length_nil, List.length_append, List.length_take, List.length_drop, List.length_set, List.length_replicate, List.length_map, List.drop_zero, List.take_zero, Nat.zero_add, Nat.add_zero, Nat.zero_le, Int.natCast_one, Int.mul_one, Int.natCast_zero, Nat.le_refl]; done) | (simp only [List.length_cons, List.length_nil, List.length_append, List.length_take, List.length_drop, List.length_set, List.length_replicate, List.length_map, List.drop_zero, List.take_zero, Nat.zero_add, Nat.add_zero, Nat.zero_le, Int.natCast_one, Int.mul_one, Int.natCast_zero, Nat.le_refl]; omega)))) | exact True.intro | (show _ = _; first | with_reducible rfl | with_reducible assumption | omega | (simp only [List.length_cons, List.length_nil, List.length_append, List.length_take, List.length_drop, List.length_set, List.length_replicate, List.length_map, List.drop_zero, List.take_zero, Nat.zero_add, Nat.add_zero, Nat.zero_le, Int.natCast_one, Int.mul_one, Int.natCast_zero, Nat.le_refl]; omega) | (skip; done) | exact rfl) | with_reducible assumption | (apply And.intro) | omega | (intro j hj; exact rfl) | fail))
end Go.Proofs.Ytkenkpbkaeoifaa
