
/- Stores of images: which tile has a place: the law StorePlaces. No condition. -/
import Derived.Test.YtchhikfiofeckaaS41d
namespace Go.Proofs.Ytchhikfiofeckaa
open Go Go.RowKit
set_option linter.unusedVariables false
set_option linter.unusedSimpArgs false
set_option maxRecDepth 100000
set_option maxHeartbeats 4000000

theorem lenOK_of {L : List Im} {r : List AV} {W : World} {cl : List Value} (hc : CRel noN W NoO (imsA L :: r) cl) : LenOK L.length := by
  obtain ⟨h1, h2⟩ := hc
  cases cl with
  | nil => simp at h1
  | cons v cl =>
    have h : Rep noN W NoO (.ro 4 L.length (fun j => (L.getD j Im.z).av)) v := h2 0 _ v rfl rfl
    revert h
    generalize L.length = n
    generalize (fun j => (L.getD j Im.z).av) = get
    intro h
    cases h with
    | ronil => exact ⟨by omega⟩
    | ro _ _ _ b off c vals hn2 hc2 => exact ⟨by unfold maxLen at hc2; omega⟩
abbrev placesS : PSpec := fun l => match l with | [.agg [.int .i64 w, .int .i64 h, .int .i64 c, .roi .u8 p], .int .i64 tw, .int .i64 th] => some ([gcheck ⟨w, h, tw, th⟩ = 0], rectsA (tilesL ⟨w, h, tw, th⟩ (rN ⟨w, h, tw, th⟩))) | _ => none
theorem places41_s : SOK Try.prog 53 placesS := by
  refine sok_of (C := mkC 0 [(114, tilesS)] noG) (mkC_ok (pok_cons tiles_s pok_nil) noG_ok) rfl mixed ⟨Try.func53, by kernel_rfl, by kernel_rfl, by kernel_rfl⟩ fun l obs v h ho => ?_
  (unfold placesS at h; split at h; rotate_left; (focus (cases h)); rename_i w hh c p tw th; simp only [Option.some.injEq, Prod.mk.injEq] at h; obtain ⟨rfl, rfl⟩ := h; simp only [List.mem_cons, List.not_mem_nil, or_false, forall_eq_or_imp, forall_eq, false_implies, implies_true] at ho)
  refine ⟨Nat.le_of_ble_eq_true rfl, ?_⟩
  (repeat' (first | (refine And.intro (fun (hfk : _ = true) => ?_) (fun (hfk : _ = false) => ?_) <;> ((try (first | replace hfk := of_decide_eq_true hfk | replace hfk := of_decide_eq_false hfk | simp only [decide_eq_true_eq, decide_eq_false_iff_not, dh1, dh0, ne_eq, reduceCtorEq] at hfk)); (try (exfalso; first | omega | contradiction | exact Bool.noConfusion (Eq.trans (Eq.symm hfk) (by with_reducible assumption : _ = false)) | exact Bool.noConfusion (Eq.trans (Eq.symm hfk) (by with_reducible assumption : _ = true)))))) | (refine And.intro ?ob ?_; (case ob => (first | exact Chk.mk (by kernel_rfl) | exact True.intro | with_reducible assumption | exact rng64 (by omega) (by omega) | omega | (dsimp only; omega) | (show (_ : Nat) ≤ _; omega) | (simp only [ll1, ll2, ll0]; done) | (simp only [ll1, ll2, ll0]; omega) | (dsimp only; simp only [ll1, ll2, ll0]; omega)))) | exact True.intro | (show _ = _; first | with_reducible rfl | with_reducible assumption | omega | (simp only [ll1, ll2, ll0]; omega) | (skip; done) | exact rfl) | with_reducible assumption | (apply And.intro) | omega | (intro j hj; exact rfl) | fail))
theorem grid_ok {L : List Im} {tw th k : Int} (hs : storeC L tw th = 0) (hk : inL L k = true) : gcheck (stG L tw th k) = 0 ∧ gcheck ⟨(Lm L k.toNat).w, (Lm L k.toNat).h, tw, th⟩ = 0 := by
  obtain ⟨h1, h2, h3, h4, h5⟩ := storeC_ok hs
  obtain ⟨_, _, h6⟩ := imagesC_ok h1
  have hb := inL_iff.1 hk
  obtain ⟨hf, _⟩ := check_inv (h6 k.toNat (by omega)).1
  have hb := fits_inv hf
  rw [stG_in hk]
  have : gcheck ⟨(Lm L k.toNat).w, (Lm L k.toNat).h, tw, th⟩ = 0 := by
    unfold gcheck
    dsimp only
    rw [if_neg (by omega), if_neg (by omega), if_neg (by omega)]
  exact ⟨this, this⟩
def fndB (g : R4) (x y : Int) (i : Nat) : Bool := gin g x y && decide (gof g x y < (i : Int))
def wK (g : R4) (k x y : Int) (i : Nat) : Int := if fndB g x y i = true then k else 0
def wI (g : R4) (x y : Int) (i : Nat) : Int := if fndB g x y i = true then gof g x y else 0
theorem fnd_hit {g : R4} {x y : Int} {i : Nat} (h : gin g x y = true ∧ gof g x y = i) : fndB g x y (i + 1) = true := by
  unfold fndB
  rw [h.1, Bool.true_and]
  exact decide_eq_true (by omega)
theorem fnd_miss {g : R4} {x y : Int} {i : Nat} (h : ¬ (gin g x y = true ∧ gof g x y = i)) : fndB g x y (i + 1) = fndB g x y i := by
  unfold fndB
  cases hg : gin g x y with
  | false => rfl
  | true =>
    rw [Bool.true_and, Bool.true_and]
    have : gof g x y ≠ (i : Int) := fun k => h ⟨hg, k⟩
    exact decide_eq_decide.2 (by omega)
theorem walk_StorePlaces' (L : List Im) (s0 s1 p0 p1 p2 : Int) (W : World) {cl : List Value} (hc : CRel noN W NoO [imsA L, .agg [.int .i64 s0, .int .i64 s1], .agg [.int .i64 p0, .int .i64 p1, .int .i64 p2]] cl) :
    Calls Try.prog 11 cl.toArray W fun e W' => e = .returned (.bool true) ∧ Below W.heap.size W W' := by
  have hL := lenOK_of hc
  by_cases hfew : fewL L = true
  rotate_left
  · refine law_of (C := mkC 0 [(47, sIms L [LenOK L.length] (.bool (fewL L)))] noG)
      (mkC_ok (pok_cons (few41_s L) pok_nil) noG_ok) rfl ⟨Try.func11, by kernel_rfl, by kernel_rfl, by kernel_rfl⟩ (by exact Nat.le_of_ble_eq_true rfl) ?_ hc
    have hfew' : fewL L = false := Bool.eq_false_iff.2 hfew
    (repeat' (first | (refine And.intro (fun (hfk : _ = true) => ?_) (fun (hfk : _ = false) => ?_) <;> ((try (first | replace hfk := of_decide_eq_true hfk | replace hfk := of_decide_eq_false hfk | simp only [decide_eq_true_eq, decide_eq_false_iff_not, dh1, dh0, ne_eq, reduceCtorEq] at hfk)); (try (exfalso; first | omega | contradiction | exact Bool.noConfusion (Eq.trans (Eq.symm hfk) (by with_reducible assumption : _ = false)) | exact Bool.noConfusion (Eq.trans (Eq.symm hfk) (by with_reducible assumption : _ = true)))))) | (refine And.intro ?ob ?_; (case ob => (first | exact Chk.mk (by kernel_rfl) | exact True.intro | with_reducible assumption | exact rng64 (by omega) (by omega) | omega | (dsimp only; omega) | (show (_ : Nat) ≤ _; omega) | (simp only [ll1, ll2, ll0]; done) | (simp only [ll1, ll2, ll0]; omega) | (dsimp only; simp only [ll1, ll2, ll0]; omega)))) | exact True.intro | (show _ = _; first | with_reducible rfl | with_reducible assumption | omega | (simp only [ll1, ll2, ll0]; omega) | (skip; done) | exact rfl) | with_reducible assumption | (apply And.intro) | omega | (intro j hj; exact rfl) | fail))
  have h6 : L.length ≤ 6 := by
    unfold fewL at hfew
    rw [Bool.and_eq_true] at hfew
    exact of_decide_eq_true hfew.2
  by_cases hs : storeC L s0 s1 = 0
  rotate_left
  · refine law_of (C := mkC 0 [(47, sIms L [LenOK L.length] (.bool (fewL L))), (48, newStBad L), (49, tileN), (50, sIms2 L (fun _ _ => [LenOK L.length]) fun tw th => .int .i64 (storeC L tw th)), (51, sN (.bool true))] noG)
      (mkC_ok (pok_cons (few41_s L) (pok_cons (newStBad_s L) (pok_cons tileN_s (pok_cons (rcheck41_s L) (pok_cons alive41_s pok_nil))))) noG_ok) rfl ⟨Try.func11, by kernel_rfl, by kernel_rfl, by kernel_rfl⟩ (by exact Nat.le_of_ble_eq_true rfl) ?_ hc
    (repeat' (first | (refine And.intro (fun (hfk : _ = true) => ?_) (fun (hfk : _ = false) => ?_) <;> ((try (first | replace hfk := of_decide_eq_true hfk | replace hfk := of_decide_eq_false hfk | simp only [decide_eq_true_eq, decide_eq_false_iff_not, dh1, dh0, ne_eq, reduceCtorEq] at hfk)); (try (exfalso; first | omega | contradiction | exact Bool.noConfusion (Eq.trans (Eq.symm hfk) (by with_reducible assumption : _ = false)) | exact Bool.noConfusion (Eq.trans (Eq.symm hfk) (by with_reducible assumption : _ = true)))))) | (refine And.intro ?ob ?_; (case ob => (first | exact Chk.mk (by kernel_rfl) | exact True.intro | with_reducible assumption | exact rng64 (by omega) (by omega) | omega | (dsimp only; omega) | (show (_ : Nat) ≤ _; omega) | (simp only [ll1, ll2, ll0]; done) | (simp only [ll1, ll2, ll0]; omega) | (dsimp only; simp only [ll1, ll2, ll0]; omega)))) | exact True.intro | (show _ = _; first | with_reducible rfl | with_reducible assumption | omega | (simp only [ll1, ll2, ll0]; omega) | (skip; done) | exact rfl) | with_reducible assumption | (apply And.intro) | omega | (intro j hj; exact rfl) | fail))
  refine law_of (C := mkK 0 [(47, sIms L [LenOK L.length] (.bool (fewL L))), (48, newStOk L), (49, tileS41 L), (52, sizeS41 L), (55, tilesS41 L), (50, sIms2 L (fun _ _ => [LenOK L.length]) fun tw th => .int .i64 (storeC L tw th)), (53, placesS), (54, sRII fun r x y => .bool (r.rhas x y)), (51, sN (.bool true))] noG [14])
      (mkK_ok (pok_cons (few41_s L) (pok_cons (newStOk_s L) (pok_cons (tile41_s L) (pok_cons (size41_s L) (pok_cons (tiles41_s L) (pok_cons (rcheck41_s L) (pok_cons places41_s (pok_cons rhas_s (pok_cons alive41_s pok_nil))))))))) noG_ok) rfl ⟨Try.func11, by kernel_rfl, by kernel_rfl, by kernel_rfl⟩ (by exact Nat.le_of_ble_eq_true rfl) ?_ hc
  cases hk : inL L p0 with
  | false =>
    have hk' := inL_not.1 hk
    have eg : stG L s0 s1 p0 = R4.zero := stG_out hk
    have e0 : gin (stG L s0 s1 p0) p1 p2 = false := by rw [eg]; exact gin_zero _ _
    have e1 : tlK (stG L s0 s1 p0) p0 p1 p2 = 0 := if_neg (by rw [e0]; decide)
    have e2 : tlI (stG L s0 s1 p0) p1 p2 = 0 := if_neg (by rw [e0]; decide)
    have e3 : (decide (tlK (stG L s0 s1 p0) p0 p1 p2 = 0) && (decide (tlI (stG L s0 s1 p0) p1 p2 = 0) && true)) = true := by rw [e1, e2]; rfl
    (repeat' (first | (refine And.intro (fun (hfk : _ = true) => ?_) (fun (hfk : _ = false) => ?_) <;> ((try (first | replace hfk := of_decide_eq_true hfk | replace hfk := of_decide_eq_false hfk | simp only [decide_eq_true_eq, decide_eq_false_iff_not, dh1, dh0, ne_eq, reduceCtorEq] at hfk)); (try (exfalso; first | omega | contradiction | exact Bool.noConfusion (Eq.trans (Eq.symm hfk) (by with_reducible assumption : _ = false)) | exact Bool.noConfusion (Eq.trans (Eq.symm hfk) (by with_reducible assumption : _ = true)))))) | (refine And.intro ?ob ?_; (case ob => (first | exact Chk.mk (by kernel_rfl) | exact True.intro | with_reducible assumption | exact rng64 (by omega) (by omega) | omega | (dsimp only; omega) | (show (_ : Nat) ≤ _; omega) | (simp only [ll1, ll2, ll0]; done) | (simp only [ll1, ll2, ll0]; omega) | (dsimp only; simp only [ll1, ll2, ll0]; omega)))) | exact True.intro | (show _ = _; first | with_reducible rfl | with_reducible assumption | omega | (simp only [ll1, ll2, ll0]; omega) | ((first | exact e3 | exact e3.symm); done) | exact rfl) | with_reducible assumption | (apply And.intro) | omega | (intro j hj; exact rfl) | fail))
  | true =>
    have hk' := inL_iff.1 hk
    obtain ⟨g1, g2⟩ := grid_ok hs hk
    have eg : stG L s0 s1 p0 = ⟨(Lm L p0.toNat).w, (Lm L p0.toNat).h, s0, s1⟩ := stG_in hk
    have g3 : gcheck ⟨(L.getD p0.toNat Im.z).w, (L.getD p0.toNat Im.z).h, s0, s1⟩ = 0 := g2
    obtain ⟨G, hG⟩ : ∃ G, stG L s0 s1 p0 = G := ⟨_, rfl⟩
    have hG' : (⟨(L.getD p0.toNat Im.z).w, (L.getD p0.toNat Im.z).h, s0, s1⟩ : R4) = G := eg.symm.trans hG
    have gG : gcheck G = 0 := by rw [← hG]; exact g1
    obtain ⟨T, hT⟩ : ∃ T, tilesL G (rN G) = T := ⟨_, rfl⟩
    have hTl : T.length = rN G * cN G := by rw [← hT]; exact tilesL_len _ _
    have hcnt : gcount (stG L s0 s1 p0) = (T.length : Int) := by rw [hG, hTl, gcount_eq gG]
    have hTb : (T.length : Int) ≤ 1073741824 := by rw [← hcnt]; exact (gcount_bd _).2
    have hof : ∀ m, m < T.length → ((T.getD m .zero).rhas p1 p2 = true ↔ gin G p1 p2 = true ∧ gof G p1 p2 = (m : Int)) := fun m hm => by
      rw [R4.rhas_eq, ← hT]
      exact tile_of gG (by rw [← hTl]; exact hm)
    have hbd : gin G p1 p2 = true → 0 ≤ gof G p1 p2 ∧ gof G p1 p2 < (T.length : Int) := fun h => by rw [← hcnt, hG]; exact gof_bd h
    have hw : szW L p0 = (L.getD p0.toNat Im.z).w := if_pos hk
    have hh : szH L p0 = (L.getD p0.toNat Im.z).h := if_pos hk
    (repeat' (first | (refine And.intro (fun (hfk : _ = true) => ?_) (fun (hfk : _ = false) => ?_) <;> ((try (first | replace hfk := of_decide_eq_true hfk | replace hfk := of_decide_eq_false hfk | simp only [decide_eq_true_eq, decide_eq_false_iff_not, dh1, dh0, ne_eq, reduceCtorEq] at hfk)); (try (exfalso; first | omega | contradiction | exact Bool.noConfusion (Eq.trans (Eq.symm hfk) (by with_reducible assumption : _ = false)) | exact Bool.noConfusion (Eq.trans (Eq.symm hfk) (by with_reducible assumption : _ = true)))))) | (refine And.intro ?ob ?_; (case ob => (first | exact Chk.mk (by kernel_rfl) | exact True.intro | with_reducible assumption | exact rng64 (by omega) (by omega) | omega | (dsimp only; omega) | (show (_ : Nat) ≤ _; omega) | (simp only [ll1, ll2, ll0]; done) | (simp only [ll1, ll2, ll0]; omega) | (dsimp only; simp only [ll1, ll2, ll0]; omega)))) | exact True.intro | (show _ = _; first | with_reducible rfl | with_reducible assumption | omega | (simp only [ll1, ll2, ll0]; omega) | (skip; done) | exact rfl) | with_reducible assumption | (apply And.intro) | omega | (intro j hj; exact rfl) | fail))
    refine ⟨[(0, imsA L), (5, .ptr 0 0), (6, .fls), (7, .rop (.agg [.ro 4 L.length (fun j => (Lm L j).av), .int .i64 s0, .int .i64 s1, .int .i64 0])), (9, .ptr 1 0), (10, .bool (gin G p1 p2)), (12, .int .i64 p0), (13, .int .i64 (szW L p0)), (14, .int .i64 (szH L p0)), (15, rectsA T)],
      ⟨2, [(0, some (.cells 48 [.int .i64 p0, .int .i64 p1, .int .i64 p2])), (1, some (.cells 77 [.int .i64 (tlK G p0 p1 p2), .int .i64 (tlI G p1 p2)]))]⟩, [some 1, some 2], ?_, ?_⟩
    · (repeat' (first | (refine And.intro ?_ ?_) | exact True.intro | (show _ = _; with_reducible rfl) | exact Chk.mk (by kernel_rfl)))
      all_goals first
        | (intro j hj; rfl)
        | exact congrArg (fun g => gin g p1 p2) hG
        | exact congrArg (fun g => tlK g p0 p1 p2) hG
        | exact congrArg (fun g => tlI g p1 p2) hG
        | exact (congrArg (fun g => (tilesL g (rN g)).length) hG').trans (congrArg List.length hT)
        | (intro j hj; exact (congrArg (fun g => ((tilesL g (rN g)).getD j R4.zero).av) hG').trans (congrArg (fun t => (List.getD t j R4.zero).av) hT))
        | rfl
    have f0 : fndB G p1 p2 0 = false := by
      unfold fndB
      cases hgi : gin G p1 p2 with
      | false => rfl
      | true =>
        have := hbd hgi
        rw [Bool.true_and]
        exact decide_eq_false (by omega)
    have k0 : wK G p0 p1 p2 0 = 0 := if_neg (by rw [f0]; decide)
    have i0 : wI G p1 p2 0 = 0 := if_neg (by rw [f0]; decide)
    (repeat' (first | (refine And.intro (fun (hfk : _ = true) => ?_) (fun (hfk : _ = false) => ?_) <;> ((try (first | replace hfk := of_decide_eq_true hfk | replace hfk := of_decide_eq_false hfk | simp only [decide_eq_true_eq, decide_eq_false_iff_not, dh1, dh0, ne_eq, reduceCtorEq] at hfk)); (try (exfalso; first | omega | contradiction | exact Bool.noConfusion (Eq.trans (Eq.symm hfk) (by with_reducible assumption : _ = false)) | exact Bool.noConfusion (Eq.trans (Eq.symm hfk) (by with_reducible assumption : _ = true)))))) | (refine And.intro ?ob ?_; (case ob => (first | exact Chk.mk (by kernel_rfl) | exact True.intro | with_reducible assumption | exact rng64 (by omega) (by omega) | omega | (dsimp only; omega) | (show (_ : Nat) ≤ _; omega) | (simp only [ll1, ll2, ll0]; done) | (simp only [ll1, ll2, ll0]; omega) | (dsimp only; simp only [ll1, ll2, ll0]; omega)))) | exact True.intro | (show _ = _; first | with_reducible rfl | with_reducible assumption | omega | (simp only [ll1, ll2, ll0]; omega) | (skip; done) | exact rfl) | with_reducible assumption | (apply And.intro) | omega | (intro j hj; exact rfl) | fail))
    refine ⟨Nat, fun i => [(0, imsA L), (5, .ptr 0 0), (6, .fls), (7, .rop (.agg [.ro 4 L.length (fun j => (Lm L j).av), .int .i64 s0, .int .i64 s1, .int .i64 0])), (9, .ptr 1 0), (10, .bool (gin G p1 p2)), (12, .int .i64 p0), (13, .int .i64 (szW L p0)), (14, .int .i64 (szH L p0)), (15, rectsA T), (16, .ptr 2 0), (17, .bool (fndB G p1 p2 i)), (100, rectsA T), (101, .int .i64 (T.length : Int)), (102, .int .i64 (i : Int))],
      fun i => ⟨3, [(0, some (.cells 48 [.int .i64 p0, .int .i64 p1, .int .i64 p2])), (1, some (.cells 77 [.int .i64 (tlK G p0 p1 p2), .int .i64 (tlI G p1 p2)])), (2, some (.cells 77 [.int .i64 (wK G p0 p1 p2 i), .int .i64 (wI G p1 p2 i)]))]⟩,
      fun i => i ≤ T.length, fun i => T.length - i, ⟨0, [some 0, some 1, some 2], Nat.zero_le _, ?_⟩, fun i hi => ?_⟩
    · (repeat' (first | (refine And.intro ?_ ?_) | exact True.intro | (show _ = _; with_reducible rfl) | exact Chk.mk (by kernel_rfl)))
      all_goals first | (intro j hj; rfl) | exact f0.symm | exact k0.symm | exact i0.symm | rfl
    have hi : i ≤ T.length := hi
    by_cases hlt : i < T.length
    · by_cases hit : gin G p1 p2 = true ∧ gof G p1 p2 = (i : Int)
      · have hr : (T.getD (i : Int).toNat .zero).rhas p1 p2 = true := (hof i hlt).2 hit
        have f1 := fnd_hit hit
        have k1 : wK G p0 p1 p2 (i + 1) = p0 := if_pos f1
        have i1 : wI G p1 p2 (i + 1) = (i : Int) := (if_pos f1).trans hit.2
        (repeat' (first | (refine And.intro (fun (hfk : _ = true) => ?_) (fun (hfk : _ = false) => ?_) <;> ((try (first | replace hfk := of_decide_eq_true hfk | replace hfk := of_decide_eq_false hfk | simp only [decide_eq_true_eq, decide_eq_false_iff_not, dh1, dh0, ne_eq, reduceCtorEq] at hfk)); (try (exfalso; first | omega | contradiction | exact Bool.noConfusion (Eq.trans (Eq.symm hfk) (by with_reducible assumption : _ = false)) | exact Bool.noConfusion (Eq.trans (Eq.symm hfk) (by with_reducible assumption : _ = true)))))) | (refine And.intro ?ob ?_; (case ob => (first | exact Chk.mk (by kernel_rfl) | exact True.intro | with_reducible assumption | exact rng64 (by omega) (by omega) | omega | (dsimp only; omega) | (show (_ : Nat) ≤ _; omega) | (simp only [ll1, ll2, ll0]; done) | (simp only [ll1, ll2, ll0]; omega) | (dsimp only; simp only [ll1, ll2, ll0]; omega)))) | exact True.intro | (show _ = _; first | with_reducible rfl | with_reducible assumption | omega | (simp only [ll1, ll2, ll0]; omega) | (skip; done) | exact rfl) | with_reducible assumption | (apply And.intro) | omega | (intro j hj; exact rfl) | fail))
        (refine ⟨i + 1, [some 0, some 1, some 2], ?_, ?mu, ?_⟩; (case mu => ((try dsimp only); omega)))
        · exact hlt
        (repeat' (first | (refine And.intro ?_ ?_) | exact True.intro | (show _ = _; with_reducible rfl) | exact Chk.mk (by kernel_rfl)))
        all_goals first | (intro j hj; rfl) | exact f1.symm | exact k1.symm | exact i1.symm | (show (_ : Int) = _; omega) | rfl
      · have hr : (T.getD (i : Int).toNat .zero).rhas p1 p2 = false := Bool.eq_false_iff.2 fun k => hit ((hof i hlt).1 k)
        have f1 := fnd_miss hit
        have k1 : wK G p0 p1 p2 (i + 1) = wK G p0 p1 p2 i := by unfold wK; rw [f1]
        have i1 : wI G p1 p2 (i + 1) = wI G p1 p2 i := by unfold wI; rw [f1]
        (repeat' (first | (refine And.intro (fun (hfk : _ = true) => ?_) (fun (hfk : _ = false) => ?_) <;> ((try (first | replace hfk := of_decide_eq_true hfk | replace hfk := of_decide_eq_false hfk | simp only [decide_eq_true_eq, decide_eq_false_iff_not, dh1, dh0, ne_eq, reduceCtorEq] at hfk)); (try (exfalso; first | omega | contradiction | exact Bool.noConfusion (Eq.trans (Eq.symm hfk) (by with_reducible assumption : _ = false)) | exact Bool.noConfusion (Eq.trans (Eq.symm hfk) (by with_reducible assumption : _ = true)))))) | (refine And.intro ?ob ?_; (case ob => (first | exact Chk.mk (by kernel_rfl) | exact True.intro | with_reducible assumption | exact rng64 (by omega) (by omega) | omega | (dsimp only; omega) | (show (_ : Nat) ≤ _; omega) | (simp only [ll1, ll2, ll0]; done) | (simp only [ll1, ll2, ll0]; omega) | (dsimp only; simp only [ll1, ll2, ll0]; omega)))) | exact True.intro | (show _ = _; first | with_reducible rfl | with_reducible assumption | omega | (simp only [ll1, ll2, ll0]; omega) | (skip; done) | exact rfl) | with_reducible assumption | (apply And.intro) | omega | (intro j hj; exact rfl) | fail))
        (refine ⟨i + 1, [some 0, some 1, some 2], ?_, ?mu, ?_⟩; (case mu => ((try dsimp only); omega)))
        · exact hlt
        (repeat' (first | (refine And.intro ?_ ?_) | exact True.intro | (show _ = _; with_reducible rfl) | exact Chk.mk (by kernel_rfl)))
        all_goals first | (intro j hj; rfl) | exact f1.symm | exact k1.symm | exact i1.symm | (show (_ : Int) = _; omega) | rfl
    · obtain rfl : i = T.length := by omega
      have fN : fndB G p1 p2 T.length = gin G p1 p2 := by
        unfold fndB
        cases hgi : gin G p1 p2 with
        | false => rfl
        | true =>
          rw [Bool.true_and]
          exact decide_eq_true (hbd hgi).2
      have fN' := fN.symm
      have kN : tlK G p0 p1 p2 = wK G p0 p1 p2 T.length := by unfold tlK wK; rw [fN]
      have iN : tlI G p1 p2 = wI G p1 p2 T.length := by unfold tlI wI; rw [fN]
      have c1 : (decide (tlK G p0 p1 p2 = wK G p0 p1 p2 T.length) && (decide (tlI G p1 p2 = wI G p1 p2 T.length) && true)) = true := by rw [decide_eq_true kN, decide_eq_true iN]; rfl
      have c2 : (gin G p1 p2 == fndB G p1 p2 T.length) = true := by rw [fN]; exact beq_self_eq_true _
      (repeat' (first | (refine And.intro (fun (hfk : _ = true) => ?_) (fun (hfk : _ = false) => ?_) <;> ((try (first | replace hfk := of_decide_eq_true hfk | replace hfk := of_decide_eq_false hfk | simp only [decide_eq_true_eq, decide_eq_false_iff_not, dh1, dh0, ne_eq, reduceCtorEq] at hfk)); (try (exfalso; first | omega | contradiction | exact Bool.noConfusion (Eq.trans (Eq.symm hfk) (by with_reducible assumption : _ = false)) | exact Bool.noConfusion (Eq.trans (Eq.symm hfk) (by with_reducible assumption : _ = true)))))) | (refine And.intro ?ob ?_; (case ob => (first | exact Chk.mk (by kernel_rfl) | exact True.intro | with_reducible assumption | exact rng64 (by omega) (by omega) | omega | (dsimp only; omega) | (show (_ : Nat) ≤ _; omega) | (simp only [ll1, ll2, ll0]; done) | (simp only [ll1, ll2, ll0]; omega) | (dsimp only; simp only [ll1, ll2, ll0]; omega)))) | exact True.intro | (show _ = _; first | with_reducible rfl | with_reducible assumption | omega | (simp only [ll1, ll2, ll0]; omega) | ((first | exact c1 | exact c1.symm | exact c2 | exact c2.symm); done) | exact rfl) | with_reducible assumption | (apply And.intro) | omega | (intro j hj; exact rfl) | fail))
end Go.Proofs.Ytchhikfiofeckaa
