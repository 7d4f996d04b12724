
/- Stores of images: tiles, fetched. No condition. -/
import Derived.Test.YtchhikfiofeckaaS41y
import Derived.Test.YtchhikfiofeckaaFTl
import Derived.Test.YtchhikfiofeckaaI9b
namespace Go.Proofs.Ytchhikfiofeckaa
open Go Go.RowKit
set_option linter.unusedVariables false
set_option linter.unusedSimpArgs false
set_option maxRecDepth 100000
set_option maxHeartbeats 4000000

def tC (L : List Im) (tw th k i : Int) : Int := if gis (stG L tw th k) i = true then (Lm L k.toNat).c else 0
def tP (L : List Im) (tw th k i : Int) : List Int := if gis (stG L tw th k) i = true then cropL (Lm L k.toNat).w (Lm L k.toNat).c (Lm L k.toNat).p (gtile (stG L tw th k) i) ((gtile (stG L tw th k) i).y1 - (gtile (stG L tw th k) i).y0).toNat else []
theorem gcount_zero : gcount R4.zero = 0 := by decide
theorem gis_in {L : List Im} {tw th k i : Int} (h : gis (stG L tw th k) i = true) : inL L k = true := by
  cases hk : inL L k with
  | true => rfl
  | false =>
    rw [stG_out hk] at h
    unfold gis at h
    rw [gcount_zero] at h
    simp only [Bool.and_eq_true, decide_eq_true_eq] at h
    omega
theorem gis_out {g : R4} {i : Int} (h : gis g i = false) : gtile g i = R4.zero := by
  unfold gtile
  rw [if_neg]
  intro k
  unfold gis at h
  rw [decide_eq_true k.1, decide_eq_true k.2] at h
  cases h
theorem gis_iff {g : R4} {i : Int} : gis g i = true ↔ 0 ≤ i ∧ i < gcount g := by simp [gis]
/-- A tile lies in its image, and is not empty. -/
theorem tile_in {L : List Im} {tw th k i : Int} (hs : storeC L tw th = 0) (h : gis (stG L tw th k) i = true) :
    cropC (Lm L k.toNat).w (Lm L k.toNat).h (Lm L k.toNat).c (Lm L k.toNat).p.length (gtile (stG L tw th k) i) = 0 := by
  have hk := gis_in h
  obtain ⟨g1, g2⟩ := grid_ok hs hk
  obtain ⟨h1, _⟩ := storeC_ok hs
  obtain ⟨_, _, h6⟩ := imagesC_ok h1
  have hkb := inL_iff.1 hk
  have hc := (h6 k.toNat (by omega)).1
  obtain ⟨q0, q1⟩ := gis_iff.1 h
  obtain ⟨_, j1, j2, _, _⟩ := gidx q0 q1
  have lt := tile_lt g1 j1 j2
  have hb := gcheck_inv g1
  have eT : gtile (stG L tw th k) i = tileAt (stG L tw th k) (i.toNat / cN (stG L tw th k)) (i.toNat % cN (stG L tw th k)) := if_pos ⟨q0, q1⟩
  rw [eT]
  have ew : (stG L tw th k).x0 = (Lm L k.toNat).w := by rw [stG_in hk]
  have eh : (stG L tw th k).y0 = (Lm L k.toNat).h := by rw [stG_in hk]
  rw [← ew, ← eh] at hc ⊢
  generalize stG L tw th k = g at *
  generalize i.toNat / cN g = J at *
  generalize i.toNat % cN g = K at *
  obtain ⟨X, hX⟩ : ∃ X, (K : Int) * g.x1 = X := ⟨_, rfl⟩
  obtain ⟨Y, hY⟩ : ∃ Y, (J : Int) * g.y1 = Y := ⟨_, rfl⟩
  unfold tileAt
  rw [hX, hY]
  rw [hX, hY] at lt
  have e1 : (R4.mk X Y (min (X + g.x1) g.x0) (min (Y + g.y1) g.y0)).empty = false := (R4.empty_iff _).2 (by dsimp only; omega)
  have e2 : (R4.mk 0 0 g.x0 g.y0).empty = false := (R4.empty_iff _).2 (by dsimp only; omega)
  unfold cropC
  rw [if_neg (fun q => q hc), if_pos]
  unfold cropB R4.inside
  rw [e1, Bool.not_false, Bool.true_and, Bool.false_or, R4.beq_iff]
  unfold R4.both
  rw [e1, e2]
  simp only [Bool.false_eq_true, if_false]
  have e3 : R4.meet (R4.mk X Y (min (X + g.x1) g.x0) (min (Y + g.y1) g.y0)) (R4.mk 0 0 g.x0 g.y0) = R4.mk X Y (min (X + g.x1) g.x0) (min (Y + g.y1) g.y0) := by
    unfold R4.meet
    dsimp only
    congr 1 <;> omega
  first
    | (show (R4.meet _ _).norm = _; rw [e3, R4.norm_of e1])
    | (rw [e3]; unfold R4.norm; rw [e1]; rfl)
abbrev storeE (t : TypeId) (n : Nat) (tw th c : Int) : Ent := .cells t [.sl 1 4 0 n, .int .i64 tw, .int .i64 th, .int .i64 c]
def fetF (L : List Im) : FSpec := fun l es => match l, es with
  | [.ptr 0 0, .agg [.int .i64 k, .int .i64 i]], [.cells t [.sl 1 4 0 n, .int .i64 tw, .int .i64 th, .int .i64 c], .recs e 4 m get] =>
    some ([t = 169, e = 26, n = L.length, m = L.length, get = fun j => (Lm L j).av, storeC L tw th = 0, 0 ≤ c, c ≤ 1000],
      .tup [.agg [.int .i64 ((gtile (stG L tw th k) i).x1 - (gtile (stG L tw th k) i).x0), .int .i64 ((gtile (stG L tw th k) i).y1 - (gtile (stG L tw th k) i).y0), .int .i64 (tC L tw th k i), .sl 2 1 0 (tP L tw th k i).length], .int .i64 (if gis (stG L tw th k) i = true then 0 else 11)],
      [some (.cells t [.sl 1 4 0 n, .int .i64 tw, .int .i64 th, .int .i64 (if gis (stG L tw th k) i = true then c + 1 else c)]), some (.recs e 4 m get), some (.ints 5 .u8 (tP L tw th k i))])
  | _, _ => none
theorem fet_g (L : List Im) : GSOK Try.prog 58 (fG (fetF L)) := by
  refine fokD [7] (S := [(57, placeS41 L)]) (G := noG) (D := [(118, cropF)]) (pok_cons (place41_s L) pok_nil) noG_ok (dl_cons crop_g dl_nil) ⟨Try.func58, by kernel_rfl, by kernel_rfl, by kernel_rfl⟩ fun l es obs v es' h ho => ?_
  (unfold fetF at h; split at h; rotate_left; (focus (cases h)); rename_i k i t n tw th c e m get; simp only [Option.some.injEq, Prod.mk.injEq] at h; obtain ⟨rfl, rfl, rfl⟩ := h; simp only [List.mem_cons, List.not_mem_nil, or_false, forall_eq_or_imp, forall_eq, false_implies, implies_true] at ho)
  obtain ⟨rfl, rfl, rfl, rfl, rfl, hs, c0, c1⟩ := ho
  refine ⟨Nat.le_of_ble_eq_true rfl, ?_⟩
  cases hi : gis (stG L tw th k) i with
  | true =>
    have hk := gis_in hi
    have hkb := inL_iff.1 hk
    have hcr := tile_in hs hi
    have ec : tC L tw th k i = (Lm L k.toNat).c := if_pos hi
    have ep : tP L tw th k i = cropL (Lm L k.toNat).w (Lm L k.toNat).c (Lm L k.toNat).p (gtile (stG L tw th k) i) ((gtile (stG L tw th k) i).y1 - (gtile (stG L tw th k) i).y0).toNat := if_pos hi
    have hH := crop_ok hcr
    have hln := hH.len ((gtile (stG L tw th k) i).y1 - (gtile (stG L tw th k) i).y0).toNat (by have := hH.b; omega)
    have el : ((gtile (stG L tw th k) i).y1 - (gtile (stG L tw th k) i).y0).toNat * cropN (Lm L k.toNat).c (gtile (stG L tw th k) i) = (tP L tw th k i).length := by rw [ep, hln]
    have hz : 0 + k.toNat = k.toNat := Nat.zero_add _
    have hcr0 : cropC (Lm L (0 + k.toNat)).w (Lm L (0 + k.toNat)).h (Lm L (0 + k.toNat)).c (Lm L (0 + k.toNat)).p.length (gtile (stG L tw th k) i) = 0 := by rw [hz]; exact hcr
    have ec0 : (Lm L (0 + k.toNat)).c = tC L tw th k i := by rw [hz, ec]
    have ep0 : cropL (Lm L (0 + k.toNat)).w (Lm L (0 + k.toNat)).c (Lm L (0 + k.toNat)).p (gtile (stG L tw th k) i) ((gtile (stG L tw th k) i).y1 - (gtile (stG L tw th k) i).y0).toNat = tP L tw th k i := by rw [hz, ep]
    have el0 : ((gtile (stG L tw th k) i).y1 - (gtile (stG L tw th k) i).y0).toNat * cropN (Lm L (0 + k.toNat)).c (gtile (stG L tw th k) i) = (tP L tw th k i).length := by rw [hz, el]
    (repeat' (first | (refine And.intro (fun (hfk : _ = true) => ?_) (fun (hfk : _ = false) => ?_) <;> ((try (first | replace hfk := of_decide_eq_true hfk | replace hfk := of_decide_eq_false hfk | simp only [decide_eq_true_eq, decide_eq_false_iff_not, dh1, dh0, ne_eq, reduceCtorEq] at hfk)); (try (exfalso; first | omega | contradiction | exact Bool.noConfusion (Eq.trans (Eq.symm hfk) (by with_reducible assumption : _ = false)) | exact Bool.noConfusion (Eq.trans (Eq.symm hfk) (by with_reducible assumption : _ = true)))))) | (refine And.intro ?ob ?_; (case ob => (first | exact Chk.mk (by kernel_rfl) | exact True.intro | with_reducible assumption | exact rng64 (by omega) (by omega) | omega | (dsimp only; omega) | (show (_ : Nat) ≤ _; omega) | (simp only [ll1, ll2, ll0]; done) | (simp only [ll1, ll2, ll0]; omega) | (dsimp only; simp only [ll1, ll2, ll0]; omega)))) | exact True.intro | (show _ = _; first | with_reducible rfl | with_reducible assumption | omega | (simp only [ll1, ll2, ll0]; omega) | (skip; done) | exact rfl) | with_reducible assumption | (apply And.intro) | omega | (intro j hj; exact rfl) | fail))
    refine ⟨[(4, .ptr 2 0), (5, .int .i64 0)],
      ⟨4, [(0, some (.cells 169 [.sl 1 4 0 L.length, .int .i64 tw, .int .i64 th, .int .i64 (c + 1)])), (1, some (rowA L L.length)), (2, some (.cells 26 [.int .i64 ((gtile (stG L tw th k) i).x1 - (gtile (stG L tw th k) i).x0), .int .i64 ((gtile (stG L tw th k) i).y1 - (gtile (stG L tw th k) i).y0), .int .i64 (tC L tw th k i), .sl 3 1 0 (tP L tw th k i).length])), (3, some (.ints 5 .u8 (tP L tw th k i)))]⟩, [some 0, some 1, some 3, some 5], ?_, ?_⟩
    · (repeat' (first | (refine And.intro ?_ ?_) | exact True.intro | (show _ = _; with_reducible rfl) | exact Chk.mk (by kernel_rfl)))
      all_goals first | exact ec0 | exact el0 | exact ep0 | (intro j hj; rfl) | rfl
    (repeat' (first | (refine And.intro (fun (hfk : _ = true) => ?_) (fun (hfk : _ = false) => ?_) <;> ((try (first | replace hfk := of_decide_eq_true hfk | replace hfk := of_decide_eq_false hfk | simp only [decide_eq_true_eq, decide_eq_false_iff_not, dh1, dh0, ne_eq, reduceCtorEq] at hfk)); (try (exfalso; first | omega | contradiction | exact Bool.noConfusion (Eq.trans (Eq.symm hfk) (by with_reducible assumption : _ = false)) | exact Bool.noConfusion (Eq.trans (Eq.symm hfk) (by with_reducible assumption : _ = true)))))) | (refine And.intro ?ob ?_; (case ob => (first | exact Chk.mk (by kernel_rfl) | exact True.intro | with_reducible assumption | exact rng64 (by omega) (by omega) | omega | (dsimp only; omega) | (show (_ : Nat) ≤ _; omega) | (simp only [ll1, ll2, ll0]; done) | (simp only [ll1, ll2, ll0]; omega) | (dsimp only; simp only [ll1, ll2, ll0]; omega)))) | exact True.intro | (show _ = _; first | with_reducible rfl | with_reducible assumption | omega | (simp only [ll1, ll2, ll0]; omega) | (skip; done) | exact rfl) | with_reducible assumption | (apply And.intro) | omega | (intro j hj; exact rfl) | fail))
    refine ⟨[some 0, some 1, some 3], ?_⟩
    (repeat' (first | (refine And.intro (fun (hfk : _ = true) => ?_) (fun (hfk : _ = false) => ?_) <;> ((try (first | replace hfk := of_decide_eq_true hfk | replace hfk := of_decide_eq_false hfk | simp only [decide_eq_true_eq, decide_eq_false_iff_not, dh1, dh0, ne_eq, reduceCtorEq] at hfk)); (try (exfalso; first | omega | contradiction | exact Bool.noConfusion (Eq.trans (Eq.symm hfk) (by with_reducible assumption : _ = false)) | exact Bool.noConfusion (Eq.trans (Eq.symm hfk) (by with_reducible assumption : _ = true)))))) | (refine And.intro ?ob ?_; (case ob => (first | exact Chk.mk (by kernel_rfl) | exact True.intro | with_reducible assumption | exact rng64 (by omega) (by omega) | omega | (dsimp only; omega) | (show (_ : Nat) ≤ _; omega) | (simp only [ll1, ll2, ll0]; done) | (simp only [ll1, ll2, ll0]; omega) | (dsimp only; simp only [ll1, ll2, ll0]; omega)))) | exact True.intro | (show _ = _; first | with_reducible rfl | with_reducible assumption | omega | (simp only [ll1, ll2, ll0]; omega) | (rfl; done) | exact rfl) | with_reducible assumption | (apply And.intro) | omega | (intro j hj; exact rfl) | fail))
  | false =>
    have e1 := gis_out hi
    have ec : tC L tw th k i = 0 := if_neg (by rw [hi]; decide)
    have ep : tP L tw th k i = [] := if_neg (by rw [hi]; decide)
    have el : (tP L tw th k i).length = 0 := by rw [ep]; rfl
    have ex : (gtile (stG L tw th k) i).x1 - (gtile (stG L tw th k) i).x0 = 0 := by rw [e1]; rfl
    have ey : (gtile (stG L tw th k) i).y1 - (gtile (stG L tw th k) i).y0 = 0 := by rw [e1]; rfl
    (repeat' (first | (refine And.intro (fun (hfk : _ = true) => ?_) (fun (hfk : _ = false) => ?_) <;> ((try (first | replace hfk := of_decide_eq_true hfk | replace hfk := of_decide_eq_false hfk | simp only [decide_eq_true_eq, decide_eq_false_iff_not, dh1, dh0, ne_eq, reduceCtorEq] at hfk)); (try (exfalso; first | omega | contradiction | exact Bool.noConfusion (Eq.trans (Eq.symm hfk) (by with_reducible assumption : _ = false)) | exact Bool.noConfusion (Eq.trans (Eq.symm hfk) (by with_reducible assumption : _ = true)))))) | (refine And.intro ?ob ?_; (case ob => (first | exact Chk.mk (by kernel_rfl) | exact True.intro | with_reducible assumption | exact rng64 (by omega) (by omega) | omega | (dsimp only; omega) | (show (_ : Nat) ≤ _; omega) | (simp only [ll1, ll2, ll0]; done) | (simp only [ll1, ll2, ll0]; omega) | (dsimp only; simp only [ll1, ll2, ll0]; omega)))) | exact True.intro | (show _ = _; first | with_reducible rfl | with_reducible assumption | omega | (simp only [ll1, ll2, ll0]; omega) | (skip; done) | exact rfl) | with_reducible assumption | (apply And.intro) | omega | (intro j hj; exact rfl) | fail))
    refine ⟨[some 0, some 1, none], ?_⟩
    (repeat' (first | (refine And.intro (fun (hfk : _ = true) => ?_) (fun (hfk : _ = false) => ?_) <;> ((try (first | replace hfk := of_decide_eq_true hfk | replace hfk := of_decide_eq_false hfk | simp only [decide_eq_true_eq, decide_eq_false_iff_not, dh1, dh0, ne_eq, reduceCtorEq] at hfk)); (try (exfalso; first | omega | contradiction | exact Bool.noConfusion (Eq.trans (Eq.symm hfk) (by with_reducible assumption : _ = false)) | exact Bool.noConfusion (Eq.trans (Eq.symm hfk) (by with_reducible assumption : _ = true)))))) | (refine And.intro ?ob ?_; (case ob => (first | exact Chk.mk (by kernel_rfl) | exact True.intro | with_reducible assumption | exact rng64 (by omega) (by omega) | omega | (dsimp only; omega) | (show (_ : Nat) ≤ _; omega) | (simp only [ll1, ll2, ll0]; done) | (simp only [ll1, ll2, ll0]; omega) | (dsimp only; simp only [ll1, ll2, ll0]; omega)))) | exact True.intro | (show _ = _; first | with_reducible rfl | with_reducible assumption | omega | (simp only [ll1, ll2, ll0]; omega) | ((first | exact ec.symm | exact ep | exact ep.symm | exact el.symm | exact el | exact ex.symm | exact ey.symm | rfl); done) | exact rfl) | with_reducible assumption | (apply And.intro) | omega | (intro j hj; exact rfl) | fail))


abbrev rtileS (L : List Im) : PSpec := fun l => match l with
  | [.ro 4 n get, .int .i64 tw, .int .i64 th, .agg [.int .i64 k, .int .i64 i]] => some ([n = L.length, ∀ j, j < n → get j = (Lm L j).av, storeC L tw th = 0],
    .tup [(gtile (stG L tw th k) i).av, imA ((gtile (stG L tw th k) i).x1 - (gtile (stG L tw th k) i).x0) ((gtile (stG L tw th k) i).y1 - (gtile (stG L tw th k) i).y0) (tC L tw th k i) (tP L tw th k i), .bool (gis (stG L tw th k) i)]) | _ => none
theorem tilesL_gtile {g : R4} {i : Int} (h : gis g i = true) : (tilesL g (rN g)).getD i.toNat .zero = gtile g i := by
  obtain ⟨q0, q1⟩ := gis_iff.1 h
  have hg := gcount_pos q1 q0
  rw [gcount_eq hg] at q1
  rw [tilesL_get g _ _ (by omega)]
  exact (if_pos (gis_iff.1 h)).symm
theorem rtile_s (L : List Im) : SOK Try.prog 60 (rtileS L) := by
  refine sok_of (C := mkD 0 [(53, placesS)] noG [(119, cropF)] [0, 3, 6]) (mkD_ok (pok_cons places41_s pok_nil) noG_ok (dl_cons rcrop_g dl_nil)) rfl mixed ⟨Try.func60, by kernel_rfl, by kernel_rfl, by kernel_rfl⟩ fun l obs v h ho => ?_
  (unfold rtileS at h; split at h; rotate_left; (focus (cases h)); rename_i n get tw th k i; simp only [Option.some.injEq, Prod.mk.injEq] at h; obtain ⟨rfl, rfl⟩ := h; simp only [List.mem_cons, List.not_mem_nil, or_false, forall_eq_or_imp, forall_eq, false_implies, implies_true] at ho)
  obtain ⟨rfl, hg, hs⟩ := ho
  refine ⟨Nat.le_of_ble_eq_true rfl, ?_⟩
  (repeat' (first | (refine And.intro (fun (hfk : _ = true) => ?_) (fun (hfk : _ = false) => ?_) <;> ((try (first | replace hfk := of_decide_eq_true hfk | replace hfk := of_decide_eq_false hfk | simp only [decide_eq_true_eq, decide_eq_false_iff_not, dh1, dh0, ne_eq, reduceCtorEq] at hfk)); (try (exfalso; first | omega | contradiction | exact Bool.noConfusion (Eq.trans (Eq.symm hfk) (by with_reducible assumption : _ = false)) | exact Bool.noConfusion (Eq.trans (Eq.symm hfk) (by with_reducible assumption : _ = true)))))) | (refine And.intro ?ob ?_; (case ob => (first | exact Chk.mk (by kernel_rfl) | exact True.intro | with_reducible assumption | exact rng64 (by omega) (by omega) | omega | (dsimp only; omega) | (show (_ : Nat) ≤ _; omega) | (simp only [ll1, ll2, ll0]; done) | (simp only [ll1, ll2, ll0]; omega) | (dsimp only; simp only [ll1, ll2, ll0]; omega)))) | exact True.intro | (show _ = _; first | with_reducible rfl | with_reducible assumption | omega | (simp only [ll1, ll2, ll0]; omega) | (skip; done) | exact rfl) | with_reducible assumption | (apply And.intro) | omega | (intro j hj; exact rfl) | fail))
  refine ⟨[(0, imsA L), (1, .int .i64 tw), (2, .int .i64 th), (7, .ptr 0 0), (8, .ptr 1 0), (9, .ptr 2 0), (10, .fls)], ⟨3, [(0, some (.cells 77 [.int .i64 k, .int .i64 i])), (1, some (.cells 86 [.int .i64 0, .int .i64 0, .int .i64 0, .int .i64 0])), (2, some (.cells 26 [.int .i64 0, .int .i64 0, .int .i64 0, .nils]))]⟩, [some 0, some 1, some 2], ?_, ?_⟩
  · (repeat' (first | (refine And.intro ?_ ?_) | exact True.intro | (show _ = _; with_reducible rfl) | exact Chk.mk (by kernel_rfl)))
    exact hg
  cases hk : inL L k with
  | false =>
    have hk' := inL_not.1 hk
    have hi : gis (stG L tw th k) i = false := Bool.eq_false_iff.2 fun q => by rw [gis_in q] at hk; cases hk
    have e1 := gis_out hi
    have ec : tC L tw th k i = 0 := if_neg (by rw [hi]; decide)
    have ep : tP L tw th k i = [] := if_neg (by rw [hi]; decide)
    rw [e1, ec, ep, hi]
    (repeat' (first | (refine And.intro (fun (hfk : _ = true) => ?_) (fun (hfk : _ = false) => ?_) <;> ((try (first | replace hfk := of_decide_eq_true hfk | replace hfk := of_decide_eq_false hfk | simp only [decide_eq_true_eq, decide_eq_false_iff_not, dh1, dh0, ne_eq, reduceCtorEq] at hfk)); (try (exfalso; first | omega | contradiction | exact Bool.noConfusion (Eq.trans (Eq.symm hfk) (by with_reducible assumption : _ = false)) | exact Bool.noConfusion (Eq.trans (Eq.symm hfk) (by with_reducible assumption : _ = true)))))) | (refine And.intro ?ob ?_; (case ob => (first | exact Chk.mk (by kernel_rfl) | exact True.intro | with_reducible assumption | exact rng64 (by omega) (by omega) | omega | (dsimp only; omega) | (show (_ : Nat) ≤ _; omega) | (simp only [ll1, ll2, ll0]; done) | (simp only [ll1, ll2, ll0]; omega) | (dsimp only; simp only [ll1, ll2, ll0]; omega)))) | exact True.intro | (show _ = _; first | with_reducible rfl | with_reducible assumption | omega | (simp only [ll1, ll2, ll0]; omega) | (rfl; done) | exact rfl) | with_reducible assumption | (apply And.intro) | omega | (intro j hj; exact rfl) | fail))
  | true =>
    have hk' := inL_iff.1 hk
    obtain ⟨g1, g2⟩ := grid_ok hs hk
    have eg : stG L tw th k = ⟨(Lm L k.toNat).w, (Lm L k.toNat).h, tw, th⟩ := stG_in hk
    have g3 : gcheck ⟨(L.getD k.toNat Im.z).w, (L.getD k.toNat Im.z).h, tw, th⟩ = 0 := g2
    have hG' : (⟨(L.getD k.toNat Im.z).w, (L.getD k.toNat Im.z).h, tw, th⟩ : R4) = stG L tw th k := eg.symm
    have hTl : (tilesL (stG L tw th k) (rN (stG L tw th k))).length = rN (stG L tw th k) * cN (stG L tw th k) := tilesL_len _ _
    have hcnt : gcount (stG L tw th k) = ((tilesL (stG L tw th k) (rN (stG L tw th k))).length : Int) := by rw [hTl, gcount_eq g1]
    (repeat' (first | (refine And.intro (fun (hfk : _ = true) => ?_) (fun (hfk : _ = false) => ?_) <;> ((try (first | replace hfk := of_decide_eq_true hfk | replace hfk := of_decide_eq_false hfk | simp only [decide_eq_true_eq, decide_eq_false_iff_not, dh1, dh0, ne_eq, reduceCtorEq] at hfk)); (try (exfalso; first | omega | contradiction | exact Bool.noConfusion (Eq.trans (Eq.symm hfk) (by with_reducible assumption : _ = false)) | exact Bool.noConfusion (Eq.trans (Eq.symm hfk) (by with_reducible assumption : _ = true)))))) | (refine And.intro ?ob ?_; (case ob => (first | exact Chk.mk (by kernel_rfl) | exact True.intro | with_reducible assumption | exact rng64 (by omega) (by omega) | omega | (dsimp only; omega) | (show (_ : Nat) ≤ _; omega) | (simp only [ll1, ll2, ll0]; done) | (simp only [ll1, ll2, ll0]; omega) | (dsimp only; simp only [ll1, ll2, ll0]; omega)))) | exact True.intro | (show _ = _; first | with_reducible rfl | with_reducible assumption | omega | (simp only [ll1, ll2, ll0]; omega) | (skip; done) | exact rfl) | with_reducible assumption | (apply And.intro) | omega | (intro j hj; exact rfl) | fail))
    refine ⟨[(0, imsA L), (7, .ptr 0 0), (8, .ptr 1 0), (9, .ptr 2 0), (10, .fls), (11, rectsA (tilesL (stG L tw th k) (rN (stG L tw th k))))], ⟨3, [(0, some (.cells 77 [.int .i64 k, .int .i64 i])), (1, some (.cells 86 [.int .i64 0, .int .i64 0, .int .i64 0, .int .i64 0])), (2, some (.cells 26 [.int .i64 0, .int .i64 0, .int .i64 0, .nils]))]⟩, [some 0, some 1, some 2], ?_, ?_⟩
    · (repeat' (first | (refine And.intro ?_ ?_) | exact True.intro | (show _ = _; with_reducible rfl) | exact Chk.mk (by kernel_rfl)))
      all_goals first
        | (intro j hj; rfl)
        | exact congrArg (fun g => (tilesL g (rN g)).length) hG'
        | (intro j hj; exact congrArg (fun g => ((tilesL g (rN g)).getD j R4.zero).av) hG')
        | rfl
    cases hi : gis (stG L tw th k) i with
    | false =>
      have hi' : ¬ (0 ≤ i ∧ i < ((tilesL (stG L tw th k) (rN (stG L tw th k))).length : Int)) := by
        rw [← hcnt, ← gis_iff, hi]; decide
      have e1 := gis_out hi
      have ec : tC L tw th k i = 0 := if_neg (by rw [hi]; decide)
      have ep : tP L tw th k i = [] := if_neg (by rw [hi]; decide)
      have ex : ∀ f : R4 → Int, f (gtile (stG L tw th k) i) = f R4.zero := fun f => congrArg f e1
      have x0 := ex R4.x0; have x1 := ex R4.x1; have x2 := ex R4.y0; have x3 := ex R4.y1
      have x4 : (gtile (stG L tw th k) i).x1 - (gtile (stG L tw th k) i).x0 = 0 := by rw [e1]; rfl
      have x5 : (gtile (stG L tw th k) i).y1 - (gtile (stG L tw th k) i).y0 = 0 := by rw [e1]; rfl
      (repeat' (first | (refine And.intro (fun (hfk : _ = true) => ?_) (fun (hfk : _ = false) => ?_) <;> ((try (first | replace hfk := of_decide_eq_true hfk | replace hfk := of_decide_eq_false hfk | simp only [decide_eq_true_eq, decide_eq_false_iff_not, dh1, dh0, ne_eq, reduceCtorEq] at hfk)); (try (exfalso; first | omega | contradiction | exact Bool.noConfusion (Eq.trans (Eq.symm hfk) (by with_reducible assumption : _ = false)) | exact Bool.noConfusion (Eq.trans (Eq.symm hfk) (by with_reducible assumption : _ = true)))))) | (refine And.intro ?ob ?_; (case ob => (first | exact Chk.mk (by kernel_rfl) | exact True.intro | with_reducible assumption | exact rng64 (by omega) (by omega) | omega | (dsimp only; omega) | (show (_ : Nat) ≤ _; omega) | (simp only [ll1, ll2, ll0]; done) | (simp only [ll1, ll2, ll0]; omega) | (dsimp only; simp only [ll1, ll2, ll0]; omega)))) | exact True.intro | (show _ = _; first | with_reducible rfl | with_reducible assumption | omega | (simp only [ll1, ll2, ll0]; omega) | ((first | exact x0.symm | exact x1.symm | exact x2.symm | exact x3.symm | exact x4.symm | exact x5.symm | exact ec.symm | exact ep); done) | exact rfl) | with_reducible assumption | (apply And.intro) | omega | (intro j hj; exact rfl) | fail))
    | true =>
      have hi' := gis_iff.1 hi
      rw [hcnt] at hi'
      obtain ⟨i0, i1⟩ := hi'
      have hcr := tile_in hs hi
      have eT := tilesL_gtile hi
      obtain ⟨T, hT⟩ : ∃ T, tilesL (stG L tw th k) (rN (stG L tw th k)) = T := ⟨_, rfl⟩
      rw [hT] at i1 eT
      have hcr0 : cropC (L.getD k.toNat Im.z).w (L.getD k.toNat Im.z).h (L.getD k.toNat Im.z).c (L.getD k.toNat Im.z).p.length (T.getD i.toNat R4.zero) = 0 := by rw [eT]; exact hcr
      have ec : tC L tw th k i = (Lm L k.toNat).c := if_pos hi
      have ep : tP L tw th k i = cropL (Lm L k.toNat).w (Lm L k.toNat).c (Lm L k.toNat).p (gtile (stG L tw th k) i) ((gtile (stG L tw th k) i).y1 - (gtile (stG L tw th k) i).y0).toNat := if_pos hi
      have hH := crop_ok hcr
      have hln := hH.len ((gtile (stG L tw th k) i).y1 - (gtile (stG L tw th k) i).y0).toNat (by have := hH.b; omega)
      have ec0 : (L.getD k.toNat Im.z).c = tC L tw th k i := ec.symm
      have ep0 : cropL (L.getD k.toNat Im.z).w (L.getD k.toNat Im.z).c (L.getD k.toNat Im.z).p (T.getD i.toNat R4.zero) ((T.getD i.toNat R4.zero).y1 - (T.getD i.toNat R4.zero).y0).toNat = tP L tw th k i := by rw [eT, ep]
      have el0 : ((T.getD i.toNat R4.zero).y1 - (T.getD i.toNat R4.zero).y0).toNat * cropN (L.getD k.toNat Im.z).c (T.getD i.toNat R4.zero) = (tP L tw th k i).length := by rw [eT, ep, hln]
      have x4 : (T.getD i.toNat R4.zero).x1 - (T.getD i.toNat R4.zero).x0 = (gtile (stG L tw th k) i).x1 - (gtile (stG L tw th k) i).x0 := by rw [eT]
      have x5 : (T.getD i.toNat R4.zero).y1 - (T.getD i.toNat R4.zero).y0 = (gtile (stG L tw th k) i).y1 - (gtile (stG L tw th k) i).y0 := by rw [eT]
      have ex : ∀ f : R4 → Int, f (T.getD i.toNat R4.zero) = f (gtile (stG L tw th k) i) := fun f => congrArg f eT
      have x0 := ex R4.x0; have x1 := ex R4.x1; have x2 := ex R4.y0; have x3 := ex R4.y1
      have lt0 : List.take (tP L tw th k i).length (List.drop 0 (tP L tw th k i)) = tP L tw th k i := by rw [List.drop_zero, List.take_length]
      rw [hT]
      (repeat' (first | (refine And.intro (fun (hfk : _ = true) => ?_) (fun (hfk : _ = false) => ?_) <;> ((try (first | replace hfk := of_decide_eq_true hfk | replace hfk := of_decide_eq_false hfk | simp only [decide_eq_true_eq, decide_eq_false_iff_not, dh1, dh0, ne_eq, reduceCtorEq] at hfk)); (try (exfalso; first | omega | contradiction | exact Bool.noConfusion (Eq.trans (Eq.symm hfk) (by with_reducible assumption : _ = false)) | exact Bool.noConfusion (Eq.trans (Eq.symm hfk) (by with_reducible assumption : _ = true)))))) | (refine And.intro ?ob ?_; (case ob => (first | exact Chk.mk (by kernel_rfl) | exact True.intro | with_reducible assumption | exact rng64 (by omega) (by omega) | omega | (dsimp only; omega) | (show (_ : Nat) ≤ _; omega) | (simp only [ll1, ll2, ll0]; done) | (simp only [ll1, ll2, ll0]; omega) | (dsimp only; simp only [ll1, ll2, ll0]; omega)))) | exact True.intro | (show _ = _; first | with_reducible rfl | with_reducible assumption | omega | (simp only [ll1, ll2, ll0]; omega) | (skip; done) | exact rfl) | with_reducible assumption | (apply And.intro) | omega | (intro j hj; exact rfl) | fail))
      refine ⟨[(7, .ptr 0 0), (8, .ptr 1 0), (9, .ptr 2 0), (10, .fls), (11, rectsA T), (12, .ptr 4 0)],
        ⟨5, [(0, some (.cells 77 [.int .i64 k, .int .i64 i])), (1, some (.cells 86 [.int .i64 0, .int .i64 0, .int .i64 0, .int .i64 0])), (2, some (.cells 26 [.int .i64 0, .int .i64 0, .int .i64 0, .nils])), (3, some (.ints 5 .u8 (tP L tw th k i))), (4, some (.cells 26 [.int .i64 ((gtile (stG L tw th k) i).x1 - (gtile (stG L tw th k) i).x0), .int .i64 ((gtile (stG L tw th k) i).y1 - (gtile (stG L tw th k) i).y0), .int .i64 (tC L tw th k i), .sl 3 1 0 (tP L tw th k i).length]))]⟩, [some 0, some 1, some 2, some 3, some 4], ?_, ?_⟩
      · (repeat' (first | (refine And.intro ?_ ?_) | exact True.intro | (show _ = _; with_reducible rfl) | exact Chk.mk (by kernel_rfl)))
        all_goals first | exact ec0 | exact el0 | exact ep0 | exact x4 | exact x5 | (intro j hj; rfl) | rfl
      (repeat' (first | (refine And.intro (fun (hfk : _ = true) => ?_) (fun (hfk : _ = false) => ?_) <;> ((try (first | replace hfk := of_decide_eq_true hfk | replace hfk := of_decide_eq_false hfk | simp only [decide_eq_true_eq, decide_eq_false_iff_not, dh1, dh0, ne_eq, reduceCtorEq] at hfk)); (try (exfalso; first | omega | contradiction | exact Bool.noConfusion (Eq.trans (Eq.symm hfk) (by with_reducible assumption : _ = false)) | exact Bool.noConfusion (Eq.trans (Eq.symm hfk) (by with_reducible assumption : _ = true)))))) | (refine And.intro ?ob ?_; (case ob => (first | exact Chk.mk (by kernel_rfl) | exact True.intro | with_reducible assumption | exact rng64 (by omega) (by omega) | omega | (dsimp only; omega) | (show (_ : Nat) ≤ _; omega) | (simp only [ll1, ll2, ll0]; done) | (simp only [ll1, ll2, ll0]; omega) | (dsimp only; simp only [ll1, ll2, ll0]; omega)))) | exact True.intro | (show _ = _; first | with_reducible rfl | with_reducible assumption | omega | (simp only [ll1, ll2, ll0]; omega) | ((first | exact x0 | exact x1 | exact x2 | exact x3 | exact lt0); done) | exact rfl) | with_reducible assumption | (apply And.intro) | omega | (intro j hj; exact rfl) | fail))


theorem sizeN_s : SOK Try.prog 52 (sNK fun _ => .tup [.int .i64 0, .int .i64 0]) := by
  refine sok_of (C := mkC 0 [(113, sNK fun _ => .bool false)] noG) (mkC_ok (pok_cons isN_s pok_nil) noG_ok) rfl mixed ⟨Try.func52, by kernel_rfl, by kernel_rfl, by kernel_rfl⟩ fun l obs v h ho => ?_
  (unfold sNK at h; split at h; rotate_left; (focus (cases h)); rename_i k; simp only [Option.some.injEq, Prod.mk.injEq] at h; obtain ⟨rfl, rfl⟩ := h; simp only [List.mem_cons, List.not_mem_nil, or_false, forall_eq_or_imp, forall_eq, false_implies, implies_true] at ho)
  refine ⟨Nat.le_of_ble_eq_true rfl, ?_⟩
  (repeat' (first | (refine And.intro (fun (hfk : _ = true) => ?_) (fun (hfk : _ = false) => ?_) <;> ((try (first | replace hfk := of_decide_eq_true hfk | replace hfk := of_decide_eq_false hfk | simp only [decide_eq_true_eq, decide_eq_false_iff_not, dh1, dh0, ne_eq, reduceCtorEq] at hfk)); (try (exfalso; first | omega | contradiction | exact Bool.noConfusion (Eq.trans (Eq.symm hfk) (by with_reducible assumption : _ = false)) | exact Bool.noConfusion (Eq.trans (Eq.symm hfk) (by with_reducible assumption : _ = true)))))) | (refine And.intro ?ob ?_; (case ob => (first | exact Chk.mk (by kernel_rfl) | exact True.intro | with_reducible assumption | exact rng64 (by omega) (by omega) | omega | (dsimp only; omega) | (show (_ : Nat) ≤ _; omega) | (simp only [ll1, ll2, ll0]; done) | (simp only [ll1, ll2, ll0]; omega) | (dsimp only; simp only [ll1, ll2, ll0]; omega)))) | exact True.intro | (show _ = _; first | with_reducible rfl | with_reducible assumption | omega | (simp only [ll1, ll2, ll0]; omega) | (skip; done) | exact rfl) | with_reducible assumption | (apply And.intro) | omega | (intro j hj; exact rfl) | fail))
abbrev sN1 (v : AV) : PSpec := fun l => match l with | [.nilp] => some ([], v) | _ => none
theorem chanN_s : SOK Try.prog 63 (sN1 (.int .i64 0)) := by
  refine sok_of (C := mkC 0 [(113, sNK fun _ => .bool false)] noG) (mkC_ok (pok_cons isN_s pok_nil) noG_ok) rfl mixed ⟨Try.func63, by kernel_rfl, by kernel_rfl, by kernel_rfl⟩ fun l obs v h ho => ?_
  unfold sN1 at h
  split at h <;> cases h
  refine ⟨Nat.le_of_ble_eq_true rfl, ?_⟩
  (repeat' (first | (refine And.intro (fun (hfk : _ = true) => ?_) (fun (hfk : _ = false) => ?_) <;> ((try (first | replace hfk := of_decide_eq_true hfk | replace hfk := of_decide_eq_false hfk | simp only [decide_eq_true_eq, decide_eq_false_iff_not, dh1, dh0, ne_eq, reduceCtorEq] at hfk)); (try (exfalso; first | omega | contradiction | exact Bool.noConfusion (Eq.trans (Eq.symm hfk) (by with_reducible assumption : _ = false)) | exact Bool.noConfusion (Eq.trans (Eq.symm hfk) (by with_reducible assumption : _ = true)))))) | (refine And.intro ?ob ?_; (case ob => (first | exact Chk.mk (by kernel_rfl) | exact True.intro | with_reducible assumption | exact rng64 (by omega) (by omega) | omega | (dsimp only; omega) | (show (_ : Nat) ≤ _; omega) | (simp only [ll1, ll2, ll0]; done) | (simp only [ll1, ll2, ll0]; omega) | (dsimp only; simp only [ll1, ll2, ll0]; omega)))) | exact True.intro | (show _ = _; first | with_reducible rfl | with_reducible assumption | omega | (simp only [ll1, ll2, ll0]; omega) | (skip; done) | exact rfl) | with_reducible assumption | (apply And.intro) | omega | (intro j hj; exact rfl) | fail))
theorem tilesN_s : SOK Try.prog 55 (sNK fun _ => .int .i64 0) := by
  refine sok_of (C := mkC 0 [(111, sNK fun _ => R4.zero.av), (116, sR fun g => .int .i64 (gcount g))] noG) (mkC_ok (pok_cons gridN_s (pok_cons gcount_s pok_nil)) noG_ok) rfl mixed ⟨Try.func55, by kernel_rfl, by kernel_rfl, by kernel_rfl⟩ fun l obs v h ho => ?_
  (unfold sNK at h; split at h; rotate_left; (focus (cases h)); rename_i k; simp only [Option.some.injEq, Prod.mk.injEq] at h; obtain ⟨rfl, rfl⟩ := h; simp only [List.mem_cons, List.not_mem_nil, or_false, forall_eq_or_imp, forall_eq, false_implies, implies_true] at ho)
  refine ⟨Nat.le_of_ble_eq_true rfl, ?_⟩
  (repeat' (first | (refine And.intro (fun (hfk : _ = true) => ?_) (fun (hfk : _ = false) => ?_) <;> ((try (first | replace hfk := of_decide_eq_true hfk | replace hfk := of_decide_eq_false hfk | simp only [decide_eq_true_eq, decide_eq_false_iff_not, dh1, dh0, ne_eq, reduceCtorEq] at hfk)); (try (exfalso; first | omega | contradiction | exact Bool.noConfusion (Eq.trans (Eq.symm hfk) (by with_reducible assumption : _ = false)) | exact Bool.noConfusion (Eq.trans (Eq.symm hfk) (by with_reducible assumption : _ = true)))))) | (refine And.intro ?ob ?_; (case ob => (first | exact Chk.mk (by kernel_rfl) | exact True.intro | with_reducible assumption | exact rng64 (by omega) (by omega) | omega | (dsimp only; omega) | (show (_ : Nat) ≤ _; omega) | (simp only [ll1, ll2, ll0]; done) | (simp only [ll1, ll2, ll0]; omega) | (dsimp only; simp only [ll1, ll2, ll0]; omega)))) | exact True.intro | (show _ = _; first | with_reducible rfl | with_reducible assumption | omega | (simp only [ll1, ll2, ll0]; omega) | (exact gcount_zero; done) | exact rfl) | with_reducible assumption | (apply And.intro) | omega | (intro j hj; exact rfl) | fail))
theorem gis_zero (i : Int) : gis R4.zero i = false := by
  cases h : gis R4.zero i with
  | false => rfl
  | true => have := gis_iff.1 h; rw [gcount_zero] at this; omega
abbrev sNT (v : AV) : PSpec := fun l => match l with | [.nilp, .agg [.int .i64 k, .int .i64 i]] => some ([], v) | _ => none
theorem placeN_s : SOK Try.prog 57 (sNT (.tup [R4.zero.av, .bool false])) := by
  refine sok_of (C := mkC 0 [(111, sNK fun _ => R4.zero.av), (117, sRI fun g i => .tup [(gtile g i).av, .bool (gis g i)])] noG) (mkC_ok (pok_cons gridN_s (pok_cons gtile_s pok_nil)) noG_ok) rfl mixed ⟨Try.func57, by kernel_rfl, by kernel_rfl, by kernel_rfl⟩ fun l obs v h ho => ?_
  (unfold sNT at h; split at h; rotate_left; (focus (cases h)); rename_i k i; simp only [Option.some.injEq, Prod.mk.injEq] at h; obtain ⟨rfl, rfl⟩ := h; simp only [List.mem_cons, List.not_mem_nil, or_false, forall_eq_or_imp, forall_eq, false_implies, implies_true] at ho)
  refine ⟨Nat.le_of_ble_eq_true rfl, ?_⟩
  have e := gis_zero i
  have e1 := gis_out e
  have x0 : (gtile R4.zero i).x0 = 0 := by rw [e1]; rfl
  have x1 : (gtile R4.zero i).x1 = 0 := by rw [e1]; rfl
  have x2 : (gtile R4.zero i).y0 = 0 := by rw [e1]; rfl
  have x3 : (gtile R4.zero i).y1 = 0 := by rw [e1]; rfl
  (repeat' (first | (refine And.intro (fun (hfk : _ = true) => ?_) (fun (hfk : _ = false) => ?_) <;> ((try (first | replace hfk := of_decide_eq_true hfk | replace hfk := of_decide_eq_false hfk | simp only [decide_eq_true_eq, decide_eq_false_iff_not, dh1, dh0, ne_eq, reduceCtorEq] at hfk)); (try (exfalso; first | omega | contradiction | exact Bool.noConfusion (Eq.trans (Eq.symm hfk) (by with_reducible assumption : _ = false)) | exact Bool.noConfusion (Eq.trans (Eq.symm hfk) (by with_reducible assumption : _ = true)))))) | (refine And.intro ?ob ?_; (case ob => (first | exact Chk.mk (by kernel_rfl) | exact True.intro | with_reducible assumption | exact rng64 (by omega) (by omega) | omega | (dsimp only; omega) | (show (_ : Nat) ≤ _; omega) | (simp only [ll1, ll2, ll0]; done) | (simp only [ll1, ll2, ll0]; omega) | (dsimp only; simp only [ll1, ll2, ll0]; omega)))) | exact True.intro | (show _ = _; first | with_reducible rfl | with_reducible assumption | omega | (simp only [ll1, ll2, ll0]; omega) | ((first | exact e | exact x0 | exact x1 | exact x2 | exact x3); done) | exact rfl) | with_reducible assumption | (apply And.intro) | omega | (intro j hj; exact rfl) | fail))
theorem fetN_s : SOK Try.prog 58 (sNT (.tup [.agg [.int .i64 0, .int .i64 0, .int .i64 0, .nils], .int .i64 10])) := by
  refine sok_of (C := mkC 0 [] noG) (mkC_ok pok_nil noG_ok) rfl mixed ⟨Try.func58, by kernel_rfl, by kernel_rfl, by kernel_rfl⟩ fun l obs v h ho => ?_
  (unfold sNT at h; split at h; rotate_left; (focus (cases h)); rename_i k i; simp only [Option.some.injEq, Prod.mk.injEq] at h; obtain ⟨rfl, rfl⟩ := h; simp only [List.mem_cons, List.not_mem_nil, or_false, forall_eq_or_imp, forall_eq, false_implies, implies_true] at ho)
  refine ⟨Nat.le_of_ble_eq_true rfl, ?_⟩
  (repeat' (first | (refine And.intro (fun (hfk : _ = true) => ?_) (fun (hfk : _ = false) => ?_) <;> ((try (first | replace hfk := of_decide_eq_true hfk | replace hfk := of_decide_eq_false hfk | simp only [decide_eq_true_eq, decide_eq_false_iff_not, dh1, dh0, ne_eq, reduceCtorEq] at hfk)); (try (exfalso; first | omega | contradiction | exact Bool.noConfusion (Eq.trans (Eq.symm hfk) (by with_reducible assumption : _ = false)) | exact Bool.noConfusion (Eq.trans (Eq.symm hfk) (by with_reducible assumption : _ = true)))))) | (refine And.intro ?ob ?_; (case ob => (first | exact Chk.mk (by kernel_rfl) | exact True.intro | with_reducible assumption | exact rng64 (by omega) (by omega) | omega | (dsimp only; omega) | (show (_ : Nat) ≤ _; omega) | (simp only [ll1, ll2, ll0]; done) | (simp only [ll1, ll2, ll0]; omega) | (dsimp only; simp only [ll1, ll2, ll0]; omega)))) | exact True.intro | (show _ = _; first | with_reducible rfl | with_reducible assumption | omega | (simp only [ll1, ll2, ll0]; omega) | (skip; done) | exact rfl) | with_reducible assumption | (apply And.intro) | omega | (intro j hj; exact rfl) | fail))
theorem fetchedN_s : SOK Try.prog 61 (sN1 (.int .i64 0)) := by
  refine sok_of (C := mkC 0 [] noG) (mkC_ok pok_nil noG_ok) rfl mixed ⟨Try.func61, by kernel_rfl, by kernel_rfl, by kernel_rfl⟩ fun l obs v h ho => ?_
  unfold sN1 at h
  split at h <;> cases h
  refine ⟨Nat.le_of_ble_eq_true rfl, ?_⟩
  (repeat' (first | (refine And.intro (fun (hfk : _ = true) => ?_) (fun (hfk : _ = false) => ?_) <;> ((try (first | replace hfk := of_decide_eq_true hfk | replace hfk := of_decide_eq_false hfk | simp only [decide_eq_true_eq, decide_eq_false_iff_not, dh1, dh0, ne_eq, reduceCtorEq] at hfk)); (try (exfalso; first | omega | contradiction | exact Bool.noConfusion (Eq.trans (Eq.symm hfk) (by with_reducible assumption : _ = false)) | exact Bool.noConfusion (Eq.trans (Eq.symm hfk) (by with_reducible assumption : _ = true)))))) | (refine And.intro ?ob ?_; (case ob => (first | exact Chk.mk (by kernel_rfl) | exact True.intro | with_reducible assumption | exact rng64 (by omega) (by omega) | omega | (dsimp only; omega) | (show (_ : Nat) ≤ _; omega) | (simp only [ll1, ll2, ll0]; done) | (simp only [ll1, ll2, ll0]; omega) | (dsimp only; simp only [ll1, ll2, ll0]; omega)))) | exact True.intro | (show _ = _; first | with_reducible rfl | with_reducible assumption | omega | (simp only [ll1, ll2, ll0]; omega) | (skip; done) | exact rfl) | with_reducible assumption | (apply And.intro) | omega | (intro j hj; exact rfl) | fail))
theorem allN_s : SOK Try.prog 56 (sN1 .nils) := by
  refine sok_of (C := mkC 0 [(62, levelsN)] noG) (mkC_ok (pok_cons levelsN_s pok_nil) noG_ok) rfl mixed ⟨Try.func56, by kernel_rfl, by kernel_rfl, by kernel_rfl⟩ fun l obs v h ho => ?_
  unfold sN1 at h
  split at h <;> cases h
  refine ⟨Nat.le_of_ble_eq_true rfl, ?_⟩
  (repeat' (first | (refine And.intro (fun (hfk : _ = true) => ?_) (fun (hfk : _ = false) => ?_) <;> ((try (first | replace hfk := of_decide_eq_true hfk | replace hfk := of_decide_eq_false hfk | simp only [decide_eq_true_eq, decide_eq_false_iff_not, dh1, dh0, ne_eq, reduceCtorEq] at hfk)); (try (exfalso; first | omega | contradiction | exact Bool.noConfusion (Eq.trans (Eq.symm hfk) (by with_reducible assumption : _ = false)) | exact Bool.noConfusion (Eq.trans (Eq.symm hfk) (by with_reducible assumption : _ = true)))))) | (refine And.intro ?ob ?_; (case ob => (first | exact Chk.mk (by kernel_rfl) | exact True.intro | with_reducible assumption | exact rng64 (by omega) (by omega) | omega | (dsimp only; omega) | (show (_ : Nat) ≤ _; omega) | (simp only [ll1, ll2, ll0]; done) | (simp only [ll1, ll2, ll0]; omega) | (dsimp only; simp only [ll1, ll2, ll0]; omega)))) | exact True.intro | (show _ = _; first | with_reducible rfl | with_reducible assumption | omega | (simp only [ll1, ll2, ll0]; omega) | (skip; done) | exact rfl) | with_reducible assumption | (apply And.intro) | omega | (intro j hj; exact rfl) | fail))
  refine ⟨Nat, fun i => [(2, .nils), (3, .nils), (10, .int .i64 0), (11, .int .i64 0)], fun i => ⟨0, []⟩, fun i => True, fun i => 0, ⟨0, [], trivial, ?_⟩, fun i hi => ?_⟩
  · (repeat' (first | (refine And.intro (fun (hfk : _ = true) => ?_) (fun (hfk : _ = false) => ?_) <;> ((try (first | replace hfk := of_decide_eq_true hfk | replace hfk := of_decide_eq_false hfk | simp only [decide_eq_true_eq, decide_eq_false_iff_not, dh1, dh0, ne_eq, reduceCtorEq] at hfk)); (try (exfalso; first | omega | contradiction | exact Bool.noConfusion (Eq.trans (Eq.symm hfk) (by with_reducible assumption : _ = false)) | exact Bool.noConfusion (Eq.trans (Eq.symm hfk) (by with_reducible assumption : _ = true)))))) | (refine And.intro ?ob ?_; (case ob => (first | exact Chk.mk (by kernel_rfl) | exact True.intro | with_reducible assumption | exact rng64 (by omega) (by omega) | omega | (dsimp only; omega) | (show (_ : Nat) ≤ _; omega) | (simp only [ll1, ll2, ll0]; done) | (simp only [ll1, ll2, ll0]; omega) | (dsimp only; simp only [ll1, ll2, ll0]; omega)))) | exact True.intro | (show _ = _; first | with_reducible rfl | with_reducible assumption | omega | (simp only [ll1, ll2, ll0]; omega) | (skip; done) | exact rfl) | with_reducible assumption | (apply And.intro) | omega | (intro j hj; exact rfl) | fail))
  (repeat' (first | (refine And.intro (fun (hfk : _ = true) => ?_) (fun (hfk : _ = false) => ?_) <;> ((try (first | replace hfk := of_decide_eq_true hfk | replace hfk := of_decide_eq_false hfk | simp only [decide_eq_true_eq, decide_eq_false_iff_not, dh1, dh0, ne_eq, reduceCtorEq] at hfk)); (try (exfalso; first | omega | contradiction | exact Bool.noConfusion (Eq.trans (Eq.symm hfk) (by with_reducible assumption : _ = false)) | exact Bool.noConfusion (Eq.trans (Eq.symm hfk) (by with_reducible assumption : _ = true)))))) | (refine And.intro ?ob ?_; (case ob => (first | exact Chk.mk (by kernel_rfl) | exact True.intro | with_reducible assumption | exact rng64 (by omega) (by omega) | omega | (dsimp only; omega) | (show (_ : Nat) ≤ _; omega) | (simp only [ll1, ll2, ll0]; done) | (simp only [ll1, ll2, ll0]; omega) | (dsimp only; simp only [ll1, ll2, ll0]; omega)))) | exact True.intro | (show _ = _; first | with_reducible rfl | with_reducible assumption | omega | (simp only [ll1, ll2, ll0]; omega) | (skip; done) | exact rfl) | with_reducible assumption | (apply And.intro) | omega | (intro j hj; exact rfl) | fail))
abbrev fetchedS41 (L : List Im) : PSpec := sSt L fun _ _ c => .int .i64 c
theorem fetched41_s (L : List Im) : SOK Try.prog 61 (fetchedS41 L) := by
  refine sok_of (C := mkC 0 [] noG) (mkC_ok pok_nil noG_ok) rfl mixed ⟨Try.func61, by kernel_rfl, by kernel_rfl, by kernel_rfl⟩ fun l obs v h ho => ?_
  unfold fetchedS41 at h
  (unfold sSt at h; split at h; rotate_left; (focus (cases h)); rename_i n get tw th c; simp only [Option.some.injEq, Prod.mk.injEq] at h; obtain ⟨rfl, rfl⟩ := h; simp only [List.mem_cons, List.not_mem_nil, or_false, forall_eq_or_imp, forall_eq, false_implies, implies_true] at ho)
  obtain ⟨rfl, rfl⟩ := ho
  refine ⟨Nat.le_of_ble_eq_true rfl, ?_⟩
  (repeat' (first | (refine And.intro (fun (hfk : _ = true) => ?_) (fun (hfk : _ = false) => ?_) <;> ((try (first | replace hfk := of_decide_eq_true hfk | replace hfk := of_decide_eq_false hfk | simp only [decide_eq_true_eq, decide_eq_false_iff_not, dh1, dh0, ne_eq, reduceCtorEq] at hfk)); (try (exfalso; first | omega | contradiction | exact Bool.noConfusion (Eq.trans (Eq.symm hfk) (by with_reducible assumption : _ = false)) | exact Bool.noConfusion (Eq.trans (Eq.symm hfk) (by with_reducible assumption : _ = true)))))) | (refine And.intro ?ob ?_; (case ob => (first | exact Chk.mk (by kernel_rfl) | exact True.intro | with_reducible assumption | exact rng64 (by omega) (by omega) | omega | (dsimp only; omega) | (show (_ : Nat) ≤ _; omega) | (simp only [ll1, ll2, ll0]; done) | (simp only [ll1, ll2, ll0]; omega) | (dsimp only; simp only [ll1, ll2, ll0]; omega)))) | exact True.intro | (show _ = _; first | with_reducible rfl | with_reducible assumption | omega | (simp only [ll1, ll2, ll0]; omega) | (skip; done) | exact rfl) | with_reducible assumption | (apply And.intro) | omega | (intro j hj; exact rfl) | fail))


abbrev Atl (A : List Tl) (i : Nat) : Tl := A.getD i Tl.z
def cntI (L : List Im) (s0 s1 : Int) (A : List Tl) : Nat → Int
  | 0 => 0
  | i + 1 => if gis (stG L s0 s1 (Atl A i).level) (Atl A i).i = true then cntI L s0 s1 A i + 1 else cntI L s0 s1 A i
abbrev stA2 (L : List Im) (tw th n : Int) : Ent := .cells 169 [.sl 2 4 0 L.length, .int .i64 tw, .int .i64 th, .int .i64 n]
theorem cntI_bd (L : List Im) (s0 s1 : Int) (A : List Tl) : ∀ i, 0 ≤ cntI L s0 s1 A i ∧ cntI L s0 s1 A i ≤ i
  | 0 => by unfold cntI; omega
  | i + 1 => by
    have := cntI_bd L s0 s1 A i
    unfold cntI
    split <;> omega
theorem st_bad (L : List Im) (s0 s1 : Int) (A : List Tl) (hL : LenOK L.length) (hfew : fewL L = true) (h6 : L.length ≤ 6) (hA : A.length ≤ 30) (hs : storeC L s0 s1 ≠ 0) (W : World) {cl : List Value} (hc : CRel noN W NoO [imsA L, .agg [.int .i64 s0, .int .i64 s1], TlA A] cl) :
    Calls Try.prog 13 cl.toArray W fun e W' => e = .returned (.bool true) ∧ Below W.heap.size W W' := by
  refine law_of (C := mkC 0 [(47, sIms L [LenOK L.length] (.bool (fewL L))), (48, newStBad L), (50, sIms2 L (fun _ _ => [LenOK L.length]) fun tw th => .int .i64 (storeC L tw th)),
      (57, sNT (.tup [R4.zero.av, .bool false])), (58, sNT (.tup [.agg [.int .i64 0, .int .i64 0, .int .i64 0, .nils], .int .i64 10])), (20, fun l => sameS (l.map nzA)),
      (52, sNK fun _ => .tup [.int .i64 0, .int .i64 0]), (62, levelsN), (63, sN1 (.int .i64 0)), (55, sNK fun _ => .int .i64 0), (61, sN1 (.int .i64 0)), (56, sN1 .nils), (51, sN (.bool true))] noG)
      (mkC_ok (pok_cons (few41_s L) (pok_cons (newStBad_s L) (pok_cons (rcheck41_s L) (pok_cons placeN_s (pok_cons fetN_s (pok_cons (sok_nz rsame_s) (pok_cons sizeN_s (pok_cons levelsN_s (pok_cons chanN_s (pok_cons tilesN_s (pok_cons fetchedN_s (pok_cons allN_s (pok_cons alive41_s pok_nil))))))))))))) noG_ok) rfl ⟨Try.func13, by kernel_rfl, by kernel_rfl, by kernel_rfl⟩ (by exact Nat.le_of_ble_eq_true rfl) ?_ hc
  have ne : (true == decide (¬ storeC L s0 s1 = 0)) = true := by rw [decide_eq_true hs]; rfl
  have sm : sameM 0 0 0 [] 0 0 0 [] = true := by decide
  (repeat' (first | (refine And.intro (fun (hfk : _ = true) => ?_) (fun (hfk : _ = false) => ?_) <;> ((try (first | replace hfk := of_decide_eq_true hfk | replace hfk := of_decide_eq_false hfk | simp only [decide_eq_true_eq, decide_eq_false_iff_not, dh1, dh0, ne_eq, reduceCtorEq] at hfk)); (try (exfalso; first | omega | contradiction | exact Bool.noConfusion (Eq.trans (Eq.symm hfk) (by with_reducible assumption : _ = false)) | exact Bool.noConfusion (Eq.trans (Eq.symm hfk) (by with_reducible assumption : _ = true)))))) | (refine And.intro ?ob ?_; (case ob => (first | exact Chk.mk (by kernel_rfl) | exact True.intro | with_reducible assumption | exact rng64 (by omega) (by omega) | omega | (dsimp only; omega) | (show (_ : Nat) ≤ _; omega) | (simp only [ll1, ll2, ll0]; done) | (simp only [ll1, ll2, ll0]; omega) | (dsimp only; simp only [ll1, ll2, ll0]; omega)))) | exact True.intro | (show _ = _; first | with_reducible rfl | with_reducible assumption | omega | (simp only [ll1, ll2, ll0]; omega) | (skip; done) | exact rfl) | with_reducible assumption | (apply And.intro) | omega | (intro j hj; exact rfl) | fail))
  refine ⟨Nat, fun i => [(0, imsA L), (4, .ptr 0 0), (6, .fls), (7, .nilp), (10, .int .i64 0), (55, TlA A), (56, .int .i64 (A.length : Int)), (57, .int .i64 (i : Int))], fun i => ⟨1, [(0, some (.cells 71 [.int .i64 s0, .int .i64 s1]))]⟩, fun i => i ≤ A.length, fun i => A.length - i, ⟨0, [some 0], Nat.zero_le _, ?_⟩, fun i hi => ?_⟩
  · (repeat' (first | (refine And.intro ?_ ?_) | exact True.intro | (show _ = _; with_reducible rfl) | exact Chk.mk (by kernel_rfl)))
    all_goals first | (intro j hj; rfl) | rfl
  have hi : i ≤ A.length := hi
  by_cases hlt : i < A.length
  · (repeat' (first | (refine And.intro (fun (hfk : _ = true) => ?_) (fun (hfk : _ = false) => ?_) <;> ((try (first | replace hfk := of_decide_eq_true hfk | replace hfk := of_decide_eq_false hfk | simp only [decide_eq_true_eq, decide_eq_false_iff_not, dh1, dh0, ne_eq, reduceCtorEq] at hfk)); (try (exfalso; first | omega | contradiction | exact Bool.noConfusion (Eq.trans (Eq.symm hfk) (by with_reducible assumption : _ = false)) | exact Bool.noConfusion (Eq.trans (Eq.symm hfk) (by with_reducible assumption : _ = true)))))) | (refine And.intro ?ob ?_; (case ob => (first | exact Chk.mk (by kernel_rfl) | exact True.intro | with_reducible assumption | exact rng64 (by omega) (by omega) | omega | (dsimp only; omega) | (show (_ : Nat) ≤ _; omega) | (simp only [ll1, ll2, ll0]; done) | (simp only [ll1, ll2, ll0]; omega) | (dsimp only; simp only [ll1, ll2, ll0]; omega)))) | exact True.intro | (show _ = _; first | with_reducible rfl | with_reducible assumption | omega | (simp only [ll1, ll2, ll0]; omega) | (skip; done) | exact rfl) | with_reducible assumption | (apply And.intro) | omega | (intro j hj; exact rfl) | fail))
    (refine ⟨i + 1, [some 0], ?_, ?mu, ?_⟩; (case mu => ((try dsimp only); omega)))
    · exact hlt
    (repeat' (first | (refine And.intro ?_ ?_) | exact True.intro | (show _ = _; with_reducible rfl) | exact Chk.mk (by kernel_rfl)))
    all_goals first | (intro j hj; rfl) | (show (_ : Int) = _; omega) | rfl
  · (repeat' (first | (refine And.intro (fun (hfk : _ = true) => ?_) (fun (hfk : _ = false) => ?_) <;> ((try (first | replace hfk := of_decide_eq_true hfk | replace hfk := of_decide_eq_false hfk | simp only [decide_eq_true_eq, decide_eq_false_iff_not, dh1, dh0, ne_eq, reduceCtorEq] at hfk)); (try (exfalso; first | omega | contradiction | exact Bool.noConfusion (Eq.trans (Eq.symm hfk) (by with_reducible assumption : _ = false)) | exact Bool.noConfusion (Eq.trans (Eq.symm hfk) (by with_reducible assumption : _ = true)))))) | (refine And.intro ?ob ?_; (case ob => (first | exact Chk.mk (by kernel_rfl) | exact True.intro | with_reducible assumption | exact rng64 (by omega) (by omega) | omega | (dsimp only; omega) | (show (_ : Nat) ≤ _; omega) | (simp only [ll1, ll2, ll0]; done) | (simp only [ll1, ll2, ll0]; omega) | (dsimp only; simp only [ll1, ll2, ll0]; omega)))) | exact True.intro | (show _ = _; first | with_reducible rfl | with_reducible assumption | omega | (simp only [ll1, ll2, ll0]; omega) | (skip; done) | exact rfl) | with_reducible assumption | (apply And.intro) | omega | (intro j hj; exact rfl) | fail))
theorem st_good (L : List Im) (s0 s1 : Int) (A : List Tl) (hL : LenOK L.length) (hfew : fewL L = true) (h6 : L.length ≤ 6) (hA : A.length ≤ 30) (hs : storeC L s0 s1 = 0) (W : World) {cl : List Value} (hc : CRel noN W NoO [imsA L, .agg [.int .i64 s0, .int .i64 s1], TlA A] cl) :
    Calls Try.prog 13 cl.toArray W fun e W' => e = .returned (.bool true) ∧ Below W.heap.size W W' := by
  refine law_of (C := mkK 0 [(47, sIms L [LenOK L.length] (.bool (fewL L))), (50, sIms2 L (fun _ _ => [LenOK L.length]) fun tw th => .int .i64 (storeC L tw th)),
      (57, placeS41 L), (60, rtileS L), (20, sameS),
      (62, levelsS L), (63, chanS41 L), (55, tilesS41 L), (61, fetchedS41 L), (51, sN (.bool true))] (glook [(48, fG (newStF L)), (58, fG (fetF L))]) [10, 12, 16])
      (mkK_ok (pok_cons (few41_s L) (pok_cons (rcheck41_s L) (pok_cons (place41_s L) (pok_cons (rtile_s L) (pok_cons rsame_s (pok_cons (levels_s L) (pok_cons (chan41_s L) (pok_cons (tiles41_s L) (pok_cons (fetched41_s L) (pok_cons alive41_s pok_nil)))))))))) (gl_cons (newSt_g L) (gl_cons (fet_g L) gl_nil))) rfl ⟨Try.func13, by kernel_rfl, by kernel_rfl, by kernel_rfl⟩ (by exact Nat.le_of_ble_eq_true rfl) ?_ hc
  have ne : (false == decide (¬ storeC L s0 s1 = 0)) = true := by rw [hs]; rfl
  have ef : (fun j => (fun j => (Lm L j).av) (0 + j)) = fun j => (Lm L j).av := funext fun j => by rw [Nat.zero_add]
  (repeat' (first | (refine And.intro (fun (hfk : _ = true) => ?_) (fun (hfk : _ = false) => ?_) <;> ((try (first | replace hfk := of_decide_eq_true hfk | replace hfk := of_decide_eq_false hfk | simp only [decide_eq_true_eq, decide_eq_false_iff_not, dh1, dh0, ne_eq, reduceCtorEq] at hfk)); (try (exfalso; first | omega | contradiction | exact Bool.noConfusion (Eq.trans (Eq.symm hfk) (by with_reducible assumption : _ = false)) | exact Bool.noConfusion (Eq.trans (Eq.symm hfk) (by with_reducible assumption : _ = true)))))) | (refine And.intro ?ob ?_; (case ob => (first | exact Chk.mk (by kernel_rfl) | exact True.intro | with_reducible assumption | exact rng64 (by omega) (by omega) | omega | (dsimp only; omega) | (show (_ : Nat) ≤ _; omega) | (simp only [ll1, ll2, ll0]; done) | (simp only [ll1, ll2, ll0]; omega) | (dsimp only; simp only [ll1, ll2, ll0]; omega)))) | exact True.intro | (show _ = _; first | with_reducible rfl | with_reducible assumption | omega | (simp only [ll1, ll2, ll0]; omega) | (skip; done) | exact rfl) | with_reducible assumption | (apply And.intro) | omega | (intro j hj; exact rfl) | fail))
  (refine ⟨[], ⟨by kernel_rfl⟩, ?_⟩)
  refine ⟨rfl, fun j hj => rfl, h6, hs, ?_⟩
  (repeat' (first | (refine And.intro (fun (hfk : _ = true) => ?_) (fun (hfk : _ = false) => ?_) <;> ((try (first | replace hfk := of_decide_eq_true hfk | replace hfk := of_decide_eq_false hfk | simp only [decide_eq_true_eq, decide_eq_false_iff_not, dh1, dh0, ne_eq, reduceCtorEq] at hfk)); (try (exfalso; first | omega | contradiction | exact Bool.noConfusion (Eq.trans (Eq.symm hfk) (by with_reducible assumption : _ = false)) | exact Bool.noConfusion (Eq.trans (Eq.symm hfk) (by with_reducible assumption : _ = true)))))) | (refine And.intro ?ob ?_; (case ob => (first | exact Chk.mk (by kernel_rfl) | exact True.intro | with_reducible assumption | exact rng64 (by omega) (by omega) | omega | (dsimp only; omega) | (show (_ : Nat) ≤ _; omega) | (simp only [ll1, ll2, ll0]; done) | (simp only [ll1, ll2, ll0]; omega) | (dsimp only; simp only [ll1, ll2, ll0]; omega)))) | exact True.intro | (show _ = _; first | with_reducible rfl | with_reducible assumption | omega | (simp only [ll1, ll2, ll0]; omega) | (skip; done) | exact rfl) | with_reducible assumption | (apply And.intro) | omega | (intro j hj; exact rfl) | fail))
  refine ⟨Nat, fun i => [(0, imsA L), (4, .ptr 0 0), (6, .fls), (7, .ptr 1 0), (10, .int .i64 (cntI L s0 s1 A i)), (55, TlA A), (56, .int .i64 (A.length : Int)), (57, .int .i64 (i : Int))],
      fun i => ⟨3, [(0, some (.cells 71 [.int .i64 s0, .int .i64 s1])), (1, some (stA2 L s0 s1 (cntI L s0 s1 A i))), (2, some (rowA L L.length))]⟩,
      fun i => i ≤ A.length, fun i => A.length - i, ⟨0, [some 0, some 1, some 2], Nat.zero_le _, ?_⟩, fun i hi => ?_⟩
  · (repeat' (first | (refine And.intro ?_ ?_) | exact True.intro | (show _ = _; with_reducible rfl) | exact Chk.mk (by kernel_rfl)))
    all_goals first | (intro j hj; rfl) | rfl
  have hi : i ≤ A.length := hi
  obtain ⟨n, hn⟩ : ∃ n, cntI L s0 s1 A i = n := ⟨_, rfl⟩
  have nb := cntI_bd L s0 s1 A i
  rw [hn] at nb
  obtain ⟨n0, n1⟩ := nb
  by_cases hlt : i < A.length
  · obtain ⟨k, hk⟩ : ∃ k, (A.getD (i : Int).toNat Tl.z).level = k := ⟨_, rfl⟩
    obtain ⟨m, hm⟩ : ∃ m, (A.getD (i : Int).toNat Tl.z).i = m := ⟨_, rfl⟩
    have hcn : cntI L s0 s1 A (i + 1) = if gis (stG L s0 s1 k) m = true then n + 1 else n := by
      have h1 : (Atl A i).level = k := hk
      have h2 : (Atl A i).i = m := hm
      show (if gis (stG L s0 s1 (Atl A i).level) (Atl A i).i = true then cntI L s0 s1 A i + 1 else cntI L s0 s1 A i) = _
      rw [h1, h2, hn]
    (repeat' (first | (refine And.intro (fun (hfk : _ = true) => ?_) (fun (hfk : _ = false) => ?_) <;> ((try (first | replace hfk := of_decide_eq_true hfk | replace hfk := of_decide_eq_false hfk | simp only [decide_eq_true_eq, decide_eq_false_iff_not, dh1, dh0, ne_eq, reduceCtorEq] at hfk)); (try (exfalso; first | omega | contradiction | exact Bool.noConfusion (Eq.trans (Eq.symm hfk) (by with_reducible assumption : _ = false)) | exact Bool.noConfusion (Eq.trans (Eq.symm hfk) (by with_reducible assumption : _ = true)))))) | (refine And.intro ?ob ?_; (case ob => (first | exact Chk.mk (by kernel_rfl) | exact True.intro | with_reducible assumption | exact rng64 (by omega) (by omega) | omega | (dsimp only; omega) | (show (_ : Nat) ≤ _; omega) | (simp only [ll1, ll2, ll0]; done) | (simp only [ll1, ll2, ll0]; omega) | (dsimp only; simp only [ll1, ll2, ll0]; omega)))) | exact True.intro | (show _ = _; first | with_reducible rfl | with_reducible assumption | omega | (simp only [ll1, ll2, ll0]; omega) | (skip; done) | exact rfl) | with_reducible assumption | (apply And.intro) | omega | (intro j hj; exact rfl) | fail))
    refine ⟨[(0, imsA L), (4, .ptr 0 0), (6, .fls), (7, .ptr 1 0), (10, .int .i64 n), (12, .ptr 3 0), (55, TlA A), (56, .int .i64 (A.length : Int)), (57, .int .i64 (i : Int))],
      ⟨4, [(0, some (.cells 71 [.int .i64 s0, .int .i64 s1])), (1, some (stA2 L s0 s1 n)), (2, some (rowA L L.length)), (3, some (.cells 77 [.int .i64 k, .int .i64 m]))]⟩, [some 0, some 1, some 2, some 3], ?_, ?_⟩
    · (repeat' (first | (refine And.intro ?_ ?_) | exact True.intro | (show _ = _; with_reducible rfl) | exact Chk.mk (by kernel_rfl)))
      all_goals first | (intro j hj; rfl) | exact hn | exact hk | exact hm | rfl
    obtain ⟨Q, hQ⟩ : ∃ Q, gtile (stG L s0 s1 k) m = Q := ⟨_, rfl⟩
    obtain ⟨P, hP⟩ : ∃ P, tP L s0 s1 k m = P := ⟨_, rfl⟩
    obtain ⟨c, hcq⟩ : ∃ c, tC L s0 s1 k m = c := ⟨_, rfl⟩
    have hPl : (tP L s0 s1 k m).length = P.length := congrArg List.length hP
    have q0 : (gtile (stG L s0 s1 k) m).x0 = Q.x0 := congrArg R4.x0 hQ
    have q1 : (gtile (stG L s0 s1 k) m).y0 = Q.y0 := congrArg R4.y0 hQ
    have q2 : (gtile (stG L s0 s1 k) m).x1 = Q.x1 := congrArg R4.x1 hQ
    have q3 : (gtile (stG L s0 s1 k) m).y1 = Q.y1 := congrArg R4.y1 hQ
    have q4 : (gtile (stG L s0 s1 k) m).x1 - (gtile (stG L s0 s1 k) m).x0 = Q.x1 - Q.x0 := by rw [q0, q2]
    have q5 : (gtile (stG L s0 s1 k) m).y1 - (gtile (stG L s0 s1 k) m).y0 = Q.y1 - Q.y0 := by rw [q1, q3]
    have hPb : P.length ≤ 16777216 ∧ (gis (stG L s0 s1 k) m = true → 0 < P.length) := by
      rw [← hPl]
      cases hg : gis (stG L s0 s1 k) m with
      | false =>
        have : tP L s0 s1 k m = [] := if_neg (by rw [hg]; decide)
        rw [this]
        exact ⟨by simp, fun h => by cases h⟩
      | true =>
        have ep : tP L s0 s1 k m = cropL (Lm L k.toNat).w (Lm L k.toNat).c (Lm L k.toNat).p (gtile (stG L s0 s1 k) m) ((gtile (stG L s0 s1 k) m).y1 - (gtile (stG L s0 s1 k) m).y0).toNat := if_pos hg
        have hH := crop_ok (tile_in hs hg)
        have hb := hH.b
        have hf := fits_inv hH.f
        have hk : ((((gtile (stG L s0 s1 k) m).y1 - (gtile (stG L s0 s1 k) m).y0).toNat : Nat) : Int) ≤ (gtile (stG L s0 s1 k) m).y1 - (gtile (stG L s0 s1 k) m).y0 := by omega
        rw [ep, hH.len _ hk]
        refine ⟨hH.fit hk, fun _ => Nat.mul_pos (by omega) ?_⟩
        unfold cropN
        have : 0 < ((gtile (stG L s0 s1 k) m).x1 - (gtile (stG L s0 s1 k) m).x0) * (Lm L k.toNat).c := Int.mul_pos (by omega) (by omega)
        omega
    obtain ⟨hPb1, hPb2⟩ := hPb
    cases hg : gis (stG L s0 s1 k) m with
    | true =>
      rw [if_pos hg] at hcn
      have iv : (if gis (stG L s0 s1 k) m = true then (0 : Int) else 11) = 0 := if_pos hg
      have ic : (if gis (stG L s0 s1 k) m = true then n + 1 else n) = n + 1 := if_pos hg
      have hP0 := hPb2 hg
      (repeat' (first | (refine And.intro (fun (hfk : _ = true) => ?_) (fun (hfk : _ = false) => ?_) <;> ((try (first | replace hfk := of_decide_eq_true hfk | replace hfk := of_decide_eq_false hfk | simp only [decide_eq_true_eq, decide_eq_false_iff_not, dh1, dh0, ne_eq, reduceCtorEq] at hfk)); (try (exfalso; first | omega | contradiction | exact Bool.noConfusion (Eq.trans (Eq.symm hfk) (by with_reducible assumption : _ = false)) | exact Bool.noConfusion (Eq.trans (Eq.symm hfk) (by with_reducible assumption : _ = true)))))) | (refine And.intro ?ob ?_; (case ob => (first | exact Chk.mk (by kernel_rfl) | exact True.intro | with_reducible assumption | exact rng64 (by omega) (by omega) | omega | (dsimp only; omega) | (show (_ : Nat) ≤ _; omega) | (simp only [ll1, ll2, ll0]; done) | (simp only [ll1, ll2, ll0]; omega) | (dsimp only; simp only [ll1, ll2, ll0]; omega)))) | exact True.intro | (show _ = _; first | with_reducible rfl | with_reducible assumption | omega | (simp only [ll1, ll2, ll0]; omega) | (exact ef; done) | exact rfl) | with_reducible assumption | (apply And.intro) | omega | (intro j hj; exact rfl) | fail))
      (refine ⟨[1, 2], ⟨by kernel_rfl⟩, ?_⟩)
      (repeat' (first | (refine And.intro (fun (hfk : _ = true) => ?_) (fun (hfk : _ = false) => ?_) <;> ((try (first | replace hfk := of_decide_eq_true hfk | replace hfk := of_decide_eq_false hfk | simp only [decide_eq_true_eq, decide_eq_false_iff_not, dh1, dh0, ne_eq, reduceCtorEq] at hfk)); (try (exfalso; first | omega | contradiction | exact Bool.noConfusion (Eq.trans (Eq.symm hfk) (by with_reducible assumption : _ = false)) | exact Bool.noConfusion (Eq.trans (Eq.symm hfk) (by with_reducible assumption : _ = true)))))) | (refine And.intro ?ob ?_; (case ob => (first | exact Chk.mk (by kernel_rfl) | exact True.intro | with_reducible assumption | exact rng64 (by omega) (by omega) | omega | (dsimp only; omega) | (show (_ : Nat) ≤ _; omega) | (simp only [ll1, ll2, ll0]; done) | (simp only [ll1, ll2, ll0]; omega) | (dsimp only; simp only [ll1, ll2, ll0]; omega)))) | exact True.intro | (show _ = _; first | with_reducible rfl | with_reducible assumption | omega | (simp only [ll1, ll2, ll0]; omega) | (skip; done) | exact rfl) | with_reducible assumption | (apply And.intro) | omega | (intro j hj; exact rfl) | fail))
      refine ⟨[(0, imsA L), (4, .ptr 0 0), (6, .fls), (7, .ptr 1 0), (10, .int .i64 n), (12, .ptr 3 0), (13, .ptr 4 0), (14, .bool true), (15, .ptr 6 0), (16, .int .i64 0), (55, TlA A), (56, .int .i64 (A.length : Int)), (57, .int .i64 (i : Int))],
        ⟨7, [(0, some (.cells 71 [.int .i64 s0, .int .i64 s1])), (1, some (stA2 L s0 s1 (n + 1))), (2, some (rowA L L.length)), (3, some (.cells 77 [.int .i64 k, .int .i64 m])), (4, some (.cells 86 [.int .i64 Q.x0, .int .i64 Q.y0, .int .i64 Q.x1, .int .i64 Q.y1])), (5, some (.ints 5 .u8 P)), (6, some (.cells 26 [.int .i64 (Q.x1 - Q.x0), .int .i64 (Q.y1 - Q.y0), .int .i64 c, .sl 5 1 0 P.length]))]⟩, [some 0, some 1, some 2, some 3, some 4, some 5, some 6], ?_, ?_⟩
      · (repeat' (first | (refine And.intro ?_ ?_) | exact True.intro | (show _ = _; with_reducible rfl) | exact Chk.mk (by kernel_rfl)))
        all_goals first | (intro j hj; rfl) | exact hg | exact iv | exact ic | exact hcq | exact hP | exact hPl | exact q0 | exact q1 | exact q2 | exact q3 | exact q4 | exact q5 | rfl
      (repeat' (first | (refine And.intro (fun (hfk : _ = true) => ?_) (fun (hfk : _ = false) => ?_) <;> ((try (first | replace hfk := of_decide_eq_true hfk | replace hfk := of_decide_eq_false hfk | simp only [decide_eq_true_eq, decide_eq_false_iff_not, dh1, dh0, ne_eq, reduceCtorEq] at hfk)); (try (exfalso; first | omega | contradiction | exact Bool.noConfusion (Eq.trans (Eq.symm hfk) (by with_reducible assumption : _ = false)) | exact Bool.noConfusion (Eq.trans (Eq.symm hfk) (by with_reducible assumption : _ = true)))))) | (refine And.intro ?ob ?_; (case ob => (first | exact Chk.mk (by kernel_rfl) | exact True.intro | with_reducible assumption | exact rng64 (by omega) (by omega) | omega | (dsimp only; omega) | (show (_ : Nat) ≤ _; omega) | (simp only [ll1, ll2, ll0]; done) | (simp only [ll1, ll2, ll0]; omega) | (dsimp only; simp only [ll1, ll2, ll0]; omega)))) | exact True.intro | (show _ = _; first | with_reducible rfl | with_reducible assumption | omega | (simp only [ll1, ll2, ll0]; omega) | (exact ef; done) | exact rfl) | with_reducible assumption | (apply And.intro) | omega | (intro j hj; exact rfl) | fail))
      refine ⟨[(0, imsA L), (4, .ptr 0 0), (6, .fls), (7, .ptr 1 0), (10, .int .i64 n), (12, .ptr 3 0), (13, .ptr 4 0), (14, .bool true), (15, .ptr 6 0), (16, .int .i64 0), (17, .ptr 7 0), (18, .ptr 8 0), (19, .bool true), (55, TlA A), (56, .int .i64 (A.length : Int)), (57, .int .i64 (i : Int))],
        ⟨9, [(0, some (.cells 71 [.int .i64 s0, .int .i64 s1])), (1, some (stA2 L s0 s1 (n + 1))), (2, some (rowA L L.length)), (3, some (.cells 77 [.int .i64 k, .int .i64 m])), (4, some (.cells 86 [.int .i64 Q.x0, .int .i64 Q.y0, .int .i64 Q.x1, .int .i64 Q.y1])), (5, some (.ints 5 .u8 P)), (6, some (.cells 26 [.int .i64 (Q.x1 - Q.x0), .int .i64 (Q.y1 - Q.y0), .int .i64 c, .sl 5 1 0 P.length])),
          (7, some (.cells 86 [.int .i64 Q.x0, .int .i64 Q.y0, .int .i64 Q.x1, .int .i64 Q.y1])), (8, some (.cells 26 [.int .i64 (Q.x1 - Q.x0), .int .i64 (Q.y1 - Q.y0), .int .i64 c, .roi .u8 P]))]⟩, [some 0, some 1, some 2, some 3, some 4, some 5, some 6, some 7, some 8], ?_, ?_⟩
      · (repeat' (first | (refine And.intro ?_ ?_) | exact True.intro | (show _ = _; with_reducible rfl) | exact Chk.mk (by kernel_rfl)))
        all_goals first | (intro j hj; rfl) | exact hg | exact hcq | exact hP | exact q0 | exact q1 | exact q2 | exact q3 | exact q4 | exact q5 | rfl
      have sr : (decide (Q.x0 = Q.x0) && (decide (Q.y0 = Q.y0) && (decide (Q.x1 = Q.x1) && (decide (Q.y1 = Q.y1) && true)))) = true := by simp
      have lt0 : List.take P.length (List.drop 0 P) = P := by rw [List.drop_zero, List.take_length]
      have ob1 : (List.take P.length (List.drop 0 P)).length ≤ 1152921504606846975 := by rw [lt0]; omega
      have sm : sameM (Q.x1 - Q.x0) (Q.y1 - Q.y0) c (List.take P.length (List.drop 0 P)) (Q.x1 - Q.x0) (Q.y1 - Q.y0) c P = true := decide_eq_true ⟨rfl, rfl, rfl, lt0⟩
      (repeat' (first | (refine And.intro (fun (hfk : _ = true) => ?_) (fun (hfk : _ = false) => ?_) <;> ((try (first | replace hfk := of_decide_eq_true hfk | replace hfk := of_decide_eq_false hfk | simp only [decide_eq_true_eq, decide_eq_false_iff_not, dh1, dh0, ne_eq, reduceCtorEq] at hfk)); (try (exfalso; first | omega | contradiction | exact Bool.noConfusion (Eq.trans (Eq.symm hfk) (by with_reducible assumption : _ = false)) | exact Bool.noConfusion (Eq.trans (Eq.symm hfk) (by with_reducible assumption : _ = true)))))) | (refine And.intro ?ob ?_; (case ob => (first | exact Chk.mk (by kernel_rfl) | exact True.intro | with_reducible assumption | exact rng64 (by omega) (by omega) | omega | (dsimp only; omega) | (show (_ : Nat) ≤ _; omega) | (simp only [ll1, ll2, ll0]; done) | (simp only [ll1, ll2, ll0]; omega) | (dsimp only; simp only [ll1, ll2, ll0]; omega)))) | exact True.intro | (show _ = _; first | with_reducible rfl | with_reducible assumption | omega | (simp only [ll1, ll2, ll0]; omega) | (exact ef; done) | exact rfl) | with_reducible assumption | (apply And.intro) | omega | (intro j hj; exact rfl) | fail))
      (refine ⟨i + 1, [some 0, some 1, some 2], ?_, ?mu, ?_⟩; (case mu => ((try dsimp only); omega)))
      · exact hlt
      (repeat' (first | (refine And.intro ?_ ?_) | exact True.intro | (show _ = _; with_reducible rfl) | exact Chk.mk (by kernel_rfl)))
      all_goals first | (intro j hj; rfl) | exact hcn.symm | (show (_ : Int) = _; omega) | rfl
    | false =>
      rw [if_neg (by rw [hg]; decide)] at hcn
      have iv : (if gis (stG L s0 s1 k) m = true then (0 : Int) else 11) = 11 := if_neg (by rw [hg]; decide)
      have ic : (if gis (stG L s0 s1 k) m = true then n + 1 else n) = n := if_neg (by rw [hg]; decide)
      (repeat' (first | (refine And.intro (fun (hfk : _ = true) => ?_) (fun (hfk : _ = false) => ?_) <;> ((try (first | replace hfk := of_decide_eq_true hfk | replace hfk := of_decide_eq_false hfk | simp only [decide_eq_true_eq, decide_eq_false_iff_not, dh1, dh0, ne_eq, reduceCtorEq] at hfk)); (try (exfalso; first | omega | contradiction | exact Bool.noConfusion (Eq.trans (Eq.symm hfk) (by with_reducible assumption : _ = false)) | exact Bool.noConfusion (Eq.trans (Eq.symm hfk) (by with_reducible assumption : _ = true)))))) | (refine And.intro ?ob ?_; (case ob => (first | exact Chk.mk (by kernel_rfl) | exact True.intro | with_reducible assumption | exact rng64 (by omega) (by omega) | omega | (dsimp only; omega) | (show (_ : Nat) ≤ _; omega) | (simp only [ll1, ll2, ll0]; done) | (simp only [ll1, ll2, ll0]; omega) | (dsimp only; simp only [ll1, ll2, ll0]; omega)))) | exact True.intro | (show _ = _; first | with_reducible rfl | with_reducible assumption | omega | (simp only [ll1, ll2, ll0]; omega) | (exact ef; done) | exact rfl) | with_reducible assumption | (apply And.intro) | omega | (intro j hj; exact rfl) | fail))
      (refine ⟨[1, 2], ⟨by kernel_rfl⟩, ?_⟩)
      (repeat' (first | (refine And.intro (fun (hfk : _ = true) => ?_) (fun (hfk : _ = false) => ?_) <;> ((try (first | replace hfk := of_decide_eq_true hfk | replace hfk := of_decide_eq_false hfk | simp only [decide_eq_true_eq, decide_eq_false_iff_not, dh1, dh0, ne_eq, reduceCtorEq] at hfk)); (try (exfalso; first | omega | contradiction | exact Bool.noConfusion (Eq.trans (Eq.symm hfk) (by with_reducible assumption : _ = false)) | exact Bool.noConfusion (Eq.trans (Eq.symm hfk) (by with_reducible assumption : _ = true)))))) | (refine And.intro ?ob ?_; (case ob => (first | exact Chk.mk (by kernel_rfl) | exact True.intro | with_reducible assumption | exact rng64 (by omega) (by omega) | omega | (dsimp only; omega) | (show (_ : Nat) ≤ _; omega) | (simp only [ll1, ll2, ll0]; done) | (simp only [ll1, ll2, ll0]; omega) | (dsimp only; simp only [ll1, ll2, ll0]; omega)))) | exact True.intro | (show _ = _; first | with_reducible rfl | with_reducible assumption | omega | (simp only [ll1, ll2, ll0]; omega) | (skip; done) | exact rfl) | with_reducible assumption | (apply And.intro) | omega | (intro j hj; exact rfl) | fail))
      refine ⟨[(0, imsA L), (4, .ptr 0 0), (6, .fls), (7, .ptr 1 0), (10, .int .i64 n), (12, .ptr 3 0), (13, .ptr 4 0), (14, .bool false), (15, .ptr 6 0), (16, .int .i64 11), (55, TlA A), (56, .int .i64 (A.length : Int)), (57, .int .i64 (i : Int))],
        ⟨7, [(0, some (.cells 71 [.int .i64 s0, .int .i64 s1])), (1, some (stA2 L s0 s1 n)), (2, some (rowA L L.length)), (3, some (.cells 77 [.int .i64 k, .int .i64 m])), (4, some (.cells 86 [.int .i64 Q.x0, .int .i64 Q.y0, .int .i64 Q.x1, .int .i64 Q.y1])), (5, some (.ints 5 .u8 P)), (6, some (.cells 26 [.int .i64 (Q.x1 - Q.x0), .int .i64 (Q.y1 - Q.y0), .int .i64 c, .sl 5 1 0 P.length]))]⟩, [some 0, some 1, some 2, some 3, some 4, some 5, some 6], ?_, ?_⟩
      · (repeat' (first | (refine And.intro ?_ ?_) | exact True.intro | (show _ = _; with_reducible rfl) | exact Chk.mk (by kernel_rfl)))
        all_goals first | (intro j hj; rfl) | exact hg | exact iv | exact ic | exact hcq | exact hP | exact hPl | exact q0 | exact q1 | exact q2 | exact q3 | exact q4 | exact q5 | rfl
      (repeat' (first | (refine And.intro (fun (hfk : _ = true) => ?_) (fun (hfk : _ = false) => ?_) <;> ((try (first | replace hfk := of_decide_eq_true hfk | replace hfk := of_decide_eq_false hfk | simp only [decide_eq_true_eq, decide_eq_false_iff_not, dh1, dh0, ne_eq, reduceCtorEq] at hfk)); (try (exfalso; first | omega | contradiction | exact Bool.noConfusion (Eq.trans (Eq.symm hfk) (by with_reducible assumption : _ = false)) | exact Bool.noConfusion (Eq.trans (Eq.symm hfk) (by with_reducible assumption : _ = true)))))) | (refine And.intro ?ob ?_; (case ob => (first | exact Chk.mk (by kernel_rfl) | exact True.intro | with_reducible assumption | exact rng64 (by omega) (by omega) | omega | (dsimp only; omega) | (show (_ : Nat) ≤ _; omega) | (simp only [ll1, ll2, ll0]; done) | (simp only [ll1, ll2, ll0]; omega) | (dsimp only; simp only [ll1, ll2, ll0]; omega)))) | exact True.intro | (show _ = _; first | with_reducible rfl | with_reducible assumption | omega | (simp only [ll1, ll2, ll0]; omega) | (exact ef; done) | exact rfl) | with_reducible assumption | (apply And.intro) | omega | (intro j hj; exact rfl) | fail))
      refine ⟨[(0, imsA L), (4, .ptr 0 0), (6, .fls), (7, .ptr 1 0), (10, .int .i64 n), (12, .ptr 3 0), (13, .ptr 4 0), (14, .bool false), (15, .ptr 6 0), (16, .int .i64 11), (17, .ptr 7 0), (18, .ptr 8 0), (19, .bool false), (55, TlA A), (56, .int .i64 (A.length : Int)), (57, .int .i64 (i : Int))],
        ⟨9, [(0, some (.cells 71 [.int .i64 s0, .int .i64 s1])), (1, some (stA2 L s0 s1 n)), (2, some (rowA L L.length)), (3, some (.cells 77 [.int .i64 k, .int .i64 m])), (4, some (.cells 86 [.int .i64 Q.x0, .int .i64 Q.y0, .int .i64 Q.x1, .int .i64 Q.y1])), (5, some (.ints 5 .u8 P)), (6, some (.cells 26 [.int .i64 (Q.x1 - Q.x0), .int .i64 (Q.y1 - Q.y0), .int .i64 c, .sl 5 1 0 P.length])),
          (7, some (.cells 86 [.int .i64 Q.x0, .int .i64 Q.y0, .int .i64 Q.x1, .int .i64 Q.y1])), (8, some (.cells 26 [.int .i64 (Q.x1 - Q.x0), .int .i64 (Q.y1 - Q.y0), .int .i64 c, .roi .u8 P]))]⟩, [some 0, some 1, some 2, some 3, some 4, some 5, some 6, some 7, some 8], ?_, ?_⟩
      · (repeat' (first | (refine And.intro ?_ ?_) | exact True.intro | (show _ = _; with_reducible rfl) | exact Chk.mk (by kernel_rfl)))
        all_goals first | (intro j hj; rfl) | exact hg | exact hcq | exact hP | exact q0 | exact q1 | exact q2 | exact q3 | exact q4 | exact q5 | rfl
      have sr : (decide (Q.x0 = Q.x0) && (decide (Q.y0 = Q.y0) && (decide (Q.x1 = Q.x1) && (decide (Q.y1 = Q.y1) && true)))) = true := by simp
      have lt0 : List.take P.length (List.drop 0 P) = P := by rw [List.drop_zero, List.take_length]
      have ob1 : (List.take P.length (List.drop 0 P)).length ≤ 1152921504606846975 := by rw [lt0]; omega
      have sm : sameM (Q.x1 - Q.x0) (Q.y1 - Q.y0) c (List.take P.length (List.drop 0 P)) (Q.x1 - Q.x0) (Q.y1 - Q.y0) c P = true := decide_eq_true ⟨rfl, rfl, rfl, lt0⟩
      (repeat' (first | (refine And.intro (fun (hfk : _ = true) => ?_) (fun (hfk : _ = false) => ?_) <;> ((try (first | replace hfk := of_decide_eq_true hfk | replace hfk := of_decide_eq_false hfk | simp only [decide_eq_true_eq, decide_eq_false_iff_not, dh1, dh0, ne_eq, reduceCtorEq] at hfk)); (try (exfalso; first | omega | contradiction | exact Bool.noConfusion (Eq.trans (Eq.symm hfk) (by with_reducible assumption : _ = false)) | exact Bool.noConfusion (Eq.trans (Eq.symm hfk) (by with_reducible assumption : _ = true)))))) | (refine And.intro ?ob ?_; (case ob => (first | exact Chk.mk (by kernel_rfl) | exact True.intro | with_reducible assumption | exact rng64 (by omega) (by omega) | omega | (dsimp only; omega) | (show (_ : Nat) ≤ _; omega) | (simp only [ll1, ll2, ll0]; done) | (simp only [ll1, ll2, ll0]; omega) | (dsimp only; simp only [ll1, ll2, ll0]; omega)))) | exact True.intro | (show _ = _; first | with_reducible rfl | with_reducible assumption | omega | (simp only [ll1, ll2, ll0]; omega) | (exact ef; done) | exact rfl) | with_reducible assumption | (apply And.intro) | omega | (intro j hj; exact rfl) | fail))
      (refine ⟨i + 1, [some 0, some 1, some 2], ?_, ?mu, ?_⟩; (case mu => ((try dsimp only); omega)))
      · exact hlt
      (repeat' (first | (refine And.intro ?_ ?_) | exact True.intro | (show _ = _; with_reducible rfl) | exact Chk.mk (by kernel_rfl)))
      all_goals first | (intro j hj; rfl) | exact hcn.symm | (show (_ : Int) = _; omega) | rfl
  · have hi1 := (imagesC_ok (storeC_ok hs).1).1
    have e0 : inL L 0 = true := inL_iff.2 ⟨by omega, by omega⟩
    have c0 : (if inL L 0 = true then (Lm L 0).c else 0) = (L.getD (Int.toNat 0) Im.z).c := if_pos e0
    have g1 : gcount (stG L s0 s1 (L.length : Int)) = 0 := by rw [stG_out (inL_not.2 (by omega))]; exact gcount_zero
    have g2 : gcount (stG L s0 s1 (-1)) = 0 := by rw [stG_out (inL_not.2 (by omega))]; exact gcount_zero
    (repeat' (first | (refine And.intro (fun (hfk : _ = true) => ?_) (fun (hfk : _ = false) => ?_) <;> ((try (first | replace hfk := of_decide_eq_true hfk | replace hfk := of_decide_eq_false hfk | simp only [decide_eq_true_eq, decide_eq_false_iff_not, dh1, dh0, ne_eq, reduceCtorEq] at hfk)); (try (exfalso; first | omega | contradiction | exact Bool.noConfusion (Eq.trans (Eq.symm hfk) (by with_reducible assumption : _ = false)) | exact Bool.noConfusion (Eq.trans (Eq.symm hfk) (by with_reducible assumption : _ = true)))))) | (refine And.intro ?ob ?_; (case ob => (first | exact Chk.mk (by kernel_rfl) | exact True.intro | with_reducible assumption | exact rng64 (by omega) (by omega) | omega | (dsimp only; omega) | (show (_ : Nat) ≤ _; omega) | (simp only [ll1, ll2, ll0]; done) | (simp only [ll1, ll2, ll0]; omega) | (dsimp only; simp only [ll1, ll2, ll0]; omega)))) | exact True.intro | (show _ = _; first | with_reducible rfl | with_reducible assumption | omega | (simp only [ll1, ll2, ll0]; omega) | (skip; done) | exact rfl) | with_reducible assumption | (apply And.intro) | omega | (intro j hj; exact rfl) | fail))
theorem walk_StoreTiles' (L : List Im) (s0 s1 : Int) (A : List Tl) (W : World) {cl : List Value} (hc : CRel noN W NoO [imsA L, .agg [.int .i64 s0, .int .i64 s1], TlA A] cl) :
    Calls Try.prog 13 cl.toArray W fun e W' => e = .returned (.bool true) ∧ Below W.heap.size W W' := by
  have hL := lenOK_of hc
  by_cases hfew : fewL L = true ∧ A.length ≤ 30
  rotate_left
  · refine law_of (C := mkC 0 [(47, sIms L [LenOK L.length] (.bool (fewL L)))] noG)
      (mkC_ok (pok_cons (few41_s L) pok_nil) noG_ok) rfl ⟨Try.func13, by kernel_rfl, by kernel_rfl, by kernel_rfl⟩ (by exact Nat.le_of_ble_eq_true rfl) ?_ hc
    by_cases hf : fewL L = true
    · have hA : ¬ A.length ≤ 30 := fun k => hfew ⟨hf, k⟩
      (repeat' (first | (refine And.intro (fun (hfk : _ = true) => ?_) (fun (hfk : _ = false) => ?_) <;> ((try (first | replace hfk := of_decide_eq_true hfk | replace hfk := of_decide_eq_false hfk | simp only [decide_eq_true_eq, decide_eq_false_iff_not, dh1, dh0, ne_eq, reduceCtorEq] at hfk)); (try (exfalso; first | omega | contradiction | exact Bool.noConfusion (Eq.trans (Eq.symm hfk) (by with_reducible assumption : _ = false)) | exact Bool.noConfusion (Eq.trans (Eq.symm hfk) (by with_reducible assumption : _ = true)))))) | (refine And.intro ?ob ?_; (case ob => (first | exact Chk.mk (by kernel_rfl) | exact True.intro | with_reducible assumption | exact rng64 (by omega) (by omega) | omega | (dsimp only; omega) | (show (_ : Nat) ≤ _; omega) | (simp only [ll1, ll2, ll0]; done) | (simp only [ll1, ll2, ll0]; omega) | (dsimp only; simp only [ll1, ll2, ll0]; omega)))) | exact True.intro | (show _ = _; first | with_reducible rfl | with_reducible assumption | omega | (simp only [ll1, ll2, ll0]; omega) | (skip; done) | exact rfl) | with_reducible assumption | (apply And.intro) | omega | (intro j hj; exact rfl) | fail))
    · have hf' : fewL L = false := Bool.eq_false_iff.2 hf
      (repeat' (first | (refine And.intro (fun (hfk : _ = true) => ?_) (fun (hfk : _ = false) => ?_) <;> ((try (first | replace hfk := of_decide_eq_true hfk | replace hfk := of_decide_eq_false hfk | simp only [decide_eq_true_eq, decide_eq_false_iff_not, dh1, dh0, ne_eq, reduceCtorEq] at hfk)); (try (exfalso; first | omega | contradiction | exact Bool.noConfusion (Eq.trans (Eq.symm hfk) (by with_reducible assumption : _ = false)) | exact Bool.noConfusion (Eq.trans (Eq.symm hfk) (by with_reducible assumption : _ = true)))))) | (refine And.intro ?ob ?_; (case ob => (first | exact Chk.mk (by kernel_rfl) | exact True.intro | with_reducible assumption | exact rng64 (by omega) (by omega) | omega | (dsimp only; omega) | (show (_ : Nat) ≤ _; omega) | (simp only [ll1, ll2, ll0]; done) | (simp only [ll1, ll2, ll0]; omega) | (dsimp only; simp only [ll1, ll2, ll0]; omega)))) | exact True.intro | (show _ = _; first | with_reducible rfl | with_reducible assumption | omega | (simp only [ll1, ll2, ll0]; omega) | (skip; done) | exact rfl) | with_reducible assumption | (apply And.intro) | omega | (intro j hj; exact rfl) | fail))
  obtain ⟨hf, hA⟩ := hfew
  have h6 : L.length ≤ 6 := by
    have hf := hf
    unfold fewL at hf
    rw [Bool.and_eq_true] at hf
    exact of_decide_eq_true hf.2
  by_cases hs : storeC L s0 s1 = 0
  · exact st_good L s0 s1 A hL hf h6 hA hs W hc
  · exact st_bad L s0 s1 A hL hf h6 hA hs W hc
end Go.Proofs.Ytchhikfiofeckaa
