
/- Images made: the law. No condition. -/
import Derived.Test.YtchhikfiofeckaaIM
namespace Go.Proofs.Ytchhikfiofeckaa
open Go Go.RowKit
set_option linter.unusedVariables false
set_option linter.unusedSimpArgs false
set_option maxRecDepth 100000
set_option maxHeartbeats 4000000

abbrev newOk7 : PSpec := fun l => match l with | [.int .i64 w, .int .i64 h, .int .i64 c] => some ([fitsI w h c = 0], .tup [imA w h c (List.replicate (w * h * c).toNat 0), .int .i64 0]) | _ => none
abbrev newBad7 : PSpec := fun l => match l with | [.int .i64 w, .int .i64 h, .int .i64 c] => some ([fitsI w h c ≠ 0], .tup [imA 0 0 0 [], .int .i64 (fitsI w h c)]) | _ => none
theorem newOk7_s : SOK Try.prog 18 newOk7 := sok_weak new_s fun l obs v h ho => by
  (unfold newOk7 at h; split at h; rotate_left; (focus (cases h)); rename_i w hh c; simp only [Option.some.injEq, Prod.mk.injEq] at h; obtain ⟨rfl, rfl⟩ := h; simp only [List.mem_cons, List.not_mem_nil, or_false, forall_eq_or_imp, forall_eq, false_implies, implies_true] at ho)
  refine ⟨[], ?_, by simp⟩
  have e : newN w hh c = (w * hh * c).toNat := if_pos ho
  show some (([] : List Prop), AV.tup [imA (if fitsI w hh c = 0 then w else 0) (if fitsI w hh c = 0 then hh else 0) (if fitsI w hh c = 0 then c else 0) (List.replicate (newN w hh c) 0), .int .i64 (fitsI w hh c)]) = _
  rw [if_pos ho, if_pos ho, if_pos ho, e, ho]
theorem newBad7_s : SOK Try.prog 18 newBad7 := sok_weak new_s fun l obs v h ho => by
  (unfold newBad7 at h; split at h; rotate_left; (focus (cases h)); rename_i w hh c; simp only [Option.some.injEq, Prod.mk.injEq] at h; obtain ⟨rfl, rfl⟩ := h; simp only [List.mem_cons, List.not_mem_nil, or_false, forall_eq_or_imp, forall_eq, false_implies, implies_true] at ho)
  refine ⟨[], ?_, by simp⟩
  have e : newN w hh c = 0 := if_neg ho
  show some (([] : List Prop), AV.tup [imA (if fitsI w hh c = 0 then w else 0) (if fitsI w hh c = 0 then hh else 0) (if fitsI w hh c = 0 then c else 0) (List.replicate (newN w hh c) 0), .int .i64 (fitsI w hh c)]) = _
  rw [if_neg ho, if_neg ho, if_neg ho, e]
  rfl
abbrev fillOk7 : PSpec := fun l => match l with | [.int .i64 w, .int .i64 h, .roi .u8 p] => some ([fitsI w h (p.length : Int) = 0], .tup [imA w h (p.length : Int) (repL p (w * h).toNat), .int .i64 0]) | _ => none
abbrev fillBad7 : PSpec := fun l => match l with | [.int .i64 w, .int .i64 h, .roi .u8 p] => some ([fitsI w h (p.length : Int) ≠ 0], .tup [imA 0 0 0 [], .int .i64 (fitsI w h (p.length : Int))]) | _ => none
theorem fillOk7_s : SOK Try.prog 19 fillOk7 := by
  refine sok_of (C := mkC 0 [(18, newOk7), (76, repS)] noG) (mkC_ok (pok_cons newOk7_s (pok_cons rep_s pok_nil)) noG_ok) rfl mixed ⟨Try.func19, by kernel_rfl, by kernel_rfl, by kernel_rfl⟩ fun l obs v h ho => ?_
  (unfold fillOk7 at h; split at h; rotate_left; (focus (cases h)); rename_i w hh p; simp only [Option.some.injEq, Prod.mk.injEq] at h; obtain ⟨rfl, rfl⟩ := h; simp only [List.mem_cons, List.not_mem_nil, or_false, forall_eq_or_imp, forall_eq, false_implies, implies_true] at ho)
  have hb := fits_inv ho
  have hr : rngI .i64 (w * hh) := rng64 (by omega) (by omega)
  have hm : (p.length : Int) * (w * hh) ≤ 16777216 := by rw [Int.mul_comm]; omega
  have h1 : 1 ≤ w * hh := by have := Int.mul_le_mul hb.2.1 hb.2.2.2.1 (by omega) (by omega); omega
  have hl1 : 1 ≤ (p.length : Int) := by omega
  have hl2 : (p.length : Int) ≤ 4 := by omega
  refine ⟨Nat.le_of_ble_eq_true rfl, ?_⟩
  (repeat' (first | (refine And.intro (fun (hfk : _ = true) => ?_) (fun (hfk : _ = false) => ?_) <;> ((try (first | replace hfk := of_decide_eq_true hfk | replace hfk := of_decide_eq_false hfk | simp only [decide_eq_true_eq, decide_eq_false_iff_not, dh1, dh0, ne_eq, reduceCtorEq] at hfk)); (try (exfalso; first | omega | contradiction | exact Bool.noConfusion (Eq.trans (Eq.symm hfk) (by with_reducible assumption : _ = false)) | exact Bool.noConfusion (Eq.trans (Eq.symm hfk) (by with_reducible assumption : _ = true)))))) | (refine And.intro ?ob ?_; (case ob => (first | exact Chk.mk (by kernel_rfl) | exact True.intro | with_reducible assumption | exact rng64 (by omega) (by omega) | omega | (dsimp only; omega) | (show (_ : Nat) ≤ _; omega) | (simp only [ll1, ll2, ll0]; done) | (simp only [ll1, ll2, ll0]; omega) | (dsimp only; simp only [ll1, ll2, ll0]; omega)))) | exact True.intro | (show _ = _; first | with_reducible rfl | with_reducible assumption | omega | (simp only [ll1, ll2, ll0]; omega) | (skip; done) | exact rfl) | with_reducible assumption | (apply And.intro) | omega | (intro j hj; exact rfl) | fail))
theorem fillBad7_s : SOK Try.prog 19 fillBad7 := by
  refine sok_of (C := mkC 0 [(18, newBad7)] noG) (mkC_ok (pok_cons newBad7_s pok_nil) noG_ok) rfl mixed ⟨Try.func19, by kernel_rfl, by kernel_rfl, by kernel_rfl⟩ fun l obs v h ho => ?_
  (unfold fillBad7 at h; split at h; rotate_left; (focus (cases h)); rename_i w hh p; simp only [Option.some.injEq, Prod.mk.injEq] at h; obtain ⟨rfl, rfl⟩ := h; simp only [List.mem_cons, List.not_mem_nil, or_false, forall_eq_or_imp, forall_eq, false_implies, implies_true] at ho)
  refine ⟨Nat.le_of_ble_eq_true rfl, ?_⟩
  (repeat' (first | (refine And.intro (fun (hfk : _ = true) => ?_) (fun (hfk : _ = false) => ?_) <;> ((try (first | replace hfk := of_decide_eq_true hfk | replace hfk := of_decide_eq_false hfk | simp only [decide_eq_true_eq, decide_eq_false_iff_not, dh1, dh0, ne_eq, reduceCtorEq] at hfk)); (try (exfalso; first | omega | contradiction | exact Bool.noConfusion (Eq.trans (Eq.symm hfk) (by with_reducible assumption : _ = false)) | exact Bool.noConfusion (Eq.trans (Eq.symm hfk) (by with_reducible assumption : _ = true)))))) | (refine And.intro ?ob ?_; (case ob => (first | exact Chk.mk (by kernel_rfl) | exact True.intro | with_reducible assumption | exact rng64 (by omega) (by omega) | omega | (dsimp only; omega) | (show (_ : Nat) ≤ _; omega) | (simp only [ll1, ll2, ll0]; done) | (simp only [ll1, ll2, ll0]; omega) | (dsimp only; simp only [ll1, ll2, ll0]; omega)))) | exact True.intro | (show _ = _; first | with_reducible rfl | with_reducible assumption | omega | (simp only [ll1, ll2, ll0]; omega) | (skip; done) | exact rfl) | with_reducible assumption | (apply And.intro) | omega | (intro j hj; exact rfl) | fail))
theorem walk_ImgMade' (w h : Int) (p : List Int) (W : World) {cl : List Value} (hc : CRel noN W NoO [.int .i64 w, .int .i64 h, .roi .u8 p] cl) :
    Calls Try.prog 3 cl.toArray W fun e W' => e = .returned (.bool true) ∧ Below W.heap.size W W' := by
  by_cases hf : fitsI w h (p.length : Int) = 0
  rotate_left
  · refine law_of (C := mkC 0 [(17, fitsS), (18, newBad7), (19, fillBad7), (20, fun l => sameS (l.map nzA)), (21, aliveS)] noG)
      (mkC_ok (pok_cons rfits_s (pok_cons newBad7_s (pok_cons fillBad7_s (pok_cons (sok_nz rsame_s) (pok_cons alive7_s pok_nil))))) noG_ok) rfl ⟨Try.func3, by kernel_rfl, by kernel_rfl, by kernel_rfl⟩ (by exact Nat.le_of_ble_eq_true rfl) ?_ hc
    have s0 : sameM 0 0 0 [] 0 0 0 [] = true := by decide
    have e0 : decide (fitsI w h (p.length : Int) = fitsI w h (p.length : Int)) = true := decide_eq_true rfl
    (repeat' (first | (refine And.intro (fun (hfk : _ = true) => ?_) (fun (hfk : _ = false) => ?_) <;> ((try (first | replace hfk := of_decide_eq_true hfk | replace hfk := of_decide_eq_false hfk | simp only [decide_eq_true_eq, decide_eq_false_iff_not, dh1, dh0, ne_eq, reduceCtorEq] at hfk)); (try (exfalso; first | omega | contradiction | exact Bool.noConfusion (Eq.trans (Eq.symm hfk) (by with_reducible assumption : _ = false)) | exact Bool.noConfusion (Eq.trans (Eq.symm hfk) (by with_reducible assumption : _ = true)))))) | (refine And.intro ?ob ?_; (case ob => (first | exact Chk.mk (by kernel_rfl) | exact True.intro | with_reducible assumption | exact rng64 (by omega) (by omega) | omega | (dsimp only; omega) | (show (_ : Nat) ≤ _; omega) | (simp only [ll1, ll2, ll0]; done) | (simp only [ll1, ll2, ll0]; omega) | (dsimp only; simp only [ll1, ll2, ll0]; omega)))) | exact True.intro | (show _ = _; first | with_reducible rfl | with_reducible assumption | omega | (simp only [ll1, ll2, ll0]; omega) | (skip; done) | exact rfl) | with_reducible assumption | (apply And.intro) | omega | (intro j hj; exact rfl) | fail))
  have hb := fits_inv hf
  refine law_of (C := mkC 0 [(17, fitsS), (18, newOk7), (19, fillOk7), (22, checkS), (21, aliveS)] noG)
      (mkC_ok (pok_cons rfits_s (pok_cons newOk7_s (pok_cons fillOk7_s (pok_cons rcheck7_s (pok_cons alive7_s pok_nil))))) noG_ok) rfl ⟨Try.func3, by kernel_rfl, by kernel_rfl, by kernel_rfl⟩ (by exact Nat.le_of_ble_eq_true rfl) ?_ hc
  have hr : rngI .i64 (w * h) := rng64 (by omega) (by omega)
  have c1 : imCheck w h (p.length : Int) ((List.replicate (w * h * (p.length : Int)).toNat (0 : Int)).length : Nat) = 0 := by
    unfold imCheck
    rw [if_neg (fun k => k hf), if_neg]
    simp; omega
  have c2 : imCheck w h (p.length : Int) ((repL p (w * h).toNat).length : Nat) = 0 := by
    unfold imCheck
    rw [if_neg (fun k => k hf), if_neg]
    rw [repL_len, Int.natCast_mul, Int.toNat_of_nonneg (by omega)]; omega
  obtain ⟨N, hN⟩ : ∃ N, (w * h * (p.length : Int)).toNat = N := ⟨_, rfl⟩
  have hN2 : (w * h).toNat * p.length = N := by
    have : ((((w * h).toNat * p.length : Nat)) : Int) = (N : Int) := by rw [Int.natCast_mul, Int.toNat_of_nonneg (by omega), ← hN, Int.toNat_of_nonneg (by omega)]
    exact Int.ofNat.inj this
  have hR : (repL p (w * h).toNat).length = N := by rw [repL_len, hN2]
  (repeat' (first | (refine And.intro (fun (hfk : _ = true) => ?_) (fun (hfk : _ = false) => ?_) <;> ((try (first | replace hfk := of_decide_eq_true hfk | replace hfk := of_decide_eq_false hfk | simp only [decide_eq_true_eq, decide_eq_false_iff_not, dh1, dh0, ne_eq, reduceCtorEq] at hfk)); (try (exfalso; first | omega | contradiction | exact Bool.noConfusion (Eq.trans (Eq.symm hfk) (by with_reducible assumption : _ = false)) | exact Bool.noConfusion (Eq.trans (Eq.symm hfk) (by with_reducible assumption : _ = true)))))) | (refine And.intro ?ob ?_; (case ob => (first | exact Chk.mk (by kernel_rfl) | exact True.intro | with_reducible assumption | exact rng64 (by omega) (by omega) | omega | (dsimp only; omega) | (show (_ : Nat) ≤ _; omega) | (simp only [ll1, ll2, ll0]; done) | (simp only [ll1, ll2, ll0]; omega) | (dsimp only; simp only [ll1, ll2, ll0]; omega)))) | exact True.intro | (show _ = _; first | with_reducible rfl | with_reducible assumption | omega | (simp only [ll1, ll2, ll0]; omega) | (skip; done) | exact rfl) | with_reducible assumption | (apply And.intro) | omega | (intro j hj; exact rfl) | fail))
  refine ⟨Nat, fun i => [(2, .roi .u8 p), (6, .fls), (7, .int .i64 (p.length : Int)), (9, .ptr 0 0), (11, .ptr 1 0), (13, .int .i64 (i : Int))],
      fun i => ⟨2, [(0, some (.cells 26 [.int .i64 w, .int .i64 h, .int .i64 (p.length : Int), .roi .u8 (List.replicate N 0)])), (1, some (.cells 26 [.int .i64 w, .int .i64 h, .int .i64 (p.length : Int), .roi .u8 (repL p (w * h).toNat)]))]⟩,
      fun i => i ≤ N, fun i => N - i, ⟨0, [some 0, some 1], Nat.zero_le _, ?_⟩, fun i hi => ?_⟩
  · (repeat' (first | (refine And.intro (fun (hfk : _ = true) => ?_) (fun (hfk : _ = false) => ?_) <;> ((try (first | replace hfk := of_decide_eq_true hfk | replace hfk := of_decide_eq_false hfk | simp only [decide_eq_true_eq, decide_eq_false_iff_not, dh1, dh0, ne_eq, reduceCtorEq] at hfk)); (try (exfalso; first | omega | contradiction | exact Bool.noConfusion (Eq.trans (Eq.symm hfk) (by with_reducible assumption : _ = false)) | exact Bool.noConfusion (Eq.trans (Eq.symm hfk) (by with_reducible assumption : _ = true)))))) | (refine And.intro ?ob ?_; (case ob => (first | exact Chk.mk (by kernel_rfl) | exact True.intro | with_reducible assumption | exact rng64 (by omega) (by omega) | omega | (dsimp only; omega) | (show (_ : Nat) ≤ _; omega) | (simp only [ll1, ll2, ll0]; done) | (simp only [ll1, ll2, ll0]; omega) | (dsimp only; simp only [ll1, ll2, ll0]; omega)))) | exact True.intro | (show _ = _; first | with_reducible rfl | with_reducible assumption | omega | (simp only [ll1, ll2, ll0]; omega) | ((rw [hN]); done) | exact rfl) | with_reducible assumption | (apply And.intro) | omega | (intro j hj; exact rfl) | fail))
  have hi : i ≤ N := hi
  have hz : (List.replicate N (0 : Int)).length = N := by simp
  by_cases hlt : i < N
  · have z0 : (List.replicate N (0 : Int)).getD (i : Int).toNat 0 = 0 := by simp [List.getD, List.getElem?_replicate, hlt]
    have pl : 0 < p.length := by omega
    have im : Int.tmod (i : Int) (p.length : Int) = ((i % p.length : Nat) : Int) := rfl
    have il := Nat.mod_lt i pl
    have z1 : (repL p (w * h).toNat).getD (i : Int).toNat 0 = p.getD (Int.tmod (i : Int) (p.length : Int)).toNat 0 := repL_get p _ _ (by rw [hN2]; exact hlt)
    (repeat' (first | (refine And.intro (fun (hfk : _ = true) => ?_) (fun (hfk : _ = false) => ?_) <;> ((try (first | replace hfk := of_decide_eq_true hfk | replace hfk := of_decide_eq_false hfk | simp only [decide_eq_true_eq, decide_eq_false_iff_not, dh1, dh0, ne_eq, reduceCtorEq] at hfk)); (try (exfalso; first | omega | contradiction | exact Bool.noConfusion (Eq.trans (Eq.symm hfk) (by with_reducible assumption : _ = false)) | exact Bool.noConfusion (Eq.trans (Eq.symm hfk) (by with_reducible assumption : _ = true)))))) | (refine And.intro ?ob ?_; (case ob => (first | exact Chk.mk (by kernel_rfl) | exact True.intro | with_reducible assumption | exact rng64 (by omega) (by omega) | omega | (dsimp only; omega) | (show (_ : Nat) ≤ _; omega) | (simp only [ll1, ll2, ll0]; done) | (simp only [ll1, ll2, ll0]; omega) | (dsimp only; simp only [ll1, ll2, ll0]; omega)))) | exact True.intro | (show _ = _; first | with_reducible rfl | with_reducible assumption | omega | (simp only [ll1, ll2, ll0]; omega) | (skip; done) | exact rfl) | with_reducible assumption | (apply And.intro) | omega | (intro j hj; exact rfl) | fail))
    (refine ⟨i + 1, [some 0, some 1], ?_, ?mu, ?_⟩; (case mu => ((try dsimp only); omega)))
    · exact hlt
    (repeat' (first | (refine And.intro (fun (hfk : _ = true) => ?_) (fun (hfk : _ = false) => ?_) <;> ((try (first | replace hfk := of_decide_eq_true hfk | replace hfk := of_decide_eq_false hfk | simp only [decide_eq_true_eq, decide_eq_false_iff_not, dh1, dh0, ne_eq, reduceCtorEq] at hfk)); (try (exfalso; first | omega | contradiction | exact Bool.noConfusion (Eq.trans (Eq.symm hfk) (by with_reducible assumption : _ = false)) | exact Bool.noConfusion (Eq.trans (Eq.symm hfk) (by with_reducible assumption : _ = true)))))) | (refine And.intro ?ob ?_; (case ob => (first | exact Chk.mk (by kernel_rfl) | exact True.intro | with_reducible assumption | exact rng64 (by omega) (by omega) | omega | (dsimp only; omega) | (show (_ : Nat) ≤ _; omega) | (simp only [ll1, ll2, ll0]; done) | (simp only [ll1, ll2, ll0]; omega) | (dsimp only; simp only [ll1, ll2, ll0]; omega)))) | exact True.intro | (show _ = _; first | with_reducible rfl | with_reducible assumption | omega | (simp only [ll1, ll2, ll0]; omega) | (skip; done) | exact rfl) | with_reducible assumption | (apply And.intro) | omega | (intro j hj; exact rfl) | fail))
  · (repeat' (first | (refine And.intro (fun (hfk : _ = true) => ?_) (fun (hfk : _ = false) => ?_) <;> ((try (first | replace hfk := of_decide_eq_true hfk | replace hfk := of_decide_eq_false hfk | simp only [decide_eq_true_eq, decide_eq_false_iff_not, dh1, dh0, ne_eq, reduceCtorEq] at hfk)); (try (exfalso; first | omega | contradiction | exact Bool.noConfusion (Eq.trans (Eq.symm hfk) (by with_reducible assumption : _ = false)) | exact Bool.noConfusion (Eq.trans (Eq.symm hfk) (by with_reducible assumption : _ = true)))))) | (refine And.intro ?ob ?_; (case ob => (first | exact Chk.mk (by kernel_rfl) | exact True.intro | with_reducible assumption | exact rng64 (by omega) (by omega) | omega | (dsimp only; omega) | (show (_ : Nat) ≤ _; omega) | (simp only [ll1, ll2, ll0]; done) | (simp only [ll1, ll2, ll0]; omega) | (dsimp only; simp only [ll1, ll2, ll0]; omega)))) | exact True.intro | (show _ = _; first | with_reducible rfl | with_reducible assumption | omega | (simp only [ll1, ll2, ll0]; omega) | (skip; done) | exact rfl) | with_reducible assumption | (apply And.intro) | omega | (intro j hj; exact rfl) | fail))
end Go.Proofs.Ytchhikfiofeckaa
