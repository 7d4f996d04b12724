
/- Images of other channels (the layer tint): To, Invert, Swap, Channel: what they answer. No condition. -/
import Derived.Test.YtjnkjjojkfemoaaT12bb
namespace Go.Proofs.Ytjnkjjojkfemoaa
open Go Go.RowKit
set_option linter.unusedVariables false
set_option linter.unusedSimpArgs false
set_option maxRecDepth 100000
set_option maxHeartbeats 4000000

def toFn (c cc : Int) : Nat → List Int → List Int := if c = 1 ∧ 1 < cc then sprL else if 1 < c ∧ cc = 1 then gryL else fstL
abbrev imS (ob : List Int → List Prop) (X : Int → Int → Int → List Int → Im) (k : Int → Int → Int → List Int → Int) : PSpec := fun l => match l with
  | [.agg [.int .i64 w, .int .i64 h, .int .i64 c, .roi .u8 p]] => some (ob p, .tup [(X w h c p).av, .int .i64 (k w h c p)]) | _ => none
theorem imS_inv {ob : List Int → List Prop} {X : Int → Int → Int → List Int → Im} {k : Int → Int → Int → List Int → Int} {l : List AV} {obs : List Prop} {v : AV} (h : imS ob X k l = some (obs, v)) :
    ∃ w hh c p, l = [imA w hh c p] ∧ obs = ob p ∧ v = .tup [(X w hh c p).av, .int .i64 (k w hh c p)] := by
  unfold imS at h
  split at h
  · simp only [Option.some.injEq, Prod.mk.injEq] at h
    obtain ⟨rfl, rfl⟩ := h
    exact ⟨_, _, _, _, rfl, rfl, rfl⟩
  · cases h
abbrev imIS (ob : List Int → List Prop) (X : Int → Int → Int → List Int → Int → Im) (k : Int → Int → Int → List Int → Int → Int) : PSpec := fun l => match l with
  | [.agg [.int .i64 w, .int .i64 h, .int .i64 c, .roi .u8 p], .int .i64 x] => some (ob p, .tup [(X w h c p x).av, .int .i64 (k w h c p x)]) | _ => none
theorem imIS_inv {ob : List Int → List Prop} {X : Int → Int → Int → List Int → Int → Im} {k : Int → Int → Int → List Int → Int → Int} {l : List AV} {obs : List Prop} {v : AV} (h : imIS ob X k l = some (obs, v)) :
    ∃ w hh c p x, l = [imA w hh c p, .int .i64 x] ∧ obs = ob p ∧ v = .tup [(X w hh c p x).av, .int .i64 (k w hh c p x)] := by
  unfold imIS at h
  split at h
  · simp only [Option.some.injEq, Prod.mk.injEq] at h
    obtain ⟨rfl, rfl⟩ := h
    exact ⟨_, _, _, _, _, rfl, rfl, rfl⟩
  · cases h
theorem td_self (q : List Int) : List.take q.length (List.drop 0 q) = q := by simp
abbrev toS : PSpec := imIS (fun p => [Bytes p]) (fun w h c p cc => chgX (toFn c cc) w h c p cc) chgC
theorem to_s : SOK Try.prog 20 toS := by
  refine sok_of (C := mkC 0 [] (glook [(77, fG (orF chFirstF (orF chSpreadF chGrayF)))])) (mkC_ok pok_nil (gl_cons (gor chFirst_g (gor chSpread_g chGray_g)) gl_nil)) rfl mixed ⟨Try.func20, by kernel_rfl, by kernel_rfl, by kernel_rfl⟩ fun l obs v h ho => ?_
  obtain ⟨w, hh, c, p, cc, rfl, rfl, rfl⟩ := imIS_inv h
  simp only [List.mem_cons, List.not_mem_nil, or_false, forall_eq] at ho
  refine ⟨Nat.le_of_ble_eq_true rfl, ?_⟩
  by_cases h1 : c = 1 ∧ 1 < cc
  · have e : toFn c cc = sprL := if_pos h1
    rw [e]
    have et := td_self (chgX sprL w hh c p cc).p
    obtain ⟨h1, h2⟩ := h1
    (repeat' (first | (refine And.intro (fun (hfk : _ = true) => ?_) (fun (hfk : _ = false) => ?_) <;> ((try (first | replace hfk := of_decide_eq_true hfk | replace hfk := of_decide_eq_false hfk | simp only [decide_eq_true_eq, decide_eq_false_iff_not, dh1, dh0, ne_eq, reduceCtorEq] at hfk)); (try (exfalso; first | omega | contradiction | exact Bool.noConfusion (Eq.trans (Eq.symm hfk) (by with_reducible assumption : _ = false)) | exact Bool.noConfusion (Eq.trans (Eq.symm hfk) (by with_reducible assumption : _ = true)))))) | (refine And.intro ?ob ?_; (case ob => (first | exact Chk.mk (by kernel_rfl) | exact True.intro | with_reducible assumption | exact rng64 (by omega) (by omega) | omega | (dsimp only; omega) | (show (_ : Nat) ≤ _; omega) | (simp only [ll1, ll2, ll0]; done) | (simp only [ll1, ll2, ll0]; omega) | (dsimp only; simp only [ll1, ll2, ll0]; omega)))) | exact True.intro | (show _ = _; first | with_reducible rfl | with_reducible assumption | omega | (simp only [ll1, ll2, ll0]; omega) | (skip; done) | exact rfl) | with_reducible assumption | (apply And.intro) | omega | (intro j hj; exact rfl) | fail))
    (refine ⟨[], ⟨by kernel_rfl⟩, ?_⟩)
    (repeat' (first | (refine And.intro (fun (hfk : _ = true) => ?_) (fun (hfk : _ = false) => ?_) <;> ((try (first | replace hfk := of_decide_eq_true hfk | replace hfk := of_decide_eq_false hfk | simp only [decide_eq_true_eq, decide_eq_false_iff_not, dh1, dh0, ne_eq, reduceCtorEq] at hfk)); (try (exfalso; first | omega | contradiction | exact Bool.noConfusion (Eq.trans (Eq.symm hfk) (by with_reducible assumption : _ = false)) | exact Bool.noConfusion (Eq.trans (Eq.symm hfk) (by with_reducible assumption : _ = true)))))) | (refine And.intro ?ob ?_; (case ob => (first | exact Chk.mk (by kernel_rfl) | exact True.intro | with_reducible assumption | exact rng64 (by omega) (by omega) | omega | (dsimp only; omega) | (show (_ : Nat) ≤ _; omega) | (simp only [ll1, ll2, ll0]; done) | (simp only [ll1, ll2, ll0]; omega) | (dsimp only; simp only [ll1, ll2, ll0]; omega)))) | exact True.intro | (show _ = _; first | with_reducible rfl | with_reducible assumption | omega | (simp only [ll1, ll2, ll0]; omega) | ((exact et); done) | exact rfl) | with_reducible assumption | (apply And.intro) | omega | (intro j hj; exact rfl) | fail))
  by_cases h2 : 1 < c ∧ cc = 1
  · have e : toFn c cc = gryL := by unfold toFn; rw [if_neg h1, if_pos h2]
    rw [e]
    have et := td_self (chgX gryL w hh c p cc).p
    obtain ⟨h2, h3⟩ := h2
    (repeat' (first | (refine And.intro (fun (hfk : _ = true) => ?_) (fun (hfk : _ = false) => ?_) <;> ((try (first | replace hfk := of_decide_eq_true hfk | replace hfk := of_decide_eq_false hfk | simp only [decide_eq_true_eq, decide_eq_false_iff_not, dh1, dh0, ne_eq, reduceCtorEq] at hfk)); (try (exfalso; first | omega | contradiction | exact Bool.noConfusion (Eq.trans (Eq.symm hfk) (by with_reducible assumption : _ = false)) | exact Bool.noConfusion (Eq.trans (Eq.symm hfk) (by with_reducible assumption : _ = true)))))) | (refine And.intro ?ob ?_; (case ob => (first | exact Chk.mk (by kernel_rfl) | exact True.intro | with_reducible assumption | exact rng64 (by omega) (by omega) | omega | (dsimp only; omega) | (show (_ : Nat) ≤ _; omega) | (simp only [ll1, ll2, ll0]; done) | (simp only [ll1, ll2, ll0]; omega) | (dsimp only; simp only [ll1, ll2, ll0]; omega)))) | exact True.intro | (show _ = _; first | with_reducible rfl | with_reducible assumption | omega | (simp only [ll1, ll2, ll0]; omega) | (skip; done) | exact rfl) | with_reducible assumption | (apply And.intro) | omega | (intro j hj; exact rfl) | fail))
    (refine ⟨[], ⟨by kernel_rfl⟩, ?_⟩)
    (repeat' (first | (refine And.intro (fun (hfk : _ = true) => ?_) (fun (hfk : _ = false) => ?_) <;> ((try (first | replace hfk := of_decide_eq_true hfk | replace hfk := of_decide_eq_false hfk | simp only [decide_eq_true_eq, decide_eq_false_iff_not, dh1, dh0, ne_eq, reduceCtorEq] at hfk)); (try (exfalso; first | omega | contradiction | exact Bool.noConfusion (Eq.trans (Eq.symm hfk) (by with_reducible assumption : _ = false)) | exact Bool.noConfusion (Eq.trans (Eq.symm hfk) (by with_reducible assumption : _ = true)))))) | (refine And.intro ?ob ?_; (case ob => (first | exact Chk.mk (by kernel_rfl) | exact True.intro | with_reducible assumption | exact rng64 (by omega) (by omega) | omega | (dsimp only; omega) | (show (_ : Nat) ≤ _; omega) | (simp only [ll1, ll2, ll0]; done) | (simp only [ll1, ll2, ll0]; omega) | (dsimp only; simp only [ll1, ll2, ll0]; omega)))) | exact True.intro | (show _ = _; first | with_reducible rfl | with_reducible assumption | omega | (simp only [ll1, ll2, ll0]; omega) | ((exact et); done) | exact rfl) | with_reducible assumption | (apply And.intro) | omega | (intro j hj; exact rfl) | fail))
  · have e : toFn c cc = fstL := by unfold toFn; rw [if_neg h1, if_neg h2]
    rw [e]
    have et := td_self (chgX fstL w hh c p cc).p
    (repeat' (first | (refine And.intro (fun (hfk : _ = true) => ?_) (fun (hfk : _ = false) => ?_) <;> ((try (first | replace hfk := of_decide_eq_true hfk | replace hfk := of_decide_eq_false hfk | simp only [decide_eq_true_eq, decide_eq_false_iff_not, dh1, dh0, ne_eq, reduceCtorEq] at hfk)); (try (exfalso; first | omega | contradiction | exact Bool.noConfusion (Eq.trans (Eq.symm hfk) (by with_reducible assumption : _ = false)) | exact Bool.noConfusion (Eq.trans (Eq.symm hfk) (by with_reducible assumption : _ = true)))))) | (refine And.intro ?ob ?_; (case ob => (first | exact Chk.mk (by kernel_rfl) | exact True.intro | with_reducible assumption | exact rng64 (by omega) (by omega) | omega | (dsimp only; omega) | (show (_ : Nat) ≤ _; omega) | (simp only [ll1, ll2, ll0]; done) | (simp only [ll1, ll2, ll0]; omega) | (dsimp only; simp only [ll1, ll2, ll0]; omega)))) | exact True.intro | (show _ = _; first | with_reducible rfl | with_reducible assumption | omega | (simp only [ll1, ll2, ll0]; omega) | (skip; done) | exact rfl) | with_reducible assumption | (apply And.intro) | omega | (intro j hj; exact rfl) | fail))
    all_goals
      (refine ⟨[], ⟨by kernel_rfl⟩, ?_⟩)
      (repeat' (first | (refine And.intro (fun (hfk : _ = true) => ?_) (fun (hfk : _ = false) => ?_) <;> ((try (first | replace hfk := of_decide_eq_true hfk | replace hfk := of_decide_eq_false hfk | simp only [decide_eq_true_eq, decide_eq_false_iff_not, dh1, dh0, ne_eq, reduceCtorEq] at hfk)); (try (exfalso; first | omega | contradiction | exact Bool.noConfusion (Eq.trans (Eq.symm hfk) (by with_reducible assumption : _ = false)) | exact Bool.noConfusion (Eq.trans (Eq.symm hfk) (by with_reducible assumption : _ = true)))))) | (refine And.intro ?ob ?_; (case ob => (first | exact Chk.mk (by kernel_rfl) | exact True.intro | with_reducible assumption | exact rng64 (by omega) (by omega) | omega | (dsimp only; omega) | (show (_ : Nat) ≤ _; omega) | (simp only [ll1, ll2, ll0]; done) | (simp only [ll1, ll2, ll0]; omega) | (dsimp only; simp only [ll1, ll2, ll0]; omega)))) | exact True.intro | (show _ = _; first | with_reducible rfl | with_reducible assumption | omega | (simp only [ll1, ll2, ll0]; omega) | ((exact et); done) | exact rfl) | with_reducible assumption | (apply And.intro) | omega | (intro j hj; exact rfl) | fail))
theorem self_code {w h c : Int} {p : List Int} : chgC w h c p c = imCheck w h c p.length := by
  unfold chgC
  split
  · rfl
  · rename_i hh
    have := (check_inv (Classical.not_not.1 hh)).1
    rw [this, Classical.not_not.1 hh]
abbrev invertS : PSpec := imS (fun p => []) (fun w h c p => chgX invL' w h c p c) (fun w h c p => imCheck w h c p.length)
theorem invert_s : SOK Try.prog 22 invertS := by
  refine sok_of (C := mkC 0 [] (glook [(77, fG chInvertF)])) (mkC_ok pok_nil (gl_cons chInvert_g gl_nil)) rfl mixed ⟨Try.func22, by kernel_rfl, by kernel_rfl, by kernel_rfl⟩ fun l obs v h ho => ?_
  obtain ⟨w, hh, c, p, rfl, rfl, rfl⟩ := imS_inv h
  refine ⟨Nat.le_of_ble_eq_true rfl, ?_⟩
  have et := td_self (chgX invL' w hh c p c).p
  rw [← self_code]
  (repeat' (first | (refine And.intro (fun (hfk : _ = true) => ?_) (fun (hfk : _ = false) => ?_) <;> ((try (first | replace hfk := of_decide_eq_true hfk | replace hfk := of_decide_eq_false hfk | simp only [decide_eq_true_eq, decide_eq_false_iff_not, dh1, dh0, ne_eq, reduceCtorEq] at hfk)); (try (exfalso; first | omega | contradiction | exact Bool.noConfusion (Eq.trans (Eq.symm hfk) (by with_reducible assumption : _ = false)) | exact Bool.noConfusion (Eq.trans (Eq.symm hfk) (by with_reducible assumption : _ = true)))))) | (refine And.intro ?ob ?_; (case ob => (first | exact Chk.mk (by kernel_rfl) | exact True.intro | with_reducible assumption | exact rng64 (by omega) (by omega) | omega | (dsimp only; omega) | (show (_ : Nat) ≤ _; omega) | (simp only [ll1, ll2, ll0]; done) | (simp only [ll1, ll2, ll0]; omega) | (dsimp only; simp only [ll1, ll2, ll0]; omega)))) | exact True.intro | (show _ = _; first | with_reducible rfl | with_reducible assumption | omega | (simp only [ll1, ll2, ll0]; omega) | (skip; done) | exact rfl) | with_reducible assumption | (apply And.intro) | omega | (intro j hj; exact rfl) | fail))
  (refine ⟨[], ⟨by kernel_rfl⟩, ?_⟩)
  (repeat' (first | (refine And.intro (fun (hfk : _ = true) => ?_) (fun (hfk : _ = false) => ?_) <;> ((try (first | replace hfk := of_decide_eq_true hfk | replace hfk := of_decide_eq_false hfk | simp only [decide_eq_true_eq, decide_eq_false_iff_not, dh1, dh0, ne_eq, reduceCtorEq] at hfk)); (try (exfalso; first | omega | contradiction | exact Bool.noConfusion (Eq.trans (Eq.symm hfk) (by with_reducible assumption : _ = false)) | exact Bool.noConfusion (Eq.trans (Eq.symm hfk) (by with_reducible assumption : _ = true)))))) | (refine And.intro ?ob ?_; (case ob => (first | exact Chk.mk (by kernel_rfl) | exact True.intro | with_reducible assumption | exact rng64 (by omega) (by omega) | omega | (dsimp only; omega) | (show (_ : Nat) ≤ _; omega) | (simp only [ll1, ll2, ll0]; done) | (simp only [ll1, ll2, ll0]; omega) | (dsimp only; simp only [ll1, ll2, ll0]; omega)))) | exact True.intro | (show _ = _; first | with_reducible rfl | with_reducible assumption | omega | (simp only [ll1, ll2, ll0]; omega) | ((exact et); done) | exact rfl) | with_reducible assumption | (apply And.intro) | omega | (intro j hj; exact rfl) | fail))
abbrev swapS : PSpec := imS (fun p => []) (fun w h c p => chgX swpL w h c p c) (fun w h c p => imCheck w h c p.length)
theorem swap_s : SOK Try.prog 24 swapS := by
  refine sok_of (C := mkC 0 [] (glook [(77, fG chSwapF)])) (mkC_ok pok_nil (gl_cons chSwap_g gl_nil)) rfl mixed ⟨Try.func24, by kernel_rfl, by kernel_rfl, by kernel_rfl⟩ fun l obs v h ho => ?_
  obtain ⟨w, hh, c, p, rfl, rfl, rfl⟩ := imS_inv h
  refine ⟨Nat.le_of_ble_eq_true rfl, ?_⟩
  have et := td_self (chgX swpL w hh c p c).p
  rw [← self_code]
  (repeat' (first | (refine And.intro (fun (hfk : _ = true) => ?_) (fun (hfk : _ = false) => ?_) <;> ((try (first | replace hfk := of_decide_eq_true hfk | replace hfk := of_decide_eq_false hfk | simp only [decide_eq_true_eq, decide_eq_false_iff_not, dh1, dh0, ne_eq, reduceCtorEq] at hfk)); (try (exfalso; first | omega | contradiction | exact Bool.noConfusion (Eq.trans (Eq.symm hfk) (by with_reducible assumption : _ = false)) | exact Bool.noConfusion (Eq.trans (Eq.symm hfk) (by with_reducible assumption : _ = true)))))) | (refine And.intro ?ob ?_; (case ob => (first | exact Chk.mk (by kernel_rfl) | exact True.intro | with_reducible assumption | exact rng64 (by omega) (by omega) | omega | (dsimp only; omega) | (show (_ : Nat) ≤ _; omega) | (simp only [ll1, ll2, ll0]; done) | (simp only [ll1, ll2, ll0]; omega) | (dsimp only; simp only [ll1, ll2, ll0]; omega)))) | exact True.intro | (show _ = _; first | with_reducible rfl | with_reducible assumption | omega | (simp only [ll1, ll2, ll0]; omega) | (skip; done) | exact rfl) | with_reducible assumption | (apply And.intro) | omega | (intro j hj; exact rfl) | fail))
  (refine ⟨[], ⟨by kernel_rfl⟩, ?_⟩)
  (repeat' (first | (refine And.intro (fun (hfk : _ = true) => ?_) (fun (hfk : _ = false) => ?_) <;> ((try (first | replace hfk := of_decide_eq_true hfk | replace hfk := of_decide_eq_false hfk | simp only [decide_eq_true_eq, decide_eq_false_iff_not, dh1, dh0, ne_eq, reduceCtorEq] at hfk)); (try (exfalso; first | omega | contradiction | exact Bool.noConfusion (Eq.trans (Eq.symm hfk) (by with_reducible assumption : _ = false)) | exact Bool.noConfusion (Eq.trans (Eq.symm hfk) (by with_reducible assumption : _ = true)))))) | (refine And.intro ?ob ?_; (case ob => (first | exact Chk.mk (by kernel_rfl) | exact True.intro | with_reducible assumption | exact rng64 (by omega) (by omega) | omega | (dsimp only; omega) | (show (_ : Nat) ≤ _; omega) | (simp only [ll1, ll2, ll0]; done) | (simp only [ll1, ll2, ll0]; omega) | (dsimp only; simp only [ll1, ll2, ll0]; omega)))) | exact True.intro | (show _ = _; first | with_reducible rfl | with_reducible assumption | omega | (simp only [ll1, ll2, ll0]; omega) | ((exact et); done) | exact rfl) | with_reducible assumption | (apply And.intro) | omega | (intro j hj; exact rfl) | fail))
def chanC (w h c : Int) (p : List Int) (k : Int) : Int := if imCheck w h c p.length ≠ 0 then imCheck w h c p.length else if k < 0 ∨ c ≤ k then 11 else 0
def chanX (w h c : Int) (p : List Int) (k : Int) : Im := if chanC w h c p k = 0 then ⟨w, h, 1, flatK p c.toNat (chnL k 1) (w * h).toNat⟩ else Im.z
abbrev channelS : PSpec := imIS (fun p => []) chanX chanC
theorem one_fits {w h c : Int} (hf : fitsI w h c = 0) : fitsI w h 1 = 0 := by
  have := fits_inv hf
  unfold fitsI
  rw [if_neg (by omega), if_neg (by omega), if_neg (by omega)]
theorem channel_s : SOK Try.prog 26 channelS := by
  refine sok_of (C := mkC 0 [(83, checkS)] (glook [(77, fG chChanF)])) (mkC_ok (pok_cons check_s pok_nil) (gl_cons chChan_g gl_nil)) rfl mixed ⟨Try.func26, by kernel_rfl, by kernel_rfl, by kernel_rfl⟩ fun l obs v h ho => ?_
  obtain ⟨w, hh, c, p, k, rfl, rfl, rfl⟩ := imIS_inv h
  refine ⟨Nat.le_of_ble_eq_true rfl, ?_⟩
  by_cases hc : imCheck w hh c p.length = 0
  rotate_left
  · have e : chanC w hh c p k = imCheck w hh c p.length := if_pos hc
    have eX : chanX w hh c p k = Im.z := if_neg (by rw [e]; exact hc)
    rw [eX, e]
    (repeat' (first | (refine And.intro (fun (hfk : _ = true) => ?_) (fun (hfk : _ = false) => ?_) <;> ((try (first | replace hfk := of_decide_eq_true hfk | replace hfk := of_decide_eq_false hfk | simp only [decide_eq_true_eq, decide_eq_false_iff_not, dh1, dh0, ne_eq, reduceCtorEq] at hfk)); (try (exfalso; first | omega | contradiction | exact Bool.noConfusion (Eq.trans (Eq.symm hfk) (by with_reducible assumption : _ = false)) | exact Bool.noConfusion (Eq.trans (Eq.symm hfk) (by with_reducible assumption : _ = true)))))) | (refine And.intro ?ob ?_; (case ob => (first | exact Chk.mk (by kernel_rfl) | exact True.intro | with_reducible assumption | exact rng64 (by omega) (by omega) | omega | (dsimp only; omega) | (show (_ : Nat) ≤ _; omega) | (simp only [ll1, ll2, ll0]; done) | (simp only [ll1, ll2, ll0]; omega) | (dsimp only; simp only [ll1, ll2, ll0]; omega)))) | exact True.intro | (show _ = _; first | with_reducible rfl | with_reducible assumption | omega | (simp only [ll1, ll2, ll0]; omega) | (skip; done) | exact rfl) | with_reducible assumption | (apply And.intro) | omega | (intro j hj; exact rfl) | fail))
  by_cases hk : k < 0 ∨ c ≤ k
  · have e : chanC w hh c p k = 11 := by unfold chanC; rw [if_neg (not_not_intro hc), if_pos hk]
    have eX : chanX w hh c p k = Im.z := if_neg (by rw [e]; decide)
    rw [eX, e]
    (repeat' (first | (refine And.intro (fun (hfk : _ = true) => ?_) (fun (hfk : _ = false) => ?_) <;> ((try (first | replace hfk := of_decide_eq_true hfk | replace hfk := of_decide_eq_false hfk | simp only [decide_eq_true_eq, decide_eq_false_iff_not, dh1, dh0, ne_eq, reduceCtorEq] at hfk)); (try (exfalso; first | omega | contradiction | exact Bool.noConfusion (Eq.trans (Eq.symm hfk) (by with_reducible assumption : _ = false)) | exact Bool.noConfusion (Eq.trans (Eq.symm hfk) (by with_reducible assumption : _ = true)))))) | (refine And.intro ?ob ?_; (case ob => (first | exact Chk.mk (by kernel_rfl) | exact True.intro | with_reducible assumption | exact rng64 (by omega) (by omega) | omega | (dsimp only; omega) | (show (_ : Nat) ≤ _; omega) | (simp only [ll1, ll2, ll0]; done) | (simp only [ll1, ll2, ll0]; omega) | (dsimp only; simp only [ll1, ll2, ll0]; omega)))) | exact True.intro | (show _ = _; first | with_reducible rfl | with_reducible assumption | omega | (simp only [ll1, ll2, ll0]; omega) | (skip; done) | exact rfl) | with_reducible assumption | (apply And.intro) | omega | (intro j hj; exact rfl) | fail))
  · have e : chanC w hh c p k = 0 := by unfold chanC; rw [if_neg (not_not_intro hc), if_neg hk]
    have e1 := one_fits (check_inv hc).1
    have e2 : chgC w hh c p 1 = 0 := by unfold chgC; rw [if_neg (not_not_intro hc), e1]
    have eX : chanX w hh c p k = chgX (chnL k) w hh c p 1 := by unfold chanX chgX; rw [if_pos e, if_pos e2]; rfl
    rw [eX, e, ← e2]
    have et := td_self (chgX (chnL k) w hh c p 1).p
    (repeat' (first | (refine And.intro (fun (hfk : _ = true) => ?_) (fun (hfk : _ = false) => ?_) <;> ((try (first | replace hfk := of_decide_eq_true hfk | replace hfk := of_decide_eq_false hfk | simp only [decide_eq_true_eq, decide_eq_false_iff_not, dh1, dh0, ne_eq, reduceCtorEq] at hfk)); (try (exfalso; first | omega | contradiction | exact Bool.noConfusion (Eq.trans (Eq.symm hfk) (by with_reducible assumption : _ = false)) | exact Bool.noConfusion (Eq.trans (Eq.symm hfk) (by with_reducible assumption : _ = true)))))) | (refine And.intro ?ob ?_; (case ob => (first | exact Chk.mk (by kernel_rfl) | exact True.intro | with_reducible assumption | exact rng64 (by omega) (by omega) | omega | (dsimp only; omega) | (show (_ : Nat) ≤ _; omega) | (simp only [ll1, ll2, ll0]; done) | (simp only [ll1, ll2, ll0]; omega) | (dsimp only; simp only [ll1, ll2, ll0]; omega)))) | exact True.intro | (show _ = _; first | with_reducible rfl | with_reducible assumption | omega | (simp only [ll1, ll2, ll0]; omega) | (skip; done) | exact rfl) | with_reducible assumption | (apply And.intro) | omega | (intro j hj; exact rfl) | fail))
    (refine ⟨[1], ⟨by kernel_rfl⟩, ?_⟩)
    (repeat' (first | (refine And.intro (fun (hfk : _ = true) => ?_) (fun (hfk : _ = false) => ?_) <;> ((try (first | replace hfk := of_decide_eq_true hfk | replace hfk := of_decide_eq_false hfk | simp only [decide_eq_true_eq, decide_eq_false_iff_not, dh1, dh0, ne_eq, reduceCtorEq] at hfk)); (try (exfalso; first | omega | contradiction | exact Bool.noConfusion (Eq.trans (Eq.symm hfk) (by with_reducible assumption : _ = false)) | exact Bool.noConfusion (Eq.trans (Eq.symm hfk) (by with_reducible assumption : _ = true)))))) | (refine And.intro ?ob ?_; (case ob => (first | exact Chk.mk (by kernel_rfl) | exact True.intro | with_reducible assumption | exact rng64 (by omega) (by omega) | omega | (dsimp only; omega) | (show (_ : Nat) ≤ _; omega) | (simp only [ll1, ll2, ll0]; done) | (simp only [ll1, ll2, ll0]; omega) | (dsimp only; simp only [ll1, ll2, ll0]; omega)))) | exact True.intro | (show _ = _; first | with_reducible rfl | with_reducible assumption | omega | (simp only [ll1, ll2, ll0]; omega) | ((exact et); done) | exact rfl) | with_reducible assumption | (apply And.intro) | omega | (intro j hj; exact rfl) | fail))


abbrev at11S : PSpec := fun l => match l with | [.roi .u8 p, .int .i64 i] => some ([Bytes p, 0 ≤ i], .int .i64 (p.getD i.toNat 0)) | _ => none
theorem at11_s : SOK Try.prog 85 at11S := by
  refine sok_of (C := mkC 0 [] noG) (mkC_ok pok_nil noG_ok) rfl mixed ⟨Try.func85, by kernel_rfl, by kernel_rfl, by kernel_rfl⟩ fun l obs v h ho => ?_
  (unfold at11S at h; split at h; rotate_left; (focus (cases h)); rename_i p i; simp only [Option.some.injEq, Prod.mk.injEq] at h; obtain ⟨rfl, rfl⟩ := h; simp only [List.mem_cons, List.not_mem_nil, or_false, forall_eq_or_imp, forall_eq, false_implies, implies_true] at ho)
  obtain ⟨hb, hi⟩ := ho
  have hb := hb.get i.toNat
  refine ⟨Nat.le_of_ble_eq_true rfl, ?_⟩
  by_cases hl : i < (p.length : Int)
  · (repeat' (first | (refine And.intro (fun (hfk : _ = true) => ?_) (fun (hfk : _ = false) => ?_) <;> ((try (first | replace hfk := of_decide_eq_true hfk | replace hfk := of_decide_eq_false hfk | simp only [decide_eq_true_eq, decide_eq_false_iff_not, dh1, dh0, ne_eq, reduceCtorEq] at hfk)); (try (exfalso; first | omega | contradiction | exact Bool.noConfusion (Eq.trans (Eq.symm hfk) (by with_reducible assumption : _ = false)) | exact Bool.noConfusion (Eq.trans (Eq.symm hfk) (by with_reducible assumption : _ = true)))))) | (refine And.intro ?ob ?_; (case ob => (first | exact Chk.mk (by kernel_rfl) | exact True.intro | with_reducible assumption | exact rng64 (by omega) (by omega) | omega | (dsimp only; omega) | (show (_ : Nat) ≤ _; omega) | (simp only [ll1, ll2, ll0]; done) | (simp only [ll1, ll2, ll0]; omega) | (dsimp only; simp only [ll1, ll2, ll0]; omega)))) | exact True.intro | (show _ = _; first | with_reducible rfl | with_reducible assumption | omega | (simp only [ll1, ll2, ll0]; omega) | (skip; done) | exact rfl) | with_reducible assumption | (apply And.intro) | omega | (intro j hj; exact rfl) | fail))
  · have e : p.getD i.toNat 0 = 0 := by
      have : p.length ≤ i.toNat := by omega
      simp [List.getD, this]
    rw [e]
    (repeat' (first | (refine And.intro (fun (hfk : _ = true) => ?_) (fun (hfk : _ = false) => ?_) <;> ((try (first | replace hfk := of_decide_eq_true hfk | replace hfk := of_decide_eq_false hfk | simp only [decide_eq_true_eq, decide_eq_false_iff_not, dh1, dh0, ne_eq, reduceCtorEq] at hfk)); (try (exfalso; first | omega | contradiction | exact Bool.noConfusion (Eq.trans (Eq.symm hfk) (by with_reducible assumption : _ = false)) | exact Bool.noConfusion (Eq.trans (Eq.symm hfk) (by with_reducible assumption : _ = true)))))) | (refine And.intro ?ob ?_; (case ob => (first | exact Chk.mk (by kernel_rfl) | exact True.intro | with_reducible assumption | exact rng64 (by omega) (by omega) | omega | (dsimp only; omega) | (show (_ : Nat) ≤ _; omega) | (simp only [ll1, ll2, ll0]; done) | (simp only [ll1, ll2, ll0]; omega) | (dsimp only; simp only [ll1, ll2, ll0]; omega)))) | exact True.intro | (show _ = _; first | with_reducible rfl | with_reducible assumption | omega | (simp only [ll1, ll2, ll0]; omega) | (skip; done) | exact rfl) | with_reducible assumption | (apply And.intro) | omega | (intro j hj; exact rfl) | fail))
abbrev rgrayS : PSpec := fun l => match l with | [.roi .u8 p] => some ([Bytes p], .int .u8 (gryV p)) | _ => none
theorem rgray_s : SOK Try.prog 30 rgrayS := by
  refine sok_of (C := mkC 0 [(85, at11S)] noG) (mkC_ok (pok_cons at11_s pok_nil) noG_ok) rfl mixed ⟨Try.func30, by kernel_rfl, by kernel_rfl, by kernel_rfl⟩ fun l obs v h ho => ?_
  (unfold rgrayS at h; split at h; rotate_left; (focus (cases h)); rename_i p; simp only [Option.some.injEq, Prod.mk.injEq] at h; obtain ⟨rfl, rfl⟩ := h; simp only [List.mem_cons, List.not_mem_nil, or_false, forall_eq_or_imp, forall_eq, false_implies, implies_true] at ho)
  refine ⟨Nat.le_of_ble_eq_true rfl, ?_⟩
  have h0 := ho.get 0
  have h1 := ho.get 1
  have h2 := ho.get 2
  have h0' : 0 ≤ p.getD (Int.toNat 0) 0 ∧ p.getD (Int.toNat 0) 0 ≤ 255 := h0
  have h1' : 0 ≤ p.getD (Int.toNat 1) 0 ∧ p.getD (Int.toNat 1) 0 ≤ 255 := h1
  have h2' : 0 ≤ p.getD (Int.toNat 2) 0 ∧ p.getD (Int.toNat 2) 0 ≤ 255 := h2
  have e : IntKind.u8.wrap ((77 * p.getD (Int.toNat 0) 0 + 150 * p.getD (Int.toNat 1) 0 + 29 * p.getD (Int.toNat 2) 0 + 128).tdiv 256) = gryV p := by
    rw [Int.tdiv_eq_ediv_of_nonneg (by omega), w8 (by omega) (by omega)]
    unfold gryV
    show (77 * p.getD 0 0 + 150 * p.getD 1 0 + 29 * p.getD 2 0 + 128) / 256 = _
    congr 1
    omega
  have hq : rngI .i64 ((77 * p.getD (Int.toNat 0) 0 + 150 * p.getD (Int.toNat 1) 0 + 29 * p.getD (Int.toNat 2) 0 + 128).tdiv 256) := by
    rw [Int.tdiv_eq_ediv_of_nonneg (by omega)]; exact rng64 (by omega) (by omega)
  (repeat' (first | (refine And.intro (fun (hfk : _ = true) => ?_) (fun (hfk : _ = false) => ?_) <;> ((try (first | replace hfk := of_decide_eq_true hfk | replace hfk := of_decide_eq_false hfk | simp only [decide_eq_true_eq, decide_eq_false_iff_not, dh1, dh0, ne_eq, reduceCtorEq] at hfk)); (try (exfalso; first | omega | contradiction | exact Bool.noConfusion (Eq.trans (Eq.symm hfk) (by with_reducible assumption : _ = false)) | exact Bool.noConfusion (Eq.trans (Eq.symm hfk) (by with_reducible assumption : _ = true)))))) | (refine And.intro ?ob ?_; (case ob => (first | exact Chk.mk (by kernel_rfl) | exact True.intro | with_reducible assumption | exact rng64 (by omega) (by omega) | omega | (dsimp only; omega) | (show (_ : Nat) ≤ _; omega) | (simp only [ll1, ll2, ll0]; done) | (simp only [ll1, ll2, ll0]; omega) | (dsimp only; simp only [ll1, ll2, ll0]; omega)))) | exact True.intro | (show _ = _; first | with_reducible rfl | with_reducible assumption | omega | (simp only [ll1, ll2, ll0]; omega) | ((exact e); done) | exact rfl) | with_reducible assumption | (apply And.intro) | omega | (intro j hj; exact rfl) | fail))
abbrev eachS : PSpec := fun l => match l with
  | [.agg [.int .i64 w, .int .i64 h, .int .i64 c, .roi .u8 p]] => some ([imCheck w h c p.length = 0], .ro 1 (w * h).toNat (fun j => .roi .u8 (piece p c.toNat j))) | _ => none
theorem each_s : SOK Try.prog 78 eachS := by
  refine sok_of (C := mkC 0 [] noG) (mkC_ok pok_nil noG_ok) rfl mixed ⟨Try.func78, by kernel_rfl, by kernel_rfl, by kernel_rfl⟩ fun l obs v h ho => ?_
  (unfold eachS at h; split at h; rotate_left; (focus (cases h)); rename_i w hh c p; simp only [Option.some.injEq, Prod.mk.injEq] at h; obtain ⟨rfl, rfl⟩ := h; simp only [List.mem_cons, List.not_mem_nil, or_false, forall_eq_or_imp, forall_eq, false_implies, implies_true] at ho)
  obtain ⟨hfc, hpl⟩ := check_inv ho
  obtain ⟨a1, a2, a3, a4, a5, a6, a7, a8, a9⟩ := fits_inv hfc
  obtain ⟨C, rfl⟩ := Int.eq_ofNat_of_zero_le (show 0 ≤ c by omega)
  obtain ⟨Q, hQ⟩ := Int.eq_ofNat_of_zero_le a7
  rw [hQ] at hpl a9 ⊢
  have hpl2 : p.length = Q * C := by rw [← Int.natCast_mul] at hpl; exact Int.ofNat.inj hpl
  have hC0 : 0 < C := by omega
  have eC : (C : Int).toNat = C := rfl
  have eQ : (Q : Int).toNat = Q := rfl
  rw [eC, eQ]
  refine ⟨Nat.le_of_ble_eq_true rfl, ?_⟩
  (repeat' (first | (refine And.intro (fun (hfk : _ = true) => ?_) (fun (hfk : _ = false) => ?_) <;> ((try (first | replace hfk := of_decide_eq_true hfk | replace hfk := of_decide_eq_false hfk | simp only [decide_eq_true_eq, decide_eq_false_iff_not, dh1, dh0, ne_eq, reduceCtorEq] at hfk)); (try (exfalso; first | omega | contradiction | exact Bool.noConfusion (Eq.trans (Eq.symm hfk) (by with_reducible assumption : _ = false)) | exact Bool.noConfusion (Eq.trans (Eq.symm hfk) (by with_reducible assumption : _ = true)))))) | (refine And.intro ?ob ?_; (case ob => (first | exact Chk.mk (by kernel_rfl) | exact True.intro | with_reducible assumption | exact rng64 (by omega) (by omega) | omega | (dsimp only; omega) | (show (_ : Nat) ≤ _; omega) | (simp only [ll1, ll2, ll0]; done) | (simp only [ll1, ll2, ll0]; omega) | (dsimp only; simp only [ll1, ll2, ll0]; omega)))) | exact True.intro | (show _ = _; first | with_reducible rfl | with_reducible assumption | omega | (simp only [ll1, ll2, ll0]; omega) | (skip; done) | exact rfl) | with_reducible assumption | (apply And.intro) | omega | (intro j hj; exact rfl) | fail))
  refine ⟨Nat, fun (k : Nat) => [(1, .ptr 0 0), (3, .sl 1 1 0 k), (4, .int .i64 ((k * C : Nat) : Int))], fun k => ⟨2, [(0, some (.cells 33 [.int .i64 w, .int .i64 hh, .int .i64 C, .roi .u8 p])), (1, some (.recs 31 1 k (fun j => .roi .u8 (piece p C j))))]⟩, fun k => k ≤ Q, fun k => Q - k, ⟨0, [some 0, none], Nat.zero_le _, ?_⟩, fun k hk => ?_⟩
  · have e : (0 : Int) = ((0 * C : Nat) : Int) := by rw [Nat.zero_mul]; rfl
    (repeat' (first | (refine And.intro (fun (hfk : _ = true) => ?_) (fun (hfk : _ = false) => ?_) <;> ((try (first | replace hfk := of_decide_eq_true hfk | replace hfk := of_decide_eq_false hfk | simp only [decide_eq_true_eq, decide_eq_false_iff_not, dh1, dh0, ne_eq, reduceCtorEq] at hfk)); (try (exfalso; first | omega | contradiction | exact Bool.noConfusion (Eq.trans (Eq.symm hfk) (by with_reducible assumption : _ = false)) | exact Bool.noConfusion (Eq.trans (Eq.symm hfk) (by with_reducible assumption : _ = true)))))) | (refine And.intro ?ob ?_; (case ob => (first | exact Chk.mk (by kernel_rfl) | exact True.intro | with_reducible assumption | exact rng64 (by omega) (by omega) | omega | (dsimp only; omega) | (show (_ : Nat) ≤ _; omega) | (simp only [ll1, ll2, ll0]; done) | (simp only [ll1, ll2, ll0]; omega) | (dsimp only; simp only [ll1, ll2, ll0]; omega)))) | exact True.intro | (show _ = _; first | with_reducible rfl | with_reducible assumption | omega | (simp only [ll1, ll2, ll0]; omega) | ((exact e); done) | exact rfl) | with_reducible assumption | (apply And.intro) | omega | (intro j hj; exact rfl) | fail))
  have hk : k ≤ Q := hk
  by_cases hlt : k < Q
  · have hpc := prod_of (n := C) hlt
    have e1 : ((k * C : Nat) : Int) + (C : Int) = (((k + 1) * C : Nat) : Int) := by rw [Nat.succ_mul]; rfl
    have e2 : (p.take (((k * C : Nat) : Int) + (C : Int)).toNat).drop ((k * C : Nat) : Int).toNat = piece p C k := by
      have : (((k * C : Nat) : Int) + (C : Int)).toNat = k * C + C := by omega
      rw [this, Int.toNat_natCast, List.drop_take, Nat.add_sub_cancel_left]; rfl
    have hrec : ∀ j, j < k + 1 → (if j < k then AV.roi .u8 (piece p C j) else ([AV.roi .u8 ((p.take (((k * C : Nat) : Int) + (C : Int)).toNat).drop ((k * C : Nat) : Int).toNat)] : List AV).getD (0 + (j - k)) .any) = AV.roi .u8 (piece p C j) := fun j hj => by
      by_cases hjk : j < k
      · rw [if_pos hjk]
      · obtain rfl : j = k := by omega
        rw [if_neg hjk, Nat.sub_self, e2]; rfl
    (repeat' (first | (refine And.intro (fun (hfk : _ = true) => ?_) (fun (hfk : _ = false) => ?_) <;> ((try (first | replace hfk := of_decide_eq_true hfk | replace hfk := of_decide_eq_false hfk | simp only [decide_eq_true_eq, decide_eq_false_iff_not, dh1, dh0, ne_eq, reduceCtorEq] at hfk)); (try (exfalso; first | omega | contradiction | exact Bool.noConfusion (Eq.trans (Eq.symm hfk) (by with_reducible assumption : _ = false)) | exact Bool.noConfusion (Eq.trans (Eq.symm hfk) (by with_reducible assumption : _ = true)))))) | (refine And.intro ?ob ?_; (case ob => (first | exact Chk.mk (by kernel_rfl) | exact True.intro | with_reducible assumption | exact rng64 (by omega) (by omega) | omega | (dsimp only; omega) | (show (_ : Nat) ≤ _; omega) | (simp only [ll1, ll2, ll0]; done) | (simp only [ll1, ll2, ll0]; omega) | (dsimp only; simp only [ll1, ll2, ll0]; omega)))) | exact True.intro | (show _ = _; first | with_reducible rfl | with_reducible assumption | omega | (simp only [ll1, ll2, ll0]; omega) | (skip; done) | exact rfl) | with_reducible assumption | (apply And.intro) | omega | (intro j hj; exact rfl) | fail))
    (refine ⟨k + 1, [some 0, some 3], ?_, ?mu, ?_⟩; (case mu => ((try dsimp only); omega)))
    · exact hlt
    (repeat' (first | (refine And.intro (fun (hfk : _ = true) => ?_) (fun (hfk : _ = false) => ?_) <;> ((try (first | replace hfk := of_decide_eq_true hfk | replace hfk := of_decide_eq_false hfk | simp only [decide_eq_true_eq, decide_eq_false_iff_not, dh1, dh0, ne_eq, reduceCtorEq] at hfk)); (try (exfalso; first | omega | contradiction | exact Bool.noConfusion (Eq.trans (Eq.symm hfk) (by with_reducible assumption : _ = false)) | exact Bool.noConfusion (Eq.trans (Eq.symm hfk) (by with_reducible assumption : _ = true)))))) | (refine And.intro ?ob ?_; (case ob => (first | exact Chk.mk (by kernel_rfl) | exact True.intro | with_reducible assumption | exact rng64 (by omega) (by omega) | omega | (dsimp only; omega) | (show (_ : Nat) ≤ _; omega) | (simp only [ll1, ll2, ll0]; done) | (simp only [ll1, ll2, ll0]; omega) | (dsimp only; simp only [ll1, ll2, ll0]; omega)))) | exact True.intro | (show _ = _; first | with_reducible rfl | with_reducible assumption | omega | (simp only [ll1, ll2, ll0]; omega) | ((exact e1); done) | exact rfl) | with_reducible assumption | (apply And.intro) | omega | (intro j hj; exact rfl) | fail))
    intro j hj
    exact hrec j hj
  · obtain rfl : k = Q := by omega
    (repeat' (first | (refine And.intro (fun (hfk : _ = true) => ?_) (fun (hfk : _ = false) => ?_) <;> ((try (first | replace hfk := of_decide_eq_true hfk | replace hfk := of_decide_eq_false hfk | simp only [decide_eq_true_eq, decide_eq_false_iff_not, dh1, dh0, ne_eq, reduceCtorEq] at hfk)); (try (exfalso; first | omega | contradiction | exact Bool.noConfusion (Eq.trans (Eq.symm hfk) (by with_reducible assumption : _ = false)) | exact Bool.noConfusion (Eq.trans (Eq.symm hfk) (by with_reducible assumption : _ = true)))))) | (refine And.intro ?ob ?_; (case ob => (first | exact Chk.mk (by kernel_rfl) | exact True.intro | with_reducible assumption | exact rng64 (by omega) (by omega) | omega | (dsimp only; omega) | (show (_ : Nat) ≤ _; omega) | (simp only [ll1, ll2, ll0]; done) | (simp only [ll1, ll2, ll0]; omega) | (dsimp only; simp only [ll1, ll2, ll0]; omega)))) | exact True.intro | (show _ = _; first | with_reducible rfl | with_reducible assumption | omega | (simp only [ll1, ll2, ll0]; omega) | (skip; done) | exact rfl) | with_reducible assumption | (apply And.intro) | omega | (intro j hj; exact rfl) | fail))
    intro j hj
    show AV.roi .u8 (piece p C (0 + j)) = AV.roi .u8 (piece p C j)
    rw [Nat.zero_add]

def pixL (p : List Int) (c : Nat) : List Int := if p.length = c then p else if p.length = 1 then [p.getD 0 0, p.getD 0 0, p.getD 0 0, 255].take c else if c = 1 then [gryV p] else [p.getD 0 0, p.getD 1 0, p.getD 2 0, 255].take c
abbrev pixelS : PSpec := fun l => match l with | [.roi .u8 p, .int .i64 c] => some ([Bytes p, c = 1 ∨ c = 3 ∨ c = 4, p.length = 1 ∨ p.length = 3 ∨ p.length = 4], .roi .u8 (pixL p c.toNat)) | _ => none
theorem pixel_s : SOK Try.prog 79 pixelS := by
  refine sok_of (C := mkC 0 [(30, rgrayS)] noG) (mkC_ok (pok_cons rgray_s pok_nil) noG_ok) rfl mixed ⟨Try.func79, by kernel_rfl, by kernel_rfl, by kernel_rfl⟩ fun l obs v h ho => ?_
  (unfold pixelS at h; split at h; rotate_left; (focus (cases h)); rename_i p c0; simp only [Option.some.injEq, Prod.mk.injEq] at h; obtain ⟨rfl, rfl⟩ := h; simp only [List.mem_cons, List.not_mem_nil, or_false, forall_eq_or_imp, forall_eq, false_implies, implies_true] at ho)
  obtain ⟨hb, hc, hp⟩ := ho
  obtain ⟨c, rfl⟩ := Int.eq_ofNat_of_zero_le (show 0 ≤ c0 by omega)
  have hc : c = 1 ∨ c = 3 ∨ c = 4 := by omega
  have ec : (c : Int).toNat = c := rfl
  rw [ec]
  refine ⟨Nat.le_of_ble_eq_true rfl, ?_⟩
  by_cases h1 : p.length = c
  · have e : pixL p c = p := if_pos h1
    rw [e]
    (repeat' (first | (refine And.intro (fun (hfk : _ = true) => ?_) (fun (hfk : _ = false) => ?_) <;> ((try (first | replace hfk := of_decide_eq_true hfk | replace hfk := of_decide_eq_false hfk | simp only [decide_eq_true_eq, decide_eq_false_iff_not, dh1, dh0, ne_eq, reduceCtorEq] at hfk)); (try (exfalso; first | omega | contradiction | exact Bool.noConfusion (Eq.trans (Eq.symm hfk) (by with_reducible assumption : _ = false)) | exact Bool.noConfusion (Eq.trans (Eq.symm hfk) (by with_reducible assumption : _ = true)))))) | (refine And.intro ?ob ?_; (case ob => (first | exact Chk.mk (by kernel_rfl) | exact True.intro | with_reducible assumption | exact rng64 (by omega) (by omega) | omega | (dsimp only; omega) | (show (_ : Nat) ≤ _; omega) | (simp only [ll1, ll2, ll0]; done) | (simp only [ll1, ll2, ll0]; omega) | (dsimp only; simp only [ll1, ll2, ll0]; omega)))) | exact True.intro | (show _ = _; first | with_reducible rfl | with_reducible assumption | omega | (simp only [ll1, ll2, ll0]; omega) | (skip; done) | exact rfl) | with_reducible assumption | (apply And.intro) | omega | (intro j hj; exact rfl) | fail))
  by_cases h2 : p.length = 1
  · have e : pixL p c = [p.getD 0 0, p.getD 0 0, p.getD 0 0, 255].take c := by unfold pixL; rw [if_neg h1, if_pos h2]
    rw [e]
    rcases hc with rfl | rfl | rfl
    · exact absurd h2 h1
    all_goals
      (repeat' (first | (refine And.intro (fun (hfk : _ = true) => ?_) (fun (hfk : _ = false) => ?_) <;> ((try (first | replace hfk := of_decide_eq_true hfk | replace hfk := of_decide_eq_false hfk | simp only [decide_eq_true_eq, decide_eq_false_iff_not, dh1, dh0, ne_eq, reduceCtorEq] at hfk)); (try (exfalso; first | omega | contradiction | exact Bool.noConfusion (Eq.trans (Eq.symm hfk) (by with_reducible assumption : _ = false)) | exact Bool.noConfusion (Eq.trans (Eq.symm hfk) (by with_reducible assumption : _ = true)))))) | (refine And.intro ?ob ?_; (case ob => (first | exact Chk.mk (by kernel_rfl) | exact True.intro | with_reducible assumption | exact rng64 (by omega) (by omega) | omega | (dsimp only; omega) | (show (_ : Nat) ≤ _; omega) | (simp only [ll1, ll2, ll0]; done) | (simp only [ll1, ll2, ll0]; omega) | (dsimp only; simp only [ll1, ll2, ll0]; omega)))) | exact True.intro | (show _ = _; first | with_reducible rfl | with_reducible assumption | omega | (simp only [ll1, ll2, ll0]; omega) | (skip; done) | exact rfl) | with_reducible assumption | (apply And.intro) | omega | (intro j hj; exact rfl) | fail))
  by_cases h3 : c = 1
  · subst h3
    have e : pixL p 1 = [gryV p] := by unfold pixL; rw [if_neg h1, if_neg h2, if_pos rfl]
    rw [e]
    (repeat' (first | (refine And.intro (fun (hfk : _ = true) => ?_) (fun (hfk : _ = false) => ?_) <;> ((try (first | replace hfk := of_decide_eq_true hfk | replace hfk := of_decide_eq_false hfk | simp only [decide_eq_true_eq, decide_eq_false_iff_not, dh1, dh0, ne_eq, reduceCtorEq] at hfk)); (try (exfalso; first | omega | contradiction | exact Bool.noConfusion (Eq.trans (Eq.symm hfk) (by with_reducible assumption : _ = false)) | exact Bool.noConfusion (Eq.trans (Eq.symm hfk) (by with_reducible assumption : _ = true)))))) | (refine And.intro ?ob ?_; (case ob => (first | exact Chk.mk (by kernel_rfl) | exact True.intro | with_reducible assumption | exact rng64 (by omega) (by omega) | omega | (dsimp only; omega) | (show (_ : Nat) ≤ _; omega) | (simp only [ll1, ll2, ll0]; done) | (simp only [ll1, ll2, ll0]; omega) | (dsimp only; simp only [ll1, ll2, ll0]; omega)))) | exact True.intro | (show _ = _; first | with_reducible rfl | with_reducible assumption | omega | (simp only [ll1, ll2, ll0]; omega) | (skip; done) | exact rfl) | with_reducible assumption | (apply And.intro) | omega | (intro j hj; exact rfl) | fail))
  · have e : pixL p c = [p.getD 0 0, p.getD 1 0, p.getD 2 0, 255].take c := by unfold pixL; rw [if_neg h1, if_neg h2, if_neg h3]
    rw [e]
    rcases hc with rfl | rfl | rfl
    · exact absurd rfl h3
    all_goals
      (repeat' (first | (refine And.intro (fun (hfk : _ = true) => ?_) (fun (hfk : _ = false) => ?_) <;> ((try (first | replace hfk := of_decide_eq_true hfk | replace hfk := of_decide_eq_false hfk | simp only [decide_eq_true_eq, decide_eq_false_iff_not, dh1, dh0, ne_eq, reduceCtorEq] at hfk)); (try (exfalso; first | omega | contradiction | exact Bool.noConfusion (Eq.trans (Eq.symm hfk) (by with_reducible assumption : _ = false)) | exact Bool.noConfusion (Eq.trans (Eq.symm hfk) (by with_reducible assumption : _ = true)))))) | (refine And.intro ?ob ?_; (case ob => (first | exact Chk.mk (by kernel_rfl) | exact True.intro | with_reducible assumption | exact rng64 (by omega) (by omega) | omega | (dsimp only; omega) | (show (_ : Nat) ≤ _; omega) | (simp only [ll1, ll2, ll0]; done) | (simp only [ll1, ll2, ll0]; omega) | (dsimp only; simp only [ll1, ll2, ll0]; omega)))) | exact True.intro | (show _ = _; first | with_reducible rfl | with_reducible assumption | omega | (simp only [ll1, ll2, ll0]; omega) | (skip; done) | exact rfl) | with_reducible assumption | (apply And.intro) | omega | (intro j hj; exact rfl) | fail))
theorem pixL_eq {p : List Int} {c : Nat} (hc : c = 1 ∨ c = 3 ∨ c = 4) (hp : p.length = 1 ∨ p.length = 3 ∨ p.length = 4) : pixL p c = toFn p.length c c p := by
  have e1 : ∀ l : List Int, l.length = 1 → ∃ a, l = [a] := fun l h => by match l, h with | [a], _ => exact ⟨a, rfl⟩
  rcases hp with h | h | h <;> rcases hc with rfl | rfl | rfl
  · obtain ⟨a, rfl⟩ := e1 p h; rfl
  · obtain ⟨a, rfl⟩ := e1 p h; rfl
  · obtain ⟨a, rfl⟩ := e1 p h; rfl
  · obtain ⟨a, b, d, rfl⟩ := list3 h; rfl
  · obtain ⟨a, b, d, rfl⟩ := list3 h; rfl
  · obtain ⟨a, b, d, rfl⟩ := list3 h; rfl
  · obtain ⟨a, b, d, f, rfl⟩ := list4 h; rfl
  · obtain ⟨a, b, d, f, rfl⟩ := list4 h; rfl
  · obtain ⟨a, b, d, f, rfl⟩ := list4 h; rfl


theorem fits_other {w h c d : Int} (hf : fitsI w h c = 0) : ((d = 1 ∨ d = 3 ∨ d = 4) ∧ fitsI w h d = 0) ∨ (d ≠ 1 ∧ d ≠ 3 ∧ d ≠ 4 ∧ fitsI w h d = 10) := by
  have := fits_inv hf
  by_cases hd : d = 1 ∨ d = 3 ∨ d = 4
  · refine .inl ⟨hd, ?_⟩
    unfold fitsI
    rw [if_neg (by omega), if_neg (by omega), if_neg (by omega)]
  · refine .inr ⟨by omega, by omega, by omega, ?_⟩
    unfold fitsI
    rw [if_pos (by omega)]
theorem image_num {w h c : Int} {p : List Int} (hc : imCheck w h c p.length = 0) : ∃ C Q : Nat, c = (C : Int) ∧ w * h = (Q : Int) ∧ p.length = Q * C ∧ 0 < C ∧ 1 ≤ Q ∧ p.length ≤ 16777216 ∧ (C = 1 ∨ C = 3 ∨ C = 4) ∧ Q ≤ 4194304 := by
  obtain ⟨hfc, hpl⟩ := check_inv hc
  obtain ⟨a1, a2, a3, a4, a5, a6, a7, a8, a9⟩ := fits_inv hfc
  obtain ⟨C, rfl⟩ := Int.eq_ofNat_of_zero_le (show 0 ≤ c by omega)
  obtain ⟨Q, hQ⟩ := Int.eq_ofNat_of_zero_le a7
  have h1 : 1 ≤ w * h := by
    have := Int.mul_pos (show 0 < w by omega) (show 0 < h by omega)
    omega
  rw [hQ] at hpl a9 a6 h1
  exact ⟨C, Q, rfl, hQ, by rw [← Int.natCast_mul] at hpl; exact Int.ofNat.inj hpl, by omega, by omega, by omega, by omega, by omega⟩
theorem rto_s : SOK Try.prog 21 toS := by
  refine sok_of (C := mkC 0 [(32, checkS), (78, eachS), (79, pixelS)] (glook [(80, fG madeF)])) (mkC_ok (pok_cons rcheck7_s (pok_cons each_s (pok_cons pixel_s pok_nil))) (gl_cons made_g gl_nil)) rfl mixed ⟨Try.func21, by kernel_rfl, by kernel_rfl, by kernel_rfl⟩ fun l obs v h ho => ?_
  obtain ⟨w, hh, c, p, cc, rfl, rfl, rfl⟩ := imIS_inv h
  simp only [List.mem_cons, List.not_mem_nil, or_false, forall_eq] at ho
  refine ⟨Nat.le_of_ble_eq_true rfl, ?_⟩
  by_cases hc : imCheck w hh c p.length = 0
  rotate_left
  · have e : chgC w hh c p cc = imCheck w hh c p.length := if_pos hc
    have eX : chgX (toFn c cc) w hh c p cc = Im.z := if_neg (by rw [e]; exact hc)
    rw [eX, e]
    (repeat' (first | (refine And.intro (fun (hfk : _ = true) => ?_) (fun (hfk : _ = false) => ?_) <;> ((try (first | replace hfk := of_decide_eq_true hfk | replace hfk := of_decide_eq_false hfk | simp only [decide_eq_true_eq, decide_eq_false_iff_not, dh1, dh0, ne_eq, reduceCtorEq] at hfk)); (try (exfalso; first | omega | contradiction | exact Bool.noConfusion (Eq.trans (Eq.symm hfk) (by with_reducible assumption : _ = false)) | exact Bool.noConfusion (Eq.trans (Eq.symm hfk) (by with_reducible assumption : _ = true)))))) | (refine And.intro ?ob ?_; (case ob => (first | exact Chk.mk (by kernel_rfl) | exact True.intro | with_reducible assumption | exact rng64 (by omega) (by omega) | omega | (dsimp only; omega) | (show (_ : Nat) ≤ _; omega) | (simp only [ll1, ll2, ll0]; done) | (simp only [ll1, ll2, ll0]; omega) | (dsimp only; simp only [ll1, ll2, ll0]; omega)))) | exact True.intro | (show _ = _; first | with_reducible rfl | with_reducible assumption | omega | (simp only [ll1, ll2, ll0]; omega) | (skip; done) | exact rfl) | with_reducible assumption | (apply And.intro) | omega | (intro j hj; exact rfl) | fail))
  have e : chgC w hh c p cc = fitsI w hh cc := by unfold chgC; rw [if_neg (not_not_intro hc)]
  rcases fits_other (d := cc) (check_inv hc).1 with ⟨hd, hf⟩ | ⟨hd1, hd2, hd3, hf⟩
  rotate_left
  · have eX : chgX (toFn c cc) w hh c p cc = Im.z := if_neg (by rw [e, hf]; decide)
    rw [eX, e, hf]
    (repeat' (first | (refine And.intro (fun (hfk : _ = true) => ?_) (fun (hfk : _ = false) => ?_) <;> ((try (first | replace hfk := of_decide_eq_true hfk | replace hfk := of_decide_eq_false hfk | simp only [decide_eq_true_eq, decide_eq_false_iff_not, dh1, dh0, ne_eq, reduceCtorEq] at hfk)); (try (exfalso; first | omega | contradiction | exact Bool.noConfusion (Eq.trans (Eq.symm hfk) (by with_reducible assumption : _ = false)) | exact Bool.noConfusion (Eq.trans (Eq.symm hfk) (by with_reducible assumption : _ = true)))))) | (refine And.intro ?ob ?_; (case ob => (first | exact Chk.mk (by kernel_rfl) | exact True.intro | with_reducible assumption | exact rng64 (by omega) (by omega) | omega | (dsimp only; omega) | (show (_ : Nat) ≤ _; omega) | (simp only [ll1, ll2, ll0]; done) | (simp only [ll1, ll2, ll0]; omega) | (dsimp only; simp only [ll1, ll2, ll0]; omega)))) | exact True.intro | (show _ = _; first | with_reducible rfl | with_reducible assumption | omega | (simp only [ll1, ll2, ll0]; omega) | (skip; done) | exact rfl) | with_reducible assumption | (apply And.intro) | omega | (intro j hj; exact rfl) | fail))
  obtain ⟨C, Q, rfl, hQ, hpl, hC0, hQ1, hp16, hC, hQ4⟩ := image_num hc
  obtain ⟨D, rfl⟩ := Int.eq_ofNat_of_zero_le (show 0 ≤ cc by omega)
  have eQ : (w * hh).toNat = Q := by rw [hQ]; rfl
  have eC : (C : Int).toNat = C := rfl
  have eD : (D : Int).toNat = D := rfl
  have hd' : D = 1 ∨ D = 3 ∨ D = 4 := by omega
  have hpc : ∀ k, k < Q → (piece p C k).length = C := fun k hk => piece_len (by have := prod_of (n := C) hk; omega)
  have hfx : ∀ k, k < Q → (pixL (piece p C k) D).length = D := fun k hk => by
    rw [pixL_eq hd' (by rw [hpc k hk]; exact hC), hpc k hk]
    unfold toFn
    split
    · exact sprL_len _ _
    · split
      · show 1 = D; omega
      · exact fstL_len _ _
  have hfl := flatK_len (p := p) (c := C) (f := fun q => pixL q D) (d := D) (Q := Q) hfx
  have eF : flatK p C (fun q => pixL q D) Q = flatK p C (toFn C D D) Q := flatK_congr (Q := Q) (fun k hk => by
    show pixL (piece p C k) D = _
    rw [pixL_eq hd' (by rw [hpc k hk]; exact hC), hpc k hk]) Q (Nat.le_refl _)
  have eX : chgX (toFn C D) w hh C p D = ⟨w, hh, D, flatK p C (fun q => pixL q D) Q⟩ := by
    unfold chgX
    rw [if_pos (by rw [e, hf]), eQ, eC, eD, eF]
  rw [eX, e, hf]
  (repeat' (first | (refine And.intro (fun (hfk : _ = true) => ?_) (fun (hfk : _ = false) => ?_) <;> ((try (first | replace hfk := of_decide_eq_true hfk | replace hfk := of_decide_eq_false hfk | simp only [decide_eq_true_eq, decide_eq_false_iff_not, dh1, dh0, ne_eq, reduceCtorEq] at hfk)); (try (exfalso; first | omega | contradiction | exact Bool.noConfusion (Eq.trans (Eq.symm hfk) (by with_reducible assumption : _ = false)) | exact Bool.noConfusion (Eq.trans (Eq.symm hfk) (by with_reducible assumption : _ = true)))))) | (refine And.intro ?ob ?_; (case ob => (first | exact Chk.mk (by kernel_rfl) | exact True.intro | with_reducible assumption | exact rng64 (by omega) (by omega) | omega | (dsimp only; omega) | (show (_ : Nat) ≤ _; omega) | (simp only [ll1, ll2, ll0]; done) | (simp only [ll1, ll2, ll0]; omega) | (dsimp only; simp only [ll1, ll2, ll0]; omega)))) | exact True.intro | (show _ = _; first | with_reducible rfl | with_reducible assumption | omega | (simp only [ll1, ll2, ll0]; omega) | (skip; done) | exact rfl) | with_reducible assumption | (apply And.intro) | omega | (intro j hj; exact rfl) | fail))
  all_goals
    rw [eQ]
    refine ⟨Nat, fun (k : Nat) => [(1, .int .i64 D), (2, .ptr 0 0), (4, .ptr 1 0), (5, .int .i64 0), (7, .sl 2 1 0 (k * D)), (28, .ro 1 Q (fun j => .roi .u8 (piece p C j))), (29, .int .i64 Q), (30, .int .i64 k)],
        fun k => ⟨3, [(0, some (.cells 33 [.int .i64 w, .int .i64 hh, .int .i64 C, .roi .u8 p])), (1, some (.cells 33 [.int .i64 0, .int .i64 0, .int .i64 0, .nils])), (2, some (.ints 5 .u8 (flatK p C (fun q => pixL q D) k)))]⟩, fun k => k ≤ Q, fun k => Q - k, ⟨0, [some 0, some 1, none], Nat.zero_le _, ?_⟩, fun k hk => ?_⟩
    · have e0 : 0 = 0 * D := (Nat.zero_mul D).symm
      (repeat' (first | (refine And.intro (fun (hfk : _ = true) => ?_) (fun (hfk : _ = false) => ?_) <;> ((try (first | replace hfk := of_decide_eq_true hfk | replace hfk := of_decide_eq_false hfk | simp only [decide_eq_true_eq, decide_eq_false_iff_not, dh1, dh0, ne_eq, reduceCtorEq] at hfk)); (try (exfalso; first | omega | contradiction | exact Bool.noConfusion (Eq.trans (Eq.symm hfk) (by with_reducible assumption : _ = false)) | exact Bool.noConfusion (Eq.trans (Eq.symm hfk) (by with_reducible assumption : _ = true)))))) | (refine And.intro ?ob ?_; (case ob => (first | exact Chk.mk (by kernel_rfl) | exact True.intro | with_reducible assumption | exact rng64 (by omega) (by omega) | omega | (dsimp only; omega) | (show (_ : Nat) ≤ _; omega) | (simp only [ll1, ll2, ll0]; done) | (simp only [ll1, ll2, ll0]; omega) | (dsimp only; simp only [ll1, ll2, ll0]; omega)))) | exact True.intro | (show _ = _; first | with_reducible rfl | with_reducible assumption | omega | (simp only [ll1, ll2, ll0]; omega) | ((exact e0); done) | exact rfl) | with_reducible assumption | (apply And.intro) | omega | (intro j hj; exact rfl) | fail))
    have hk : k ≤ Q := hk
    have hlk := hfl k hk
    by_cases hlt : k < Q
    · have hx := hfx k hlt
      have hpk := hpc k hlt
      have hb : Bytes (piece p C k) := fun x hx => ho x (piece_mem hx)
      have s1 : k * D + (pixL (piece p C k) D).length = (k + 1) * D := by rw [hx, Nat.succ_mul]
      have hkD := prod_of (n := D) hlt
      have hQD : Q * D ≤ 16777216 := by
        calc Q * D ≤ 4194304 * D := Nat.mul_le_mul_right _ hQ4
          _ ≤ 16777216 := by omega
      have hb' : Bytes (piece p C (k : Int).toNat) := hb
      have hpk' : (piece p C (k : Int).toNat).length = C := hpk
      have hx' : (pixL (piece p C (k : Int).toNat) (D : Int).toNat).length = D := hx
      (repeat' (first | (refine And.intro (fun (hfk : _ = true) => ?_) (fun (hfk : _ = false) => ?_) <;> ((try (first | replace hfk := of_decide_eq_true hfk | replace hfk := of_decide_eq_false hfk | simp only [decide_eq_true_eq, decide_eq_false_iff_not, dh1, dh0, ne_eq, reduceCtorEq] at hfk)); (try (exfalso; first | omega | contradiction | exact Bool.noConfusion (Eq.trans (Eq.symm hfk) (by with_reducible assumption : _ = false)) | exact Bool.noConfusion (Eq.trans (Eq.symm hfk) (by with_reducible assumption : _ = true)))))) | (refine And.intro ?ob ?_; (case ob => (first | exact Chk.mk (by kernel_rfl) | exact True.intro | with_reducible assumption | exact rng64 (by omega) (by omega) | omega | (dsimp only; omega) | (show (_ : Nat) ≤ _; omega) | (simp only [ll1, ll2, ll0]; done) | (simp only [ll1, ll2, ll0]; omega) | (dsimp only; simp only [ll1, ll2, ll0]; omega)))) | exact True.intro | (show _ = _; first | with_reducible rfl | with_reducible assumption | omega | (simp only [ll1, ll2, ll0]; omega) | (skip; done) | exact rfl) | with_reducible assumption | (apply And.intro) | omega | (intro j hj; exact rfl) | fail))
      (refine ⟨k + 1, [some 0, some 1, some 3], ?_, ?mu, ?_⟩; (case mu => ((try dsimp only); omega)))
      · exact hlt
      (repeat' (first | (refine And.intro (fun (hfk : _ = true) => ?_) (fun (hfk : _ = false) => ?_) <;> ((try (first | replace hfk := of_decide_eq_true hfk | replace hfk := of_decide_eq_false hfk | simp only [decide_eq_true_eq, decide_eq_false_iff_not, dh1, dh0, ne_eq, reduceCtorEq] at hfk)); (try (exfalso; first | omega | contradiction | exact Bool.noConfusion (Eq.trans (Eq.symm hfk) (by with_reducible assumption : _ = false)) | exact Bool.noConfusion (Eq.trans (Eq.symm hfk) (by with_reducible assumption : _ = true)))))) | (refine And.intro ?ob ?_; (case ob => (first | exact Chk.mk (by kernel_rfl) | exact True.intro | with_reducible assumption | exact rng64 (by omega) (by omega) | omega | (dsimp only; omega) | (show (_ : Nat) ≤ _; omega) | (simp only [ll1, ll2, ll0]; done) | (simp only [ll1, ll2, ll0]; omega) | (dsimp only; simp only [ll1, ll2, ll0]; omega)))) | exact True.intro | (show _ = _; first | with_reducible rfl | with_reducible assumption | omega | (simp only [ll1, ll2, ll0]; omega) | ((exact s1); done) | exact rfl) | with_reducible assumption | (apply And.intro) | omega | (intro j hj; exact rfl) | fail))
    · obtain rfl : k = Q := by omega
      have et := td_self (flatK p C (fun q => pixL q D) k)
      rw [hlk] at et
      (repeat' (first | (refine And.intro (fun (hfk : _ = true) => ?_) (fun (hfk : _ = false) => ?_) <;> ((try (first | replace hfk := of_decide_eq_true hfk | replace hfk := of_decide_eq_false hfk | simp only [decide_eq_true_eq, decide_eq_false_iff_not, dh1, dh0, ne_eq, reduceCtorEq] at hfk)); (try (exfalso; first | omega | contradiction | exact Bool.noConfusion (Eq.trans (Eq.symm hfk) (by with_reducible assumption : _ = false)) | exact Bool.noConfusion (Eq.trans (Eq.symm hfk) (by with_reducible assumption : _ = true)))))) | (refine And.intro ?ob ?_; (case ob => (first | exact Chk.mk (by kernel_rfl) | exact True.intro | with_reducible assumption | exact rng64 (by omega) (by omega) | omega | (dsimp only; omega) | (show (_ : Nat) ≤ _; omega) | (simp only [ll1, ll2, ll0]; done) | (simp only [ll1, ll2, ll0]; omega) | (dsimp only; simp only [ll1, ll2, ll0]; omega)))) | exact True.intro | (show _ = _; first | with_reducible rfl | with_reducible assumption | omega | (simp only [ll1, ll2, ll0]; omega) | (skip; done) | exact rfl) | with_reducible assumption | (apply And.intro) | omega | (intro j hj; exact rfl) | fail))
      (refine ⟨[2], ⟨by kernel_rfl⟩, ?_⟩)
      (repeat' (first | (refine And.intro (fun (hfk : _ = true) => ?_) (fun (hfk : _ = false) => ?_) <;> ((try (first | replace hfk := of_decide_eq_true hfk | replace hfk := of_decide_eq_false hfk | simp only [decide_eq_true_eq, decide_eq_false_iff_not, dh1, dh0, ne_eq, reduceCtorEq] at hfk)); (try (exfalso; first | omega | contradiction | exact Bool.noConfusion (Eq.trans (Eq.symm hfk) (by with_reducible assumption : _ = false)) | exact Bool.noConfusion (Eq.trans (Eq.symm hfk) (by with_reducible assumption : _ = true)))))) | (refine And.intro ?ob ?_; (case ob => (first | exact Chk.mk (by kernel_rfl) | exact True.intro | with_reducible assumption | exact rng64 (by omega) (by omega) | omega | (dsimp only; omega) | (show (_ : Nat) ≤ _; omega) | (simp only [ll1, ll2, ll0]; done) | (simp only [ll1, ll2, ll0]; omega) | (dsimp only; simp only [ll1, ll2, ll0]; omega)))) | exact True.intro | (show _ = _; first | with_reducible rfl | with_reducible assumption | omega | (simp only [ll1, ll2, ll0]; omega) | ((exact et); done) | exact rfl) | with_reducible assumption | (apply And.intro) | omega | (intro j hj; exact rfl) | fail))
theorem invK_get (q p : List Int) : ∀ i, i ≤ q.length → ∀ j, j < q.length → (invK q p i).getD j 0 = if j < i then IntKind.u8.wrap (255 - p.getD j 0) else q.getD j 0
  | 0, _, j, _ => by rw [if_neg (Nat.not_lt_zero j)]; rfl
  | i + 1, hi, j, hj => by
    show ((invK q p i).set i (IntKind.u8.wrap (255 - p.getD i 0))).getD j 0 = _
    rw [set_getD (by rw [invK_len]; omega), invK_get q p i (by omega) j hj]
    by_cases e : j = i
    · subst e; rw [if_pos rfl, if_pos (by omega)]
    · rw [if_neg e]
      by_cases e2 : j < i
      · rw [if_pos e2, if_pos (by omega)]
      · rw [if_neg e2, if_neg (by omega)]
def rinvG (p : List Int) (C i : Nat) : Int := if i % C < 3 then IntKind.u8.wrap (255 - p.getD i 0) else p.getD i 0
theorem rinvert_s : SOK Try.prog 23 invertS := by
  refine sok_of (C := mkC 0 [(32, checkS)] (glook [(80, fG madeF)])) (mkC_ok (pok_cons rcheck7_s pok_nil) (gl_cons made_g gl_nil)) rfl mixed ⟨Try.func23, by kernel_rfl, by kernel_rfl, by kernel_rfl⟩ fun l obs v h ho => ?_
  obtain ⟨w, hh, c, p, rfl, rfl, rfl⟩ := imS_inv h
  refine ⟨Nat.le_of_ble_eq_true rfl, ?_⟩
  by_cases hc : imCheck w hh c p.length = 0
  rotate_left
  · have eX : chgX invL' w hh c p c = Im.z := if_neg (by rw [self_code]; exact hc)
    rw [eX]
    (repeat' (first | (refine And.intro (fun (hfk : _ = true) => ?_) (fun (hfk : _ = false) => ?_) <;> ((try (first | replace hfk := of_decide_eq_true hfk | replace hfk := of_decide_eq_false hfk | simp only [decide_eq_true_eq, decide_eq_false_iff_not, dh1, dh0, ne_eq, reduceCtorEq] at hfk)); (try (exfalso; first | omega | contradiction | exact Bool.noConfusion (Eq.trans (Eq.symm hfk) (by with_reducible assumption : _ = false)) | exact Bool.noConfusion (Eq.trans (Eq.symm hfk) (by with_reducible assumption : _ = true)))))) | (refine And.intro ?ob ?_; (case ob => (first | exact Chk.mk (by kernel_rfl) | exact True.intro | with_reducible assumption | exact rng64 (by omega) (by omega) | omega | (dsimp only; omega) | (show (_ : Nat) ≤ _; omega) | (simp only [ll1, ll2, ll0]; done) | (simp only [ll1, ll2, ll0]; omega) | (dsimp only; simp only [ll1, ll2, ll0]; omega)))) | exact True.intro | (show _ = _; first | with_reducible rfl | with_reducible assumption | omega | (simp only [ll1, ll2, ll0]; omega) | (skip; done) | exact rfl) | with_reducible assumption | (apply And.intro) | omega | (intro j hj; exact rfl) | fail))
  obtain ⟨C, Q, rfl, hQ, hpl, hC0, hQ1, hp16, hC, hQ4⟩ := image_num hc
  have eQ : (w * hh).toNat = Q := by rw [hQ]; rfl
  have eC : (C : Int).toNat = C := rfl
  have hpc : ∀ k, k < Q → (piece p C k).length = C := fun k hk => piece_len (by have := prod_of (n := C) hk; omega)
  have hfx : ∀ k, k < Q → (invL' C (piece p C k)).length = C := fun k hk => invL'_len (by rw [hpc k hk]; omega)
  have eF : mapL (rinvG p C) p.length = flatK p C (invL' C) Q := by
    unfold mapL
    rw [hpl]
    refine flatK_is hC0 hfx (rinvG p C) fun k j hk hj => ?_
    have hl := hpc k hk
    unfold rinvG invL'
    rw [mod_of hj, List.take_of_length_le (by omega), invK_get _ _ _ (by omega) _ (by omega), piece_get hj]
    by_cases h3 : j < 3
    · rw [if_pos h3, if_pos (by omega)]
    · rw [if_neg h3, if_neg (by omega)]
  have eX : chgX invL' w hh C p C = ⟨w, hh, C, mapL (rinvG p C) p.length⟩ := by
    unfold chgX
    rw [if_pos (by rw [self_code, hc]), eQ, eC, eF]
  rw [eX]
  (repeat' (first | (refine And.intro (fun (hfk : _ = true) => ?_) (fun (hfk : _ = false) => ?_) <;> ((try (first | replace hfk := of_decide_eq_true hfk | replace hfk := of_decide_eq_false hfk | simp only [decide_eq_true_eq, decide_eq_false_iff_not, dh1, dh0, ne_eq, reduceCtorEq] at hfk)); (try (exfalso; first | omega | contradiction | exact Bool.noConfusion (Eq.trans (Eq.symm hfk) (by with_reducible assumption : _ = false)) | exact Bool.noConfusion (Eq.trans (Eq.symm hfk) (by with_reducible assumption : _ = true)))))) | (refine And.intro ?ob ?_; (case ob => (first | exact Chk.mk (by kernel_rfl) | exact True.intro | with_reducible assumption | exact rng64 (by omega) (by omega) | omega | (dsimp only; omega) | (show (_ : Nat) ≤ _; omega) | (simp only [ll1, ll2, ll0]; done) | (simp only [ll1, ll2, ll0]; omega) | (dsimp only; simp only [ll1, ll2, ll0]; omega)))) | exact True.intro | (show _ = _; first | with_reducible rfl | with_reducible assumption | omega | (simp only [ll1, ll2, ll0]; omega) | (skip; done) | exact rfl) | with_reducible assumption | (apply And.intro) | omega | (intro j hj; exact rfl) | fail))
  refine ⟨Nat, fun (i : Nat) => [(1, .ptr 0 0), (2, .ptr 1 0), (3, .int .i64 0), (5, .sl 2 1 0 i), (6, .int .i64 i)],
      fun i => ⟨3, [(0, some (.cells 33 [.int .i64 w, .int .i64 hh, .int .i64 C, .roi .u8 p])), (1, some (.cells 33 [.int .i64 0, .int .i64 0, .int .i64 0, .nils])), (2, some (.ints 5 .u8 (mapL (rinvG p C) i)))]⟩, fun i => i ≤ p.length, fun i => p.length - i, ⟨0, [some 0, some 1, none], Nat.zero_le _, ?_⟩, fun i hi => ?_⟩
  · (repeat' (first | (refine And.intro (fun (hfk : _ = true) => ?_) (fun (hfk : _ = false) => ?_) <;> ((try (first | replace hfk := of_decide_eq_true hfk | replace hfk := of_decide_eq_false hfk | simp only [decide_eq_true_eq, decide_eq_false_iff_not, dh1, dh0, ne_eq, reduceCtorEq] at hfk)); (try (exfalso; first | omega | contradiction | exact Bool.noConfusion (Eq.trans (Eq.symm hfk) (by with_reducible assumption : _ = false)) | exact Bool.noConfusion (Eq.trans (Eq.symm hfk) (by with_reducible assumption : _ = true)))))) | (refine And.intro ?ob ?_; (case ob => (first | exact Chk.mk (by kernel_rfl) | exact True.intro | with_reducible assumption | exact rng64 (by omega) (by omega) | omega | (dsimp only; omega) | (show (_ : Nat) ≤ _; omega) | (simp only [ll1, ll2, ll0]; done) | (simp only [ll1, ll2, ll0]; omega) | (dsimp only; simp only [ll1, ll2, ll0]; omega)))) | exact True.intro | (show _ = _; first | with_reducible rfl | with_reducible assumption | omega | (simp only [ll1, ll2, ll0]; omega) | (skip; done) | exact rfl) | with_reducible assumption | (apply And.intro) | omega | (intro j hj; exact rfl) | fail))
  have hi : i ≤ p.length := hi
  have hl := mapL_len (rinvG p C) i
  have hs := mapL_succ (rinvG p C) i
  have em : (i : Int).tmod C = ((i % C : Nat) : Int) := rfl
  have em2 : 0 ≤ (i : Int).tmod C ∧ (i : Int).tmod C < C := ⟨Int.natCast_nonneg (i % C), Int.ofNat_lt.2 (Nat.mod_lt _ hC0)⟩
  by_cases hlt : i < p.length
  · by_cases h3 : i % C < 3
    · have e : mapL (rinvG p C) i ++ [IntKind.u8.wrap (255 - p.getD (i : Int).toNat 0)] = mapL (rinvG p C) (i + 1) := by rw [hs]; unfold rinvG; rw [if_pos h3]; rfl
      have h3' : (i : Int).tmod C < 3 := Int.ofNat_lt.2 h3
      (repeat' (first | (refine And.intro (fun (hfk : _ = true) => ?_) (fun (hfk : _ = false) => ?_) <;> ((try (first | replace hfk := of_decide_eq_true hfk | replace hfk := of_decide_eq_false hfk | simp only [decide_eq_true_eq, decide_eq_false_iff_not, dh1, dh0, ne_eq, reduceCtorEq] at hfk)); (try (exfalso; first | omega | contradiction | exact Bool.noConfusion (Eq.trans (Eq.symm hfk) (by with_reducible assumption : _ = false)) | exact Bool.noConfusion (Eq.trans (Eq.symm hfk) (by with_reducible assumption : _ = true)))))) | (refine And.intro ?ob ?_; (case ob => (first | exact Chk.mk (by kernel_rfl) | exact True.intro | with_reducible assumption | exact rng64 (by omega) (by omega) | omega | (dsimp only; omega) | (show (_ : Nat) ≤ _; omega) | (simp only [ll1, ll2, ll0]; done) | (simp only [ll1, ll2, ll0]; omega) | (dsimp only; simp only [ll1, ll2, ll0]; omega)))) | exact True.intro | (show _ = _; first | with_reducible rfl | with_reducible assumption | omega | (simp only [ll1, ll2, ll0]; omega) | (skip; done) | exact rfl) | with_reducible assumption | (apply And.intro) | omega | (intro j hj; exact rfl) | fail))
      (refine ⟨i + 1, [some 0, some 1, some 4], ?_, ?mu, ?_⟩; (case mu => ((try dsimp only); omega)))
      · exact hlt
      (repeat' (first | (refine And.intro (fun (hfk : _ = true) => ?_) (fun (hfk : _ = false) => ?_) <;> ((try (first | replace hfk := of_decide_eq_true hfk | replace hfk := of_decide_eq_false hfk | simp only [decide_eq_true_eq, decide_eq_false_iff_not, dh1, dh0, ne_eq, reduceCtorEq] at hfk)); (try (exfalso; first | omega | contradiction | exact Bool.noConfusion (Eq.trans (Eq.symm hfk) (by with_reducible assumption : _ = false)) | exact Bool.noConfusion (Eq.trans (Eq.symm hfk) (by with_reducible assumption : _ = true)))))) | (refine And.intro ?ob ?_; (case ob => (first | exact Chk.mk (by kernel_rfl) | exact True.intro | with_reducible assumption | exact rng64 (by omega) (by omega) | omega | (dsimp only; omega) | (show (_ : Nat) ≤ _; omega) | (simp only [ll1, ll2, ll0]; done) | (simp only [ll1, ll2, ll0]; omega) | (dsimp only; simp only [ll1, ll2, ll0]; omega)))) | exact True.intro | (show _ = _; first | with_reducible rfl | with_reducible assumption | omega | (simp only [ll1, ll2, ll0]; omega) | ((exact e); done) | exact rfl) | with_reducible assumption | (apply And.intro) | omega | (intro j hj; exact rfl) | fail))
    · have e : mapL (rinvG p C) i ++ [p.getD (i : Int).toNat 0] = mapL (rinvG p C) (i + 1) := by rw [hs]; unfold rinvG; rw [if_neg h3]; rfl
      have h3' : ¬ (i : Int).tmod C < 3 := fun h => h3 (Int.ofNat_lt.1 h)
      (repeat' (first | (refine And.intro (fun (hfk : _ = true) => ?_) (fun (hfk : _ = false) => ?_) <;> ((try (first | replace hfk := of_decide_eq_true hfk | replace hfk := of_decide_eq_false hfk | simp only [decide_eq_true_eq, decide_eq_false_iff_not, dh1, dh0, ne_eq, reduceCtorEq] at hfk)); (try (exfalso; first | omega | contradiction | exact Bool.noConfusion (Eq.trans (Eq.symm hfk) (by with_reducible assumption : _ = false)) | exact Bool.noConfusion (Eq.trans (Eq.symm hfk) (by with_reducible assumption : _ = true)))))) | (refine And.intro ?ob ?_; (case ob => (first | exact Chk.mk (by kernel_rfl) | exact True.intro | with_reducible assumption | exact rng64 (by omega) (by omega) | omega | (dsimp only; omega) | (show (_ : Nat) ≤ _; omega) | (simp only [ll1, ll2, ll0]; done) | (simp only [ll1, ll2, ll0]; omega) | (dsimp only; simp only [ll1, ll2, ll0]; omega)))) | exact True.intro | (show _ = _; first | with_reducible rfl | with_reducible assumption | omega | (simp only [ll1, ll2, ll0]; omega) | (skip; done) | exact rfl) | with_reducible assumption | (apply And.intro) | omega | (intro j hj; exact rfl) | fail))
      (refine ⟨i + 1, [some 0, some 1, some 4], ?_, ?mu, ?_⟩; (case mu => ((try dsimp only); omega)))
      · exact hlt
      (repeat' (first | (refine And.intro (fun (hfk : _ = true) => ?_) (fun (hfk : _ = false) => ?_) <;> ((try (first | replace hfk := of_decide_eq_true hfk | replace hfk := of_decide_eq_false hfk | simp only [decide_eq_true_eq, decide_eq_false_iff_not, dh1, dh0, ne_eq, reduceCtorEq] at hfk)); (try (exfalso; first | omega | contradiction | exact Bool.noConfusion (Eq.trans (Eq.symm hfk) (by with_reducible assumption : _ = false)) | exact Bool.noConfusion (Eq.trans (Eq.symm hfk) (by with_reducible assumption : _ = true)))))) | (refine And.intro ?ob ?_; (case ob => (first | exact Chk.mk (by kernel_rfl) | exact True.intro | with_reducible assumption | exact rng64 (by omega) (by omega) | omega | (dsimp only; omega) | (show (_ : Nat) ≤ _; omega) | (simp only [ll1, ll2, ll0]; done) | (simp only [ll1, ll2, ll0]; omega) | (dsimp only; simp only [ll1, ll2, ll0]; omega)))) | exact True.intro | (show _ = _; first | with_reducible rfl | with_reducible assumption | omega | (simp only [ll1, ll2, ll0]; omega) | ((exact e); done) | exact rfl) | with_reducible assumption | (apply And.intro) | omega | (intro j hj; exact rfl) | fail))
  · obtain rfl : i = p.length := by omega
    have et := td_self (mapL (rinvG p C) p.length)
    rw [hl] at et
    (repeat' (first | (refine And.intro (fun (hfk : _ = true) => ?_) (fun (hfk : _ = false) => ?_) <;> ((try (first | replace hfk := of_decide_eq_true hfk | replace hfk := of_decide_eq_false hfk | simp only [decide_eq_true_eq, decide_eq_false_iff_not, dh1, dh0, ne_eq, reduceCtorEq] at hfk)); (try (exfalso; first | omega | contradiction | exact Bool.noConfusion (Eq.trans (Eq.symm hfk) (by with_reducible assumption : _ = false)) | exact Bool.noConfusion (Eq.trans (Eq.symm hfk) (by with_reducible assumption : _ = true)))))) | (refine And.intro ?ob ?_; (case ob => (first | exact Chk.mk (by kernel_rfl) | exact True.intro | with_reducible assumption | exact rng64 (by omega) (by omega) | omega | (dsimp only; omega) | (show (_ : Nat) ≤ _; omega) | (simp only [ll1, ll2, ll0]; done) | (simp only [ll1, ll2, ll0]; omega) | (dsimp only; simp only [ll1, ll2, ll0]; omega)))) | exact True.intro | (show _ = _; first | with_reducible rfl | with_reducible assumption | omega | (simp only [ll1, ll2, ll0]; omega) | (skip; done) | exact rfl) | with_reducible assumption | (apply And.intro) | omega | (intro j hj; exact rfl) | fail))
    (refine ⟨[2], ⟨by kernel_rfl⟩, ?_⟩)
    (repeat' (first | (refine And.intro (fun (hfk : _ = true) => ?_) (fun (hfk : _ = false) => ?_) <;> ((try (first | replace hfk := of_decide_eq_true hfk | replace hfk := of_decide_eq_false hfk | simp only [decide_eq_true_eq, decide_eq_false_iff_not, dh1, dh0, ne_eq, reduceCtorEq] at hfk)); (try (exfalso; first | omega | contradiction | exact Bool.noConfusion (Eq.trans (Eq.symm hfk) (by with_reducible assumption : _ = false)) | exact Bool.noConfusion (Eq.trans (Eq.symm hfk) (by with_reducible assumption : _ = true)))))) | (refine And.intro ?ob ?_; (case ob => (first | exact Chk.mk (by kernel_rfl) | exact True.intro | with_reducible assumption | exact rng64 (by omega) (by omega) | omega | (dsimp only; omega) | (show (_ : Nat) ≤ _; omega) | (simp only [ll1, ll2, ll0]; done) | (simp only [ll1, ll2, ll0]; omega) | (dsimp only; simp only [ll1, ll2, ll0]; omega)))) | exact True.intro | (show _ = _; first | with_reducible rfl | with_reducible assumption | omega | (simp only [ll1, ll2, ll0]; omega) | ((exact et); done) | exact rfl) | with_reducible assumption | (apply And.intro) | omega | (intro j hj; exact rfl) | fail))
def rswpG (p : List Int) (C i : Nat) : Int := if 1 < C ∧ i % C = 0 then p.getD (i + 2) 0 else if 1 < C ∧ i % C = 2 then p.getD (i - 2) 0 else p.getD i 0
theorem swp2_get {q : List Int} (hq : 2 < q.length) (j : Nat) : (swp2 q).getD j 0 = if j = 2 then q.getD 0 0 else if j = 0 then q.getD 2 0 else q.getD j 0 := by
  unfold swp2
  rw [set_getD (by rw [List.length_set]; exact hq), set_getD (by omega)]
theorem rswap_s : SOK Try.prog 25 swapS := by
  refine sok_of (C := mkC 0 [(32, checkS)] (glook [(80, fG madeF)])) (mkC_ok (pok_cons rcheck7_s pok_nil) (gl_cons made_g gl_nil)) rfl mixed ⟨Try.func25, by kernel_rfl, by kernel_rfl, by kernel_rfl⟩ fun l obs v h ho => ?_
  obtain ⟨w, hh, c, p, rfl, rfl, rfl⟩ := imS_inv h
  refine ⟨Nat.le_of_ble_eq_true rfl, ?_⟩
  by_cases hc : imCheck w hh c p.length = 0
  rotate_left
  · have eX : chgX swpL w hh c p c = Im.z := if_neg (by rw [self_code]; exact hc)
    rw [eX]
    (repeat' (first | (refine And.intro (fun (hfk : _ = true) => ?_) (fun (hfk : _ = false) => ?_) <;> ((try (first | replace hfk := of_decide_eq_true hfk | replace hfk := of_decide_eq_false hfk | simp only [decide_eq_true_eq, decide_eq_false_iff_not, dh1, dh0, ne_eq, reduceCtorEq] at hfk)); (try (exfalso; first | omega | contradiction | exact Bool.noConfusion (Eq.trans (Eq.symm hfk) (by with_reducible assumption : _ = false)) | exact Bool.noConfusion (Eq.trans (Eq.symm hfk) (by with_reducible assumption : _ = true)))))) | (refine And.intro ?ob ?_; (case ob => (first | exact Chk.mk (by kernel_rfl) | exact True.intro | with_reducible assumption | exact rng64 (by omega) (by omega) | omega | (dsimp only; omega) | (show (_ : Nat) ≤ _; omega) | (simp only [ll1, ll2, ll0]; done) | (simp only [ll1, ll2, ll0]; omega) | (dsimp only; simp only [ll1, ll2, ll0]; omega)))) | exact True.intro | (show _ = _; first | with_reducible rfl | with_reducible assumption | omega | (simp only [ll1, ll2, ll0]; omega) | (skip; done) | exact rfl) | with_reducible assumption | (apply And.intro) | omega | (intro j hj; exact rfl) | fail))
  obtain ⟨C, Q, rfl, hQ, hpl, hC0, hQ1, hp16, hC, hQ4⟩ := image_num hc
  have eQ : (w * hh).toNat = Q := by rw [hQ]; rfl
  have eC : (C : Int).toNat = C := rfl
  have hpc : ∀ k, k < Q → (piece p C k).length = C := fun k hk => piece_len (by have := prod_of (n := C) hk; omega)
  have hfx : ∀ k, k < Q → (swpL C (piece p C k)).length = C := fun k hk => swpL_len (by rw [hpc k hk]; omega)
  have eF : mapL (rswpG p C) p.length = flatK p C (swpL C) Q := by
    unfold mapL
    rw [hpl]
    refine flatK_is hC0 hfx (rswpG p C) fun k j hk hj => ?_
    have hl := hpc k hk
    unfold rswpG swpL
    rw [mod_of hj, List.take_of_length_le (by omega)]
    by_cases h3 : 2 < C
    · rw [if_pos h3, swp2_get (by omega)]
      by_cases j0 : j = 0
      · subst j0
        rw [if_pos ⟨by omega, rfl⟩, if_neg (by omega), if_pos rfl, piece_get (by omega)]
      · rw [if_neg (by omega)]
        by_cases j2 : j = 2
        · subst j2
          rw [if_pos ⟨by omega, rfl⟩, if_pos rfl, piece_get (by omega)]; rfl
        · rw [if_neg (by omega), if_neg j2, if_neg j0, piece_get hj]
    · rw [if_neg h3, if_neg (by omega), if_neg (by omega), piece_get hj]
  have eX : chgX swpL w hh C p C = ⟨w, hh, C, mapL (rswpG p C) p.length⟩ := by
    unfold chgX
    rw [if_pos (by rw [self_code, hc]), eQ, eC, eF]
  rw [eX]
  (repeat' (first | (refine And.intro (fun (hfk : _ = true) => ?_) (fun (hfk : _ = false) => ?_) <;> ((try (first | replace hfk := of_decide_eq_true hfk | replace hfk := of_decide_eq_false hfk | simp only [decide_eq_true_eq, decide_eq_false_iff_not, dh1, dh0, ne_eq, reduceCtorEq] at hfk)); (try (exfalso; first | omega | contradiction | exact Bool.noConfusion (Eq.trans (Eq.symm hfk) (by with_reducible assumption : _ = false)) | exact Bool.noConfusion (Eq.trans (Eq.symm hfk) (by with_reducible assumption : _ = true)))))) | (refine And.intro ?ob ?_; (case ob => (first | exact Chk.mk (by kernel_rfl) | exact True.intro | with_reducible assumption | exact rng64 (by omega) (by omega) | omega | (dsimp only; omega) | (show (_ : Nat) ≤ _; omega) | (simp only [ll1, ll2, ll0]; done) | (simp only [ll1, ll2, ll0]; omega) | (dsimp only; simp only [ll1, ll2, ll0]; omega)))) | exact True.intro | (show _ = _; first | with_reducible rfl | with_reducible assumption | omega | (simp only [ll1, ll2, ll0]; omega) | (skip; done) | exact rfl) | with_reducible assumption | (apply And.intro) | omega | (intro j hj; exact rfl) | fail))
  refine ⟨Nat, fun (i : Nat) => [(1, .ptr 0 0), (2, .ptr 1 0), (3, .int .i64 0), (5, .sl 2 1 0 i), (6, .int .i64 i)],
      fun i => ⟨3, [(0, some (.cells 33 [.int .i64 w, .int .i64 hh, .int .i64 C, .roi .u8 p])), (1, some (.cells 33 [.int .i64 0, .int .i64 0, .int .i64 0, .nils])), (2, some (.ints 5 .u8 (mapL (rswpG p C) i)))]⟩, fun i => i ≤ p.length, fun i => p.length - i, ⟨0, [some 0, some 1, none], Nat.zero_le _, ?_⟩, fun i hi => ?_⟩
  · (repeat' (first | (refine And.intro (fun (hfk : _ = true) => ?_) (fun (hfk : _ = false) => ?_) <;> ((try (first | replace hfk := of_decide_eq_true hfk | replace hfk := of_decide_eq_false hfk | simp only [decide_eq_true_eq, decide_eq_false_iff_not, dh1, dh0, ne_eq, reduceCtorEq] at hfk)); (try (exfalso; first | omega | contradiction | exact Bool.noConfusion (Eq.trans (Eq.symm hfk) (by with_reducible assumption : _ = false)) | exact Bool.noConfusion (Eq.trans (Eq.symm hfk) (by with_reducible assumption : _ = true)))))) | (refine And.intro ?ob ?_; (case ob => (first | exact Chk.mk (by kernel_rfl) | exact True.intro | with_reducible assumption | exact rng64 (by omega) (by omega) | omega | (dsimp only; omega) | (show (_ : Nat) ≤ _; omega) | (simp only [ll1, ll2, ll0]; done) | (simp only [ll1, ll2, ll0]; omega) | (dsimp only; simp only [ll1, ll2, ll0]; omega)))) | exact True.intro | (show _ = _; first | with_reducible rfl | with_reducible assumption | omega | (simp only [ll1, ll2, ll0]; omega) | (skip; done) | exact rfl) | with_reducible assumption | (apply And.intro) | omega | (intro j hj; exact rfl) | fail))
  have hi : i ≤ p.length := hi
  have hl := mapL_len (rswpG p C) i
  have hs := mapL_succ (rswpG p C) i
  by_cases hlt : i < p.length
  · have hm := Nat.mod_lt i hC0
    have hdm : i / C * C + i % C = i := by rw [Nat.mul_comm]; exact Nat.div_add_mod i C
    have hdq : i / C < Q := (Nat.div_lt_iff_lt_mul hC0).2 (by omega)
    have hpq := prod_of (n := C) hdq
    by_cases h0 : 1 < C ∧ i % C = 0
    · have e : mapL (rswpG p C) i ++ [p.getD ((i : Int) + 2).toNat 0] = mapL (rswpG p C) (i + 1) := by rw [hs]; unfold rswpG; rw [if_pos h0, show ((i : Int) + 2).toNat = i + 2 by omega]
      have a1 : (i : Int).tmod C = 0 := by show ((i % C : Nat) : Int) = 0; omega
      have a2 : ((i + 2 : Nat) : Int) < p.length := by omega
      obtain ⟨h01, h02⟩ := h0
      (repeat' (first | (refine And.intro (fun (hfk : _ = true) => ?_) (fun (hfk : _ = false) => ?_) <;> ((try (first | replace hfk := of_decide_eq_true hfk | replace hfk := of_decide_eq_false hfk | simp only [decide_eq_true_eq, decide_eq_false_iff_not, dh1, dh0, ne_eq, reduceCtorEq] at hfk)); (try (exfalso; first | omega | contradiction | exact Bool.noConfusion (Eq.trans (Eq.symm hfk) (by with_reducible assumption : _ = false)) | exact Bool.noConfusion (Eq.trans (Eq.symm hfk) (by with_reducible assumption : _ = true)))))) | (refine And.intro ?ob ?_; (case ob => (first | exact Chk.mk (by kernel_rfl) | exact True.intro | with_reducible assumption | exact rng64 (by omega) (by omega) | omega | (dsimp only; omega) | (show (_ : Nat) ≤ _; omega) | (simp only [ll1, ll2, ll0]; done) | (simp only [ll1, ll2, ll0]; omega) | (dsimp only; simp only [ll1, ll2, ll0]; omega)))) | exact True.intro | (show _ = _; first | with_reducible rfl | with_reducible assumption | omega | (simp only [ll1, ll2, ll0]; omega) | (skip; done) | exact rfl) | with_reducible assumption | (apply And.intro) | omega | (intro j hj; exact rfl) | fail))
      (refine ⟨i + 1, [some 0, some 1, some 4], ?_, ?mu, ?_⟩; (case mu => ((try dsimp only); omega)))
      · exact hlt
      (repeat' (first | (refine And.intro (fun (hfk : _ = true) => ?_) (fun (hfk : _ = false) => ?_) <;> ((try (first | replace hfk := of_decide_eq_true hfk | replace hfk := of_decide_eq_false hfk | simp only [decide_eq_true_eq, decide_eq_false_iff_not, dh1, dh0, ne_eq, reduceCtorEq] at hfk)); (try (exfalso; first | omega | contradiction | exact Bool.noConfusion (Eq.trans (Eq.symm hfk) (by with_reducible assumption : _ = false)) | exact Bool.noConfusion (Eq.trans (Eq.symm hfk) (by with_reducible assumption : _ = true)))))) | (refine And.intro ?ob ?_; (case ob => (first | exact Chk.mk (by kernel_rfl) | exact True.intro | with_reducible assumption | exact rng64 (by omega) (by omega) | omega | (dsimp only; omega) | (show (_ : Nat) ≤ _; omega) | (simp only [ll1, ll2, ll0]; done) | (simp only [ll1, ll2, ll0]; omega) | (dsimp only; simp only [ll1, ll2, ll0]; omega)))) | exact True.intro | (show _ = _; first | with_reducible rfl | with_reducible assumption | omega | (simp only [ll1, ll2, ll0]; omega) | ((exact e); done) | exact rfl) | with_reducible assumption | (apply And.intro) | omega | (intro j hj; exact rfl) | fail))
    by_cases h2 : 1 < C ∧ i % C = 2
    · have e : mapL (rswpG p C) i ++ [p.getD ((i : Int) - 2).toNat 0] = mapL (rswpG p C) (i + 1) := by rw [hs]; unfold rswpG; rw [if_neg h0, if_pos h2, show ((i : Int) - 2).toNat = i - 2 by omega]
      have a1 : (i : Int).tmod C = 2 := by show ((i % C : Nat) : Int) = 2; omega
      obtain ⟨h01, h02⟩ := h2
      have a2 : 2 ≤ i := by omega
      (repeat' (first | (refine And.intro (fun (hfk : _ = true) => ?_) (fun (hfk : _ = false) => ?_) <;> ((try (first | replace hfk := of_decide_eq_true hfk | replace hfk := of_decide_eq_false hfk | simp only [decide_eq_true_eq, decide_eq_false_iff_not, dh1, dh0, ne_eq, reduceCtorEq] at hfk)); (try (exfalso; first | omega | contradiction | exact Bool.noConfusion (Eq.trans (Eq.symm hfk) (by with_reducible assumption : _ = false)) | exact Bool.noConfusion (Eq.trans (Eq.symm hfk) (by with_reducible assumption : _ = true)))))) | (refine And.intro ?ob ?_; (case ob => (first | exact Chk.mk (by kernel_rfl) | exact True.intro | with_reducible assumption | exact rng64 (by omega) (by omega) | omega | (dsimp only; omega) | (show (_ : Nat) ≤ _; omega) | (simp only [ll1, ll2, ll0]; done) | (simp only [ll1, ll2, ll0]; omega) | (dsimp only; simp only [ll1, ll2, ll0]; omega)))) | exact True.intro | (show _ = _; first | with_reducible rfl | with_reducible assumption | omega | (simp only [ll1, ll2, ll0]; omega) | (skip; done) | exact rfl) | with_reducible assumption | (apply And.intro) | omega | (intro j hj; exact rfl) | fail))
      (refine ⟨i + 1, [some 0, some 1, some 4], ?_, ?mu, ?_⟩; (case mu => ((try dsimp only); omega)))
      · exact hlt
      (repeat' (first | (refine And.intro (fun (hfk : _ = true) => ?_) (fun (hfk : _ = false) => ?_) <;> ((try (first | replace hfk := of_decide_eq_true hfk | replace hfk := of_decide_eq_false hfk | simp only [decide_eq_true_eq, decide_eq_false_iff_not, dh1, dh0, ne_eq, reduceCtorEq] at hfk)); (try (exfalso; first | omega | contradiction | exact Bool.noConfusion (Eq.trans (Eq.symm hfk) (by with_reducible assumption : _ = false)) | exact Bool.noConfusion (Eq.trans (Eq.symm hfk) (by with_reducible assumption : _ = true)))))) | (refine And.intro ?ob ?_; (case ob => (first | exact Chk.mk (by kernel_rfl) | exact True.intro | with_reducible assumption | exact rng64 (by omega) (by omega) | omega | (dsimp only; omega) | (show (_ : Nat) ≤ _; omega) | (simp only [ll1, ll2, ll0]; done) | (simp only [ll1, ll2, ll0]; omega) | (dsimp only; simp only [ll1, ll2, ll0]; omega)))) | exact True.intro | (show _ = _; first | with_reducible rfl | with_reducible assumption | omega | (simp only [ll1, ll2, ll0]; omega) | ((exact e); done) | exact rfl) | with_reducible assumption | (apply And.intro) | omega | (intro j hj; exact rfl) | fail))
    · have e : mapL (rswpG p C) i ++ [p.getD (i : Int).toNat 0] = mapL (rswpG p C) (i + 1) := by rw [hs]; unfold rswpG; rw [if_neg h0, if_neg h2]; rfl
      by_cases hC1 : 1 < C
      · have a1 : ¬ (i : Int).tmod C = 0 := fun h => h0 ⟨hC1, Int.ofNat.inj h⟩
        have a2 : ¬ (i : Int).tmod C = 2 := fun h => h2 ⟨hC1, Int.ofNat.inj h⟩
        (repeat' (first | (refine And.intro (fun (hfk : _ = true) => ?_) (fun (hfk : _ = false) => ?_) <;> ((try (first | replace hfk := of_decide_eq_true hfk | replace hfk := of_decide_eq_false hfk | simp only [decide_eq_true_eq, decide_eq_false_iff_not, dh1, dh0, ne_eq, reduceCtorEq] at hfk)); (try (exfalso; first | omega | contradiction | exact Bool.noConfusion (Eq.trans (Eq.symm hfk) (by with_reducible assumption : _ = false)) | exact Bool.noConfusion (Eq.trans (Eq.symm hfk) (by with_reducible assumption : _ = true)))))) | (refine And.intro ?ob ?_; (case ob => (first | exact Chk.mk (by kernel_rfl) | exact True.intro | with_reducible assumption | exact rng64 (by omega) (by omega) | omega | (dsimp only; omega) | (show (_ : Nat) ≤ _; omega) | (simp only [ll1, ll2, ll0]; done) | (simp only [ll1, ll2, ll0]; omega) | (dsimp only; simp only [ll1, ll2, ll0]; omega)))) | exact True.intro | (show _ = _; first | with_reducible rfl | with_reducible assumption | omega | (simp only [ll1, ll2, ll0]; omega) | (skip; done) | exact rfl) | with_reducible assumption | (apply And.intro) | omega | (intro j hj; exact rfl) | fail))
        (refine ⟨i + 1, [some 0, some 1, some 4], ?_, ?mu, ?_⟩; (case mu => ((try dsimp only); omega)))
        · exact hlt
        (repeat' (first | (refine And.intro (fun (hfk : _ = true) => ?_) (fun (hfk : _ = false) => ?_) <;> ((try (first | replace hfk := of_decide_eq_true hfk | replace hfk := of_decide_eq_false hfk | simp only [decide_eq_true_eq, decide_eq_false_iff_not, dh1, dh0, ne_eq, reduceCtorEq] at hfk)); (try (exfalso; first | omega | contradiction | exact Bool.noConfusion (Eq.trans (Eq.symm hfk) (by with_reducible assumption : _ = false)) | exact Bool.noConfusion (Eq.trans (Eq.symm hfk) (by with_reducible assumption : _ = true)))))) | (refine And.intro ?ob ?_; (case ob => (first | exact Chk.mk (by kernel_rfl) | exact True.intro | with_reducible assumption | exact rng64 (by omega) (by omega) | omega | (dsimp only; omega) | (show (_ : Nat) ≤ _; omega) | (simp only [ll1, ll2, ll0]; done) | (simp only [ll1, ll2, ll0]; omega) | (dsimp only; simp only [ll1, ll2, ll0]; omega)))) | exact True.intro | (show _ = _; first | with_reducible rfl | with_reducible assumption | omega | (simp only [ll1, ll2, ll0]; omega) | ((exact e); done) | exact rfl) | with_reducible assumption | (apply And.intro) | omega | (intro j hj; exact rfl) | fail))
      · (repeat' (first | (refine And.intro (fun (hfk : _ = true) => ?_) (fun (hfk : _ = false) => ?_) <;> ((try (first | replace hfk := of_decide_eq_true hfk | replace hfk := of_decide_eq_false hfk | simp only [decide_eq_true_eq, decide_eq_false_iff_not, dh1, dh0, ne_eq, reduceCtorEq] at hfk)); (try (exfalso; first | omega | contradiction | exact Bool.noConfusion (Eq.trans (Eq.symm hfk) (by with_reducible assumption : _ = false)) | exact Bool.noConfusion (Eq.trans (Eq.symm hfk) (by with_reducible assumption : _ = true)))))) | (refine And.intro ?ob ?_; (case ob => (first | exact Chk.mk (by kernel_rfl) | exact True.intro | with_reducible assumption | exact rng64 (by omega) (by omega) | omega | (dsimp only; omega) | (show (_ : Nat) ≤ _; omega) | (simp only [ll1, ll2, ll0]; done) | (simp only [ll1, ll2, ll0]; omega) | (dsimp only; simp only [ll1, ll2, ll0]; omega)))) | exact True.intro | (show _ = _; first | with_reducible rfl | with_reducible assumption | omega | (simp only [ll1, ll2, ll0]; omega) | (skip; done) | exact rfl) | with_reducible assumption | (apply And.intro) | omega | (intro j hj; exact rfl) | fail))
        (refine ⟨i + 1, [some 0, some 1, some 4], ?_, ?mu, ?_⟩; (case mu => ((try dsimp only); omega)))
        · exact hlt
        (repeat' (first | (refine And.intro (fun (hfk : _ = true) => ?_) (fun (hfk : _ = false) => ?_) <;> ((try (first | replace hfk := of_decide_eq_true hfk | replace hfk := of_decide_eq_false hfk | simp only [decide_eq_true_eq, decide_eq_false_iff_not, dh1, dh0, ne_eq, reduceCtorEq] at hfk)); (try (exfalso; first | omega | contradiction | exact Bool.noConfusion (Eq.trans (Eq.symm hfk) (by with_reducible assumption : _ = false)) | exact Bool.noConfusion (Eq.trans (Eq.symm hfk) (by with_reducible assumption : _ = true)))))) | (refine And.intro ?ob ?_; (case ob => (first | exact Chk.mk (by kernel_rfl) | exact True.intro | with_reducible assumption | exact rng64 (by omega) (by omega) | omega | (dsimp only; omega) | (show (_ : Nat) ≤ _; omega) | (simp only [ll1, ll2, ll0]; done) | (simp only [ll1, ll2, ll0]; omega) | (dsimp only; simp only [ll1, ll2, ll0]; omega)))) | exact True.intro | (show _ = _; first | with_reducible rfl | with_reducible assumption | omega | (simp only [ll1, ll2, ll0]; omega) | ((exact e); done) | exact rfl) | with_reducible assumption | (apply And.intro) | omega | (intro j hj; exact rfl) | fail))
  · obtain rfl : i = p.length := by omega
    have et := td_self (mapL (rswpG p C) p.length)
    rw [hl] at et
    (repeat' (first | (refine And.intro (fun (hfk : _ = true) => ?_) (fun (hfk : _ = false) => ?_) <;> ((try (first | replace hfk := of_decide_eq_true hfk | replace hfk := of_decide_eq_false hfk | simp only [decide_eq_true_eq, decide_eq_false_iff_not, dh1, dh0, ne_eq, reduceCtorEq] at hfk)); (try (exfalso; first | omega | contradiction | exact Bool.noConfusion (Eq.trans (Eq.symm hfk) (by with_reducible assumption : _ = false)) | exact Bool.noConfusion (Eq.trans (Eq.symm hfk) (by with_reducible assumption : _ = true)))))) | (refine And.intro ?ob ?_; (case ob => (first | exact Chk.mk (by kernel_rfl) | exact True.intro | with_reducible assumption | exact rng64 (by omega) (by omega) | omega | (dsimp only; omega) | (show (_ : Nat) ≤ _; omega) | (simp only [ll1, ll2, ll0]; done) | (simp only [ll1, ll2, ll0]; omega) | (dsimp only; simp only [ll1, ll2, ll0]; omega)))) | exact True.intro | (show _ = _; first | with_reducible rfl | with_reducible assumption | omega | (simp only [ll1, ll2, ll0]; omega) | (skip; done) | exact rfl) | with_reducible assumption | (apply And.intro) | omega | (intro j hj; exact rfl) | fail))
    (refine ⟨[2], ⟨by kernel_rfl⟩, ?_⟩)
    (repeat' (first | (refine And.intro (fun (hfk : _ = true) => ?_) (fun (hfk : _ = false) => ?_) <;> ((try (first | replace hfk := of_decide_eq_true hfk | replace hfk := of_decide_eq_false hfk | simp only [decide_eq_true_eq, decide_eq_false_iff_not, dh1, dh0, ne_eq, reduceCtorEq] at hfk)); (try (exfalso; first | omega | contradiction | exact Bool.noConfusion (Eq.trans (Eq.symm hfk) (by with_reducible assumption : _ = false)) | exact Bool.noConfusion (Eq.trans (Eq.symm hfk) (by with_reducible assumption : _ = true)))))) | (refine And.intro ?ob ?_; (case ob => (first | exact Chk.mk (by kernel_rfl) | exact True.intro | with_reducible assumption | exact rng64 (by omega) (by omega) | omega | (dsimp only; omega) | (show (_ : Nat) ≤ _; omega) | (simp only [ll1, ll2, ll0]; done) | (simp only [ll1, ll2, ll0]; omega) | (dsimp only; simp only [ll1, ll2, ll0]; omega)))) | exact True.intro | (show _ = _; first | with_reducible rfl | with_reducible assumption | omega | (simp only [ll1, ll2, ll0]; omega) | ((exact et); done) | exact rfl) | with_reducible assumption | (apply And.intro) | omega | (intro j hj; exact rfl) | fail))
theorem rchannel_s : SOK Try.prog 27 channelS := by
  refine sok_of (C := mkC 0 [(32, checkS), (78, eachS)] (glook [(80, fG madeF)])) (mkC_ok (pok_cons rcheck7_s (pok_cons each_s pok_nil)) (gl_cons made_g gl_nil)) rfl mixed ⟨Try.func27, by kernel_rfl, by kernel_rfl, by kernel_rfl⟩ fun l obs v h ho => ?_
  obtain ⟨w, hh, c, p, kk, rfl, rfl, rfl⟩ := imIS_inv h
  refine ⟨Nat.le_of_ble_eq_true rfl, ?_⟩
  by_cases hc : imCheck w hh c p.length = 0
  rotate_left
  · have e : chanC w hh c p kk = imCheck w hh c p.length := if_pos hc
    have eX : chanX w hh c p kk = Im.z := if_neg (by rw [e]; exact hc)
    rw [eX, e]
    (repeat' (first | (refine And.intro (fun (hfk : _ = true) => ?_) (fun (hfk : _ = false) => ?_) <;> ((try (first | replace hfk := of_decide_eq_true hfk | replace hfk := of_decide_eq_false hfk | simp only [decide_eq_true_eq, decide_eq_false_iff_not, dh1, dh0, ne_eq, reduceCtorEq] at hfk)); (try (exfalso; first | omega | contradiction | exact Bool.noConfusion (Eq.trans (Eq.symm hfk) (by with_reducible assumption : _ = false)) | exact Bool.noConfusion (Eq.trans (Eq.symm hfk) (by with_reducible assumption : _ = true)))))) | (refine And.intro ?ob ?_; (case ob => (first | exact Chk.mk (by kernel_rfl) | exact True.intro | with_reducible assumption | exact rng64 (by omega) (by omega) | omega | (dsimp only; omega) | (show (_ : Nat) ≤ _; omega) | (simp only [ll1, ll2, ll0]; done) | (simp only [ll1, ll2, ll0]; omega) | (dsimp only; simp only [ll1, ll2, ll0]; omega)))) | exact True.intro | (show _ = _; first | with_reducible rfl | with_reducible assumption | omega | (simp only [ll1, ll2, ll0]; omega) | (skip; done) | exact rfl) | with_reducible assumption | (apply And.intro) | omega | (intro j hj; exact rfl) | fail))
  by_cases hk : kk < 0 ∨ c ≤ kk
  · have e : chanC w hh c p kk = 11 := by unfold chanC; rw [if_neg (not_not_intro hc), if_pos hk]
    have eX : chanX w hh c p kk = Im.z := if_neg (by rw [e]; decide)
    rw [eX, e]
    (repeat' (first | (refine And.intro (fun (hfk : _ = true) => ?_) (fun (hfk : _ = false) => ?_) <;> ((try (first | replace hfk := of_decide_eq_true hfk | replace hfk := of_decide_eq_false hfk | simp only [decide_eq_true_eq, decide_eq_false_iff_not, dh1, dh0, ne_eq, reduceCtorEq] at hfk)); (try (exfalso; first | omega | contradiction | exact Bool.noConfusion (Eq.trans (Eq.symm hfk) (by with_reducible assumption : _ = false)) | exact Bool.noConfusion (Eq.trans (Eq.symm hfk) (by with_reducible assumption : _ = true)))))) | (refine And.intro ?ob ?_; (case ob => (first | exact Chk.mk (by kernel_rfl) | exact True.intro | with_reducible assumption | exact rng64 (by omega) (by omega) | omega | (dsimp only; omega) | (show (_ : Nat) ≤ _; omega) | (simp only [ll1, ll2, ll0]; done) | (simp only [ll1, ll2, ll0]; omega) | (dsimp only; simp only [ll1, ll2, ll0]; omega)))) | exact True.intro | (show _ = _; first | with_reducible rfl | with_reducible assumption | omega | (simp only [ll1, ll2, ll0]; omega) | (skip; done) | exact rfl) | with_reducible assumption | (apply And.intro) | omega | (intro j hj; exact rfl) | fail))
  have e : chanC w hh c p kk = 0 := by unfold chanC; rw [if_neg (not_not_intro hc), if_neg hk]
  obtain ⟨C, Q, rfl, hQ, hpl, hC0, hQ1, hp16, hC, hQ4⟩ := image_num hc
  have eQ : (w * hh).toNat = Q := by rw [hQ]; rfl
  have eC : (C : Int).toNat = C := rfl
  have hpc : ∀ k, k < Q → (piece p C k).length = C := fun k hk => piece_len (by have := prod_of (n := C) hk; omega)
  have hfx : ∀ k, k < Q → (chnL kk 1 (piece p C k)).length = 1 := fun k hk => rfl
  have hfl := flatK_len (p := p) (c := C) (f := chnL kk 1) (d := 1) (Q := Q) hfx
  have eX : chanX w hh C p kk = ⟨w, hh, 1, flatK p C (chnL kk 1) Q⟩ := by unfold chanX; rw [if_pos e, eQ, eC]
  rw [eX, e]
  (repeat' (first | (refine And.intro (fun (hfk : _ = true) => ?_) (fun (hfk : _ = false) => ?_) <;> ((try (first | replace hfk := of_decide_eq_true hfk | replace hfk := of_decide_eq_false hfk | simp only [decide_eq_true_eq, decide_eq_false_iff_not, dh1, dh0, ne_eq, reduceCtorEq] at hfk)); (try (exfalso; first | omega | contradiction | exact Bool.noConfusion (Eq.trans (Eq.symm hfk) (by with_reducible assumption : _ = false)) | exact Bool.noConfusion (Eq.trans (Eq.symm hfk) (by with_reducible assumption : _ = true)))))) | (refine And.intro ?ob ?_; (case ob => (first | exact Chk.mk (by kernel_rfl) | exact True.intro | with_reducible assumption | exact rng64 (by omega) (by omega) | omega | (dsimp only; omega) | (show (_ : Nat) ≤ _; omega) | (simp only [ll1, ll2, ll0]; done) | (simp only [ll1, ll2, ll0]; omega) | (dsimp only; simp only [ll1, ll2, ll0]; omega)))) | exact True.intro | (show _ = _; first | with_reducible rfl | with_reducible assumption | omega | (simp only [ll1, ll2, ll0]; omega) | (skip; done) | exact rfl) | with_reducible assumption | (apply And.intro) | omega | (intro j hj; exact rfl) | fail))
  rw [eQ]
  refine ⟨Nat, fun (k : Nat) => [(1, .int .i64 kk), (2, .ptr 0 0), (4, .ptr 1 0), (5, .int .i64 0), (7, .sl 2 1 0 k), (26, .ro 1 Q (fun j => .roi .u8 (piece p C j))), (27, .int .i64 Q), (28, .int .i64 k)],
      fun k => ⟨3, [(0, some (.cells 33 [.int .i64 w, .int .i64 hh, .int .i64 C, .roi .u8 p])), (1, some (.cells 33 [.int .i64 0, .int .i64 0, .int .i64 0, .nils])), (2, some (.ints 5 .u8 (flatK p C (chnL kk 1) k)))]⟩, fun k => k ≤ Q, fun k => Q - k, ⟨0, [some 0, some 1, none], Nat.zero_le _, ?_⟩, fun k hk => ?_⟩
  · (repeat' (first | (refine And.intro (fun (hfk : _ = true) => ?_) (fun (hfk : _ = false) => ?_) <;> ((try (first | replace hfk := of_decide_eq_true hfk | replace hfk := of_decide_eq_false hfk | simp only [decide_eq_true_eq, decide_eq_false_iff_not, dh1, dh0, ne_eq, reduceCtorEq] at hfk)); (try (exfalso; first | omega | contradiction | exact Bool.noConfusion (Eq.trans (Eq.symm hfk) (by with_reducible assumption : _ = false)) | exact Bool.noConfusion (Eq.trans (Eq.symm hfk) (by with_reducible assumption : _ = true)))))) | (refine And.intro ?ob ?_; (case ob => (first | exact Chk.mk (by kernel_rfl) | exact True.intro | with_reducible assumption | exact rng64 (by omega) (by omega) | omega | (dsimp only; omega) | (show (_ : Nat) ≤ _; omega) | (simp only [ll1, ll2, ll0]; done) | (simp only [ll1, ll2, ll0]; omega) | (dsimp only; simp only [ll1, ll2, ll0]; omega)))) | exact True.intro | (show _ = _; first | with_reducible rfl | with_reducible assumption | omega | (simp only [ll1, ll2, ll0]; omega) | (skip; done) | exact rfl) | with_reducible assumption | (apply And.intro) | omega | (intro j hj; exact rfl) | fail))
  have hk : k ≤ Q := hk
  have hlk : (flatK p C (chnL kk 1) k).length = k := (hfl k hk).trans (Nat.mul_one k)
  by_cases hlt : k < Q
  · have hpk : (piece p C (k : Int).toNat).length = C := hpc k hlt
    (repeat' (first | (refine And.intro (fun (hfk : _ = true) => ?_) (fun (hfk : _ = false) => ?_) <;> ((try (first | replace hfk := of_decide_eq_true hfk | replace hfk := of_decide_eq_false hfk | simp only [decide_eq_true_eq, decide_eq_false_iff_not, dh1, dh0, ne_eq, reduceCtorEq] at hfk)); (try (exfalso; first | omega | contradiction | exact Bool.noConfusion (Eq.trans (Eq.symm hfk) (by with_reducible assumption : _ = false)) | exact Bool.noConfusion (Eq.trans (Eq.symm hfk) (by with_reducible assumption : _ = true)))))) | (refine And.intro ?ob ?_; (case ob => (first | exact Chk.mk (by kernel_rfl) | exact True.intro | with_reducible assumption | exact rng64 (by omega) (by omega) | omega | (dsimp only; omega) | (show (_ : Nat) ≤ _; omega) | (simp only [ll1, ll2, ll0]; done) | (simp only [ll1, ll2, ll0]; omega) | (dsimp only; simp only [ll1, ll2, ll0]; omega)))) | exact True.intro | (show _ = _; first | with_reducible rfl | with_reducible assumption | omega | (simp only [ll1, ll2, ll0]; omega) | (skip; done) | exact rfl) | with_reducible assumption | (apply And.intro) | omega | (intro j hj; exact rfl) | fail))
    (refine ⟨k + 1, [some 0, some 1, some 4], ?_, ?mu, ?_⟩; (case mu => ((try dsimp only); omega)))
    · exact hlt
    (repeat' (first | (refine And.intro (fun (hfk : _ = true) => ?_) (fun (hfk : _ = false) => ?_) <;> ((try (first | replace hfk := of_decide_eq_true hfk | replace hfk := of_decide_eq_false hfk | simp only [decide_eq_true_eq, decide_eq_false_iff_not, dh1, dh0, ne_eq, reduceCtorEq] at hfk)); (try (exfalso; first | omega | contradiction | exact Bool.noConfusion (Eq.trans (Eq.symm hfk) (by with_reducible assumption : _ = false)) | exact Bool.noConfusion (Eq.trans (Eq.symm hfk) (by with_reducible assumption : _ = true)))))) | (refine And.intro ?ob ?_; (case ob => (first | exact Chk.mk (by kernel_rfl) | exact True.intro | with_reducible assumption | exact rng64 (by omega) (by omega) | omega | (dsimp only; omega) | (show (_ : Nat) ≤ _; omega) | (simp only [ll1, ll2, ll0]; done) | (simp only [ll1, ll2, ll0]; omega) | (dsimp only; simp only [ll1, ll2, ll0]; omega)))) | exact True.intro | (show _ = _; first | with_reducible rfl | with_reducible assumption | omega | (simp only [ll1, ll2, ll0]; omega) | (skip; done) | exact rfl) | with_reducible assumption | (apply And.intro) | omega | (intro j hj; exact rfl) | fail))
  · obtain rfl : k = Q := by omega
    have et := td_self (flatK p C (chnL kk 1) k)
    rw [hlk] at et
    (repeat' (first | (refine And.intro (fun (hfk : _ = true) => ?_) (fun (hfk : _ = false) => ?_) <;> ((try (first | replace hfk := of_decide_eq_true hfk | replace hfk := of_decide_eq_false hfk | simp only [decide_eq_true_eq, decide_eq_false_iff_not, dh1, dh0, ne_eq, reduceCtorEq] at hfk)); (try (exfalso; first | omega | contradiction | exact Bool.noConfusion (Eq.trans (Eq.symm hfk) (by with_reducible assumption : _ = false)) | exact Bool.noConfusion (Eq.trans (Eq.symm hfk) (by with_reducible assumption : _ = true)))))) | (refine And.intro ?ob ?_; (case ob => (first | exact Chk.mk (by kernel_rfl) | exact True.intro | with_reducible assumption | exact rng64 (by omega) (by omega) | omega | (dsimp only; omega) | (show (_ : Nat) ≤ _; omega) | (simp only [ll1, ll2, ll0]; done) | (simp only [ll1, ll2, ll0]; omega) | (dsimp only; simp only [ll1, ll2, ll0]; omega)))) | exact True.intro | (show _ = _; first | with_reducible rfl | with_reducible assumption | omega | (simp only [ll1, ll2, ll0]; omega) | (skip; done) | exact rfl) | with_reducible assumption | (apply And.intro) | omega | (intro j hj; exact rfl) | fail))
    (refine ⟨[2], ⟨by kernel_rfl⟩, ?_⟩)
    (repeat' (first | (refine And.intro (fun (hfk : _ = true) => ?_) (fun (hfk : _ = false) => ?_) <;> ((try (first | replace hfk := of_decide_eq_true hfk | replace hfk := of_decide_eq_false hfk | simp only [decide_eq_true_eq, decide_eq_false_iff_not, dh1, dh0, ne_eq, reduceCtorEq] at hfk)); (try (exfalso; first | omega | contradiction | exact Bool.noConfusion (Eq.trans (Eq.symm hfk) (by with_reducible assumption : _ = false)) | exact Bool.noConfusion (Eq.trans (Eq.symm hfk) (by with_reducible assumption : _ = true)))))) | (refine And.intro ?ob ?_; (case ob => (first | exact Chk.mk (by kernel_rfl) | exact True.intro | with_reducible assumption | exact rng64 (by omega) (by omega) | omega | (dsimp only; omega) | (show (_ : Nat) ≤ _; omega) | (simp only [ll1, ll2, ll0]; done) | (simp only [ll1, ll2, ll0]; omega) | (dsimp only; simp only [ll1, ll2, ll0]; omega)))) | exact True.intro | (show _ = _; first | with_reducible rfl | with_reducible assumption | omega | (simp only [ll1, ll2, ll0]; omega) | ((exact et); done) | exact rfl) | with_reducible assumption | (apply And.intro) | omega | (intro j hj; exact rfl) | fail))


theorem sameM_self (w h c : Int) (p : List Int) : sameM w h c p w h c p = true := by simp [sameM]
theorem toFn_len {C D : Nat} (hd : D = 1 ∨ D = 3 ∨ D = 4) (q : List Int) : (toFn C D D q).length = D := by
  unfold toFn
  split
  · exact sprL_len _ _
  · split
    · show 1 = D; omega
    · exact fstL_len _ _
theorem chg_len {f : Nat → List Int → List Int} {w h c : Int} {p : List Int} {cc : Int} (hf : ∀ C D : Nat, c = C → cc = D → (D = 1 ∨ D = 3 ∨ D = 4) → ∀ q : List Int, q.length = C → (f D q).length = D) : (chgX f w h c p cc).p.length ≤ 16777216 := by
  unfold chgX
  split
  rotate_left
  · show 0 ≤ _; omega
  rename_i hcd
  unfold chgC at hcd
  split at hcd
  · rename_i h1; exact absurd hcd h1
  rename_i h1
  have h1 := Classical.not_not.1 h1
  obtain ⟨C, Q, rfl, hQ, hpl, hC0, hQ1, hp16, hC, hQ4⟩ := image_num h1
  have hd := (fits_inv hcd).1
  obtain ⟨D, rfl⟩ := Int.eq_ofNat_of_zero_le (show 0 ≤ cc by omega)
  have eQ : (w * h).toNat = Q := by rw [hQ]; rfl
  have hD : D = 1 ∨ D = 3 ∨ D = 4 := by omega
  show (flatK p C (f D) (w * h).toNat).length ≤ _
  rw [eQ, flatK_len (d := D) (Q := Q) (fun k hk => hf C D rfl rfl hD _ (piece_len (by have := prod_of (n := C) hk; omega))) Q (Nat.le_refl _)]
  calc Q * D ≤ 4194304 * D := Nat.mul_le_mul_right _ hQ4
    _ ≤ 16777216 := by omega
theorem to_len (w h c : Int) (p : List Int) (cc : Int) : (chgX (toFn c cc) w h c p cc).p.length ≤ 16777216 := chg_len fun C D hc hd h q hq => by subst hc; subst hd; exact toFn_len h q
theorem inv_len (w h c : Int) (p : List Int) : (chgX invL' w h c p c).p.length ≤ 16777216 := chg_len fun C D hc hd h q hq => invL'_len (by omega)
theorem swp_len (w h c : Int) (p : List Int) : (chgX swpL w h c p c).p.length ≤ 16777216 := chg_len fun C D hc hd h q hq => swpL_len (by omega)
theorem chan_len (w h c : Int) (p : List Int) (k : Int) : (chanX w h c p k).p.length ≤ 16777216 := by
  unfold chanX
  split
  rotate_left
  · show 0 ≤ _; omega
  rename_i hcd
  unfold chanC at hcd
  split at hcd
  · rename_i h1; exact absurd hcd h1
  rename_i h1
  have h1 := Classical.not_not.1 h1
  obtain ⟨C, Q, rfl, hQ, hpl, hC0, hQ1, hp16, hC, hQ4⟩ := image_num h1
  have eQ : (w * h).toNat = Q := by rw [hQ]; rfl
  show (flatK p C (chnL k 1) (w * h).toNat).length ≤ _
  rw [eQ, flatK_len (d := 1) (Q := Q) (fun k hk => rfl) Q (Nat.le_refl _)]
  omega
theorem walk_TintTells' (w h c : Int) (m p : List Int) (cc : Int) (hb : Bytes m) (hbp : Bytes p) (W : World) {cl : List Value} (hcl : CRel noN W NoO [imA w h c m, .int .i64 cc, .roi .u8 p] cl) :
    Calls Try.prog 4 cl.toArray W fun e W' => e = .returned (.bool true) ∧ Below W.heap.size W W' := by
  refine law_of (C := mkC 0 [(19, fewS), (20, toS), (21, toS), (22, invertS), (23, invertS), (24, swapS), (25, swapS), (26, channelS), (27, channelS), (28, sameS), (29, grayS), (30, rgrayS), (31, sN (.bool true))] noG)
    (mkC_ok (pok_cons few_s (pok_cons to_s (pok_cons rto_s (pok_cons invert_s (pok_cons rinvert_s (pok_cons swap_s (pok_cons rswap_s (pok_cons channel_s (pok_cons rchannel_s (pok_cons rsame_s (pok_cons gray_s (pok_cons rgray_s (pok_cons alive11_s pok_nil))))))))))))) noG_ok) rfl ⟨Try.func4, by kernel_rfl, by kernel_rfl, by kernel_rfl⟩ (by exact Nat.le_of_ble_eq_true rfl) ?_ hcl
  by_cases hl : (m.length : Int) ≤ 20000
  rotate_left
  · (repeat' (first | (refine And.intro (fun (hfk : _ = true) => ?_) (fun (hfk : _ = false) => ?_) <;> ((try (first | replace hfk := of_decide_eq_true hfk | replace hfk := of_decide_eq_false hfk | simp only [decide_eq_true_eq, decide_eq_false_iff_not, dh1, dh0, ne_eq, reduceCtorEq] at hfk)); (try (exfalso; first | omega | contradiction | exact Bool.noConfusion (Eq.trans (Eq.symm hfk) (by with_reducible assumption : _ = false)) | exact Bool.noConfusion (Eq.trans (Eq.symm hfk) (by with_reducible assumption : _ = true)))))) | (refine And.intro ?ob ?_; (case ob => (first | exact Chk.mk (by kernel_rfl) | exact True.intro | with_reducible assumption | exact rng64 (by omega) (by omega) | omega | (dsimp only; omega) | (show (_ : Nat) ≤ _; omega) | (simp only [ll1, ll2, ll0]; done) | (simp only [ll1, ll2, ll0]; omega) | (dsimp only; simp only [ll1, ll2, ll0]; omega)))) | exact True.intro | (show _ = _; first | with_reducible rfl | with_reducible assumption | omega | (simp only [ll1, ll2, ll0]; omega) | (skip; done) | exact rfl) | with_reducible assumption | (apply And.intro) | omega | (intro j hj; exact rfl) | fail))
  by_cases hl2 : p.length ≤ 100
  rotate_left
  · (repeat' (first | (refine And.intro (fun (hfk : _ = true) => ?_) (fun (hfk : _ = false) => ?_) <;> ((try (first | replace hfk := of_decide_eq_true hfk | replace hfk := of_decide_eq_false hfk | simp only [decide_eq_true_eq, decide_eq_false_iff_not, dh1, dh0, ne_eq, reduceCtorEq] at hfk)); (try (exfalso; first | omega | contradiction | exact Bool.noConfusion (Eq.trans (Eq.symm hfk) (by with_reducible assumption : _ = false)) | exact Bool.noConfusion (Eq.trans (Eq.symm hfk) (by with_reducible assumption : _ = true)))))) | (refine And.intro ?ob ?_; (case ob => (first | exact Chk.mk (by kernel_rfl) | exact True.intro | with_reducible assumption | exact rng64 (by omega) (by omega) | omega | (dsimp only; omega) | (show (_ : Nat) ≤ _; omega) | (simp only [ll1, ll2, ll0]; done) | (simp only [ll1, ll2, ll0]; omega) | (dsimp only; simp only [ll1, ll2, ll0]; omega)))) | exact True.intro | (show _ = _; first | with_reducible rfl | with_reducible assumption | omega | (simp only [ll1, ll2, ll0]; omega) | (skip; done) | exact rfl) | with_reducible assumption | (apply And.intro) | omega | (intro j hj; exact rfl) | fail))
  have l1 := to_len w h c m cc
  have l2 := inv_len w h c m
  have l3 := swp_len w h c m
  have l4 := chan_len w h c m cc
  have s1 := sameM_self (chgX (toFn c cc) w h c m cc).w (chgX (toFn c cc) w h c m cc).h (chgX (toFn c cc) w h c m cc).c (chgX (toFn c cc) w h c m cc).p
  have s2 := sameM_self (chgX invL' w h c m c).w (chgX invL' w h c m c).h (chgX invL' w h c m c).c (chgX invL' w h c m c).p
  have s3 := sameM_self (chgX swpL w h c m c).w (chgX swpL w h c m c).h (chgX swpL w h c m c).c (chgX swpL w h c m c).p
  have s4 := sameM_self (chanX w h c m cc).w (chanX w h c m cc).h (chanX w h c m cc).c (chanX w h c m cc).p
  (repeat' (first | (refine And.intro (fun (hfk : _ = true) => ?_) (fun (hfk : _ = false) => ?_) <;> ((try (first | replace hfk := of_decide_eq_true hfk | replace hfk := of_decide_eq_false hfk | simp only [decide_eq_true_eq, decide_eq_false_iff_not, dh1, dh0, ne_eq, reduceCtorEq] at hfk)); (try (exfalso; first | omega | contradiction | exact Bool.noConfusion (Eq.trans (Eq.symm hfk) (by with_reducible assumption : _ = false)) | exact Bool.noConfusion (Eq.trans (Eq.symm hfk) (by with_reducible assumption : _ = true)))))) | (refine And.intro ?ob ?_; (case ob => (first | exact Chk.mk (by kernel_rfl) | exact True.intro | with_reducible assumption | exact rng64 (by omega) (by omega) | omega | (dsimp only; omega) | (show (_ : Nat) ≤ _; omega) | (simp only [ll1, ll2, ll0]; done) | (simp only [ll1, ll2, ll0]; omega) | (dsimp only; simp only [ll1, ll2, ll0]; omega)))) | exact True.intro | (show _ = _; first | with_reducible rfl | with_reducible assumption | omega | (simp only [ll1, ll2, ll0]; omega) | (skip; done) | exact rfl) | with_reducible assumption | (apply And.intro) | omega | (intro j hj; exact rfl) | fail))
  all_goals first
    | exact hbp
    | exact absurd (And.intro rfl (And.intro rfl (And.intro rfl rfl))) (by assumption)
end Go.Proofs.Ytjnkjjojkfemoaa
