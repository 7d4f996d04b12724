
/- Stores of images: made, asked; which tile has a place. No condition. -/
import Derived.Test.YtchhikfiofeckaaI8b
import Derived.Test.YtchhikfiofeckaaFi
import Derived.Test.YtchhikfiofeckaaU
import Derived.Test.YtchhikfiofeckaaE19
import Derived.Test.YtchhikfiofeckaaG9d
import Derived.Test.YtchhikfiofeckaaG9b
import Derived.Test.YtchhikfiofeckaaG9t
import Derived.Test.YtchhikfiofeckaaE20
namespace Go.Proofs.Ytchhikfiofeckaa
open Go Go.RowKit
set_option linter.unusedVariables false
set_option linter.unusedSimpArgs false
set_option maxRecDepth 100000
set_option maxHeartbeats 4000000

abbrev Lm (L : List Im) (i : Nat) : Im := L.getD i Im.z
def imgC (L : List Im) (i : Nat) : Int := if imCheck (Lm L i).w (Lm L i).h (Lm L i).c (Lm L i).p.length ≠ 0 then imCheck (Lm L i).w (Lm L i).h (Lm L i).c (Lm L i).p.length else if (Lm L i).c ≠ (Lm L 0).c then 10 else 0
def imgsC (L : List Im) : Nat → Int
  | 0 => 0
  | i + 1 => if imgsC L i ≠ 0 then imgsC L i else imgC L i
theorem imgsC_keep {L : List Im} {i n : Nat} (h : imgsC L i ≠ 0) (hn : i ≤ n) : imgsC L n = imgsC L i := by
  induction n with
  | zero => obtain rfl : i = 0 := by omega
            rfl
  | succ n ih =>
    by_cases e : i = n + 1
    · rw [e]
    · have := ih (by omega)
      show (if imgsC L n ≠ 0 then imgsC L n else imgC L n) = imgsC L i
      rw [this, if_pos h]
theorem imgsC_all {L : List Im} : ∀ {n : Nat}, imgsC L n = 0 → ∀ j, j < n → imgC L j = 0
  | n + 1, h, j, hj => by
    have h0 : imgsC L n = 0 := Classical.byContradiction fun k => by
      have := imgsC_keep k (Nat.le_succ n)
      exact k (this ▸ h)
    by_cases e : j = n
    · subst e
      unfold imgsC at h
      rw [if_neg (fun k => k h0)] at h
      exact h
    · exact imgsC_all h0 j (by omega)
theorem imgsC_first {L : List Im} {i n : Nat} (h : imgsC L i = 0) (h1 : imgC L i ≠ 0) (hi : i < n) : imgsC L n = imgC L i := by
  have e : imgsC L (i + 1) = imgC L i := if_neg (fun k => k h)
  rw [← e]
  exact imgsC_keep (by rw [e]; exact h1) hi
theorem imgsC_next {L : List Im} {i : Nat} (h : imgsC L i = 0) (h1 : imgC L i = 0) : imgsC L (i + 1) = 0 := by
  unfold imgsC
  rw [if_neg (fun k => k h), h1]
theorem imgC_cases (L : List Im) (i : Nat) : (imgC L i = 0 ∧ imCheck (Lm L i).w (Lm L i).h (Lm L i).c (Lm L i).p.length = 0 ∧ (Lm L i).c = (Lm L 0).c) ∨
    (imCheck (Lm L i).w (Lm L i).h (Lm L i).c (Lm L i).p.length ≠ 0 ∧ imgC L i = imCheck (Lm L i).w (Lm L i).h (Lm L i).c (Lm L i).p.length) ∨
    (imCheck (Lm L i).w (Lm L i).h (Lm L i).c (Lm L i).p.length = 0 ∧ (Lm L i).c ≠ (Lm L 0).c ∧ imgC L i = 10) := by
  unfold imgC
  by_cases h : imCheck (Lm L i).w (Lm L i).h (Lm L i).c (Lm L i).p.length = 0
  · by_cases g : (Lm L i).c = (Lm L 0).c
    · exact .inl ⟨by rw [if_neg (fun k => k h), if_neg (fun k => k g)], h, g⟩
    · exact .inr (.inr ⟨h, g, by rw [if_neg (fun k => k h), if_pos g]⟩)
  · exact .inr (.inl ⟨h, if_pos h⟩)
def imagesC (L : List Im) : Int := if L.length = 0 then 60 else imgsC L L.length
theorem imagesC_ok {L : List Im} (h : imagesC L = 0) : 0 < L.length ∧ imgsC L L.length = 0 ∧ ∀ j, j < L.length → imCheck (Lm L j).w (Lm L j).h (Lm L j).c (Lm L j).p.length = 0 ∧ (Lm L j).c = (Lm L 0).c := by
  unfold imagesC at h
  split at h
  · omega
  · refine ⟨by omega, h, fun j hj => ?_⟩
    have := imgsC_all h j hj
    rcases imgC_cases L j with k | k | k
    · exact k.2
    · exact absurd (k.2 ▸ this) k.1
    · have := k.2.2; omega
/-- So many may be counted. -/
structure LenOK (n : Nat) : Prop where
  le : n ≤ 9223372036854775807
theorem LenOK.rng {n i : Nat} (h : LenOK n) (hi : i < n) : rngI .i64 ((i : Int) + 1) := by
  have := h.le
  exact rng64 (by omega) (by omega)
/-- A slice of images, whichever way it is read. -/
abbrev sIms (L : List Im) (ob : List Prop) (v : AV) : PSpec := fun l => match l with
  | [.ro 4 n get] => some ((n = L.length) :: (∀ j, j < n → get j = (Lm L j).av) :: ob, v) | _ => none
theorem sIms_inv {L : List Im} {ob : List Prop} {v : AV} {l : List AV} {obs : List Prop} {v' : AV} (h : sIms L ob v l = some (obs, v')) (ho : ∀ p ∈ obs, p) : ∃ get, l = [.ro 4 L.length get] ∧ (∀ j, j < L.length → get j = (Lm L j).av) ∧ v' = v ∧ ∀ p ∈ ob, p := by
  unfold sIms at h
  split at h
  · simp only [Option.some.injEq, Prod.mk.injEq] at h
    obtain ⟨rfl, rfl⟩ := h
    rename_i n get
    obtain rfl : n = L.length := ho (n = L.length) List.mem_cons_self
    exact ⟨_, rfl, ho (∀ j, j < L.length → get j = (Lm L j).av) (List.mem_cons_of_mem _ List.mem_cons_self), rfl, fun p hp => ho p (List.mem_cons_of_mem _ (List.mem_cons_of_mem _ hp))⟩
  · cases h
theorem rimages_s (L : List Im) : SOK Try.prog 112 (sIms L [LenOK L.length] (.int .i64 (imagesC L))) := by
  refine sok_of (C := mkK 0 [(22, checkS)] noG [0]) (mkK_ok (pok_cons rcheck7_s pok_nil) noG_ok) rfl mixed ⟨Try.func112, by kernel_rfl, by kernel_rfl, by kernel_rfl⟩ fun l obs v h ho => ?_
  obtain ⟨get, rfl, hg, rfl, hL⟩ := sIms_inv h ho
  have hL : LenOK L.length := hL _ List.mem_cons_self
  refine ⟨Nat.le_of_ble_eq_true rfl, ?_⟩
  refine ⟨[(0, imsA L), (2, .int .i64 0)], ⟨0, []⟩, [], ?_, ?_⟩
  · (repeat' (first | (refine And.intro ?_ ?_) | exact True.intro | (show _ = _; with_reducible rfl) | exact Chk.mk (by kernel_rfl)))
    exact hg
  by_cases h0 : L.length = 0
  · have e : imagesC L = 60 := if_pos h0
    (repeat' (first | (refine And.intro (fun (hfk : _ = true) => ?_) (fun (hfk : _ = false) => ?_) <;> ((try (first | replace hfk := of_decide_eq_true hfk | replace hfk := of_decide_eq_false hfk | simp only [decide_eq_true_eq, decide_eq_false_iff_not, dh1, dh0, ne_eq, reduceCtorEq] at hfk)); (try (exfalso; first | omega | contradiction | exact Bool.noConfusion (Eq.trans (Eq.symm hfk) (by with_reducible assumption : _ = false)) | exact Bool.noConfusion (Eq.trans (Eq.symm hfk) (by with_reducible assumption : _ = true)))))) | (refine And.intro ?ob ?_; (case ob => (first | exact Chk.mk (by kernel_rfl) | exact True.intro | with_reducible assumption | exact rng64 (by omega) (by omega) | omega | (dsimp only; omega) | (show (_ : Nat) ≤ _; omega) | (simp only [ll1, ll2, ll0]; done) | (simp only [ll1, ll2, ll0]; omega) | (dsimp only; simp only [ll1, ll2, ll0]; omega)))) | exact True.intro | (show _ = _; first | with_reducible rfl | with_reducible assumption | omega | (simp only [ll1, ll2, ll0]; omega) | (exact e.symm; done) | exact rfl) | with_reducible assumption | (apply And.intro) | omega | (intro j hj; exact rfl) | fail))
  have e : imagesC L = imgsC L L.length := if_neg h0
  (repeat' (first | (refine And.intro (fun (hfk : _ = true) => ?_) (fun (hfk : _ = false) => ?_) <;> ((try (first | replace hfk := of_decide_eq_true hfk | replace hfk := of_decide_eq_false hfk | simp only [decide_eq_true_eq, decide_eq_false_iff_not, dh1, dh0, ne_eq, reduceCtorEq] at hfk)); (try (exfalso; first | omega | contradiction | exact Bool.noConfusion (Eq.trans (Eq.symm hfk) (by with_reducible assumption : _ = false)) | exact Bool.noConfusion (Eq.trans (Eq.symm hfk) (by with_reducible assumption : _ = true)))))) | (refine And.intro ?ob ?_; (case ob => (first | exact Chk.mk (by kernel_rfl) | exact True.intro | with_reducible assumption | exact rng64 (by omega) (by omega) | omega | (dsimp only; omega) | (show (_ : Nat) ≤ _; omega) | (simp only [ll1, ll2, ll0]; done) | (simp only [ll1, ll2, ll0]; omega) | (dsimp only; simp only [ll1, ll2, ll0]; omega)))) | exact True.intro | (show _ = _; first | with_reducible rfl | with_reducible assumption | omega | (simp only [ll1, ll2, ll0]; omega) | (skip; done) | exact rfl) | with_reducible assumption | (apply And.intro) | omega | (intro j hj; exact rfl) | fail))
  refine ⟨Nat, fun i => [(0, imsA L), (2, .int .i64 0), (3, .int .i64 (i : Int))], fun i => ⟨0, []⟩, fun i => i ≤ L.length ∧ imgsC L i = 0, fun i => L.length - i, ⟨0, [], ⟨Nat.zero_le _, rfl⟩, ?_⟩, fun i hi => ?_⟩
  · (repeat' (first | (refine And.intro ?_ ?_) | exact True.intro | (show _ = _; with_reducible rfl) | exact Chk.mk (by kernel_rfl)))
    all_goals first | (intro j hj; rfl) | rfl
  obtain ⟨hi, hz⟩ := hi
  by_cases hlt : i < L.length
  · have hrr := hL.rng hlt
    have g1 : L.getD (i : Int).toNat Im.z = Lm L i := rfl
    rcases imgC_cases L i with ⟨k0, k1, k2⟩ | ⟨k1, k2⟩ | ⟨k1, k2, k3⟩
    · have k1' : imCheck (L.getD (i : Int).toNat Im.z).w (L.getD (i : Int).toNat Im.z).h (L.getD (i : Int).toNat Im.z).c (L.getD (i : Int).toNat Im.z).p.length = 0 := k1
      have k2' : (L.getD (i : Int).toNat Im.z).c = (L.getD (Int.toNat 0) Im.z).c := k2
      (repeat' (first | (refine And.intro (fun (hfk : _ = true) => ?_) (fun (hfk : _ = false) => ?_) <;> ((try (first | replace hfk := of_decide_eq_true hfk | replace hfk := of_decide_eq_false hfk | simp only [decide_eq_true_eq, decide_eq_false_iff_not, dh1, dh0, ne_eq, reduceCtorEq] at hfk)); (try (exfalso; first | omega | contradiction | exact Bool.noConfusion (Eq.trans (Eq.symm hfk) (by with_reducible assumption : _ = false)) | exact Bool.noConfusion (Eq.trans (Eq.symm hfk) (by with_reducible assumption : _ = true)))))) | (refine And.intro ?ob ?_; (case ob => (first | exact Chk.mk (by kernel_rfl) | exact True.intro | with_reducible assumption | exact rng64 (by omega) (by omega) | omega | (dsimp only; omega) | (show (_ : Nat) ≤ _; omega) | (simp only [ll1, ll2, ll0]; done) | (simp only [ll1, ll2, ll0]; omega) | (dsimp only; simp only [ll1, ll2, ll0]; omega)))) | exact True.intro | (show _ = _; first | with_reducible rfl | with_reducible assumption | omega | (simp only [ll1, ll2, ll0]; omega) | (skip; done) | exact rfl) | with_reducible assumption | (apply And.intro) | omega | (intro j hj; exact rfl) | fail))
      (refine ⟨i + 1, [], ?_, ?mu, ?_⟩; (case mu => ((try dsimp only); omega)))
      · exact ⟨hlt, imgsC_next hz k0⟩
      (repeat' (first | (refine And.intro ?_ ?_) | exact True.intro | (show _ = _; with_reducible rfl) | exact Chk.mk (by kernel_rfl)))
      all_goals first | (intro j hj; rfl) | (show (_ : Int) = _; omega) | rfl
    · have k1' : imCheck (L.getD (i : Int).toNat Im.z).w (L.getD (i : Int).toNat Im.z).h (L.getD (i : Int).toNat Im.z).c (L.getD (i : Int).toNat Im.z).p.length ≠ 0 := k1
      have e2 : imCheck (L.getD (i : Int).toNat Im.z).w (L.getD (i : Int).toNat Im.z).h (L.getD (i : Int).toNat Im.z).c (L.getD (i : Int).toNat Im.z).p.length = imagesC L := by
        rw [e, imgsC_first hz (by rw [k2]; exact k1) hlt, k2]; rfl
      (repeat' (first | (refine And.intro (fun (hfk : _ = true) => ?_) (fun (hfk : _ = false) => ?_) <;> ((try (first | replace hfk := of_decide_eq_true hfk | replace hfk := of_decide_eq_false hfk | simp only [decide_eq_true_eq, decide_eq_false_iff_not, dh1, dh0, ne_eq, reduceCtorEq] at hfk)); (try (exfalso; first | omega | contradiction | exact Bool.noConfusion (Eq.trans (Eq.symm hfk) (by with_reducible assumption : _ = false)) | exact Bool.noConfusion (Eq.trans (Eq.symm hfk) (by with_reducible assumption : _ = true)))))) | (refine And.intro ?ob ?_; (case ob => (first | exact Chk.mk (by kernel_rfl) | exact True.intro | with_reducible assumption | exact rng64 (by omega) (by omega) | omega | (dsimp only; omega) | (show (_ : Nat) ≤ _; omega) | (simp only [ll1, ll2, ll0]; done) | (simp only [ll1, ll2, ll0]; omega) | (dsimp only; simp only [ll1, ll2, ll0]; omega)))) | exact True.intro | (show _ = _; first | with_reducible rfl | with_reducible assumption | omega | (simp only [ll1, ll2, ll0]; omega) | (exact e2; done) | exact rfl) | with_reducible assumption | (apply And.intro) | omega | (intro j hj; exact rfl) | fail))
    · have k1' : imCheck (L.getD (i : Int).toNat Im.z).w (L.getD (i : Int).toNat Im.z).h (L.getD (i : Int).toNat Im.z).c (L.getD (i : Int).toNat Im.z).p.length = 0 := k1
      have k2' : ¬ (L.getD (i : Int).toNat Im.z).c = (L.getD (Int.toNat 0) Im.z).c := k2
      have e2 : (10 : Int) = imagesC L := by
        rw [e, imgsC_first hz (by rw [k3]; decide) hlt, k3]
      (repeat' (first | (refine And.intro (fun (hfk : _ = true) => ?_) (fun (hfk : _ = false) => ?_) <;> ((try (first | replace hfk := of_decide_eq_true hfk | replace hfk := of_decide_eq_false hfk | simp only [decide_eq_true_eq, decide_eq_false_iff_not, dh1, dh0, ne_eq, reduceCtorEq] at hfk)); (try (exfalso; first | omega | contradiction | exact Bool.noConfusion (Eq.trans (Eq.symm hfk) (by with_reducible assumption : _ = false)) | exact Bool.noConfusion (Eq.trans (Eq.symm hfk) (by with_reducible assumption : _ = true)))))) | (refine And.intro ?ob ?_; (case ob => (first | exact Chk.mk (by kernel_rfl) | exact True.intro | with_reducible assumption | exact rng64 (by omega) (by omega) | omega | (dsimp only; omega) | (show (_ : Nat) ≤ _; omega) | (simp only [ll1, ll2, ll0]; done) | (simp only [ll1, ll2, ll0]; omega) | (dsimp only; simp only [ll1, ll2, ll0]; omega)))) | exact True.intro | (show _ = _; first | with_reducible rfl | with_reducible assumption | omega | (simp only [ll1, ll2, ll0]; omega) | (exact e2; done) | exact rfl) | with_reducible assumption | (apply And.intro) | omega | (intro j hj; exact rfl) | fail))
  · have e2 : (0 : Int) = imagesC L := by
      have : i = L.length := by omega
      rw [e, ← this, hz]
    (repeat' (first | (refine And.intro (fun (hfk : _ = true) => ?_) (fun (hfk : _ = false) => ?_) <;> ((try (first | replace hfk := of_decide_eq_true hfk | replace hfk := of_decide_eq_false hfk | simp only [decide_eq_true_eq, decide_eq_false_iff_not, dh1, dh0, ne_eq, reduceCtorEq] at hfk)); (try (exfalso; first | omega | contradiction | exact Bool.noConfusion (Eq.trans (Eq.symm hfk) (by with_reducible assumption : _ = false)) | exact Bool.noConfusion (Eq.trans (Eq.symm hfk) (by with_reducible assumption : _ = true)))))) | (refine And.intro ?ob ?_; (case ob => (first | exact Chk.mk (by kernel_rfl) | exact True.intro | with_reducible assumption | exact rng64 (by omega) (by omega) | omega | (dsimp only; omega) | (show (_ : Nat) ≤ _; omega) | (simp only [ll1, ll2, ll0]; done) | (simp only [ll1, ll2, ll0]; omega) | (dsimp only; simp only [ll1, ll2, ll0]; omega)))) | exact True.intro | (show _ = _; first | with_reducible rfl | with_reducible assumption | omega | (simp only [ll1, ll2, ll0]; omega) | (exact e2; done) | exact rfl) | with_reducible assumption | (apply And.intro) | omega | (intro j hj; exact rfl) | fail))
def fewL (L : List Im) : Bool := decide (∀ j, j < L.length → (Lm L j).p.length ≤ 2000) && decide (L.length ≤ 6)
theorem few41_s (L : List Im) : SOK Try.prog 47 (sIms L [LenOK L.length] (.bool (fewL L))) := by
  refine sok_of (C := mkK 0 [(30, fewS)] noG [0]) (mkK_ok (pok_cons few_s pok_nil) noG_ok) rfl mixed ⟨Try.func47, by kernel_rfl, by kernel_rfl, by kernel_rfl⟩ fun l obs v h ho => ?_
  obtain ⟨get, rfl, hg, rfl, hL⟩ := sIms_inv h ho
  have hL : LenOK L.length := hL _ List.mem_cons_self
  refine ⟨Nat.le_of_ble_eq_true rfl, ?_⟩
  refine ⟨[(0, imsA L), (2, .fls)], ⟨0, []⟩, [], ?_, ?_⟩
  · (repeat' (first | (refine And.intro ?_ ?_) | exact True.intro | (show _ = _; with_reducible rfl) | exact Chk.mk (by kernel_rfl)))
    exact hg
  (repeat' (first | (refine And.intro (fun (hfk : _ = true) => ?_) (fun (hfk : _ = false) => ?_) <;> ((try (first | replace hfk := of_decide_eq_true hfk | replace hfk := of_decide_eq_false hfk | simp only [decide_eq_true_eq, decide_eq_false_iff_not, dh1, dh0, ne_eq, reduceCtorEq] at hfk)); (try (exfalso; first | omega | contradiction | exact Bool.noConfusion (Eq.trans (Eq.symm hfk) (by with_reducible assumption : _ = false)) | exact Bool.noConfusion (Eq.trans (Eq.symm hfk) (by with_reducible assumption : _ = true)))))) | (refine And.intro ?ob ?_; (case ob => (first | exact Chk.mk (by kernel_rfl) | exact True.intro | with_reducible assumption | exact rng64 (by omega) (by omega) | omega | (dsimp only; omega) | (show (_ : Nat) ≤ _; omega) | (simp only [ll1, ll2, ll0]; done) | (simp only [ll1, ll2, ll0]; omega) | (dsimp only; simp only [ll1, ll2, ll0]; omega)))) | exact True.intro | (show _ = _; first | with_reducible rfl | with_reducible assumption | omega | (simp only [ll1, ll2, ll0]; omega) | (skip; done) | exact rfl) | with_reducible assumption | (apply And.intro) | omega | (intro j hj; exact rfl) | fail))
  refine ⟨Nat, fun i => [(0, imsA L), (2, .fls), (5, imsA L), (6, .int .i64 (L.length : Int)), (7, .int .i64 (i : Int))], fun i => ⟨0, []⟩, fun i => i ≤ L.length ∧ ∀ j, j < i → (Lm L j).p.length ≤ 2000, fun i => L.length - i, ⟨0, [], ⟨Nat.zero_le _, fun j hj => by omega⟩, ?_⟩, fun i hi => ?_⟩
  · (repeat' (first | (refine And.intro ?_ ?_) | exact True.intro | (show _ = _; with_reducible rfl) | exact Chk.mk (by kernel_rfl)))
    all_goals first | (intro j hj; rfl) | rfl
  obtain ⟨hi, hz⟩ := hi
  by_cases hlt : i < L.length
  · have hrr := hL.rng hlt
    by_cases hs : (Lm L i).p.length ≤ 2000
    · have hs' : ((L.getD (i : Int).toNat Im.z).p.length : Int) ≤ 2000 := by have : (L.getD (i : Int).toNat Im.z).p.length ≤ 2000 := hs; omega
      (repeat' (first | (refine And.intro (fun (hfk : _ = true) => ?_) (fun (hfk : _ = false) => ?_) <;> ((try (first | replace hfk := of_decide_eq_true hfk | replace hfk := of_decide_eq_false hfk | simp only [decide_eq_true_eq, decide_eq_false_iff_not, dh1, dh0, ne_eq, reduceCtorEq] at hfk)); (try (exfalso; first | omega | contradiction | exact Bool.noConfusion (Eq.trans (Eq.symm hfk) (by with_reducible assumption : _ = false)) | exact Bool.noConfusion (Eq.trans (Eq.symm hfk) (by with_reducible assumption : _ = true)))))) | (refine And.intro ?ob ?_; (case ob => (first | exact Chk.mk (by kernel_rfl) | exact True.intro | with_reducible assumption | exact rng64 (by omega) (by omega) | omega | (dsimp only; omega) | (show (_ : Nat) ≤ _; omega) | (simp only [ll1, ll2, ll0]; done) | (simp only [ll1, ll2, ll0]; omega) | (dsimp only; simp only [ll1, ll2, ll0]; omega)))) | exact True.intro | (show _ = _; first | with_reducible rfl | with_reducible assumption | omega | (simp only [ll1, ll2, ll0]; omega) | (skip; done) | exact rfl) | with_reducible assumption | (apply And.intro) | omega | (intro j hj; exact rfl) | fail))
      (refine ⟨i + 1, [], ?_, ?mu, ?_⟩; (case mu => ((try dsimp only); omega)))
      · refine ⟨hlt, fun j hj => ?_⟩
        by_cases e : j = i
        · rw [e]; exact hs
        · exact hz j (by omega)
      (repeat' (first | (refine And.intro ?_ ?_) | exact True.intro | (show _ = _; with_reducible rfl) | exact Chk.mk (by kernel_rfl)))
      all_goals first | (intro j hj; rfl) | (show (_ : Int) = _; omega) | rfl
    · have hs' : ¬ ((L.getD (i : Int).toNat Im.z).p.length : Int) ≤ 2000 := by have : ¬ (L.getD (i : Int).toNat Im.z).p.length ≤ 2000 := hs; omega
      have e : fewL L = false := by
        unfold fewL
        rw [decide_eq_false (fun k => hs (k i hlt))]; rfl
      (repeat' (first | (refine And.intro (fun (hfk : _ = true) => ?_) (fun (hfk : _ = false) => ?_) <;> ((try (first | replace hfk := of_decide_eq_true hfk | replace hfk := of_decide_eq_false hfk | simp only [decide_eq_true_eq, decide_eq_false_iff_not, dh1, dh0, ne_eq, reduceCtorEq] at hfk)); (try (exfalso; first | omega | contradiction | exact Bool.noConfusion (Eq.trans (Eq.symm hfk) (by with_reducible assumption : _ = false)) | exact Bool.noConfusion (Eq.trans (Eq.symm hfk) (by with_reducible assumption : _ = true)))))) | (refine And.intro ?ob ?_; (case ob => (first | exact Chk.mk (by kernel_rfl) | exact True.intro | with_reducible assumption | exact rng64 (by omega) (by omega) | omega | (dsimp only; omega) | (show (_ : Nat) ≤ _; omega) | (simp only [ll1, ll2, ll0]; done) | (simp only [ll1, ll2, ll0]; omega) | (dsimp only; simp only [ll1, ll2, ll0]; omega)))) | exact True.intro | (show _ = _; first | with_reducible rfl | with_reducible assumption | omega | (simp only [ll1, ll2, ll0]; omega) | (exact e.symm; done) | exact rfl) | with_reducible assumption | (apply And.intro) | omega | (intro j hj; exact rfl) | fail))
  · have e : decide ((L.length : Int) ≤ 6) = fewL L := by
      unfold fewL
      rw [decide_eq_true (fun j hj => hz j (by omega)), Bool.true_and]
      exact decide_eq_decide.2 (by omega)
    (repeat' (first | (refine And.intro (fun (hfk : _ = true) => ?_) (fun (hfk : _ = false) => ?_) <;> ((try (first | replace hfk := of_decide_eq_true hfk | replace hfk := of_decide_eq_false hfk | simp only [decide_eq_true_eq, decide_eq_false_iff_not, dh1, dh0, ne_eq, reduceCtorEq] at hfk)); (try (exfalso; first | omega | contradiction | exact Bool.noConfusion (Eq.trans (Eq.symm hfk) (by with_reducible assumption : _ = false)) | exact Bool.noConfusion (Eq.trans (Eq.symm hfk) (by with_reducible assumption : _ = true)))))) | (refine And.intro ?ob ?_; (case ob => (first | exact Chk.mk (by kernel_rfl) | exact True.intro | with_reducible assumption | exact rng64 (by omega) (by omega) | omega | (dsimp only; omega) | (show (_ : Nat) ≤ _; omega) | (simp only [ll1, ll2, ll0]; done) | (simp only [ll1, ll2, ll0]; omega) | (dsimp only; simp only [ll1, ll2, ll0]; omega)))) | exact True.intro | (show _ = _; first | with_reducible rfl | with_reducible assumption | omega | (simp only [ll1, ll2, ll0]; omega) | (exact e; done) | exact rfl) | with_reducible assumption | (apply And.intro) | omega | (intro j hj; exact rfl) | fail))
def storeC (L : List Im) (tw th : Int) : Int := if imagesC L ≠ 0 then imagesC L else if tw < 1 ∨ 4096 < tw ∨ th < 1 ∨ 4096 < th then 10 else 0
abbrev sIms2 (L : List Im) (ob : Int → Int → List Prop) (f : Int → Int → AV) : PSpec := fun l => match l with
  | [.ro 4 n get, .int .i64 tw, .int .i64 th] => some ((n = L.length) :: (∀ j, j < n → get j = (Lm L j).av) :: ob tw th, f tw th) | _ => none
theorem sIms2_inv {L : List Im} {ob : Int → Int → List Prop} {f : Int → Int → AV} {l : List AV} {obs : List Prop} {v' : AV} (h : sIms2 L ob f l = some (obs, v')) (ho : ∀ p ∈ obs, p) : ∃ get tw th, l = [.ro 4 L.length get, .int .i64 tw, .int .i64 th] ∧ (∀ j, j < L.length → get j = (Lm L j).av) ∧ v' = f tw th ∧ ∀ p ∈ ob tw th, p := by
  unfold sIms2 at h
  split at h
  · simp only [Option.some.injEq, Prod.mk.injEq] at h
    obtain ⟨rfl, rfl⟩ := h
    rename_i n get tw th
    obtain rfl : n = L.length := ho (n = L.length) List.mem_cons_self
    exact ⟨_, _, _, rfl, ho (∀ j, j < L.length → get j = (Lm L j).av) (List.mem_cons_of_mem _ List.mem_cons_self), rfl, fun p hp => ho p (List.mem_cons_of_mem _ (List.mem_cons_of_mem _ hp))⟩
  · cases h
theorem rcheck41_s (L : List Im) : SOK Try.prog 50 (sIms2 L (fun _ _ => [LenOK L.length]) fun tw th => .int .i64 (storeC L tw th)) := by
  refine sok_of (C := mkK 0 [(112, sIms L [LenOK L.length] (.int .i64 (imagesC L)))] noG [0]) (mkK_ok (pok_cons (rimages_s L) pok_nil) noG_ok) rfl mixed ⟨Try.func50, by kernel_rfl, by kernel_rfl, by kernel_rfl⟩ fun l obs v h ho => ?_
  obtain ⟨get, tw, th, rfl, hg, rfl, hL⟩ := sIms2_inv h ho
  have hL : LenOK L.length := hL _ List.mem_cons_self
  refine ⟨Nat.le_of_ble_eq_true rfl, ?_⟩
  refine ⟨[(0, imsA L), (1, .int .i64 tw), (2, .int .i64 th), (6, .int .i64 0)], ⟨0, []⟩, [], ?_, ?_⟩
  · (repeat' (first | (refine And.intro ?_ ?_) | exact True.intro | (show _ = _; with_reducible rfl) | exact Chk.mk (by kernel_rfl)))
    exact hg
  by_cases hk : imagesC L = 0
  · by_cases ht : tw < 1 ∨ 4096 < tw ∨ th < 1 ∨ 4096 < th
    · have e : storeC L tw th = 10 := by unfold storeC; rw [if_neg (fun k => k hk), if_pos ht]
      (repeat' (first | (refine And.intro (fun (hfk : _ = true) => ?_) (fun (hfk : _ = false) => ?_) <;> ((try (first | replace hfk := of_decide_eq_true hfk | replace hfk := of_decide_eq_false hfk | simp only [decide_eq_true_eq, decide_eq_false_iff_not, dh1, dh0, ne_eq, reduceCtorEq] at hfk)); (try (exfalso; first | omega | contradiction | exact Bool.noConfusion (Eq.trans (Eq.symm hfk) (by with_reducible assumption : _ = false)) | exact Bool.noConfusion (Eq.trans (Eq.symm hfk) (by with_reducible assumption : _ = true)))))) | (refine And.intro ?ob ?_; (case ob => (first | exact Chk.mk (by kernel_rfl) | exact True.intro | with_reducible assumption | exact rng64 (by omega) (by omega) | omega | (dsimp only; omega) | (show (_ : Nat) ≤ _; omega) | (simp only [ll1, ll2, ll0]; done) | (simp only [ll1, ll2, ll0]; omega) | (dsimp only; simp only [ll1, ll2, ll0]; omega)))) | exact True.intro | (show _ = _; first | with_reducible rfl | with_reducible assumption | omega | (simp only [ll1, ll2, ll0]; omega) | (exact e.symm; done) | exact rfl) | with_reducible assumption | (apply And.intro) | omega | (intro j hj; exact rfl) | fail))
    · have e : storeC L tw th = 0 := by unfold storeC; rw [if_neg (fun k => k hk), if_neg ht]
      (repeat' (first | (refine And.intro (fun (hfk : _ = true) => ?_) (fun (hfk : _ = false) => ?_) <;> ((try (first | replace hfk := of_decide_eq_true hfk | replace hfk := of_decide_eq_false hfk | simp only [decide_eq_true_eq, decide_eq_false_iff_not, dh1, dh0, ne_eq, reduceCtorEq] at hfk)); (try (exfalso; first | omega | contradiction | exact Bool.noConfusion (Eq.trans (Eq.symm hfk) (by with_reducible assumption : _ = false)) | exact Bool.noConfusion (Eq.trans (Eq.symm hfk) (by with_reducible assumption : _ = true)))))) | (refine And.intro ?ob ?_; (case ob => (first | exact Chk.mk (by kernel_rfl) | exact True.intro | with_reducible assumption | exact rng64 (by omega) (by omega) | omega | (dsimp only; omega) | (show (_ : Nat) ≤ _; omega) | (simp only [ll1, ll2, ll0]; done) | (simp only [ll1, ll2, ll0]; omega) | (dsimp only; simp only [ll1, ll2, ll0]; omega)))) | exact True.intro | (show _ = _; first | with_reducible rfl | with_reducible assumption | omega | (simp only [ll1, ll2, ll0]; omega) | (exact e.symm; done) | exact rfl) | with_reducible assumption | (apply And.intro) | omega | (intro j hj; exact rfl) | fail))
  · have e : storeC L tw th = imagesC L := if_pos hk
    (repeat' (first | (refine And.intro (fun (hfk : _ = true) => ?_) (fun (hfk : _ = false) => ?_) <;> ((try (first | replace hfk := of_decide_eq_true hfk | replace hfk := of_decide_eq_false hfk | simp only [decide_eq_true_eq, decide_eq_false_iff_not, dh1, dh0, ne_eq, reduceCtorEq] at hfk)); (try (exfalso; first | omega | contradiction | exact Bool.noConfusion (Eq.trans (Eq.symm hfk) (by with_reducible assumption : _ = false)) | exact Bool.noConfusion (Eq.trans (Eq.symm hfk) (by with_reducible assumption : _ = true)))))) | (refine And.intro ?ob ?_; (case ob => (first | exact Chk.mk (by kernel_rfl) | exact True.intro | with_reducible assumption | exact rng64 (by omega) (by omega) | omega | (dsimp only; omega) | (show (_ : Nat) ≤ _; omega) | (simp only [ll1, ll2, ll0]; done) | (simp only [ll1, ll2, ll0]; omega) | (dsimp only; simp only [ll1, ll2, ll0]; omega)))) | exact True.intro | (show _ = _; first | with_reducible rfl | with_reducible assumption | omega | (simp only [ll1, ll2, ll0]; omega) | (exact e.symm; done) | exact rfl) | with_reducible assumption | (apply And.intro) | omega | (intro j hj; exact rfl) | fail))


theorem gap_row (L : List Im) (i : Nat) (f : Nat → AV) (h : f 0 = (Lm L i).av) : ∀ j, j < i + 1 → (if j < i then (Lm L j).av else f (j - i)) = (Lm L j).av := fun j hj => by
  by_cases e : j < i
  · rw [if_pos e]
  · obtain rfl : j = i := by omega
    rw [if_neg e, Nat.sub_self, h]
theorem sampleOf_s (L : List Im) : SOK Try.prog 109 (sIms L [L.length ≤ 6] (.tup [.any, .int .i64 (imagesC L)])) := by
  refine sok_of (C := mkK 0 [(91, checkS), (77, cloneS)] noG [0, 6]) (mkK_ok (pok_cons check_s (pok_cons clone_s pok_nil)) noG_ok) rfl mixed ⟨Try.func109, by kernel_rfl, by kernel_rfl, by kernel_rfl⟩ fun l obs v h ho => ?_
  obtain ⟨get, rfl, hg, rfl, hL⟩ := sIms_inv h ho
  have hL : L.length ≤ 6 := hL _ List.mem_cons_self
  refine ⟨Nat.le_of_ble_eq_true rfl, ?_⟩
  refine ⟨[(0, imsA L)], ⟨0, []⟩, [], ?_, ?_⟩
  · (repeat' (first | (refine And.intro ?_ ?_) | exact True.intro | (show _ = _; with_reducible rfl) | exact Chk.mk (by kernel_rfl)))
    exact hg
  by_cases h0 : L.length = 0
  · have e : imagesC L = 60 := if_pos h0
    (repeat' (first | (refine And.intro (fun (hfk : _ = true) => ?_) (fun (hfk : _ = false) => ?_) <;> ((try (first | replace hfk := of_decide_eq_true hfk | replace hfk := of_decide_eq_false hfk | simp only [decide_eq_true_eq, decide_eq_false_iff_not, dh1, dh0, ne_eq, reduceCtorEq] at hfk)); (try (exfalso; first | omega | contradiction | exact Bool.noConfusion (Eq.trans (Eq.symm hfk) (by with_reducible assumption : _ = false)) | exact Bool.noConfusion (Eq.trans (Eq.symm hfk) (by with_reducible assumption : _ = true)))))) | (refine And.intro ?ob ?_; (case ob => (first | exact Chk.mk (by kernel_rfl) | exact True.intro | with_reducible assumption | exact rng64 (by omega) (by omega) | omega | (dsimp only; omega) | (show (_ : Nat) ≤ _; omega) | (simp only [ll1, ll2, ll0]; done) | (simp only [ll1, ll2, ll0]; omega) | (dsimp only; simp only [ll1, ll2, ll0]; omega)))) | exact True.intro | (show _ = _; first | with_reducible rfl | with_reducible assumption | omega | (simp only [ll1, ll2, ll0]; omega) | (exact e.symm; done) | exact rfl) | with_reducible assumption | (apply And.intro) | omega | (intro j hj; exact rfl) | fail))
  have e : imagesC L = imgsC L L.length := if_neg h0
  (repeat' (first | (refine And.intro (fun (hfk : _ = true) => ?_) (fun (hfk : _ = false) => ?_) <;> ((try (first | replace hfk := of_decide_eq_true hfk | replace hfk := of_decide_eq_false hfk | simp only [decide_eq_true_eq, decide_eq_false_iff_not, dh1, dh0, ne_eq, reduceCtorEq] at hfk)); (try (exfalso; first | omega | contradiction | exact Bool.noConfusion (Eq.trans (Eq.symm hfk) (by with_reducible assumption : _ = false)) | exact Bool.noConfusion (Eq.trans (Eq.symm hfk) (by with_reducible assumption : _ = true)))))) | (refine And.intro ?ob ?_; (case ob => (first | exact Chk.mk (by kernel_rfl) | exact True.intro | with_reducible assumption | exact rng64 (by omega) (by omega) | omega | (dsimp only; omega) | (show (_ : Nat) ≤ _; omega) | (simp only [ll1, ll2, ll0]; done) | (simp only [ll1, ll2, ll0]; omega) | (dsimp only; simp only [ll1, ll2, ll0]; omega)))) | exact True.intro | (show _ = _; first | with_reducible rfl | with_reducible assumption | omega | (simp only [ll1, ll2, ll0]; omega) | (skip; done) | exact rfl) | with_reducible assumption | (apply And.intro) | omega | (intro j hj; exact rfl) | fail))
  refine ⟨Nat, fun i => [(0, imsA L), (4, .sl 0 4 0 i), (11, imsA L), (12, .int .i64 (L.length : Int)), (13, .int .i64 (i : Int))], fun i => ⟨1, [(0, some (.recs 26 4 i (fun j => (Lm L j).av)))]⟩, fun i => i ≤ L.length ∧ imgsC L i = 0, fun i => L.length - i, ⟨0, [none], ⟨Nat.zero_le _, rfl⟩, ?_⟩, fun i hi => ?_⟩
  · (repeat' (first | (refine And.intro ?_ ?_) | exact True.intro | (show _ = _; with_reducible rfl) | exact Chk.mk (by kernel_rfl)))
    all_goals first | (intro j hj; rfl) | rfl
  obtain ⟨hi, hz⟩ := hi
  by_cases hlt : i < L.length
  · obtain ⟨x, hx⟩ : ∃ x, L.getD (i : Int).toNat Im.z = x := ⟨_, rfl⟩
    have hx' : Lm L i = x := hx
    have hcs := imgC_cases L i
    rw [hx'] at hcs
    (repeat' (first | (refine And.intro (fun (hfk : _ = true) => ?_) (fun (hfk : _ = false) => ?_) <;> ((try (first | replace hfk := of_decide_eq_true hfk | replace hfk := of_decide_eq_false hfk | simp only [decide_eq_true_eq, decide_eq_false_iff_not, dh1, dh0, ne_eq, reduceCtorEq] at hfk)); (try (exfalso; first | omega | contradiction | exact Bool.noConfusion (Eq.trans (Eq.symm hfk) (by with_reducible assumption : _ = false)) | exact Bool.noConfusion (Eq.trans (Eq.symm hfk) (by with_reducible assumption : _ = true)))))) | (refine And.intro ?ob ?_; (case ob => (first | exact Chk.mk (by kernel_rfl) | exact True.intro | with_reducible assumption | exact rng64 (by omega) (by omega) | omega | (dsimp only; omega) | (show (_ : Nat) ≤ _; omega) | (simp only [ll1, ll2, ll0]; done) | (simp only [ll1, ll2, ll0]; omega) | (dsimp only; simp only [ll1, ll2, ll0]; omega)))) | exact True.intro | (show _ = _; first | with_reducible rfl | with_reducible assumption | omega | (simp only [ll1, ll2, ll0]; omega) | (skip; done) | exact rfl) | with_reducible assumption | (apply And.intro) | omega | (intro j hj; exact rfl) | fail))
    refine ⟨[(0, imsA L), (4, .sl 0 4 0 i), (6, .ptr 1 0), (11, imsA L), (12, .int .i64 (L.length : Int)), (13, .int .i64 (i : Int))],
      ⟨2, [(0, some (.recs 26 4 i (fun j => (Lm L j).av))), (1, some (.cells 26 [.int .i64 x.w, .int .i64 x.h, .int .i64 x.c, .roi .u8 x.p]))]⟩, [some 0, some 1], ?_, ?_⟩
    · (repeat' (first | (refine And.intro ?_ ?_) | exact True.intro | (show _ = _; with_reducible rfl) | exact Chk.mk (by kernel_rfl)))
      all_goals first
        | exact congrArg Im.w hx
        | exact congrArg Im.h hx
        | exact congrArg Im.c hx
        | exact congrArg Im.p hx
        | (intro j hj; rfl)
    rcases hcs with ⟨k0, k1, k2⟩ | ⟨k1, k2⟩ | ⟨k1, k2, k3⟩
    · have k2' : x.c = (L.getD (Int.toNat 0) Im.z).c := k2
      obtain ⟨hf, hl⟩ := check_inv k1
      have hb := fits_inv hf
      (repeat' (first | (refine And.intro (fun (hfk : _ = true) => ?_) (fun (hfk : _ = false) => ?_) <;> ((try (first | replace hfk := of_decide_eq_true hfk | replace hfk := of_decide_eq_false hfk | simp only [decide_eq_true_eq, decide_eq_false_iff_not, dh1, dh0, ne_eq, reduceCtorEq] at hfk)); (try (exfalso; first | omega | contradiction | exact Bool.noConfusion (Eq.trans (Eq.symm hfk) (by with_reducible assumption : _ = false)) | exact Bool.noConfusion (Eq.trans (Eq.symm hfk) (by with_reducible assumption : _ = true)))))) | (refine And.intro ?ob ?_; (case ob => (first | exact Chk.mk (by kernel_rfl) | exact True.intro | with_reducible assumption | exact rng64 (by omega) (by omega) | omega | (dsimp only; omega) | (show (_ : Nat) ≤ _; omega) | (simp only [ll1, ll2, ll0]; done) | (simp only [ll1, ll2, ll0]; omega) | (dsimp only; simp only [ll1, ll2, ll0]; omega)))) | exact True.intro | (show _ = _; first | with_reducible rfl | with_reducible assumption | omega | (simp only [ll1, ll2, ll0]; omega) | (skip; done) | exact rfl) | with_reducible assumption | (apply And.intro) | omega | (intro j hj; exact rfl) | fail))
      (refine ⟨i + 1, [some 3], ?_, ?mu, ?_⟩; (case mu => ((try dsimp only); omega)))
      · exact ⟨hlt, imgsC_next hz k0⟩
      (repeat' (first | (refine And.intro (fun (hfk : _ = true) => ?_) (fun (hfk : _ = false) => ?_) <;> ((try (first | replace hfk := of_decide_eq_true hfk | replace hfk := of_decide_eq_false hfk | simp only [decide_eq_true_eq, decide_eq_false_iff_not, dh1, dh0, ne_eq, reduceCtorEq] at hfk)); (try (exfalso; first | omega | contradiction | exact Bool.noConfusion (Eq.trans (Eq.symm hfk) (by with_reducible assumption : _ = false)) | exact Bool.noConfusion (Eq.trans (Eq.symm hfk) (by with_reducible assumption : _ = true)))))) | (refine And.intro ?ob ?_; (case ob => (first | exact Chk.mk (by kernel_rfl) | exact True.intro | with_reducible assumption | exact rng64 (by omega) (by omega) | omega | (dsimp only; omega) | (show (_ : Nat) ≤ _; omega) | (simp only [ll1, ll2, ll0]; done) | (simp only [ll1, ll2, ll0]; omega) | (dsimp only; simp only [ll1, ll2, ll0]; omega)))) | exact True.intro | (show _ = _; first | with_reducible rfl | with_reducible assumption | omega | (simp only [ll1, ll2, ll0]; omega) | (skip; done) | exact rfl) | with_reducible assumption | (apply And.intro) | omega | (intro j hj; exact rfl) | fail))
      intro j hj
      by_cases h : j < i
      · simp only [if_pos h]
      · obtain rfl : j = i := by have : j < i + 1 := hj; omega
        simp only [if_neg h, Nat.sub_self]
        rw [hx']
        rfl
    · have e2 : imCheck x.w x.h x.c x.p.length = imagesC L := by
        rw [e, imgsC_first hz (by rw [k2]; exact k1) hlt, k2]
      (repeat' (first | (refine And.intro (fun (hfk : _ = true) => ?_) (fun (hfk : _ = false) => ?_) <;> ((try (first | replace hfk := of_decide_eq_true hfk | replace hfk := of_decide_eq_false hfk | simp only [decide_eq_true_eq, decide_eq_false_iff_not, dh1, dh0, ne_eq, reduceCtorEq] at hfk)); (try (exfalso; first | omega | contradiction | exact Bool.noConfusion (Eq.trans (Eq.symm hfk) (by with_reducible assumption : _ = false)) | exact Bool.noConfusion (Eq.trans (Eq.symm hfk) (by with_reducible assumption : _ = true)))))) | (refine And.intro ?ob ?_; (case ob => (first | exact Chk.mk (by kernel_rfl) | exact True.intro | with_reducible assumption | exact rng64 (by omega) (by omega) | omega | (dsimp only; omega) | (show (_ : Nat) ≤ _; omega) | (simp only [ll1, ll2, ll0]; done) | (simp only [ll1, ll2, ll0]; omega) | (dsimp only; simp only [ll1, ll2, ll0]; omega)))) | exact True.intro | (show _ = _; first | with_reducible rfl | with_reducible assumption | omega | (simp only [ll1, ll2, ll0]; omega) | (exact e2; done) | exact rfl) | with_reducible assumption | (apply And.intro) | omega | (intro j hj; exact rfl) | fail))
    · have k2' : ¬ x.c = (L.getD (Int.toNat 0) Im.z).c := k2
      have e2 : (10 : Int) = imagesC L := by
        rw [e, imgsC_first hz (by rw [k3]; decide) hlt, k3]
      (repeat' (first | (refine And.intro (fun (hfk : _ = true) => ?_) (fun (hfk : _ = false) => ?_) <;> ((try (first | replace hfk := of_decide_eq_true hfk | replace hfk := of_decide_eq_false hfk | simp only [decide_eq_true_eq, decide_eq_false_iff_not, dh1, dh0, ne_eq, reduceCtorEq] at hfk)); (try (exfalso; first | omega | contradiction | exact Bool.noConfusion (Eq.trans (Eq.symm hfk) (by with_reducible assumption : _ = false)) | exact Bool.noConfusion (Eq.trans (Eq.symm hfk) (by with_reducible assumption : _ = true)))))) | (refine And.intro ?ob ?_; (case ob => (first | exact Chk.mk (by kernel_rfl) | exact True.intro | with_reducible assumption | exact rng64 (by omega) (by omega) | omega | (dsimp only; omega) | (show (_ : Nat) ≤ _; omega) | (simp only [ll1, ll2, ll0]; done) | (simp only [ll1, ll2, ll0]; omega) | (dsimp only; simp only [ll1, ll2, ll0]; omega)))) | exact True.intro | (show _ = _; first | with_reducible rfl | with_reducible assumption | omega | (simp only [ll1, ll2, ll0]; omega) | (exact e2; done) | exact rfl) | with_reducible assumption | (apply And.intro) | omega | (intro j hj; exact rfl) | fail))
  · have e2 : (0 : Int) = imagesC L := by
      have : i = L.length := by omega
      rw [e, ← this, hz]
    (repeat' (first | (refine And.intro (fun (hfk : _ = true) => ?_) (fun (hfk : _ = false) => ?_) <;> ((try (first | replace hfk := of_decide_eq_true hfk | replace hfk := of_decide_eq_false hfk | simp only [decide_eq_true_eq, decide_eq_false_iff_not, dh1, dh0, ne_eq, reduceCtorEq] at hfk)); (try (exfalso; first | omega | contradiction | exact Bool.noConfusion (Eq.trans (Eq.symm hfk) (by with_reducible assumption : _ = false)) | exact Bool.noConfusion (Eq.trans (Eq.symm hfk) (by with_reducible assumption : _ = true)))))) | (refine And.intro ?ob ?_; (case ob => (first | exact Chk.mk (by kernel_rfl) | exact True.intro | with_reducible assumption | exact rng64 (by omega) (by omega) | omega | (dsimp only; omega) | (show (_ : Nat) ≤ _; omega) | (simp only [ll1, ll2, ll0]; done) | (simp only [ll1, ll2, ll0]; omega) | (dsimp only; simp only [ll1, ll2, ll0]; omega)))) | exact True.intro | (show _ = _; first | with_reducible rfl | with_reducible assumption | omega | (simp only [ll1, ll2, ll0]; omega) | (exact e2; done) | exact rfl) | with_reducible assumption | (apply And.intro) | omega | (intro j hj; exact rfl) | fail))

abbrev stA (L : List Im) (tw th n : Int) : Ent := .cells 169 [.sl 1 4 0 L.length, .int .i64 tw, .int .i64 th, .int .i64 n]
abbrev rowA (L : List Im) (i : Nat) : Ent := .recs 26 4 i (fun j => (Lm L j).av)
def newStF (L : List Im) : FSpec := fun l es => match l, es with
  | [.ro 4 n get, .int .i64 tw, .int .i64 th], [] => some ([n = L.length, ∀ j, j < n → get j = (Lm L j).av, L.length ≤ 6, storeC L tw th = 0], .tup [.ptr 0 0, .int .i64 0], [some (stA L tw th 0), some (rowA L L.length)])
  | _, _ => none
theorem storeC_ok {L : List Im} {tw th : Int} (h : storeC L tw th = 0) : imagesC L = 0 ∧ 1 ≤ tw ∧ tw ≤ 4096 ∧ 1 ≤ th ∧ th ≤ 4096 := by
  unfold storeC at h
  split at h
  · rename_i k; exact absurd h k
  · rename_i k
    split at h
    · omega
    · exact ⟨Classical.not_not.1 k, by omega, by omega, by omega, by omega⟩
theorem newSt_g (L : List Im) : GSOK Try.prog 48 (fG (newStF L)) := by
  refine fokK [0, 9] (S := [(109, sIms L [L.length ≤ 6] (.tup [.any, .int .i64 (imagesC L)])), (77, cloneS)]) (G := noG) (pok_cons (sampleOf_s L) (pok_cons clone_s pok_nil)) noG_ok ⟨Try.func48, by kernel_rfl, by kernel_rfl, by kernel_rfl⟩ fun l es obs v es' h ho => ?_
  (unfold newStF at h; split at h; rotate_left; (focus (cases h)); rename_i n get tw th; simp only [Option.some.injEq, Prod.mk.injEq] at h; obtain ⟨rfl, rfl, rfl⟩ := h; simp only [List.mem_cons, List.not_mem_nil, or_false, forall_eq_or_imp, forall_eq, false_implies, implies_true] at ho)
  obtain ⟨rfl, hg, h6, hk⟩ := ho
  obtain ⟨hi, t1, t2, t3, t4⟩ := storeC_ok hk
  obtain ⟨p0, p1, p2⟩ := imagesC_ok hi
  refine ⟨Nat.le_of_ble_eq_true rfl, ?_⟩
  refine ⟨[(0, imsA L), (1, .int .i64 tw), (2, .int .i64 th)], ⟨0, []⟩, [], ?_, ?_⟩
  · (repeat' (first | (refine And.intro ?_ ?_) | exact True.intro | (show _ = _; with_reducible rfl) | exact Chk.mk (by kernel_rfl)))
    exact hg
  (repeat' (first | (refine And.intro (fun (hfk : _ = true) => ?_) (fun (hfk : _ = false) => ?_) <;> ((try (first | replace hfk := of_decide_eq_true hfk | replace hfk := of_decide_eq_false hfk | simp only [decide_eq_true_eq, decide_eq_false_iff_not, dh1, dh0, ne_eq, reduceCtorEq] at hfk)); (try (exfalso; first | omega | contradiction | exact Bool.noConfusion (Eq.trans (Eq.symm hfk) (by with_reducible assumption : _ = false)) | exact Bool.noConfusion (Eq.trans (Eq.symm hfk) (by with_reducible assumption : _ = true)))))) | (refine And.intro ?ob ?_; (case ob => (first | exact Chk.mk (by kernel_rfl) | exact True.intro | with_reducible assumption | exact rng64 (by omega) (by omega) | omega | (dsimp only; omega) | (show (_ : Nat) ≤ _; omega) | (simp only [ll1, ll2, ll0]; done) | (simp only [ll1, ll2, ll0]; omega) | (dsimp only; simp only [ll1, ll2, ll0]; omega)))) | exact True.intro | (show _ = _; first | with_reducible rfl | with_reducible assumption | omega | (simp only [ll1, ll2, ll0]; omega) | (skip; done) | exact rfl) | with_reducible assumption | (apply And.intro) | omega | (intro j hj; exact rfl) | fail))
  refine ⟨Nat, fun i => [(10, .ptr 0 0), (39, imsA L), (40, .int .i64 (L.length : Int)), (41, .int .i64 (i : Int))], fun i => ⟨2, [(0, some (.cells 169 [.sl 1 4 0 i, .int .i64 tw, .int .i64 th, .int .i64 0])), (1, some (rowA L i))]⟩, fun i => i ≤ L.length, fun i => L.length - i, ⟨0, [some 0, none], Nat.zero_le _, ?_⟩, fun i hi => ?_⟩
  · (repeat' (first | (refine And.intro ?_ ?_) | exact True.intro | (show _ = _; with_reducible rfl) | exact Chk.mk (by kernel_rfl)))
    all_goals first | (intro j hj; rfl) | rfl
  have hi : i ≤ L.length := hi
  by_cases hlt : i < L.length
  · obtain ⟨x, hx⟩ : ∃ x, L.getD (i : Int).toNat Im.z = x := ⟨_, rfl⟩
    have hx' : Lm L i = x := hx
    have hc := (p2 i hlt).1
    rw [hx'] at hc
    obtain ⟨hf, hl⟩ := check_inv hc
    have hb := fits_inv hf
    (repeat' (first | (refine And.intro (fun (hfk : _ = true) => ?_) (fun (hfk : _ = false) => ?_) <;> ((try (first | replace hfk := of_decide_eq_true hfk | replace hfk := of_decide_eq_false hfk | simp only [decide_eq_true_eq, decide_eq_false_iff_not, dh1, dh0, ne_eq, reduceCtorEq] at hfk)); (try (exfalso; first | omega | contradiction | exact Bool.noConfusion (Eq.trans (Eq.symm hfk) (by with_reducible assumption : _ = false)) | exact Bool.noConfusion (Eq.trans (Eq.symm hfk) (by with_reducible assumption : _ = true)))))) | (refine And.intro ?ob ?_; (case ob => (first | exact Chk.mk (by kernel_rfl) | exact True.intro | with_reducible assumption | exact rng64 (by omega) (by omega) | omega | (dsimp only; omega) | (show (_ : Nat) ≤ _; omega) | (simp only [ll1, ll2, ll0]; done) | (simp only [ll1, ll2, ll0]; omega) | (dsimp only; simp only [ll1, ll2, ll0]; omega)))) | exact True.intro | (show _ = _; first | with_reducible rfl | with_reducible assumption | omega | (simp only [ll1, ll2, ll0]; omega) | (skip; done) | exact rfl) | with_reducible assumption | (apply And.intro) | omega | (intro j hj; exact rfl) | fail))
    refine ⟨[(10, .ptr 0 0), (12, .ptr 2 0), (39, imsA L), (40, .int .i64 (L.length : Int)), (41, .int .i64 (i : Int))],
      ⟨3, [(0, some (.cells 169 [.sl 1 4 0 i, .int .i64 tw, .int .i64 th, .int .i64 0])), (1, some (rowA L i)), (2, some (.cells 26 [.int .i64 x.w, .int .i64 x.h, .int .i64 x.c, .roi .u8 x.p]))]⟩, [some 0, some 1, some 2], ?_, ?_⟩
    · (repeat' (first | (refine And.intro ?_ ?_) | exact True.intro | (show _ = _; with_reducible rfl) | exact Chk.mk (by kernel_rfl)))
      all_goals first
        | exact congrArg Im.w hx
        | exact congrArg Im.h hx
        | exact congrArg Im.c hx
        | exact congrArg Im.p hx
        | (intro j hj; rfl)
    (repeat' (first | (refine And.intro (fun (hfk : _ = true) => ?_) (fun (hfk : _ = false) => ?_) <;> ((try (first | replace hfk := of_decide_eq_true hfk | replace hfk := of_decide_eq_false hfk | simp only [decide_eq_true_eq, decide_eq_false_iff_not, dh1, dh0, ne_eq, reduceCtorEq] at hfk)); (try (exfalso; first | omega | contradiction | exact Bool.noConfusion (Eq.trans (Eq.symm hfk) (by with_reducible assumption : _ = false)) | exact Bool.noConfusion (Eq.trans (Eq.symm hfk) (by with_reducible assumption : _ = true)))))) | (refine And.intro ?ob ?_; (case ob => (first | exact Chk.mk (by kernel_rfl) | exact True.intro | with_reducible assumption | exact rng64 (by omega) (by omega) | omega | (dsimp only; omega) | (show (_ : Nat) ≤ _; omega) | (simp only [ll1, ll2, ll0]; done) | (simp only [ll1, ll2, ll0]; omega) | (dsimp only; simp only [ll1, ll2, ll0]; omega)))) | exact True.intro | (show _ = _; first | with_reducible rfl | with_reducible assumption | omega | (simp only [ll1, ll2, ll0]; omega) | (skip; done) | exact rfl) | with_reducible assumption | (apply And.intro) | omega | (intro j hj; exact rfl) | fail))
    (refine ⟨i + 1, [some 0, some 4], ?_, ?mu, ?_⟩; (case mu => ((try dsimp only); omega)))
    · exact hlt
    (repeat' (first | (refine And.intro (fun (hfk : _ = true) => ?_) (fun (hfk : _ = false) => ?_) <;> ((try (first | replace hfk := of_decide_eq_true hfk | replace hfk := of_decide_eq_false hfk | simp only [decide_eq_true_eq, decide_eq_false_iff_not, dh1, dh0, ne_eq, reduceCtorEq] at hfk)); (try (exfalso; first | omega | contradiction | exact Bool.noConfusion (Eq.trans (Eq.symm hfk) (by with_reducible assumption : _ = false)) | exact Bool.noConfusion (Eq.trans (Eq.symm hfk) (by with_reducible assumption : _ = true)))))) | (refine And.intro ?ob ?_; (case ob => (first | exact Chk.mk (by kernel_rfl) | exact True.intro | with_reducible assumption | exact rng64 (by omega) (by omega) | omega | (dsimp only; omega) | (show (_ : Nat) ≤ _; omega) | (simp only [ll1, ll2, ll0]; done) | (simp only [ll1, ll2, ll0]; omega) | (dsimp only; simp only [ll1, ll2, ll0]; omega)))) | exact True.intro | (show _ = _; first | with_reducible rfl | with_reducible assumption | omega | (simp only [ll1, ll2, ll0]; omega) | (skip; done) | exact rfl) | with_reducible assumption | (apply And.intro) | omega | (intro j hj; exact rfl) | fail))
    · intro j hj
      by_cases h : j < i
      · simp only [if_pos h]
      · obtain rfl : j = i := by have : j < i + 1 := hj; omega
        simp only [if_neg h, Nat.sub_self]
        rw [hx']
        rfl
  · obtain rfl : i = L.length := by omega
    (repeat' (first | (refine And.intro (fun (hfk : _ = true) => ?_) (fun (hfk : _ = false) => ?_) <;> ((try (first | replace hfk := of_decide_eq_true hfk | replace hfk := of_decide_eq_false hfk | simp only [decide_eq_true_eq, decide_eq_false_iff_not, dh1, dh0, ne_eq, reduceCtorEq] at hfk)); (try (exfalso; first | omega | contradiction | exact Bool.noConfusion (Eq.trans (Eq.symm hfk) (by with_reducible assumption : _ = false)) | exact Bool.noConfusion (Eq.trans (Eq.symm hfk) (by with_reducible assumption : _ = true)))))) | (refine And.intro ?ob ?_; (case ob => (first | exact Chk.mk (by kernel_rfl) | exact True.intro | with_reducible assumption | exact rng64 (by omega) (by omega) | omega | (dsimp only; omega) | (show (_ : Nat) ≤ _; omega) | (simp only [ll1, ll2, ll0]; done) | (simp only [ll1, ll2, ll0]; omega) | (dsimp only; simp only [ll1, ll2, ll0]; omega)))) | exact True.intro | (show _ = _; first | with_reducible rfl | with_reducible assumption | omega | (simp only [ll1, ll2, ll0]; omega) | (skip; done) | exact rfl) | with_reducible assumption | (apply And.intro) | omega | (intro j hj; exact rfl) | fail))
    refine ⟨[some 0, some 1], ?_⟩
    (repeat' (first | (refine And.intro (fun (hfk : _ = true) => ?_) (fun (hfk : _ = false) => ?_) <;> ((try (first | replace hfk := of_decide_eq_true hfk | replace hfk := of_decide_eq_false hfk | simp only [decide_eq_true_eq, decide_eq_false_iff_not, dh1, dh0, ne_eq, reduceCtorEq] at hfk)); (try (exfalso; first | omega | contradiction | exact Bool.noConfusion (Eq.trans (Eq.symm hfk) (by with_reducible assumption : _ = false)) | exact Bool.noConfusion (Eq.trans (Eq.symm hfk) (by with_reducible assumption : _ = true)))))) | (refine And.intro ?ob ?_; (case ob => (first | exact Chk.mk (by kernel_rfl) | exact True.intro | with_reducible assumption | exact rng64 (by omega) (by omega) | omega | (dsimp only; omega) | (show (_ : Nat) ≤ _; omega) | (simp only [ll1, ll2, ll0]; done) | (simp only [ll1, ll2, ll0]; omega) | (dsimp only; simp only [ll1, ll2, ll0]; omega)))) | exact True.intro | (show _ = _; first | with_reducible rfl | with_reducible assumption | omega | (simp only [ll1, ll2, ll0]; omega) | (skip; done) | exact rfl) | with_reducible assumption | (apply And.intro) | omega | (intro j hj; exact rfl) | fail))


def inL (L : List Im) (k : Int) : Bool := decide (0 ≤ k) && decide (k < (L.length : Int))
def stG (L : List Im) (tw th k : Int) : R4 := if inL L k = true then ⟨(Lm L k.toNat).w, (Lm L k.toNat).h, tw, th⟩ else .zero
theorem inL_iff {L : List Im} {k : Int} : inL L k = true ↔ 0 ≤ k ∧ k < (L.length : Int) := by simp [inL]
theorem inL_not {L : List Im} {k : Int} : inL L k = false ↔ ¬ (0 ≤ k ∧ k < (L.length : Int)) := by rw [← inL_iff]; simp
theorem stG_in {L : List Im} {tw th k : Int} (h : inL L k = true) : stG L tw th k = ⟨(Lm L k.toNat).w, (Lm L k.toNat).h, tw, th⟩ := if_pos h
theorem stG_out {L : List Im} {tw th k : Int} (h : inL L k = false) : stG L tw th k = .zero := if_neg (by rw [h]; decide)
abbrev sSt (L : List Im) (f : Int → Int → Int → AV) : PSpec := fun l => match l with
  | [.rop (.agg [.ro 4 n get, .int .i64 tw, .int .i64 th, .int .i64 c])] => some ([n = L.length, get = fun j => (Lm L j).av], f tw th c) | _ => none
abbrev sStK (L : List Im) (f : Int → Int → Int → Int → AV) : PSpec := fun l => match l with
  | [.rop (.agg [.ro 4 n get, .int .i64 tw, .int .i64 th, .int .i64 c]), .int .i64 k] => some ([n = L.length, get = fun j => (Lm L j).av], f tw th c k) | _ => none
abbrev sStT (L : List Im) (f : Int → Int → Int → Int → Int → AV) : PSpec := fun l => match l with
  | [.rop (.agg [.ro 4 n get, .int .i64 tw, .int .i64 th, .int .i64 c]), .agg [.int .i64 k, .int .i64 i]] => some ([n = L.length, get = fun j => (Lm L j).av], f tw th c k i) | _ => none
abbrev sStX (L : List Im) (f : Int → Int → Int → Int → Int → Int → AV) : PSpec := fun l => match l with
  | [.rop (.agg [.ro 4 n get, .int .i64 tw, .int .i64 th, .int .i64 c]), .int .i64 k, .int .i64 x, .int .i64 y] => some ([n = L.length, get = fun j => (Lm L j).av], f tw th c k x y) | _ => none
abbrev levelsS (L : List Im) : PSpec := sSt L fun _ _ _ => .int .i64 L.length
theorem levels_s (L : List Im) : SOK Try.prog 62 (levelsS L) := by
  refine sok_of (C := mkC 0 [] noG) (mkC_ok pok_nil noG_ok) rfl mixed ⟨Try.func62, by kernel_rfl, by kernel_rfl, by kernel_rfl⟩ fun l obs v h ho => ?_
  unfold levelsS at h
  (unfold sSt at h; split at h; rotate_left; (focus (cases h)); rename_i n get tw th c; simp only [Option.some.injEq, Prod.mk.injEq] at h; obtain ⟨rfl, rfl⟩ := h; simp only [List.mem_cons, List.not_mem_nil, or_false, forall_eq_or_imp, forall_eq, false_implies, implies_true] at ho)
  obtain ⟨rfl, rfl⟩ := ho
  refine ⟨Nat.le_of_ble_eq_true rfl, ?_⟩
  (repeat' (first | (refine And.intro (fun (hfk : _ = true) => ?_) (fun (hfk : _ = false) => ?_) <;> ((try (first | replace hfk := of_decide_eq_true hfk | replace hfk := of_decide_eq_false hfk | simp only [decide_eq_true_eq, decide_eq_false_iff_not, dh1, dh0, ne_eq, reduceCtorEq] at hfk)); (try (exfalso; first | omega | contradiction | exact Bool.noConfusion (Eq.trans (Eq.symm hfk) (by with_reducible assumption : _ = false)) | exact Bool.noConfusion (Eq.trans (Eq.symm hfk) (by with_reducible assumption : _ = true)))))) | (refine And.intro ?ob ?_; (case ob => (first | exact Chk.mk (by kernel_rfl) | exact True.intro | with_reducible assumption | exact rng64 (by omega) (by omega) | omega | (dsimp only; omega) | (show (_ : Nat) ≤ _; omega) | (simp only [ll1, ll2, ll0]; done) | (simp only [ll1, ll2, ll0]; omega) | (dsimp only; simp only [ll1, ll2, ll0]; omega)))) | exact True.intro | (show _ = _; first | with_reducible rfl | with_reducible assumption | omega | (simp only [ll1, ll2, ll0]; omega) | (skip; done) | exact rfl) | with_reducible assumption | (apply And.intro) | omega | (intro j hj; exact rfl) | fail))
abbrev isS41 (L : List Im) : PSpec := sStK L fun _ _ _ k => .bool (inL L k)
theorem is41_s (L : List Im) : SOK Try.prog 113 (isS41 L) := by
  refine sok_of (C := mkC 0 [(62, levelsS L)] noG) (mkC_ok (pok_cons (levels_s L) pok_nil) noG_ok) rfl mixed ⟨Try.func113, by kernel_rfl, by kernel_rfl, by kernel_rfl⟩ fun l obs v h ho => ?_
  unfold isS41 at h
  (unfold sStK at h; split at h; rotate_left; (focus (cases h)); rename_i n get tw th c k; simp only [Option.some.injEq, Prod.mk.injEq] at h; obtain ⟨rfl, rfl⟩ := h; simp only [List.mem_cons, List.not_mem_nil, or_false, forall_eq_or_imp, forall_eq, false_implies, implies_true] at ho)
  obtain ⟨rfl, rfl⟩ := ho
  refine ⟨Nat.le_of_ble_eq_true rfl, ?_⟩
  by_cases h0 : 0 ≤ k
  · have e : decide (k < (L.length : Int)) = inL L k := by unfold inL; rw [decide_eq_true h0, Bool.true_and]
    (repeat' (first | (refine And.intro (fun (hfk : _ = true) => ?_) (fun (hfk : _ = false) => ?_) <;> ((try (first | replace hfk := of_decide_eq_true hfk | replace hfk := of_decide_eq_false hfk | simp only [decide_eq_true_eq, decide_eq_false_iff_not, dh1, dh0, ne_eq, reduceCtorEq] at hfk)); (try (exfalso; first | omega | contradiction | exact Bool.noConfusion (Eq.trans (Eq.symm hfk) (by with_reducible assumption : _ = false)) | exact Bool.noConfusion (Eq.trans (Eq.symm hfk) (by with_reducible assumption : _ = true)))))) | (refine And.intro ?ob ?_; (case ob => (first | exact Chk.mk (by kernel_rfl) | exact True.intro | with_reducible assumption | exact rng64 (by omega) (by omega) | omega | (dsimp only; omega) | (show (_ : Nat) ≤ _; omega) | (simp only [ll1, ll2, ll0]; done) | (simp only [ll1, ll2, ll0]; omega) | (dsimp only; simp only [ll1, ll2, ll0]; omega)))) | exact True.intro | (show _ = _; first | with_reducible rfl | with_reducible assumption | omega | (simp only [ll1, ll2, ll0]; omega) | (exact e; done) | exact rfl) | with_reducible assumption | (apply And.intro) | omega | (intro j hj; exact rfl) | fail))
  · have e : false = inL L k := by unfold inL; rw [decide_eq_false h0, Bool.false_and]
    (repeat' (first | (refine And.intro (fun (hfk : _ = true) => ?_) (fun (hfk : _ = false) => ?_) <;> ((try (first | replace hfk := of_decide_eq_true hfk | replace hfk := of_decide_eq_false hfk | simp only [decide_eq_true_eq, decide_eq_false_iff_not, dh1, dh0, ne_eq, reduceCtorEq] at hfk)); (try (exfalso; first | omega | contradiction | exact Bool.noConfusion (Eq.trans (Eq.symm hfk) (by with_reducible assumption : _ = false)) | exact Bool.noConfusion (Eq.trans (Eq.symm hfk) (by with_reducible assumption : _ = true)))))) | (refine And.intro ?ob ?_; (case ob => (first | exact Chk.mk (by kernel_rfl) | exact True.intro | with_reducible assumption | exact rng64 (by omega) (by omega) | omega | (dsimp only; omega) | (show (_ : Nat) ≤ _; omega) | (simp only [ll1, ll2, ll0]; done) | (simp only [ll1, ll2, ll0]; omega) | (dsimp only; simp only [ll1, ll2, ll0]; omega)))) | exact True.intro | (show _ = _; first | with_reducible rfl | with_reducible assumption | omega | (simp only [ll1, ll2, ll0]; omega) | (exact e; done) | exact rfl) | with_reducible assumption | (apply And.intro) | omega | (intro j hj; exact rfl) | fail))
def szW (L : List Im) (k : Int) : Int := if inL L k = true then (Lm L k.toNat).w else 0
def szH (L : List Im) (k : Int) : Int := if inL L k = true then (Lm L k.toNat).h else 0
abbrev sizeS41 (L : List Im) : PSpec := sStK L fun _ _ _ k => .tup [.int .i64 (szW L k), .int .i64 (szH L k)]
theorem size41_s (L : List Im) : SOK Try.prog 52 (sizeS41 L) := by
  refine sok_of (C := mkC 0 [(113, isS41 L)] noG) (mkC_ok (pok_cons (is41_s L) pok_nil) noG_ok) rfl mixed ⟨Try.func52, by kernel_rfl, by kernel_rfl, by kernel_rfl⟩ fun l obs v h ho => ?_
  unfold sizeS41 at h
  (unfold sStK at h; split at h; rotate_left; (focus (cases h)); rename_i n get tw th c k; simp only [Option.some.injEq, Prod.mk.injEq] at h; obtain ⟨rfl, rfl⟩ := h; simp only [List.mem_cons, List.not_mem_nil, or_false, forall_eq_or_imp, forall_eq, false_implies, implies_true] at ho)
  obtain ⟨rfl, rfl⟩ := ho
  refine ⟨Nat.le_of_ble_eq_true rfl, ?_⟩
  cases hi : inL L k with
  | true =>
    have hb := inL_iff.1 hi
    have e1 : szW L k = (Lm L k.toNat).w := if_pos hi
    have e2 : szH L k = (Lm L k.toNat).h := if_pos hi
    (repeat' (first | (refine And.intro (fun (hfk : _ = true) => ?_) (fun (hfk : _ = false) => ?_) <;> ((try (first | replace hfk := of_decide_eq_true hfk | replace hfk := of_decide_eq_false hfk | simp only [decide_eq_true_eq, decide_eq_false_iff_not, dh1, dh0, ne_eq, reduceCtorEq] at hfk)); (try (exfalso; first | omega | contradiction | exact Bool.noConfusion (Eq.trans (Eq.symm hfk) (by with_reducible assumption : _ = false)) | exact Bool.noConfusion (Eq.trans (Eq.symm hfk) (by with_reducible assumption : _ = true)))))) | (refine And.intro ?ob ?_; (case ob => (first | exact Chk.mk (by kernel_rfl) | exact True.intro | with_reducible assumption | exact rng64 (by omega) (by omega) | omega | (dsimp only; omega) | (show (_ : Nat) ≤ _; omega) | (simp only [ll1, ll2, ll0]; done) | (simp only [ll1, ll2, ll0]; omega) | (dsimp only; simp only [ll1, ll2, ll0]; omega)))) | exact True.intro | (show _ = _; first | with_reducible rfl | with_reducible assumption | omega | (simp only [ll1, ll2, ll0]; omega) | ((first | exact e1.symm | exact e2.symm); done) | exact rfl) | with_reducible assumption | (apply And.intro) | omega | (intro j hj; exact rfl) | fail))
  | false =>
    have e1 : szW L k = 0 := if_neg (by rw [hi]; decide)
    have e2 : szH L k = 0 := if_neg (by rw [hi]; decide)
    (repeat' (first | (refine And.intro (fun (hfk : _ = true) => ?_) (fun (hfk : _ = false) => ?_) <;> ((try (first | replace hfk := of_decide_eq_true hfk | replace hfk := of_decide_eq_false hfk | simp only [decide_eq_true_eq, decide_eq_false_iff_not, dh1, dh0, ne_eq, reduceCtorEq] at hfk)); (try (exfalso; first | omega | contradiction | exact Bool.noConfusion (Eq.trans (Eq.symm hfk) (by with_reducible assumption : _ = false)) | exact Bool.noConfusion (Eq.trans (Eq.symm hfk) (by with_reducible assumption : _ = true)))))) | (refine And.intro ?ob ?_; (case ob => (first | exact Chk.mk (by kernel_rfl) | exact True.intro | with_reducible assumption | exact rng64 (by omega) (by omega) | omega | (dsimp only; omega) | (show (_ : Nat) ≤ _; omega) | (simp only [ll1, ll2, ll0]; done) | (simp only [ll1, ll2, ll0]; omega) | (dsimp only; simp only [ll1, ll2, ll0]; omega)))) | exact True.intro | (show _ = _; first | with_reducible rfl | with_reducible assumption | omega | (simp only [ll1, ll2, ll0]; omega) | ((first | exact e1.symm | exact e2.symm); done) | exact rfl) | with_reducible assumption | (apply And.intro) | omega | (intro j hj; exact rfl) | fail))
abbrev chanS41 (L : List Im) : PSpec := sSt L fun _ _ _ => .int .i64 (if inL L 0 = true then (Lm L 0).c else 0)
theorem chan41_s (L : List Im) : SOK Try.prog 63 (chanS41 L) := by
  refine sok_of (C := mkC 0 [(113, isS41 L)] noG) (mkC_ok (pok_cons (is41_s L) pok_nil) noG_ok) rfl mixed ⟨Try.func63, by kernel_rfl, by kernel_rfl, by kernel_rfl⟩ fun l obs v h ho => ?_
  unfold chanS41 at h
  (unfold sSt at h; split at h; rotate_left; (focus (cases h)); rename_i n get tw th c; simp only [Option.some.injEq, Prod.mk.injEq] at h; obtain ⟨rfl, rfl⟩ := h; simp only [List.mem_cons, List.not_mem_nil, or_false, forall_eq_or_imp, forall_eq, false_implies, implies_true] at ho)
  obtain ⟨rfl, rfl⟩ := ho
  refine ⟨Nat.le_of_ble_eq_true rfl, ?_⟩
  cases hi : inL L 0 with
  | true =>
    have hb := inL_iff.1 hi
    (repeat' (first | (refine And.intro (fun (hfk : _ = true) => ?_) (fun (hfk : _ = false) => ?_) <;> ((try (first | replace hfk := of_decide_eq_true hfk | replace hfk := of_decide_eq_false hfk | simp only [decide_eq_true_eq, decide_eq_false_iff_not, dh1, dh0, ne_eq, reduceCtorEq] at hfk)); (try (exfalso; first | omega | contradiction | exact Bool.noConfusion (Eq.trans (Eq.symm hfk) (by with_reducible assumption : _ = false)) | exact Bool.noConfusion (Eq.trans (Eq.symm hfk) (by with_reducible assumption : _ = true)))))) | (refine And.intro ?ob ?_; (case ob => (first | exact Chk.mk (by kernel_rfl) | exact True.intro | with_reducible assumption | exact rng64 (by omega) (by omega) | omega | (dsimp only; omega) | (show (_ : Nat) ≤ _; omega) | (simp only [ll1, ll2, ll0]; done) | (simp only [ll1, ll2, ll0]; omega) | (dsimp only; simp only [ll1, ll2, ll0]; omega)))) | exact True.intro | (show _ = _; first | with_reducible rfl | with_reducible assumption | omega | (simp only [ll1, ll2, ll0]; omega) | (skip; done) | exact rfl) | with_reducible assumption | (apply And.intro) | omega | (intro j hj; exact rfl) | fail))
  | false =>
    (repeat' (first | (refine And.intro (fun (hfk : _ = true) => ?_) (fun (hfk : _ = false) => ?_) <;> ((try (first | replace hfk := of_decide_eq_true hfk | replace hfk := of_decide_eq_false hfk | simp only [decide_eq_true_eq, decide_eq_false_iff_not, dh1, dh0, ne_eq, reduceCtorEq] at hfk)); (try (exfalso; first | omega | contradiction | exact Bool.noConfusion (Eq.trans (Eq.symm hfk) (by with_reducible assumption : _ = false)) | exact Bool.noConfusion (Eq.trans (Eq.symm hfk) (by with_reducible assumption : _ = true)))))) | (refine And.intro ?ob ?_; (case ob => (first | exact Chk.mk (by kernel_rfl) | exact True.intro | with_reducible assumption | exact rng64 (by omega) (by omega) | omega | (dsimp only; omega) | (show (_ : Nat) ≤ _; omega) | (simp only [ll1, ll2, ll0]; done) | (simp only [ll1, ll2, ll0]; omega) | (dsimp only; simp only [ll1, ll2, ll0]; omega)))) | exact True.intro | (show _ = _; first | with_reducible rfl | with_reducible assumption | omega | (simp only [ll1, ll2, ll0]; omega) | (skip; done) | exact rfl) | with_reducible assumption | (apply And.intro) | omega | (intro j hj; exact rfl) | fail))
abbrev gridS41 (L : List Im) : PSpec := sStK L fun tw th _ k => (stG L tw th k).av
theorem grid41_s (L : List Im) : SOK Try.prog 111 (gridS41 L) := by
  refine sok_of (C := mkC 0 [(113, isS41 L), (52, sizeS41 L)] noG) (mkC_ok (pok_cons (is41_s L) (pok_cons (size41_s L) pok_nil)) noG_ok) rfl mixed ⟨Try.func111, by kernel_rfl, by kernel_rfl, by kernel_rfl⟩ fun l obs v h ho => ?_
  unfold gridS41 at h
  (unfold sStK at h; split at h; rotate_left; (focus (cases h)); rename_i n get tw th c k; simp only [Option.some.injEq, Prod.mk.injEq] at h; obtain ⟨rfl, rfl⟩ := h; simp only [List.mem_cons, List.not_mem_nil, or_false, forall_eq_or_imp, forall_eq, false_implies, implies_true] at ho)
  obtain ⟨rfl, rfl⟩ := ho
  refine ⟨Nat.le_of_ble_eq_true rfl, ?_⟩
  cases hi : inL L k with
  | true =>
    rw [stG_in hi]
    have e1 : szW L k = (Lm L k.toNat).w := if_pos hi
    have e2 : szH L k = (Lm L k.toNat).h := if_pos hi
    (repeat' (first | (refine And.intro (fun (hfk : _ = true) => ?_) (fun (hfk : _ = false) => ?_) <;> ((try (first | replace hfk := of_decide_eq_true hfk | replace hfk := of_decide_eq_false hfk | simp only [decide_eq_true_eq, decide_eq_false_iff_not, dh1, dh0, ne_eq, reduceCtorEq] at hfk)); (try (exfalso; first | omega | contradiction | exact Bool.noConfusion (Eq.trans (Eq.symm hfk) (by with_reducible assumption : _ = false)) | exact Bool.noConfusion (Eq.trans (Eq.symm hfk) (by with_reducible assumption : _ = true)))))) | (refine And.intro ?ob ?_; (case ob => (first | exact Chk.mk (by kernel_rfl) | exact True.intro | with_reducible assumption | exact rng64 (by omega) (by omega) | omega | (dsimp only; omega) | (show (_ : Nat) ≤ _; omega) | (simp only [ll1, ll2, ll0]; done) | (simp only [ll1, ll2, ll0]; omega) | (dsimp only; simp only [ll1, ll2, ll0]; omega)))) | exact True.intro | (show _ = _; first | with_reducible rfl | with_reducible assumption | omega | (simp only [ll1, ll2, ll0]; omega) | ((first | exact e1 | exact e2); done) | exact rfl) | with_reducible assumption | (apply And.intro) | omega | (intro j hj; exact rfl) | fail))
  | false =>
    rw [stG_out hi]
    (repeat' (first | (refine And.intro (fun (hfk : _ = true) => ?_) (fun (hfk : _ = false) => ?_) <;> ((try (first | replace hfk := of_decide_eq_true hfk | replace hfk := of_decide_eq_false hfk | simp only [decide_eq_true_eq, decide_eq_false_iff_not, dh1, dh0, ne_eq, reduceCtorEq] at hfk)); (try (exfalso; first | omega | contradiction | exact Bool.noConfusion (Eq.trans (Eq.symm hfk) (by with_reducible assumption : _ = false)) | exact Bool.noConfusion (Eq.trans (Eq.symm hfk) (by with_reducible assumption : _ = true)))))) | (refine And.intro ?ob ?_; (case ob => (first | exact Chk.mk (by kernel_rfl) | exact True.intro | with_reducible assumption | exact rng64 (by omega) (by omega) | omega | (dsimp only; omega) | (show (_ : Nat) ≤ _; omega) | (simp only [ll1, ll2, ll0]; done) | (simp only [ll1, ll2, ll0]; omega) | (dsimp only; simp only [ll1, ll2, ll0]; omega)))) | exact True.intro | (show _ = _; first | with_reducible rfl | with_reducible assumption | omega | (simp only [ll1, ll2, ll0]; omega) | (skip; done) | exact rfl) | with_reducible assumption | (apply And.intro) | omega | (intro j hj; exact rfl) | fail))
abbrev tilesS41 (L : List Im) : PSpec := sStK L fun tw th _ k => .int .i64 (gcount (stG L tw th k))
theorem tiles41_s (L : List Im) : SOK Try.prog 55 (tilesS41 L) := by
  refine sok_of (C := mkC 0 [(111, gridS41 L), (116, sR fun g => .int .i64 (gcount g))] noG) (mkC_ok (pok_cons (grid41_s L) (pok_cons gcount_s pok_nil)) noG_ok) rfl mixed ⟨Try.func55, by kernel_rfl, by kernel_rfl, by kernel_rfl⟩ fun l obs v h ho => ?_
  unfold tilesS41 at h
  (unfold sStK at h; split at h; rotate_left; (focus (cases h)); rename_i n get tw th c k; simp only [Option.some.injEq, Prod.mk.injEq] at h; obtain ⟨rfl, rfl⟩ := h; simp only [List.mem_cons, List.not_mem_nil, or_false, forall_eq_or_imp, forall_eq, false_implies, implies_true] at ho)
  obtain ⟨rfl, rfl⟩ := ho
  refine ⟨Nat.le_of_ble_eq_true rfl, ?_⟩
  (repeat' (first | (refine And.intro (fun (hfk : _ = true) => ?_) (fun (hfk : _ = false) => ?_) <;> ((try (first | replace hfk := of_decide_eq_true hfk | replace hfk := of_decide_eq_false hfk | simp only [decide_eq_true_eq, decide_eq_false_iff_not, dh1, dh0, ne_eq, reduceCtorEq] at hfk)); (try (exfalso; first | omega | contradiction | exact Bool.noConfusion (Eq.trans (Eq.symm hfk) (by with_reducible assumption : _ = false)) | exact Bool.noConfusion (Eq.trans (Eq.symm hfk) (by with_reducible assumption : _ = true)))))) | (refine And.intro ?ob ?_; (case ob => (first | exact Chk.mk (by kernel_rfl) | exact True.intro | with_reducible assumption | exact rng64 (by omega) (by omega) | omega | (dsimp only; omega) | (show (_ : Nat) ≤ _; omega) | (simp only [ll1, ll2, ll0]; done) | (simp only [ll1, ll2, ll0]; omega) | (dsimp only; simp only [ll1, ll2, ll0]; omega)))) | exact True.intro | (show _ = _; first | with_reducible rfl | with_reducible assumption | omega | (simp only [ll1, ll2, ll0]; omega) | (skip; done) | exact rfl) | with_reducible assumption | (apply And.intro) | omega | (intro j hj; exact rfl) | fail))
abbrev placeS41 (L : List Im) : PSpec := sStT L fun tw th _ k i => .tup [(gtile (stG L tw th k) i).av, .bool (gis (stG L tw th k) i)]
theorem place41_s (L : List Im) : SOK Try.prog 57 (placeS41 L) := by
  refine sok_of (C := mkC 0 [(111, gridS41 L), (117, sRI fun g i => .tup [(gtile g i).av, .bool (gis g i)])] noG) (mkC_ok (pok_cons (grid41_s L) (pok_cons gtile_s pok_nil)) noG_ok) rfl mixed ⟨Try.func57, by kernel_rfl, by kernel_rfl, by kernel_rfl⟩ fun l obs v h ho => ?_
  unfold placeS41 at h
  (unfold sStT at h; split at h; rotate_left; (focus (cases h)); rename_i n get tw th c k i; simp only [Option.some.injEq, Prod.mk.injEq] at h; obtain ⟨rfl, rfl⟩ := h; simp only [List.mem_cons, List.not_mem_nil, or_false, forall_eq_or_imp, forall_eq, false_implies, implies_true] at ho)
  obtain ⟨rfl, rfl⟩ := ho
  refine ⟨Nat.le_of_ble_eq_true rfl, ?_⟩
  (repeat' (first | (refine And.intro (fun (hfk : _ = true) => ?_) (fun (hfk : _ = false) => ?_) <;> ((try (first | replace hfk := of_decide_eq_true hfk | replace hfk := of_decide_eq_false hfk | simp only [decide_eq_true_eq, decide_eq_false_iff_not, dh1, dh0, ne_eq, reduceCtorEq] at hfk)); (try (exfalso; first | omega | contradiction | exact Bool.noConfusion (Eq.trans (Eq.symm hfk) (by with_reducible assumption : _ = false)) | exact Bool.noConfusion (Eq.trans (Eq.symm hfk) (by with_reducible assumption : _ = true)))))) | (refine And.intro ?ob ?_; (case ob => (first | exact Chk.mk (by kernel_rfl) | exact True.intro | with_reducible assumption | exact rng64 (by omega) (by omega) | omega | (dsimp only; omega) | (show (_ : Nat) ≤ _; omega) | (simp only [ll1, ll2, ll0]; done) | (simp only [ll1, ll2, ll0]; omega) | (dsimp only; simp only [ll1, ll2, ll0]; omega)))) | exact True.intro | (show _ = _; first | with_reducible rfl | with_reducible assumption | omega | (simp only [ll1, ll2, ll0]; omega) | (skip; done) | exact rfl) | with_reducible assumption | (apply And.intro) | omega | (intro j hj; exact rfl) | fail))
def tlK (g : R4) (k x y : Int) : Int := if gin g x y = true then k else 0
def tlI (g : R4) (x y : Int) : Int := if gin g x y = true then gof g x y else 0
abbrev tileS41 (L : List Im) : PSpec := sStX L fun tw th _ k x y => .tup [.agg [.int .i64 (tlK (stG L tw th k) k x y), .int .i64 (tlI (stG L tw th k) x y)], .bool (gin (stG L tw th k) x y)]
theorem tile41_s (L : List Im) : SOK Try.prog 49 (tileS41 L) := by
  refine sok_of (C := mkC 0 [(111, gridS41 L), (110, sRII fun g x y => .tup [.int .i64 (gof g x y), .bool (gin g x y)])] noG) (mkC_ok (pok_cons (grid41_s L) (pok_cons gof_s pok_nil)) noG_ok) rfl mixed ⟨Try.func49, by kernel_rfl, by kernel_rfl, by kernel_rfl⟩ fun l obs v h ho => ?_
  unfold tileS41 at h
  (unfold sStX at h; split at h; rotate_left; (focus (cases h)); rename_i n get tw th c k x y; simp only [Option.some.injEq, Prod.mk.injEq] at h; obtain ⟨rfl, rfl⟩ := h; simp only [List.mem_cons, List.not_mem_nil, or_false, forall_eq_or_imp, forall_eq, false_implies, implies_true] at ho)
  obtain ⟨rfl, rfl⟩ := ho
  refine ⟨Nat.le_of_ble_eq_true rfl, ?_⟩
  obtain ⟨g, hg⟩ : ∃ g, stG L tw th k = g := ⟨_, rfl⟩
  cases hi : gin (stG L tw th k) x y with
  | true =>
    have e1 : tlK (stG L tw th k) k x y = k := if_pos hi
    have e2 : tlI (stG L tw th k) x y = gof (stG L tw th k) x y := if_pos hi
    (repeat' (first | (refine And.intro (fun (hfk : _ = true) => ?_) (fun (hfk : _ = false) => ?_) <;> ((try (first | replace hfk := of_decide_eq_true hfk | replace hfk := of_decide_eq_false hfk | simp only [decide_eq_true_eq, decide_eq_false_iff_not, dh1, dh0, ne_eq, reduceCtorEq] at hfk)); (try (exfalso; first | omega | contradiction | exact Bool.noConfusion (Eq.trans (Eq.symm hfk) (by with_reducible assumption : _ = false)) | exact Bool.noConfusion (Eq.trans (Eq.symm hfk) (by with_reducible assumption : _ = true)))))) | (refine And.intro ?ob ?_; (case ob => (first | exact Chk.mk (by kernel_rfl) | exact True.intro | with_reducible assumption | exact rng64 (by omega) (by omega) | omega | (dsimp only; omega) | (show (_ : Nat) ≤ _; omega) | (simp only [ll1, ll2, ll0]; done) | (simp only [ll1, ll2, ll0]; omega) | (dsimp only; simp only [ll1, ll2, ll0]; omega)))) | exact True.intro | (show _ = _; first | with_reducible rfl | with_reducible assumption | omega | (simp only [ll1, ll2, ll0]; omega) | ((first | exact e1.symm | exact e2.symm | exact hi); done) | exact rfl) | with_reducible assumption | (apply And.intro) | omega | (intro j hj; exact rfl) | fail))
  | false =>
    have e1 : tlK (stG L tw th k) k x y = 0 := if_neg (by rw [hi]; decide)
    have e2 : tlI (stG L tw th k) x y = 0 := if_neg (by rw [hi]; decide)
    (repeat' (first | (refine And.intro (fun (hfk : _ = true) => ?_) (fun (hfk : _ = false) => ?_) <;> ((try (first | replace hfk := of_decide_eq_true hfk | replace hfk := of_decide_eq_false hfk | simp only [decide_eq_true_eq, decide_eq_false_iff_not, dh1, dh0, ne_eq, reduceCtorEq] at hfk)); (try (exfalso; first | omega | contradiction | exact Bool.noConfusion (Eq.trans (Eq.symm hfk) (by with_reducible assumption : _ = false)) | exact Bool.noConfusion (Eq.trans (Eq.symm hfk) (by with_reducible assumption : _ = true)))))) | (refine And.intro ?ob ?_; (case ob => (first | exact Chk.mk (by kernel_rfl) | exact True.intro | with_reducible assumption | exact rng64 (by omega) (by omega) | omega | (dsimp only; omega) | (show (_ : Nat) ≤ _; omega) | (simp only [ll1, ll2, ll0]; done) | (simp only [ll1, ll2, ll0]; omega) | (dsimp only; simp only [ll1, ll2, ll0]; omega)))) | exact True.intro | (show _ = _; first | with_reducible rfl | with_reducible assumption | omega | (simp only [ll1, ll2, ll0]; omega) | ((first | exact e1.symm | exact e2.symm | exact hi); done) | exact rfl) | with_reducible assumption | (apply And.intro) | omega | (intro j hj; exact rfl) | fail))


abbrev newStOk (L : List Im) : PSpec := fun l => match l with
  | [.ro 4 n get, .int .i64 tw, .int .i64 th] => some ([n = L.length, ∀ j, j < n → get j = (Lm L j).av, L.length ≤ 6, storeC L tw th = 0], .tup [.rop (.agg [.ro 4 L.length (fun j => (Lm L j).av), .int .i64 tw, .int .i64 th, .int .i64 0]), .int .i64 0])
  | _ => none
theorem newStOk_s (L : List Im) : SOK Try.prog 48 (newStOk L) := sokF (newSt_g L) fun l obs v h ho => by
  (unfold newStOk at h; split at h; rotate_left; (focus (cases h)); rename_i n get tw th; simp only [Option.some.injEq, Prod.mk.injEq] at h; obtain ⟨rfl, rfl⟩ := h; simp only [List.mem_cons, List.not_mem_nil, or_false, forall_eq_or_imp, forall_eq, false_implies, implies_true] at ho)
  obtain ⟨rfl, h1, h2, h3⟩ := ho
  refine ⟨[], ⟨by kernel_rfl⟩, ?_⟩
  refine ⟨rfl, h1, h2, h3, ?_⟩
  have e : (fun j => (fun j => (Lm L j).av) (0 + j)) = fun j => (Lm L j).av := funext fun j => by rw [Nat.zero_add]
  (repeat' (first | (refine And.intro (fun (hfk : _ = true) => ?_) (fun (hfk : _ = false) => ?_) <;> ((try (first | replace hfk := of_decide_eq_true hfk | replace hfk := of_decide_eq_false hfk | simp only [decide_eq_true_eq, decide_eq_false_iff_not, dh1, dh0, ne_eq, reduceCtorEq] at hfk)); (try (exfalso; first | omega | contradiction | exact Bool.noConfusion (Eq.trans (Eq.symm hfk) (by with_reducible assumption : _ = false)) | exact Bool.noConfusion (Eq.trans (Eq.symm hfk) (by with_reducible assumption : _ = true)))))) | (refine And.intro ?ob ?_; (case ob => (first | exact Chk.mk (by kernel_rfl) | exact True.intro | with_reducible assumption | exact rng64 (by omega) (by omega) | omega | (dsimp only; omega) | (show (_ : Nat) ≤ _; omega) | (simp only [ll1, ll2, ll0]; done) | (simp only [ll1, ll2, ll0]; omega) | (dsimp only; simp only [ll1, ll2, ll0]; omega)))) | exact True.intro | (show _ = _; first | with_reducible rfl | with_reducible assumption | omega | (simp only [ll1, ll2, ll0]; omega) | (skip; done) | exact rfl) | with_reducible assumption | (apply And.intro) | omega | (intro j hj; exact rfl) | fail))
  exact congrArg (fun g => AV.agg [AV.ro 4 L.length g, .int .i64 tw, .int .i64 th, .int .i64 0]) e
abbrev newStBad (L : List Im) : PSpec := fun l => match l with
  | [.ro 4 n get, .int .i64 tw, .int .i64 th] => some ([n = L.length, ∀ j, j < n → get j = (Lm L j).av, L.length ≤ 6, storeC L tw th ≠ 0], .tup [.nilp, .int .i64 (storeC L tw th)])
  | _ => none
theorem newStBad_s (L : List Im) : SOK Try.prog 48 (newStBad L) := by
  refine sok_of (C := mkK 0 [(109, sIms L [L.length ≤ 6] (.tup [.any, .int .i64 (imagesC L)]))] noG [0]) (mkK_ok (pok_cons (sampleOf_s L) pok_nil) noG_ok) rfl mixed ⟨Try.func48, by kernel_rfl, by kernel_rfl, by kernel_rfl⟩ fun l obs v h ho => ?_
  (unfold newStBad at h; split at h; rotate_left; (focus (cases h)); rename_i n get tw th; simp only [Option.some.injEq, Prod.mk.injEq] at h; obtain ⟨rfl, rfl⟩ := h; simp only [List.mem_cons, List.not_mem_nil, or_false, forall_eq_or_imp, forall_eq, false_implies, implies_true] at ho)
  obtain ⟨rfl, hg, h6, hk⟩ := ho
  refine ⟨Nat.le_of_ble_eq_true rfl, ?_⟩
  refine ⟨[(0, imsA L), (1, .int .i64 tw), (2, .int .i64 th)], ⟨0, []⟩, [], ?_, ?_⟩
  · (repeat' (first | (refine And.intro ?_ ?_) | exact True.intro | (show _ = _; with_reducible rfl) | exact Chk.mk (by kernel_rfl)))
    exact hg
  by_cases hi : imagesC L = 0
  · have ht : tw < 1 ∨ 4096 < tw ∨ th < 1 ∨ 4096 < th := Classical.byContradiction fun k => hk (by unfold storeC; rw [if_neg (fun q => q hi), if_neg k])
    have e : storeC L tw th = 10 := by unfold storeC; rw [if_neg (fun k => k hi), if_pos ht]
    (repeat' (first | (refine And.intro (fun (hfk : _ = true) => ?_) (fun (hfk : _ = false) => ?_) <;> ((try (first | replace hfk := of_decide_eq_true hfk | replace hfk := of_decide_eq_false hfk | simp only [decide_eq_true_eq, decide_eq_false_iff_not, dh1, dh0, ne_eq, reduceCtorEq] at hfk)); (try (exfalso; first | omega | contradiction | exact Bool.noConfusion (Eq.trans (Eq.symm hfk) (by with_reducible assumption : _ = false)) | exact Bool.noConfusion (Eq.trans (Eq.symm hfk) (by with_reducible assumption : _ = true)))))) | (refine And.intro ?ob ?_; (case ob => (first | exact Chk.mk (by kernel_rfl) | exact True.intro | with_reducible assumption | exact rng64 (by omega) (by omega) | omega | (dsimp only; omega) | (show (_ : Nat) ≤ _; omega) | (simp only [ll1, ll2, ll0]; done) | (simp only [ll1, ll2, ll0]; omega) | (dsimp only; simp only [ll1, ll2, ll0]; omega)))) | exact True.intro | (show _ = _; first | with_reducible rfl | with_reducible assumption | omega | (simp only [ll1, ll2, ll0]; omega) | (exact e.symm; done) | exact rfl) | with_reducible assumption | (apply And.intro) | omega | (intro j hj; exact rfl) | fail))
  · have e : storeC L tw th = imagesC L := if_pos hi
    (repeat' (first | (refine And.intro (fun (hfk : _ = true) => ?_) (fun (hfk : _ = false) => ?_) <;> ((try (first | replace hfk := of_decide_eq_true hfk | replace hfk := of_decide_eq_false hfk | simp only [decide_eq_true_eq, decide_eq_false_iff_not, dh1, dh0, ne_eq, reduceCtorEq] at hfk)); (try (exfalso; first | omega | contradiction | exact Bool.noConfusion (Eq.trans (Eq.symm hfk) (by with_reducible assumption : _ = false)) | exact Bool.noConfusion (Eq.trans (Eq.symm hfk) (by with_reducible assumption : _ = true)))))) | (refine And.intro ?ob ?_; (case ob => (first | exact Chk.mk (by kernel_rfl) | exact True.intro | with_reducible assumption | exact rng64 (by omega) (by omega) | omega | (dsimp only; omega) | (show (_ : Nat) ≤ _; omega) | (simp only [ll1, ll2, ll0]; done) | (simp only [ll1, ll2, ll0]; omega) | (dsimp only; simp only [ll1, ll2, ll0]; omega)))) | exact True.intro | (show _ = _; first | with_reducible rfl | with_reducible assumption | omega | (simp only [ll1, ll2, ll0]; omega) | (exact e.symm; done) | exact rfl) | with_reducible assumption | (apply And.intro) | omega | (intro j hj; exact rfl) | fail))
abbrev sNK (f : Int → AV) : PSpec := fun l => match l with | [.nilp, .int .i64 k] => some ([], f k) | _ => none
abbrev levelsN : PSpec := fun l => match l with | [.nilp] => some ([], .int .i64 0) | _ => none
theorem levelsN_s : SOK Try.prog 62 levelsN := by
  refine sok_of (C := mkC 0 [] noG) (mkC_ok pok_nil noG_ok) rfl mixed ⟨Try.func62, by kernel_rfl, by kernel_rfl, by kernel_rfl⟩ fun l obs v h ho => ?_
  unfold levelsN at h
  split at h <;> cases h
  refine ⟨Nat.le_of_ble_eq_true rfl, ?_⟩
  (repeat' (first | (refine And.intro (fun (hfk : _ = true) => ?_) (fun (hfk : _ = false) => ?_) <;> ((try (first | replace hfk := of_decide_eq_true hfk | replace hfk := of_decide_eq_false hfk | simp only [decide_eq_true_eq, decide_eq_false_iff_not, dh1, dh0, ne_eq, reduceCtorEq] at hfk)); (try (exfalso; first | omega | contradiction | exact Bool.noConfusion (Eq.trans (Eq.symm hfk) (by with_reducible assumption : _ = false)) | exact Bool.noConfusion (Eq.trans (Eq.symm hfk) (by with_reducible assumption : _ = true)))))) | (refine And.intro ?ob ?_; (case ob => (first | exact Chk.mk (by kernel_rfl) | exact True.intro | with_reducible assumption | exact rng64 (by omega) (by omega) | omega | (dsimp only; omega) | (show (_ : Nat) ≤ _; omega) | (simp only [ll1, ll2, ll0]; done) | (simp only [ll1, ll2, ll0]; omega) | (dsimp only; simp only [ll1, ll2, ll0]; omega)))) | exact True.intro | (show _ = _; first | with_reducible rfl | with_reducible assumption | omega | (simp only [ll1, ll2, ll0]; omega) | (skip; done) | exact rfl) | with_reducible assumption | (apply And.intro) | omega | (intro j hj; exact rfl) | fail))
theorem isN_s : SOK Try.prog 113 (sNK fun _ => .bool false) := by
  refine sok_of (C := mkC 0 [(62, levelsN)] noG) (mkC_ok (pok_cons levelsN_s pok_nil) noG_ok) rfl mixed ⟨Try.func113, by kernel_rfl, by kernel_rfl, by kernel_rfl⟩ fun l obs v h ho => ?_
  (unfold sNK at h; split at h; rotate_left; (focus (cases h)); rename_i k; simp only [Option.some.injEq, Prod.mk.injEq] at h; obtain ⟨rfl, rfl⟩ := h; simp only [List.mem_cons, List.not_mem_nil, or_false, forall_eq_or_imp, forall_eq, false_implies, implies_true] at ho)
  refine ⟨Nat.le_of_ble_eq_true rfl, ?_⟩
  by_cases h0 : 0 ≤ k
  · have e : decide (k < 0) = false := decide_eq_false (by omega)
    (repeat' (first | (refine And.intro (fun (hfk : _ = true) => ?_) (fun (hfk : _ = false) => ?_) <;> ((try (first | replace hfk := of_decide_eq_true hfk | replace hfk := of_decide_eq_false hfk | simp only [decide_eq_true_eq, decide_eq_false_iff_not, dh1, dh0, ne_eq, reduceCtorEq] at hfk)); (try (exfalso; first | omega | contradiction | exact Bool.noConfusion (Eq.trans (Eq.symm hfk) (by with_reducible assumption : _ = false)) | exact Bool.noConfusion (Eq.trans (Eq.symm hfk) (by with_reducible assumption : _ = true)))))) | (refine And.intro ?ob ?_; (case ob => (first | exact Chk.mk (by kernel_rfl) | exact True.intro | with_reducible assumption | exact rng64 (by omega) (by omega) | omega | (dsimp only; omega) | (show (_ : Nat) ≤ _; omega) | (simp only [ll1, ll2, ll0]; done) | (simp only [ll1, ll2, ll0]; omega) | (dsimp only; simp only [ll1, ll2, ll0]; omega)))) | exact True.intro | (show _ = _; first | with_reducible rfl | with_reducible assumption | omega | (simp only [ll1, ll2, ll0]; omega) | (exact e; done) | exact rfl) | with_reducible assumption | (apply And.intro) | omega | (intro j hj; exact rfl) | fail))
  · (repeat' (first | (refine And.intro (fun (hfk : _ = true) => ?_) (fun (hfk : _ = false) => ?_) <;> ((try (first | replace hfk := of_decide_eq_true hfk | replace hfk := of_decide_eq_false hfk | simp only [decide_eq_true_eq, decide_eq_false_iff_not, dh1, dh0, ne_eq, reduceCtorEq] at hfk)); (try (exfalso; first | omega | contradiction | exact Bool.noConfusion (Eq.trans (Eq.symm hfk) (by with_reducible assumption : _ = false)) | exact Bool.noConfusion (Eq.trans (Eq.symm hfk) (by with_reducible assumption : _ = true)))))) | (refine And.intro ?ob ?_; (case ob => (first | exact Chk.mk (by kernel_rfl) | exact True.intro | with_reducible assumption | exact rng64 (by omega) (by omega) | omega | (dsimp only; omega) | (show (_ : Nat) ≤ _; omega) | (simp only [ll1, ll2, ll0]; done) | (simp only [ll1, ll2, ll0]; omega) | (dsimp only; simp only [ll1, ll2, ll0]; omega)))) | exact True.intro | (show _ = _; first | with_reducible rfl | with_reducible assumption | omega | (simp only [ll1, ll2, ll0]; omega) | (skip; done) | exact rfl) | with_reducible assumption | (apply And.intro) | omega | (intro j hj; exact rfl) | fail))
theorem gridN_s : SOK Try.prog 111 (sNK fun _ => R4.zero.av) := by
  refine sok_of (C := mkC 0 [(113, sNK fun _ => .bool false)] noG) (mkC_ok (pok_cons isN_s pok_nil) noG_ok) rfl mixed ⟨Try.func111, by kernel_rfl, by kernel_rfl, by kernel_rfl⟩ fun l obs v h ho => ?_
  (unfold sNK at h; split at h; rotate_left; (focus (cases h)); rename_i k; simp only [Option.some.injEq, Prod.mk.injEq] at h; obtain ⟨rfl, rfl⟩ := h; simp only [List.mem_cons, List.not_mem_nil, or_false, forall_eq_or_imp, forall_eq, false_implies, implies_true] at ho)
  refine ⟨Nat.le_of_ble_eq_true rfl, ?_⟩
  (repeat' (first | (refine And.intro (fun (hfk : _ = true) => ?_) (fun (hfk : _ = false) => ?_) <;> ((try (first | replace hfk := of_decide_eq_true hfk | replace hfk := of_decide_eq_false hfk | simp only [decide_eq_true_eq, decide_eq_false_iff_not, dh1, dh0, ne_eq, reduceCtorEq] at hfk)); (try (exfalso; first | omega | contradiction | exact Bool.noConfusion (Eq.trans (Eq.symm hfk) (by with_reducible assumption : _ = false)) | exact Bool.noConfusion (Eq.trans (Eq.symm hfk) (by with_reducible assumption : _ = true)))))) | (refine And.intro ?ob ?_; (case ob => (first | exact Chk.mk (by kernel_rfl) | exact True.intro | with_reducible assumption | exact rng64 (by omega) (by omega) | omega | (dsimp only; omega) | (show (_ : Nat) ≤ _; omega) | (simp only [ll1, ll2, ll0]; done) | (simp only [ll1, ll2, ll0]; omega) | (dsimp only; simp only [ll1, ll2, ll0]; omega)))) | exact True.intro | (show _ = _; first | with_reducible rfl | with_reducible assumption | omega | (simp only [ll1, ll2, ll0]; omega) | (skip; done) | exact rfl) | with_reducible assumption | (apply And.intro) | omega | (intro j hj; exact rfl) | fail))
theorem gin_zero (x y : Int) : gin R4.zero x y = false := by
  unfold gin
  have : gcheck R4.zero ≠ 0 := by decide
  rw [decide_eq_false this, Bool.false_and]
abbrev tileN : PSpec := fun l => match l with | [.nilp, .int .i64 k, .int .i64 x, .int .i64 y] => some ([], .tup [.agg [.int .i64 0, .int .i64 0], .bool false]) | _ => none
theorem tileN_s : SOK Try.prog 49 tileN := by
  refine sok_of (C := mkC 0 [(111, sNK fun _ => R4.zero.av), (110, sRII fun g x y => .tup [.int .i64 (gof g x y), .bool (gin g x y)])] noG) (mkC_ok (pok_cons gridN_s (pok_cons gof_s pok_nil)) noG_ok) rfl mixed ⟨Try.func49, by kernel_rfl, by kernel_rfl, by kernel_rfl⟩ fun l obs v h ho => ?_
  (unfold tileN at h; split at h; rotate_left; (focus (cases h)); rename_i k x y; simp only [Option.some.injEq, Prod.mk.injEq] at h; obtain ⟨rfl, rfl⟩ := h; simp only [List.mem_cons, List.not_mem_nil, or_false, forall_eq_or_imp, forall_eq, false_implies, implies_true] at ho)
  refine ⟨Nat.le_of_ble_eq_true rfl, ?_⟩
  have e := gin_zero x y
  (repeat' (first | (refine And.intro (fun (hfk : _ = true) => ?_) (fun (hfk : _ = false) => ?_) <;> ((try (first | replace hfk := of_decide_eq_true hfk | replace hfk := of_decide_eq_false hfk | simp only [decide_eq_true_eq, decide_eq_false_iff_not, dh1, dh0, ne_eq, reduceCtorEq] at hfk)); (try (exfalso; first | omega | contradiction | exact Bool.noConfusion (Eq.trans (Eq.symm hfk) (by with_reducible assumption : _ = false)) | exact Bool.noConfusion (Eq.trans (Eq.symm hfk) (by with_reducible assumption : _ = true)))))) | (refine And.intro ?ob ?_; (case ob => (first | exact Chk.mk (by kernel_rfl) | exact True.intro | with_reducible assumption | exact rng64 (by omega) (by omega) | omega | (dsimp only; omega) | (show (_ : Nat) ≤ _; omega) | (simp only [ll1, ll2, ll0]; done) | (simp only [ll1, ll2, ll0]; omega) | (dsimp only; simp only [ll1, ll2, ll0]; omega)))) | exact True.intro | (show _ = _; first | with_reducible rfl | with_reducible assumption | omega | (simp only [ll1, ll2, ll0]; omega) | (skip; done) | exact rfl) | with_reducible assumption | (apply And.intro) | omega | (intro j hj; exact rfl) | fail))
def L41 : List Im := [⟨3, 3, 1, List.replicate 9 0⟩]
theorem alive41_s : SOK Try.prog 51 (sN (.bool true)) := by
  refine sok_of (C := mkC 0 [(55, tilesS41 L41)] (glook [(48, frzG (fG (newStF L41)))])) (mkC_ok (pok_cons (tiles41_s L41) pok_nil) (gl_cons (gfrz (newSt_g L41)) gl_nil)) rfl mixed ⟨Try.func51, by kernel_rfl, by kernel_rfl, by kernel_rfl⟩ fun l obs v h ho => ?_
  obtain ⟨rfl, rfl⟩ := sN_inv h
  refine ⟨Nat.le_of_ble_eq_true rfl, ?_⟩
  have k1 : storeC L41 2 2 = 0 := by decide
  have k2 : gcount (stG L41 2 2 0) = 4 := by decide
  have k3 : decide (gcount (stG L41 2 2 0) = 4) = true := decide_eq_true k2
  have k4 : L41.length ≤ 6 := by decide
  have e : (fun j => (fun j => (Lm L41 j).av) (0 + j)) = fun j => (Lm L41 j).av := funext fun j => by rw [Nat.zero_add]
  (repeat' (first | (refine And.intro (fun (hfk : _ = true) => ?_) (fun (hfk : _ = false) => ?_) <;> ((try (first | replace hfk := of_decide_eq_true hfk | replace hfk := of_decide_eq_false hfk | simp only [decide_eq_true_eq, decide_eq_false_iff_not, dh1, dh0, ne_eq, reduceCtorEq] at hfk)); (try (exfalso; first | omega | contradiction | exact Bool.noConfusion (Eq.trans (Eq.symm hfk) (by with_reducible assumption : _ = false)) | exact Bool.noConfusion (Eq.trans (Eq.symm hfk) (by with_reducible assumption : _ = true)))))) | (refine And.intro ?ob ?_; (case ob => (first | exact Chk.mk (by kernel_rfl) | exact True.intro | with_reducible assumption | exact rng64 (by omega) (by omega) | omega | (dsimp only; omega) | (show (_ : Nat) ≤ _; omega) | (simp only [ll1, ll2, ll0]; done) | (simp only [ll1, ll2, ll0]; omega) | (dsimp only; simp only [ll1, ll2, ll0]; omega)))) | exact True.intro | (show _ = _; first | with_reducible rfl | with_reducible assumption | omega | (simp only [ll1, ll2, ll0]; omega) | (skip; done) | exact rfl) | with_reducible assumption | (apply And.intro) | omega | (intro j hj; exact rfl) | fail))
  (refine ⟨[], ⟨by kernel_rfl⟩, ?_⟩)
  refine ⟨rfl, fun j hj => ?_, k4, k1, ?_⟩
  · obtain rfl : j = 0 := by omega
    rfl
  (repeat' (first | (refine And.intro (fun (hfk : _ = true) => ?_) (fun (hfk : _ = false) => ?_) <;> ((try (first | replace hfk := of_decide_eq_true hfk | replace hfk := of_decide_eq_false hfk | simp only [decide_eq_true_eq, decide_eq_false_iff_not, dh1, dh0, ne_eq, reduceCtorEq] at hfk)); (try (exfalso; first | omega | contradiction | exact Bool.noConfusion (Eq.trans (Eq.symm hfk) (by with_reducible assumption : _ = false)) | exact Bool.noConfusion (Eq.trans (Eq.symm hfk) (by with_reducible assumption : _ = true)))))) | (refine And.intro ?ob ?_; (case ob => (first | exact Chk.mk (by kernel_rfl) | exact True.intro | with_reducible assumption | exact rng64 (by omega) (by omega) | omega | (dsimp only; omega) | (show (_ : Nat) ≤ _; omega) | (simp only [ll1, ll2, ll0]; done) | (simp only [ll1, ll2, ll0]; omega) | (dsimp only; simp only [ll1, ll2, ll0]; omega)))) | exact True.intro | (show _ = _; first | with_reducible rfl | with_reducible assumption | omega | (simp only [ll1, ll2, ll0]; omega) | ((first | exact e | exact k3 | exact k3.symm); done) | exact rfl) | with_reducible assumption | (apply And.intro) | omega | (intro j hj; exact rfl) | fail))


theorem lenOK_of {L : List Im} {r : List AV} {W : World} {cl : List Value} (hc : CRel noN W NoO (imsA L :: r) cl) : LenOK L.length := by
  obtain ⟨h1, h2⟩ := hc
  cases cl with
  | nil => simp at h1
  | cons v cl =>
    have h : Rep noN W NoO (.ro 4 L.length (fun j => (L.getD j Im.z).av)) v := h2 0 _ v rfl rfl
    revert h
    generalize L.length = n
    generalize (fun j => (L.getD j Im.z).av) = get
    intro h
    cases h with
    | ronil => exact ⟨by omega⟩
    | ro _ _ _ b off c vals hn2 hc2 => exact ⟨by unfold maxLen at hc2; omega⟩
abbrev placesS : PSpec := fun l => match l with | [.agg [.int .i64 w, .int .i64 h, .int .i64 c, .roi .u8 p], .int .i64 tw, .int .i64 th] => some ([gcheck ⟨w, h, tw, th⟩ = 0], rectsA (tilesL ⟨w, h, tw, th⟩ (rN ⟨w, h, tw, th⟩))) | _ => none
theorem places41_s : SOK Try.prog 53 placesS := by
  refine sok_of (C := mkC 0 [(114, tilesS)] noG) (mkC_ok (pok_cons tiles_s pok_nil) noG_ok) rfl mixed ⟨Try.func53, by kernel_rfl, by kernel_rfl, by kernel_rfl⟩ fun l obs v h ho => ?_
  (unfold placesS at h; split at h; rotate_left; (focus (cases h)); rename_i w hh c p tw th; simp only [Option.some.injEq, Prod.mk.injEq] at h; obtain ⟨rfl, rfl⟩ := h; simp only [List.mem_cons, List.not_mem_nil, or_false, forall_eq_or_imp, forall_eq, false_implies, implies_true] at ho)
  refine ⟨Nat.le_of_ble_eq_true rfl, ?_⟩
  (repeat' (first | (refine And.intro (fun (hfk : _ = true) => ?_) (fun (hfk : _ = false) => ?_) <;> ((try (first | replace hfk := of_decide_eq_true hfk | replace hfk := of_decide_eq_false hfk | simp only [decide_eq_true_eq, decide_eq_false_iff_not, dh1, dh0, ne_eq, reduceCtorEq] at hfk)); (try (exfalso; first | omega | contradiction | exact Bool.noConfusion (Eq.trans (Eq.symm hfk) (by with_reducible assumption : _ = false)) | exact Bool.noConfusion (Eq.trans (Eq.symm hfk) (by with_reducible assumption : _ = true)))))) | (refine And.intro ?ob ?_; (case ob => (first | exact Chk.mk (by kernel_rfl) | exact True.intro | with_reducible assumption | exact rng64 (by omega) (by omega) | omega | (dsimp only; omega) | (show (_ : Nat) ≤ _; omega) | (simp only [ll1, ll2, ll0]; done) | (simp only [ll1, ll2, ll0]; omega) | (dsimp only; simp only [ll1, ll2, ll0]; omega)))) | exact True.intro | (show _ = _; first | with_reducible rfl | with_reducible assumption | omega | (simp only [ll1, ll2, ll0]; omega) | (skip; done) | exact rfl) | with_reducible assumption | (apply And.intro) | omega | (intro j hj; exact rfl) | fail))
theorem grid_ok {L : List Im} {tw th k : Int} (hs : storeC L tw th = 0) (hk : inL L k = true) : gcheck (stG L tw th k) = 0 ∧ gcheck ⟨(Lm L k.toNat).w, (Lm L k.toNat).h, tw, th⟩ = 0 := by
  obtain ⟨h1, h2, h3, h4, h5⟩ := storeC_ok hs
  obtain ⟨_, _, h6⟩ := imagesC_ok h1
  have hb := inL_iff.1 hk
  obtain ⟨hf, _⟩ := check_inv (h6 k.toNat (by omega)).1
  have hb := fits_inv hf
  rw [stG_in hk]
  have : gcheck ⟨(Lm L k.toNat).w, (Lm L k.toNat).h, tw, th⟩ = 0 := by
    unfold gcheck
    dsimp only
    rw [if_neg (by omega), if_neg (by omega), if_neg (by omega)]
  exact ⟨this, this⟩
def fndB (g : R4) (x y : Int) (i : Nat) : Bool := gin g x y && decide (gof g x y < (i : Int))
def wK (g : R4) (k x y : Int) (i : Nat) : Int := if fndB g x y i = true then k else 0
def wI (g : R4) (x y : Int) (i : Nat) : Int := if fndB g x y i = true then gof g x y else 0
theorem fnd_hit {g : R4} {x y : Int} {i : Nat} (h : gin g x y = true ∧ gof g x y = i) : fndB g x y (i + 1) = true := by
  unfold fndB
  rw [h.1, Bool.true_and]
  exact decide_eq_true (by omega)
theorem fnd_miss {g : R4} {x y : Int} {i : Nat} (h : ¬ (gin g x y = true ∧ gof g x y = i)) : fndB g x y (i + 1) = fndB g x y i := by
  unfold fndB
  cases hg : gin g x y with
  | false => rfl
  | true =>
    rw [Bool.true_and, Bool.true_and]
    have : gof g x y ≠ (i : Int) := fun k => h ⟨hg, k⟩
    exact decide_eq_decide.2 (by omega)
theorem walk_StorePlaces' (L : List Im) (s0 s1 p0 p1 p2 : Int) (W : World) {cl : List Value} (hc : CRel noN W NoO [imsA L, .agg [.int .i64 s0, .int .i64 s1], .agg [.int .i64 p0, .int .i64 p1, .int .i64 p2]] cl) :
    Calls Try.prog 11 cl.toArray W fun e W' => e = .returned (.bool true) ∧ Below W.heap.size W W' := by
  have hL := lenOK_of hc
  by_cases hfew : fewL L = true
  rotate_left
  · refine law_of (C := mkC 0 [(47, sIms L [LenOK L.length] (.bool (fewL L)))] noG)
      (mkC_ok (pok_cons (few41_s L) pok_nil) noG_ok) rfl ⟨Try.func11, by kernel_rfl, by kernel_rfl, by kernel_rfl⟩ (by exact Nat.le_of_ble_eq_true rfl) ?_ hc
    have hfew' : fewL L = false := Bool.eq_false_iff.2 hfew
    (repeat' (first | (refine And.intro (fun (hfk : _ = true) => ?_) (fun (hfk : _ = false) => ?_) <;> ((try (first | replace hfk := of_decide_eq_true hfk | replace hfk := of_decide_eq_false hfk | simp only [decide_eq_true_eq, decide_eq_false_iff_not, dh1, dh0, ne_eq, reduceCtorEq] at hfk)); (try (exfalso; first | omega | contradiction | exact Bool.noConfusion (Eq.trans (Eq.symm hfk) (by with_reducible assumption : _ = false)) | exact Bool.noConfusion (Eq.trans (Eq.symm hfk) (by with_reducible assumption : _ = true)))))) | (refine And.intro ?ob ?_; (case ob => (first | exact Chk.mk (by kernel_rfl) | exact True.intro | with_reducible assumption | exact rng64 (by omega) (by omega) | omega | (dsimp only; omega) | (show (_ : Nat) ≤ _; omega) | (simp only [ll1, ll2, ll0]; done) | (simp only [ll1, ll2, ll0]; omega) | (dsimp only; simp only [ll1, ll2, ll0]; omega)))) | exact True.intro | (show _ = _; first | with_reducible rfl | with_reducible assumption | omega | (simp only [ll1, ll2, ll0]; omega) | (skip; done) | exact rfl) | with_reducible assumption | (apply And.intro) | omega | (intro j hj; exact rfl) | fail))
  have h6 : L.length ≤ 6 := by
    unfold fewL at hfew
    rw [Bool.and_eq_true] at hfew
    exact of_decide_eq_true hfew.2
  by_cases hs : storeC L s0 s1 = 0
  rotate_left
  · refine law_of (C := mkC 0 [(47, sIms L [LenOK L.length] (.bool (fewL L))), (48, newStBad L), (49, tileN), (50, sIms2 L (fun _ _ => [LenOK L.length]) fun tw th => .int .i64 (storeC L tw th)), (51, sN (.bool true))] noG)
      (mkC_ok (pok_cons (few41_s L) (pok_cons (newStBad_s L) (pok_cons tileN_s (pok_cons (rcheck41_s L) (pok_cons alive41_s pok_nil))))) noG_ok) rfl ⟨Try.func11, by kernel_rfl, by kernel_rfl, by kernel_rfl⟩ (by exact Nat.le_of_ble_eq_true rfl) ?_ hc
    (repeat' (first | (refine And.intro (fun (hfk : _ = true) => ?_) (fun (hfk : _ = false) => ?_) <;> ((try (first | replace hfk := of_decide_eq_true hfk | replace hfk := of_decide_eq_false hfk | simp only [decide_eq_true_eq, decide_eq_false_iff_not, dh1, dh0, ne_eq, reduceCtorEq] at hfk)); (try (exfalso; first | omega | contradiction | exact Bool.noConfusion (Eq.trans (Eq.symm hfk) (by with_reducible assumption : _ = false)) | exact Bool.noConfusion (Eq.trans (Eq.symm hfk) (by with_reducible assumption : _ = true)))))) | (refine And.intro ?ob ?_; (case ob => (first | exact Chk.mk (by kernel_rfl) | exact True.intro | with_reducible assumption | exact rng64 (by omega) (by omega) | omega | (dsimp only; omega) | (show (_ : Nat) ≤ _; omega) | (simp only [ll1, ll2, ll0]; done) | (simp only [ll1, ll2, ll0]; omega) | (dsimp only; simp only [ll1, ll2, ll0]; omega)))) | exact True.intro | (show _ = _; first | with_reducible rfl | with_reducible assumption | omega | (simp only [ll1, ll2, ll0]; omega) | (skip; done) | exact rfl) | with_reducible assumption | (apply And.intro) | omega | (intro j hj; exact rfl) | fail))
  refine law_of (C := mkK 0 [(47, sIms L [LenOK L.length] (.bool (fewL L))), (48, newStOk L), (49, tileS41 L), (52, sizeS41 L), (55, tilesS41 L), (50, sIms2 L (fun _ _ => [LenOK L.length]) fun tw th => .int .i64 (storeC L tw th)), (53, placesS), (54, sRII fun r x y => .bool (r.rhas x y)), (51, sN (.bool true))] noG [14])
      (mkK_ok (pok_cons (few41_s L) (pok_cons (newStOk_s L) (pok_cons (tile41_s L) (pok_cons (size41_s L) (pok_cons (tiles41_s L) (pok_cons (rcheck41_s L) (pok_cons places41_s (pok_cons rhas_s (pok_cons alive41_s pok_nil))))))))) noG_ok) rfl ⟨Try.func11, by kernel_rfl, by kernel_rfl, by kernel_rfl⟩ (by exact Nat.le_of_ble_eq_true rfl) ?_ hc
  cases hk : inL L p0 with
  | false =>
    have hk' := inL_not.1 hk
    have eg : stG L s0 s1 p0 = R4.zero := stG_out hk
    have e0 : gin (stG L s0 s1 p0) p1 p2 = false := by rw [eg]; exact gin_zero _ _
    have e1 : tlK (stG L s0 s1 p0) p0 p1 p2 = 0 := if_neg (by rw [e0]; decide)
    have e2 : tlI (stG L s0 s1 p0) p1 p2 = 0 := if_neg (by rw [e0]; decide)
    have e3 : (decide (tlK (stG L s0 s1 p0) p0 p1 p2 = 0) && (decide (tlI (stG L s0 s1 p0) p1 p2 = 0) && true)) = true := by rw [e1, e2]; rfl
    (repeat' (first | (refine And.intro (fun (hfk : _ = true) => ?_) (fun (hfk : _ = false) => ?_) <;> ((try (first | replace hfk := of_decide_eq_true hfk | replace hfk := of_decide_eq_false hfk | simp only [decide_eq_true_eq, decide_eq_false_iff_not, dh1, dh0, ne_eq, reduceCtorEq] at hfk)); (try (exfalso; first | omega | contradiction | exact Bool.noConfusion (Eq.trans (Eq.symm hfk) (by with_reducible assumption : _ = false)) | exact Bool.noConfusion (Eq.trans (Eq.symm hfk) (by with_reducible assumption : _ = true)))))) | (refine And.intro ?ob ?_; (case ob => (first | exact Chk.mk (by kernel_rfl) | exact True.intro | with_reducible assumption | exact rng64 (by omega) (by omega) | omega | (dsimp only; omega) | (show (_ : Nat) ≤ _; omega) | (simp only [ll1, ll2, ll0]; done) | (simp only [ll1, ll2, ll0]; omega) | (dsimp only; simp only [ll1, ll2, ll0]; omega)))) | exact True.intro | (show _ = _; first | with_reducible rfl | with_reducible assumption | omega | (simp only [ll1, ll2, ll0]; omega) | ((first | exact e3 | exact e3.symm); done) | exact rfl) | with_reducible assumption | (apply And.intro) | omega | (intro j hj; exact rfl) | fail))
  | true =>
    have hk' := inL_iff.1 hk
    obtain ⟨g1, g2⟩ := grid_ok hs hk
    have eg : stG L s0 s1 p0 = ⟨(Lm L p0.toNat).w, (Lm L p0.toNat).h, s0, s1⟩ := stG_in hk
    have g3 : gcheck ⟨(L.getD p0.toNat Im.z).w, (L.getD p0.toNat Im.z).h, s0, s1⟩ = 0 := g2
    obtain ⟨G, hG⟩ : ∃ G, stG L s0 s1 p0 = G := ⟨_, rfl⟩
    have hG' : (⟨(L.getD p0.toNat Im.z).w, (L.getD p0.toNat Im.z).h, s0, s1⟩ : R4) = G := eg.symm.trans hG
    have gG : gcheck G = 0 := by rw [← hG]; exact g1
    obtain ⟨T, hT⟩ : ∃ T, tilesL G (rN G) = T := ⟨_, rfl⟩
    have hTl : T.length = rN G * cN G := by rw [← hT]; exact tilesL_len _ _
    have hcnt : gcount (stG L s0 s1 p0) = (T.length : Int) := by rw [hG, hTl, gcount_eq gG]
    have hTb : (T.length : Int) ≤ 1073741824 := by rw [← hcnt]; exact (gcount_bd _).2
    have hof : ∀ m, m < T.length → ((T.getD m .zero).rhas p1 p2 = true ↔ gin G p1 p2 = true ∧ gof G p1 p2 = (m : Int)) := fun m hm => by
      rw [R4.rhas_eq, ← hT]
      exact tile_of gG (by rw [← hTl]; exact hm)
    have hbd : gin G p1 p2 = true → 0 ≤ gof G p1 p2 ∧ gof G p1 p2 < (T.length : Int) := fun h => by rw [← hcnt, hG]; exact gof_bd h
    have hw : szW L p0 = (L.getD p0.toNat Im.z).w := if_pos hk
    have hh : szH L p0 = (L.getD p0.toNat Im.z).h := if_pos hk
    (repeat' (first | (refine And.intro (fun (hfk : _ = true) => ?_) (fun (hfk : _ = false) => ?_) <;> ((try (first | replace hfk := of_decide_eq_true hfk | replace hfk := of_decide_eq_false hfk | simp only [decide_eq_true_eq, decide_eq_false_iff_not, dh1, dh0, ne_eq, reduceCtorEq] at hfk)); (try (exfalso; first | omega | contradiction | exact Bool.noConfusion (Eq.trans (Eq.symm hfk) (by with_reducible assumption : _ = false)) | exact Bool.noConfusion (Eq.trans (Eq.symm hfk) (by with_reducible assumption : _ = true)))))) | (refine And.intro ?ob ?_; (case ob => (first | exact Chk.mk (by kernel_rfl) | exact True.intro | with_reducible assumption | exact rng64 (by omega) (by omega) | omega | (dsimp only; omega) | (show (_ : Nat) ≤ _; omega) | (simp only [ll1, ll2, ll0]; done) | (simp only [ll1, ll2, ll0]; omega) | (dsimp only; simp only [ll1, ll2, ll0]; omega)))) | exact True.intro | (show _ = _; first | with_reducible rfl | with_reducible assumption | omega | (simp only [ll1, ll2, ll0]; omega) | (skip; done) | exact rfl) | with_reducible assumption | (apply And.intro) | omega | (intro j hj; exact rfl) | fail))
    refine ⟨[(0, imsA L), (5, .ptr 0 0), (6, .fls), (7, .rop (.agg [.ro 4 L.length (fun j => (Lm L j).av), .int .i64 s0, .int .i64 s1, .int .i64 0])), (9, .ptr 1 0), (10, .bool (gin G p1 p2)), (12, .int .i64 p0), (13, .int .i64 (szW L p0)), (14, .int .i64 (szH L p0)), (15, rectsA T)],
      ⟨2, [(0, some (.cells 48 [.int .i64 p0, .int .i64 p1, .int .i64 p2])), (1, some (.cells 77 [.int .i64 (tlK G p0 p1 p2), .int .i64 (tlI G p1 p2)]))]⟩, [some 1, some 2], ?_, ?_⟩
    · (repeat' (first | (refine And.intro ?_ ?_) | exact True.intro | (show _ = _; with_reducible rfl) | exact Chk.mk (by kernel_rfl)))
      all_goals first
        | (intro j hj; rfl)
        | exact congrArg (fun g => gin g p1 p2) hG
        | exact congrArg (fun g => tlK g p0 p1 p2) hG
        | exact congrArg (fun g => tlI g p1 p2) hG
        | exact (congrArg (fun g => (tilesL g (rN g)).length) hG').trans (congrArg List.length hT)
        | (intro j hj; exact (congrArg (fun g => ((tilesL g (rN g)).getD j R4.zero).av) hG').trans (congrArg (fun t => (List.getD t j R4.zero).av) hT))
        | rfl
    have f0 : fndB G p1 p2 0 = false := by
      unfold fndB
      cases hgi : gin G p1 p2 with
      | false => rfl
      | true =>
        have := hbd hgi
        rw [Bool.true_and]
        exact decide_eq_false (by omega)
    have k0 : wK G p0 p1 p2 0 = 0 := if_neg (by rw [f0]; decide)
    have i0 : wI G p1 p2 0 = 0 := if_neg (by rw [f0]; decide)
    (repeat' (first | (refine And.intro (fun (hfk : _ = true) => ?_) (fun (hfk : _ = false) => ?_) <;> ((try (first | replace hfk := of_decide_eq_true hfk | replace hfk := of_decide_eq_false hfk | simp only [decide_eq_true_eq, decide_eq_false_iff_not, dh1, dh0, ne_eq, reduceCtorEq] at hfk)); (try (exfalso; first | omega | contradiction | exact Bool.noConfusion (Eq.trans (Eq.symm hfk) (by with_reducible assumption : _ = false)) | exact Bool.noConfusion (Eq.trans (Eq.symm hfk) (by with_reducible assumption : _ = true)))))) | (refine And.intro ?ob ?_; (case ob => (first | exact Chk.mk (by kernel_rfl) | exact True.intro | with_reducible assumption | exact rng64 (by omega) (by omega) | omega | (dsimp only; omega) | (show (_ : Nat) ≤ _; omega) | (simp only [ll1, ll2, ll0]; done) | (simp only [ll1, ll2, ll0]; omega) | (dsimp only; simp only [ll1, ll2, ll0]; omega)))) | exact True.intro | (show _ = _; first | with_reducible rfl | with_reducible assumption | omega | (simp only [ll1, ll2, ll0]; omega) | (skip; done) | exact rfl) | with_reducible assumption | (apply And.intro) | omega | (intro j hj; exact rfl) | fail))
    refine ⟨Nat, fun i => [(0, imsA L), (5, .ptr 0 0), (6, .fls), (7, .rop (.agg [.ro 4 L.length (fun j => (Lm L j).av), .int .i64 s0, .int .i64 s1, .int .i64 0])), (9, .ptr 1 0), (10, .bool (gin G p1 p2)), (12, .int .i64 p0), (13, .int .i64 (szW L p0)), (14, .int .i64 (szH L p0)), (15, rectsA T), (16, .ptr 2 0), (17, .bool (fndB G p1 p2 i)), (100, rectsA T), (101, .int .i64 (T.length : Int)), (102, .int .i64 (i : Int))],
      fun i => ⟨3, [(0, some (.cells 48 [.int .i64 p0, .int .i64 p1, .int .i64 p2])), (1, some (.cells 77 [.int .i64 (tlK G p0 p1 p2), .int .i64 (tlI G p1 p2)])), (2, some (.cells 77 [.int .i64 (wK G p0 p1 p2 i), .int .i64 (wI G p1 p2 i)]))]⟩,
      fun i => i ≤ T.length, fun i => T.length - i, ⟨0, [some 0, some 1, some 2], Nat.zero_le _, ?_⟩, fun i hi => ?_⟩
    · (repeat' (first | (refine And.intro ?_ ?_) | exact True.intro | (show _ = _; with_reducible rfl) | exact Chk.mk (by kernel_rfl)))
      all_goals first | (intro j hj; rfl) | exact f0.symm | exact k0.symm | exact i0.symm | rfl
    have hi : i ≤ T.length := hi
    by_cases hlt : i < T.length
    · by_cases hit : gin G p1 p2 = true ∧ gof G p1 p2 = (i : Int)
      · have hr : (T.getD (i : Int).toNat .zero).rhas p1 p2 = true := (hof i hlt).2 hit
        have f1 := fnd_hit hit
        have k1 : wK G p0 p1 p2 (i + 1) = p0 := if_pos f1
        have i1 : wI G p1 p2 (i + 1) = (i : Int) := (if_pos f1).trans hit.2
        (repeat' (first | (refine And.intro (fun (hfk : _ = true) => ?_) (fun (hfk : _ = false) => ?_) <;> ((try (first | replace hfk := of_decide_eq_true hfk | replace hfk := of_decide_eq_false hfk | simp only [decide_eq_true_eq, decide_eq_false_iff_not, dh1, dh0, ne_eq, reduceCtorEq] at hfk)); (try (exfalso; first | omega | contradiction | exact Bool.noConfusion (Eq.trans (Eq.symm hfk) (by with_reducible assumption : _ = false)) | exact Bool.noConfusion (Eq.trans (Eq.symm hfk) (by with_reducible assumption : _ = true)))))) | (refine And.intro ?ob ?_; (case ob => (first | exact Chk.mk (by kernel_rfl) | exact True.intro | with_reducible assumption | exact rng64 (by omega) (by omega) | omega | (dsimp only; omega) | (show (_ : Nat) ≤ _; omega) | (simp only [ll1, ll2, ll0]; done) | (simp only [ll1, ll2, ll0]; omega) | (dsimp only; simp only [ll1, ll2, ll0]; omega)))) | exact True.intro | (show _ = _; first | with_reducible rfl | with_reducible assumption | omega | (simp only [ll1, ll2, ll0]; omega) | (skip; done) | exact rfl) | with_reducible assumption | (apply And.intro) | omega | (intro j hj; exact rfl) | fail))
        (refine ⟨i + 1, [some 0, some 1, some 2], ?_, ?mu, ?_⟩; (case mu => ((try dsimp only); omega)))
        · exact hlt
        (repeat' (first | (refine And.intro ?_ ?_) | exact True.intro | (show _ = _; with_reducible rfl) | exact Chk.mk (by kernel_rfl)))
        all_goals first | (intro j hj; rfl) | exact f1.symm | exact k1.symm | exact i1.symm | (show (_ : Int) = _; omega) | rfl
      · have hr : (T.getD (i : Int).toNat .zero).rhas p1 p2 = false := Bool.eq_false_iff.2 fun k => hit ((hof i hlt).1 k)
        have f1 := fnd_miss hit
        have k1 : wK G p0 p1 p2 (i + 1) = wK G p0 p1 p2 i := by unfold wK; rw [f1]
        have i1 : wI G p1 p2 (i + 1) = wI G p1 p2 i := by unfold wI; rw [f1]
        (repeat' (first | (refine And.intro (fun (hfk : _ = true) => ?_) (fun (hfk : _ = false) => ?_) <;> ((try (first | replace hfk := of_decide_eq_true hfk | replace hfk := of_decide_eq_false hfk | simp only [decide_eq_true_eq, decide_eq_false_iff_not, dh1, dh0, ne_eq, reduceCtorEq] at hfk)); (try (exfalso; first | omega | contradiction | exact Bool.noConfusion (Eq.trans (Eq.symm hfk) (by with_reducible assumption : _ = false)) | exact Bool.noConfusion (Eq.trans (Eq.symm hfk) (by with_reducible assumption : _ = true)))))) | (refine And.intro ?ob ?_; (case ob => (first | exact Chk.mk (by kernel_rfl) | exact True.intro | with_reducible assumption | exact rng64 (by omega) (by omega) | omega | (dsimp only; omega) | (show (_ : Nat) ≤ _; omega) | (simp only [ll1, ll2, ll0]; done) | (simp only [ll1, ll2, ll0]; omega) | (dsimp only; simp only [ll1, ll2, ll0]; omega)))) | exact True.intro | (show _ = _; first | with_reducible rfl | with_reducible assumption | omega | (simp only [ll1, ll2, ll0]; omega) | (skip; done) | exact rfl) | with_reducible assumption | (apply And.intro) | omega | (intro j hj; exact rfl) | fail))
        (refine ⟨i + 1, [some 0, some 1, some 2], ?_, ?mu, ?_⟩; (case mu => ((try dsimp only); omega)))
        · exact hlt
        (repeat' (first | (refine And.intro ?_ ?_) | exact True.intro | (show _ = _; with_reducible rfl) | exact Chk.mk (by kernel_rfl)))
        all_goals first | (intro j hj; rfl) | exact f1.symm | exact k1.symm | exact i1.symm | (show (_ : Int) = _; omega) | rfl
    · obtain rfl : i = T.length := by omega
      have fN : fndB G p1 p2 T.length = gin G p1 p2 := by
        unfold fndB
        cases hgi : gin G p1 p2 with
        | false => rfl
        | true =>
          rw [Bool.true_and]
          exact decide_eq_true (hbd hgi).2
      have fN' := fN.symm
      have kN : tlK G p0 p1 p2 = wK G p0 p1 p2 T.length := by unfold tlK wK; rw [fN]
      have iN : tlI G p1 p2 = wI G p1 p2 T.length := by unfold tlI wI; rw [fN]
      have c1 : (decide (tlK G p0 p1 p2 = wK G p0 p1 p2 T.length) && (decide (tlI G p1 p2 = wI G p1 p2 T.length) && true)) = true := by rw [decide_eq_true kN, decide_eq_true iN]; rfl
      have c2 : (gin G p1 p2 == fndB G p1 p2 T.length) = true := by rw [fN]; exact beq_self_eq_true _
      (repeat' (first | (refine And.intro (fun (hfk : _ = true) => ?_) (fun (hfk : _ = false) => ?_) <;> ((try (first | replace hfk := of_decide_eq_true hfk | replace hfk := of_decide_eq_false hfk | simp only [decide_eq_true_eq, decide_eq_false_iff_not, dh1, dh0, ne_eq, reduceCtorEq] at hfk)); (try (exfalso; first | omega | contradiction | exact Bool.noConfusion (Eq.trans (Eq.symm hfk) (by with_reducible assumption : _ = false)) | exact Bool.noConfusion (Eq.trans (Eq.symm hfk) (by with_reducible assumption : _ = true)))))) | (refine And.intro ?ob ?_; (case ob => (first | exact Chk.mk (by kernel_rfl) | exact True.intro | with_reducible assumption | exact rng64 (by omega) (by omega) | omega | (dsimp only; omega) | (show (_ : Nat) ≤ _; omega) | (simp only [ll1, ll2, ll0]; done) | (simp only [ll1, ll2, ll0]; omega) | (dsimp only; simp only [ll1, ll2, ll0]; omega)))) | exact True.intro | (show _ = _; first | with_reducible rfl | with_reducible assumption | omega | (simp only [ll1, ll2, ll0]; omega) | ((first | exact c1 | exact c1.symm | exact c2 | exact c2.symm); done) | exact rfl) | with_reducible assumption | (apply And.intro) | omega | (intro j hj; exact rfl) | fail))
end Go.Proofs.Ytchhikfiofeckaa
