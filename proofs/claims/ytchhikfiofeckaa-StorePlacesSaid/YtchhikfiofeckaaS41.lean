
/- Stores of images: what the layer store, and the document, answer of images and of grids. No condition. -/
import Derived.Test.YtchhikfiofeckaaI8b
import Derived.Test.YtchhikfiofeckaaFi
import Derived.Test.YtchhikfiofeckaaU
import Derived.Test.YtchhikfiofeckaaE19
import Derived.Test.YtchhikfiofeckaaG9d
namespace Go.Proofs.Ytchhikfiofeckaa
open Go Go.RowKit
set_option linter.unusedVariables false
set_option linter.unusedSimpArgs false
set_option maxRecDepth 100000
set_option maxHeartbeats 4000000

abbrev Lm (L : List Im) (i : Nat) : Im := L.getD i Im.z
def imgC (L : List Im) (i : Nat) : Int := if imCheck (Lm L i).w (Lm L i).h (Lm L i).c (Lm L i).p.length ≠ 0 then imCheck (Lm L i).w (Lm L i).h (Lm L i).c (Lm L i).p.length else if (Lm L i).c ≠ (Lm L 0).c then 10 else 0
def imgsC (L : List Im) : Nat → Int
  | 0 => 0
  | i + 1 => if imgsC L i ≠ 0 then imgsC L i else imgC L i
theorem imgsC_keep {L : List Im} {i n : Nat} (h : imgsC L i ≠ 0) (hn : i ≤ n) : imgsC L n = imgsC L i := by
  induction n with
  | zero => obtain rfl : i = 0 := by omega
            rfl
  | succ n ih =>
    by_cases e : i = n + 1
    · rw [e]
    · have := ih (by omega)
      show (if imgsC L n ≠ 0 then imgsC L n else imgC L n) = imgsC L i
      rw [this, if_pos h]
theorem imgsC_all {L : List Im} : ∀ {n : Nat}, imgsC L n = 0 → ∀ j, j < n → imgC L j = 0
  | n + 1, h, j, hj => by
    have h0 : imgsC L n = 0 := Classical.byContradiction fun k => by
      have := imgsC_keep k (Nat.le_succ n)
      exact k (this ▸ h)
    by_cases e : j = n
    · subst e
      unfold imgsC at h
      rw [if_neg (fun k => k h0)] at h
      exact h
    · exact imgsC_all h0 j (by omega)
theorem imgsC_first {L : List Im} {i n : Nat} (h : imgsC L i = 0) (h1 : imgC L i ≠ 0) (hi : i < n) : imgsC L n = imgC L i := by
  have e : imgsC L (i + 1) = imgC L i := if_neg (fun k => k h)
  rw [← e]
  exact imgsC_keep (by rw [e]; exact h1) hi
theorem imgsC_next {L : List Im} {i : Nat} (h : imgsC L i = 0) (h1 : imgC L i = 0) : imgsC L (i + 1) = 0 := by
  unfold imgsC
  rw [if_neg (fun k => k h), h1]
theorem imgC_cases (L : List Im) (i : Nat) : (imgC L i = 0 ∧ imCheck (Lm L i).w (Lm L i).h (Lm L i).c (Lm L i).p.length = 0 ∧ (Lm L i).c = (Lm L 0).c) ∨
    (imCheck (Lm L i).w (Lm L i).h (Lm L i).c (Lm L i).p.length ≠ 0 ∧ imgC L i = imCheck (Lm L i).w (Lm L i).h (Lm L i).c (Lm L i).p.length) ∨
    (imCheck (Lm L i).w (Lm L i).h (Lm L i).c (Lm L i).p.length = 0 ∧ (Lm L i).c ≠ (Lm L 0).c ∧ imgC L i = 10) := by
  unfold imgC
  by_cases h : imCheck (Lm L i).w (Lm L i).h (Lm L i).c (Lm L i).p.length = 0
  · by_cases g : (Lm L i).c = (Lm L 0).c
    · exact .inl ⟨by rw [if_neg (fun k => k h), if_neg (fun k => k g)], h, g⟩
    · exact .inr (.inr ⟨h, g, by rw [if_neg (fun k => k h), if_pos g]⟩)
  · exact .inr (.inl ⟨h, if_pos h⟩)
def imagesC (L : List Im) : Int := if L.length = 0 then 60 else imgsC L L.length
theorem imagesC_ok {L : List Im} (h : imagesC L = 0) : 0 < L.length ∧ imgsC L L.length = 0 ∧ ∀ j, j < L.length → imCheck (Lm L j).w (Lm L j).h (Lm L j).c (Lm L j).p.length = 0 ∧ (Lm L j).c = (Lm L 0).c := by
  unfold imagesC at h
  split at h
  · omega
  · refine ⟨by omega, h, fun j hj => ?_⟩
    have := imgsC_all h j hj
    rcases imgC_cases L j with k | k | k
    · exact k.2
    · exact absurd (k.2 ▸ this) k.1
    · have := k.2.2; omega
/-- So many may be counted. -/
structure LenOK (n : Nat) : Prop where
  le : n ≤ 9223372036854775807
theorem LenOK.rng {n i : Nat} (h : LenOK n) (hi : i < n) : rngI .i64 ((i : Int) + 1) := by
  have := h.le
  exact rng64 (by omega) (by omega)
/-- A slice of images, whichever way it is read. -/
abbrev sIms (L : List Im) (ob : List Prop) (v : AV) : PSpec := fun l => match l with
  | [.ro 4 n get] => some ((n = L.length) :: (∀ j, j < n → get j = (Lm L j).av) :: ob, v) | _ => none
theorem sIms_inv {L : List Im} {ob : List Prop} {v : AV} {l : List AV} {obs : List Prop} {v' : AV} (h : sIms L ob v l = some (obs, v')) (ho : ∀ p ∈ obs, p) : ∃ get, l = [.ro 4 L.length get] ∧ (∀ j, j < L.length → get j = (Lm L j).av) ∧ v' = v ∧ ∀ p ∈ ob, p := by
  unfold sIms at h
  split at h
  · simp only [Option.some.injEq, Prod.mk.injEq] at h
    obtain ⟨rfl, rfl⟩ := h
    rename_i n get
    obtain rfl : n = L.length := ho (n = L.length) List.mem_cons_self
    exact ⟨_, rfl, ho (∀ j, j < L.length → get j = (Lm L j).av) (List.mem_cons_of_mem _ List.mem_cons_self), rfl, fun p hp => ho p (List.mem_cons_of_mem _ (List.mem_cons_of_mem _ hp))⟩
  · cases h
theorem rimages_s (L : List Im) : SOK Try.prog 112 (sIms L [LenOK L.length] (.int .i64 (imagesC L))) := by
  refine sok_of (C := mkK 0 [(22, checkS)] noG [0]) (mkK_ok (pok_cons rcheck7_s pok_nil) noG_ok) rfl mixed ⟨Try.func112, by kernel_rfl, by kernel_rfl, by kernel_rfl⟩ fun l obs v h ho => ?_
  obtain ⟨get, rfl, hg, rfl, hL⟩ := sIms_inv h ho
  have hL : LenOK L.length := hL _ List.mem_cons_self
  refine ⟨Nat.le_of_ble_eq_true rfl, ?_⟩
  refine ⟨[(0, imsA L), (2, .int .i64 0)], ⟨0, []⟩, [], ?_, ?_⟩
  · (repeat' (first | (refine And.intro ?_ ?_) | exact True.intro | (show _ = _; with_reducible rfl) | exact Chk.mk (by kernel_rfl)))
    exact hg
  by_cases h0 : L.length = 0
  · have e : imagesC L = 60 := if_pos h0
    (repeat' (first | (refine And.intro (fun (hfk : _ = true) => ?_) (fun (hfk : _ = false) => ?_) <;> ((try (first | replace hfk := of_decide_eq_true hfk | replace hfk := of_decide_eq_false hfk | simp only [decide_eq_true_eq, decide_eq_false_iff_not, dh1, dh0, ne_eq, reduceCtorEq] at hfk)); (try (exfalso; first | omega | contradiction | exact Bool.noConfusion (Eq.trans (Eq.symm hfk) (by with_reducible assumption : _ = false)) | exact Bool.noConfusion (Eq.trans (Eq.symm hfk) (by with_reducible assumption : _ = true)))))) | (refine And.intro ?ob ?_; (case ob => (first | exact Chk.mk (by kernel_rfl) | exact True.intro | with_reducible assumption | exact rng64 (by omega) (by omega) | omega | (dsimp only; omega) | (show (_ : Nat) ≤ _; omega) | (simp only [ll1, ll2, ll0]; done) | (simp only [ll1, ll2, ll0]; omega) | (dsimp only; simp only [ll1, ll2, ll0]; omega)))) | exact True.intro | (show _ = _; first | with_reducible rfl | with_reducible assumption | omega | (simp only [ll1, ll2, ll0]; omega) | (exact e.symm; done) | exact rfl) | with_reducible assumption | (apply And.intro) | omega | (intro j hj; exact rfl) | fail))
  have e : imagesC L = imgsC L L.length := if_neg h0
  (repeat' (first | (refine And.intro (fun (hfk : _ = true) => ?_) (fun (hfk : _ = false) => ?_) <;> ((try (first | replace hfk := of_decide_eq_true hfk | replace hfk := of_decide_eq_false hfk | simp only [decide_eq_true_eq, decide_eq_false_iff_not, dh1, dh0, ne_eq, reduceCtorEq] at hfk)); (try (exfalso; first | omega | contradiction | exact Bool.noConfusion (Eq.trans (Eq.symm hfk) (by with_reducible assumption : _ = false)) | exact Bool.noConfusion (Eq.trans (Eq.symm hfk) (by with_reducible assumption : _ = true)))))) | (refine And.intro ?ob ?_; (case ob => (first | exact Chk.mk (by kernel_rfl) | exact True.intro | with_reducible assumption | exact rng64 (by omega) (by omega) | omega | (dsimp only; omega) | (show (_ : Nat) ≤ _; omega) | (simp only [ll1, ll2, ll0]; done) | (simp only [ll1, ll2, ll0]; omega) | (dsimp only; simp only [ll1, ll2, ll0]; omega)))) | exact True.intro | (show _ = _; first | with_reducible rfl | with_reducible assumption | omega | (simp only [ll1, ll2, ll0]; omega) | (skip; done) | exact rfl) | with_reducible assumption | (apply And.intro) | omega | (intro j hj; exact rfl) | fail))
  refine ⟨Nat, fun i => [(0, imsA L), (2, .int .i64 0), (3, .int .i64 (i : Int))], fun i => ⟨0, []⟩, fun i => i ≤ L.length ∧ imgsC L i = 0, fun i => L.length - i, ⟨0, [], ⟨Nat.zero_le _, rfl⟩, ?_⟩, fun i hi => ?_⟩
  · (repeat' (first | (refine And.intro ?_ ?_) | exact True.intro | (show _ = _; with_reducible rfl) | exact Chk.mk (by kernel_rfl)))
    all_goals first | (intro j hj; rfl) | rfl
  obtain ⟨hi, hz⟩ := hi
  by_cases hlt : i < L.length
  · have hrr := hL.rng hlt
    have g1 : L.getD (i : Int).toNat Im.z = Lm L i := rfl
    rcases imgC_cases L i with ⟨k0, k1, k2⟩ | ⟨k1, k2⟩ | ⟨k1, k2, k3⟩
    · have k1' : imCheck (L.getD (i : Int).toNat Im.z).w (L.getD (i : Int).toNat Im.z).h (L.getD (i : Int).toNat Im.z).c (L.getD (i : Int).toNat Im.z).p.length = 0 := k1
      have k2' : (L.getD (i : Int).toNat Im.z).c = (L.getD (Int.toNat 0) Im.z).c := k2
      (repeat' (first | (refine And.intro (fun (hfk : _ = true) => ?_) (fun (hfk : _ = false) => ?_) <;> ((try (first | replace hfk := of_decide_eq_true hfk | replace hfk := of_decide_eq_false hfk | simp only [decide_eq_true_eq, decide_eq_false_iff_not, dh1, dh0, ne_eq, reduceCtorEq] at hfk)); (try (exfalso; first | omega | contradiction | exact Bool.noConfusion (Eq.trans (Eq.symm hfk) (by with_reducible assumption : _ = false)) | exact Bool.noConfusion (Eq.trans (Eq.symm hfk) (by with_reducible assumption : _ = true)))))) | (refine And.intro ?ob ?_; (case ob => (first | exact Chk.mk (by kernel_rfl) | exact True.intro | with_reducible assumption | exact rng64 (by omega) (by omega) | omega | (dsimp only; omega) | (show (_ : Nat) ≤ _; omega) | (simp only [ll1, ll2, ll0]; done) | (simp only [ll1, ll2, ll0]; omega) | (dsimp only; simp only [ll1, ll2, ll0]; omega)))) | exact True.intro | (show _ = _; first | with_reducible rfl | with_reducible assumption | omega | (simp only [ll1, ll2, ll0]; omega) | (skip; done) | exact rfl) | with_reducible assumption | (apply And.intro) | omega | (intro j hj; exact rfl) | fail))
      (refine ⟨i + 1, [], ?_, ?mu, ?_⟩; (case mu => ((try dsimp only); omega)))
      · exact ⟨hlt, imgsC_next hz k0⟩
      (repeat' (first | (refine And.intro ?_ ?_) | exact True.intro | (show _ = _; with_reducible rfl) | exact Chk.mk (by kernel_rfl)))
      all_goals first | (intro j hj; rfl) | (show (_ : Int) = _; omega) | rfl
    · have k1' : imCheck (L.getD (i : Int).toNat Im.z).w (L.getD (i : Int).toNat Im.z).h (L.getD (i : Int).toNat Im.z).c (L.getD (i : Int).toNat Im.z).p.length ≠ 0 := k1
      have e2 : imCheck (L.getD (i : Int).toNat Im.z).w (L.getD (i : Int).toNat Im.z).h (L.getD (i : Int).toNat Im.z).c (L.getD (i : Int).toNat Im.z).p.length = imagesC L := by
        rw [e, imgsC_first hz (by rw [k2]; exact k1) hlt, k2]; rfl
      (repeat' (first | (refine And.intro (fun (hfk : _ = true) => ?_) (fun (hfk : _ = false) => ?_) <;> ((try (first | replace hfk := of_decide_eq_true hfk | replace hfk := of_decide_eq_false hfk | simp only [decide_eq_true_eq, decide_eq_false_iff_not, dh1, dh0, ne_eq, reduceCtorEq] at hfk)); (try (exfalso; first | omega | contradiction | exact Bool.noConfusion (Eq.trans (Eq.symm hfk) (by with_reducible assumption : _ = false)) | exact Bool.noConfusion (Eq.trans (Eq.symm hfk) (by with_reducible assumption : _ = true)))))) | (refine And.intro ?ob ?_; (case ob => (first | exact Chk.mk (by kernel_rfl) | exact True.intro | with_reducible assumption | exact rng64 (by omega) (by omega) | omega | (dsimp only; omega) | (show (_ : Nat) ≤ _; omega) | (simp only [ll1, ll2, ll0]; done) | (simp only [ll1, ll2, ll0]; omega) | (dsimp only; simp only [ll1, ll2, ll0]; omega)))) | exact True.intro | (show _ = _; first | with_reducible rfl | with_reducible assumption | omega | (simp only [ll1, ll2, ll0]; omega) | (exact e2; done) | exact rfl) | with_reducible assumption | (apply And.intro) | omega | (intro j hj; exact rfl) | fail))
    · have k1' : imCheck (L.getD (i : Int).toNat Im.z).w (L.getD (i : Int).toNat Im.z).h (L.getD (i : Int).toNat Im.z).c (L.getD (i : Int).toNat Im.z).p.length = 0 := k1
      have k2' : ¬ (L.getD (i : Int).toNat Im.z).c = (L.getD (Int.toNat 0) Im.z).c := k2
      have e2 : (10 : Int) = imagesC L := by
        rw [e, imgsC_first hz (by rw [k3]; decide) hlt, k3]
      (repeat' (first | (refine And.intro (fun (hfk : _ = true) => ?_) (fun (hfk : _ = false) => ?_) <;> ((try (first | replace hfk := of_decide_eq_true hfk | replace hfk := of_decide_eq_false hfk | simp only [decide_eq_true_eq, decide_eq_false_iff_not, dh1, dh0, ne_eq, reduceCtorEq] at hfk)); (try (exfalso; first | omega | contradiction | exact Bool.noConfusion (Eq.trans (Eq.symm hfk) (by with_reducible assumption : _ = false)) | exact Bool.noConfusion (Eq.trans (Eq.symm hfk) (by with_reducible assumption : _ = true)))))) | (refine And.intro ?ob ?_; (case ob => (first | exact Chk.mk (by kernel_rfl) | exact True.intro | with_reducible assumption | exact rng64 (by omega) (by omega) | omega | (dsimp only; omega) | (show (_ : Nat) ≤ _; omega) | (simp only [ll1, ll2, ll0]; done) | (simp only [ll1, ll2, ll0]; omega) | (dsimp only; simp only [ll1, ll2, ll0]; omega)))) | exact True.intro | (show _ = _; first | with_reducible rfl | with_reducible assumption | omega | (simp only [ll1, ll2, ll0]; omega) | (exact e2; done) | exact rfl) | with_reducible assumption | (apply And.intro) | omega | (intro j hj; exact rfl) | fail))
  · have e2 : (0 : Int) = imagesC L := by
      have : i = L.length := by omega
      rw [e, ← this, hz]
    (repeat' (first | (refine And.intro (fun (hfk : _ = true) => ?_) (fun (hfk : _ = false) => ?_) <;> ((try (first | replace hfk := of_decide_eq_true hfk | replace hfk := of_decide_eq_false hfk | simp only [decide_eq_true_eq, decide_eq_false_iff_not, dh1, dh0, ne_eq, reduceCtorEq] at hfk)); (try (exfalso; first | omega | contradiction | exact Bool.noConfusion (Eq.trans (Eq.symm hfk) (by with_reducible assumption : _ = false)) | exact Bool.noConfusion (Eq.trans (Eq.symm hfk) (by with_reducible assumption : _ = true)))))) | (refine And.intro ?ob ?_; (case ob => (first | exact Chk.mk (by kernel_rfl) | exact True.intro | with_reducible assumption | exact rng64 (by omega) (by omega) | omega | (dsimp only; omega) | (show (_ : Nat) ≤ _; omega) | (simp only [ll1, ll2, ll0]; done) | (simp only [ll1, ll2, ll0]; omega) | (dsimp only; simp only [ll1, ll2, ll0]; omega)))) | exact True.intro | (show _ = _; first | with_reducible rfl | with_reducible assumption | omega | (simp only [ll1, ll2, ll0]; omega) | (exact e2; done) | exact rfl) | with_reducible assumption | (apply And.intro) | omega | (intro j hj; exact rfl) | fail))
def fewL (L : List Im) : Bool := decide (∀ j, j < L.length → (Lm L j).p.length ≤ 2000) && decide (L.length ≤ 6)
theorem few41_s (L : List Im) : SOK Try.prog 47 (sIms L [LenOK L.length] (.bool (fewL L))) := by
  refine sok_of (C := mkK 0 [(30, fewS)] noG [0]) (mkK_ok (pok_cons few_s pok_nil) noG_ok) rfl mixed ⟨Try.func47, by kernel_rfl, by kernel_rfl, by kernel_rfl⟩ fun l obs v h ho => ?_
  obtain ⟨get, rfl, hg, rfl, hL⟩ := sIms_inv h ho
  have hL : LenOK L.length := hL _ List.mem_cons_self
  refine ⟨Nat.le_of_ble_eq_true rfl, ?_⟩
  refine ⟨[(0, imsA L), (2, .fls)], ⟨0, []⟩, [], ?_, ?_⟩
  · (repeat' (first | (refine And.intro ?_ ?_) | exact True.intro | (show _ = _; with_reducible rfl) | exact Chk.mk (by kernel_rfl)))
    exact hg
  (repeat' (first | (refine And.intro (fun (hfk : _ = true) => ?_) (fun (hfk : _ = false) => ?_) <;> ((try (first | replace hfk := of_decide_eq_true hfk | replace hfk := of_decide_eq_false hfk | simp only [decide_eq_true_eq, decide_eq_false_iff_not, dh1, dh0, ne_eq, reduceCtorEq] at hfk)); (try (exfalso; first | omega | contradiction | exact Bool.noConfusion (Eq.trans (Eq.symm hfk) (by with_reducible assumption : _ = false)) | exact Bool.noConfusion (Eq.trans (Eq.symm hfk) (by with_reducible assumption : _ = true)))))) | (refine And.intro ?ob ?_; (case ob => (first | exact Chk.mk (by kernel_rfl) | exact True.intro | with_reducible assumption | exact rng64 (by omega) (by omega) | omega | (dsimp only; omega) | (show (_ : Nat) ≤ _; omega) | (simp only [ll1, ll2, ll0]; done) | (simp only [ll1, ll2, ll0]; omega) | (dsimp only; simp only [ll1, ll2, ll0]; omega)))) | exact True.intro | (show _ = _; first | with_reducible rfl | with_reducible assumption | omega | (simp only [ll1, ll2, ll0]; omega) | (skip; done) | exact rfl) | with_reducible assumption | (apply And.intro) | omega | (intro j hj; exact rfl) | fail))
  refine ⟨Nat, fun i => [(0, imsA L), (2, .fls), (5, imsA L), (6, .int .i64 (L.length : Int)), (7, .int .i64 (i : Int))], fun i => ⟨0, []⟩, fun i => i ≤ L.length ∧ ∀ j, j < i → (Lm L j).p.length ≤ 2000, fun i => L.length - i, ⟨0, [], ⟨Nat.zero_le _, fun j hj => by omega⟩, ?_⟩, fun i hi => ?_⟩
  · (repeat' (first | (refine And.intro ?_ ?_) | exact True.intro | (show _ = _; with_reducible rfl) | exact Chk.mk (by kernel_rfl)))
    all_goals first | (intro j hj; rfl) | rfl
  obtain ⟨hi, hz⟩ := hi
  by_cases hlt : i < L.length
  · have hrr := hL.rng hlt
    by_cases hs : (Lm L i).p.length ≤ 2000
    · have hs' : ((L.getD (i : Int).toNat Im.z).p.length : Int) ≤ 2000 := by have : (L.getD (i : Int).toNat Im.z).p.length ≤ 2000 := hs; omega
      (repeat' (first | (refine And.intro (fun (hfk : _ = true) => ?_) (fun (hfk : _ = false) => ?_) <;> ((try (first | replace hfk := of_decide_eq_true hfk | replace hfk := of_decide_eq_false hfk | simp only [decide_eq_true_eq, decide_eq_false_iff_not, dh1, dh0, ne_eq, reduceCtorEq] at hfk)); (try (exfalso; first | omega | contradiction | exact Bool.noConfusion (Eq.trans (Eq.symm hfk) (by with_reducible assumption : _ = false)) | exact Bool.noConfusion (Eq.trans (Eq.symm hfk) (by with_reducible assumption : _ = true)))))) | (refine And.intro ?ob ?_; (case ob => (first | exact Chk.mk (by kernel_rfl) | exact True.intro | with_reducible assumption | exact rng64 (by omega) (by omega) | omega | (dsimp only; omega) | (show (_ : Nat) ≤ _; omega) | (simp only [ll1, ll2, ll0]; done) | (simp only [ll1, ll2, ll0]; omega) | (dsimp only; simp only [ll1, ll2, ll0]; omega)))) | exact True.intro | (show _ = _; first | with_reducible rfl | with_reducible assumption | omega | (simp only [ll1, ll2, ll0]; omega) | (skip; done) | exact rfl) | with_reducible assumption | (apply And.intro) | omega | (intro j hj; exact rfl) | fail))
      (refine ⟨i + 1, [], ?_, ?mu, ?_⟩; (case mu => ((try dsimp only); omega)))
      · refine ⟨hlt, fun j hj => ?_⟩
        by_cases e : j = i
        · rw [e]; exact hs
        · exact hz j (by omega)
      (repeat' (first | (refine And.intro ?_ ?_) | exact True.intro | (show _ = _; with_reducible rfl) | exact Chk.mk (by kernel_rfl)))
      all_goals first | (intro j hj; rfl) | (show (_ : Int) = _; omega) | rfl
    · have hs' : ¬ ((L.getD (i : Int).toNat Im.z).p.length : Int) ≤ 2000 := by have : ¬ (L.getD (i : Int).toNat Im.z).p.length ≤ 2000 := hs; omega
      have e : fewL L = false := by
        unfold fewL
        rw [decide_eq_false (fun k => hs (k i hlt))]; rfl
      (repeat' (first | (refine And.intro (fun (hfk : _ = true) => ?_) (fun (hfk : _ = false) => ?_) <;> ((try (first | replace hfk := of_decide_eq_true hfk | replace hfk := of_decide_eq_false hfk | simp only [decide_eq_true_eq, decide_eq_false_iff_not, dh1, dh0, ne_eq, reduceCtorEq] at hfk)); (try (exfalso; first | omega | contradiction | exact Bool.noConfusion (Eq.trans (Eq.symm hfk) (by with_reducible assumption : _ = false)) | exact Bool.noConfusion (Eq.trans (Eq.symm hfk) (by with_reducible assumption : _ = true)))))) | (refine And.intro ?ob ?_; (case ob => (first | exact Chk.mk (by kernel_rfl) | exact True.intro | with_reducible assumption | exact rng64 (by omega) (by omega) | omega | (dsimp only; omega) | (show (_ : Nat) ≤ _; omega) | (simp only [ll1, ll2, ll0]; done) | (simp only [ll1, ll2, ll0]; omega) | (dsimp only; simp only [ll1, ll2, ll0]; omega)))) | exact True.intro | (show _ = _; first | with_reducible rfl | with_reducible assumption | omega | (simp only [ll1, ll2, ll0]; omega) | (exact e.symm; done) | exact rfl) | with_reducible assumption | (apply And.intro) | omega | (intro j hj; exact rfl) | fail))
  · have e : decide ((L.length : Int) ≤ 6) = fewL L := by
      unfold fewL
      rw [decide_eq_true (fun j hj => hz j (by omega)), Bool.true_and]
      exact decide_eq_decide.2 (by omega)
    (repeat' (first | (refine And.intro (fun (hfk : _ = true) => ?_) (fun (hfk : _ = false) => ?_) <;> ((try (first | replace hfk := of_decide_eq_true hfk | replace hfk := of_decide_eq_false hfk | simp only [decide_eq_true_eq, decide_eq_false_iff_not, dh1, dh0, ne_eq, reduceCtorEq] at hfk)); (try (exfalso; first | omega | contradiction | exact Bool.noConfusion (Eq.trans (Eq.symm hfk) (by with_reducible assumption : _ = false)) | exact Bool.noConfusion (Eq.trans (Eq.symm hfk) (by with_reducible assumption : _ = true)))))) | (refine And.intro ?ob ?_; (case ob => (first | exact Chk.mk (by kernel_rfl) | exact True.intro | with_reducible assumption | exact rng64 (by omega) (by omega) | omega | (dsimp only; omega) | (show (_ : Nat) ≤ _; omega) | (simp only [ll1, ll2, ll0]; done) | (simp only [ll1, ll2, ll0]; omega) | (dsimp only; simp only [ll1, ll2, ll0]; omega)))) | exact True.intro | (show _ = _; first | with_reducible rfl | with_reducible assumption | omega | (simp only [ll1, ll2, ll0]; omega) | (exact e; done) | exact rfl) | with_reducible assumption | (apply And.intro) | omega | (intro j hj; exact rfl) | fail))
def storeC (L : List Im) (tw th : Int) : Int := if imagesC L ≠ 0 then imagesC L else if tw < 1 ∨ 4096 < tw ∨ th < 1 ∨ 4096 < th then 10 else 0
abbrev sIms2 (L : List Im) (ob : Int → Int → List Prop) (f : Int → Int → AV) : PSpec := fun l => match l with
  | [.ro 4 n get, .int .i64 tw, .int .i64 th] => some ((n = L.length) :: (∀ j, j < n → get j = (Lm L j).av) :: ob tw th, f tw th) | _ => none
theorem sIms2_inv {L : List Im} {ob : Int → Int → List Prop} {f : Int → Int → AV} {l : List AV} {obs : List Prop} {v' : AV} (h : sIms2 L ob f l = some (obs, v')) (ho : ∀ p ∈ obs, p) : ∃ get tw th, l = [.ro 4 L.length get, .int .i64 tw, .int .i64 th] ∧ (∀ j, j < L.length → get j = (Lm L j).av) ∧ v' = f tw th ∧ ∀ p ∈ ob tw th, p := by
  unfold sIms2 at h
  split at h
  · simp only [Option.some.injEq, Prod.mk.injEq] at h
    obtain ⟨rfl, rfl⟩ := h
    rename_i n get tw th
    obtain rfl : n = L.length := ho (n = L.length) List.mem_cons_self
    exact ⟨_, _, _, rfl, ho (∀ j, j < L.length → get j = (Lm L j).av) (List.mem_cons_of_mem _ List.mem_cons_self), rfl, fun p hp => ho p (List.mem_cons_of_mem _ (List.mem_cons_of_mem _ hp))⟩
  · cases h
theorem rcheck41_s (L : List Im) : SOK Try.prog 50 (sIms2 L (fun _ _ => [LenOK L.length]) fun tw th => .int .i64 (storeC L tw th)) := by
  refine sok_of (C := mkK 0 [(112, sIms L [LenOK L.length] (.int .i64 (imagesC L)))] noG [0]) (mkK_ok (pok_cons (rimages_s L) pok_nil) noG_ok) rfl mixed ⟨Try.func50, by kernel_rfl, by kernel_rfl, by kernel_rfl⟩ fun l obs v h ho => ?_
  obtain ⟨get, tw, th, rfl, hg, rfl, hL⟩ := sIms2_inv h ho
  have hL : LenOK L.length := hL _ List.mem_cons_self
  refine ⟨Nat.le_of_ble_eq_true rfl, ?_⟩
  refine ⟨[(0, imsA L), (1, .int .i64 tw), (2, .int .i64 th), (6, .int .i64 0)], ⟨0, []⟩, [], ?_, ?_⟩
  · (repeat' (first | (refine And.intro ?_ ?_) | exact True.intro | (show _ = _; with_reducible rfl) | exact Chk.mk (by kernel_rfl)))
    exact hg
  by_cases hk : imagesC L = 0
  · by_cases ht : tw < 1 ∨ 4096 < tw ∨ th < 1 ∨ 4096 < th
    · have e : storeC L tw th = 10 := by unfold storeC; rw [if_neg (fun k => k hk), if_pos ht]
      (repeat' (first | (refine And.intro (fun (hfk : _ = true) => ?_) (fun (hfk : _ = false) => ?_) <;> ((try (first | replace hfk := of_decide_eq_true hfk | replace hfk := of_decide_eq_false hfk | simp only [decide_eq_true_eq, decide_eq_false_iff_not, dh1, dh0, ne_eq, reduceCtorEq] at hfk)); (try (exfalso; first | omega | contradiction | exact Bool.noConfusion (Eq.trans (Eq.symm hfk) (by with_reducible assumption : _ = false)) | exact Bool.noConfusion (Eq.trans (Eq.symm hfk) (by with_reducible assumption : _ = true)))))) | (refine And.intro ?ob ?_; (case ob => (first | exact Chk.mk (by kernel_rfl) | exact True.intro | with_reducible assumption | exact rng64 (by omega) (by omega) | omega | (dsimp only; omega) | (show (_ : Nat) ≤ _; omega) | (simp only [ll1, ll2, ll0]; done) | (simp only [ll1, ll2, ll0]; omega) | (dsimp only; simp only [ll1, ll2, ll0]; omega)))) | exact True.intro | (show _ = _; first | with_reducible rfl | with_reducible assumption | omega | (simp only [ll1, ll2, ll0]; omega) | (exact e.symm; done) | exact rfl) | with_reducible assumption | (apply And.intro) | omega | (intro j hj; exact rfl) | fail))
    · have e : storeC L tw th = 0 := by unfold storeC; rw [if_neg (fun k => k hk), if_neg ht]
      (repeat' (first | (refine And.intro (fun (hfk : _ = true) => ?_) (fun (hfk : _ = false) => ?_) <;> ((try (first | replace hfk := of_decide_eq_true hfk | replace hfk := of_decide_eq_false hfk | simp only [decide_eq_true_eq, decide_eq_false_iff_not, dh1, dh0, ne_eq, reduceCtorEq] at hfk)); (try (exfalso; first | omega | contradiction | exact Bool.noConfusion (Eq.trans (Eq.symm hfk) (by with_reducible assumption : _ = false)) | exact Bool.noConfusion (Eq.trans (Eq.symm hfk) (by with_reducible assumption : _ = true)))))) | (refine And.intro ?ob ?_; (case ob => (first | exact Chk.mk (by kernel_rfl) | exact True.intro | with_reducible assumption | exact rng64 (by omega) (by omega) | omega | (dsimp only; omega) | (show (_ : Nat) ≤ _; omega) | (simp only [ll1, ll2, ll0]; done) | (simp only [ll1, ll2, ll0]; omega) | (dsimp only; simp only [ll1, ll2, ll0]; omega)))) | exact True.intro | (show _ = _; first | with_reducible rfl | with_reducible assumption | omega | (simp only [ll1, ll2, ll0]; omega) | (exact e.symm; done) | exact rfl) | with_reducible assumption | (apply And.intro) | omega | (intro j hj; exact rfl) | fail))
  · have e : storeC L tw th = imagesC L := if_pos hk
    (repeat' (first | (refine And.intro (fun (hfk : _ = true) => ?_) (fun (hfk : _ = false) => ?_) <;> ((try (first | replace hfk := of_decide_eq_true hfk | replace hfk := of_decide_eq_false hfk | simp only [decide_eq_true_eq, decide_eq_false_iff_not, dh1, dh0, ne_eq, reduceCtorEq] at hfk)); (try (exfalso; first | omega | contradiction | exact Bool.noConfusion (Eq.trans (Eq.symm hfk) (by with_reducible assumption : _ = false)) | exact Bool.noConfusion (Eq.trans (Eq.symm hfk) (by with_reducible assumption : _ = true)))))) | (refine And.intro ?ob ?_; (case ob => (first | exact Chk.mk (by kernel_rfl) | exact True.intro | with_reducible assumption | exact rng64 (by omega) (by omega) | omega | (dsimp only; omega) | (show (_ : Nat) ≤ _; omega) | (simp only [ll1, ll2, ll0]; done) | (simp only [ll1, ll2, ll0]; omega) | (dsimp only; simp only [ll1, ll2, ll0]; omega)))) | exact True.intro | (show _ = _; first | with_reducible rfl | with_reducible assumption | omega | (simp only [ll1, ll2, ll0]; omega) | (exact e.symm; done) | exact rfl) | with_reducible assumption | (apply And.intro) | omega | (intro j hj; exact rfl) | fail))
end Go.Proofs.Ytchhikfiofeckaa
