
/- Several images as one: what the document's Join and the layer tint's answer. No condition. -/
import Derived.Test.YtjnkjjojkfemoaaT11
namespace Go.Proofs.Ytjnkjjojkfemoaa
open Go Go.RowKit
set_option linter.unusedVariables false
set_option linter.unusedSimpArgs false
set_option maxRecDepth 100000

def Lg (L : List Im) (i : Nat) : Im := L.getD i Im.z
abbrev imsG (L : List Im) : AV := .ro 4 L.length (fun j => (Lg L j).av)
def badC (L : List Im) : Nat → Int
  | 0 => 0
  | i + 1 => if badC L i ≠ 0 then badC L i else oneC (Lg L i) (Lg L 0)
theorem badC_keep {L : List Im} {i n : Nat} (h : badC L i ≠ 0) (hn : i ≤ n) : badC L n = badC L i := by
  induction hn with
  | refl => rfl
  | step _ ih =>
    show (if badC L _ ≠ 0 then badC L _ else _) = _
    rw [if_pos (by rw [ih]; exact h), ih]
theorem badC_all {L : List Im} : ∀ {n : Nat}, badC L n = 0 → ∀ j, j < n → oneC (Lg L j) (Lg L 0) = 0
  | 0, _, j, h => by omega
  | n + 1, h, j, hj => by
    have h1 : (if badC L n ≠ 0 then badC L n else oneC (Lg L n) (Lg L 0)) = 0 := h
    by_cases h2 : badC L n = 0
    · rw [if_neg (by simp [h2])] at h1
      by_cases hjn : j = n
      · subst hjn; exact h1
      · exact badC_all h2 j (by omega)
    · rw [if_pos h2] at h1; exact absurd h1 h2
def joinC (L : List Im) : Int := if L.length = 1 ∨ L.length = 3 ∨ L.length = 4 then badC L L.length else 10
def joinN (L : List Im) : Nat := (Lg L 0).p.length * L.length
def joinP (L : List Im) (p : Nat) : Int := (Lg L (p % L.length)).p.getD (p / L.length) 0
def joinL (L : List Im) (i : Nat) : List Int := (List.range i).map (joinP L)
theorem joinL_len (L : List Im) (i : Nat) : (joinL L i).length = i := by simp [joinL]
theorem joinL_succ (L : List Im) (i : Nat) : joinL L (i + 1) = joinL L i ++ [joinP L i] := by simp [joinL, List.range_succ]
def joinA (L : List Im) : AV := if joinC L = 0 then imA (Lg L 0).w (Lg L 0).h L.length (joinL L (joinN L)) else imA 0 0 0 []
abbrev joinS (L : List Im) : PSpec := fun l => match l with
  | [.ro 4 n get] => some ([n = L.length, ∀ j, j < n → get j = (Lg L j).av], .tup [joinA L, .int .i64 (joinC L)]) | _ => none
theorem one_cases (m v : Im) : (oneC m v = 0 ∧ imCheck m.w m.h m.c m.p.length = 0 ∧ m.c = 1 ∧ m.w = v.w ∧ m.h = v.h) ∨
    (oneC m v = imCheck m.w m.h m.c m.p.length ∧ imCheck m.w m.h m.c m.p.length ≠ 0) ∨ (oneC m v = 10 ∧ imCheck m.w m.h m.c m.p.length = 0 ∧ m.c ≠ 1) ∨
    (oneC m v = 12 ∧ imCheck m.w m.h m.c m.p.length = 0 ∧ m.c = 1 ∧ m.w ≠ v.w) ∨ (oneC m v = 12 ∧ imCheck m.w m.h m.c m.p.length = 0 ∧ m.c = 1 ∧ m.w = v.w ∧ m.h ≠ v.h) := by
  unfold oneC
  generalize imCheck m.w m.h m.c m.p.length = z
  (repeat' split) <;> omega
structure JoinOK (L : List Im) : Prop where
  n : L.length = 1 ∨ L.length = 3 ∨ L.length = 4
  f : fitsI (Lg L 0).w (Lg L 0).h L.length = 0
  c : ∀ j, j < L.length → (Lg L j).p.length = (Lg L 0).p.length
  l : ((Lg L 0).p.length : Int) = (Lg L 0).w * (Lg L 0).h
  m : (Lg L 0).p.length ≤ 4194304
theorem join_ok {L : List Im} (hn : L.length = 1 ∨ L.length = 3 ∨ L.length = 4) (h : badC L L.length = 0) : JoinOK L := by
  have ha := badC_all h
  have one : ∀ j, j < L.length → imCheck (Lg L j).w (Lg L j).h (Lg L j).c (Lg L j).p.length = 0 ∧ (Lg L j).c = 1 ∧ (Lg L j).w = (Lg L 0).w ∧ (Lg L j).h = (Lg L 0).h := by
    intro j hj
    have h0 := ha j hj
    rcases one_cases (Lg L j) (Lg L 0) with ⟨_, k⟩ | ⟨e, k⟩ | ⟨e, k⟩ | ⟨e, k⟩ | ⟨e, k⟩
    · exact k
    · rw [e] at h0; exact absurd h0 k
    all_goals (rw [e] at h0; exact absurd h0 (by decide))
  have z := one 0 (by omega)
  have zc := check_inv z.1
  have zf := fits_inv zc.1
  rw [z.2.1] at zc
  have l0 : ((Lg L 0).p.length : Int) = (Lg L 0).w * (Lg L 0).h := by rw [zc.2]; omega
  refine ⟨hn, ?_, fun j hj => ?_, l0, by omega⟩
  · have := zc.1
    unfold fitsI at this ⊢
    rcases hn with h | h | h <;> (rw [h]; simpa using this)
  · have k := one j hj
    have kc := check_inv k.1
    rw [k.2.1, k.2.2.1, k.2.2.2] at kc
    have := kc.2
    omega
abbrev joinBadS (L : List Im) : PSpec := fun l => match l with
  | [.ro 4 n get] => some ([n = L.length, ∀ j, j < n → get j = (Lg L j).av, L.length ≤ 1152921504606846975, joinC L ≠ 0], .tup [imA 0 0 0 [], .int .i64 (joinC L)]) | _ => none
def joinF (L : List Im) : FSpec := fun l es => match l, es with
  | [.ro 4 n get], [] => some ([n = L.length, ∀ j, j < n → get j = (Lg L j).av, L.length ≤ 1152921504606846975, joinC L = 0], .tup [.agg [.int .i64 (Lg L 0).w, .int .i64 (Lg L 0).h, .int .i64 L.length, .sl 0 1 0 (joinN L)], .int .i64 0], [some (.ints 5 .u8 (joinL L (joinN L)))])
  | _, _ => none
theorem badC_first {L : List Im} {i : Nat} (h : badC L i = 0) (h1 : oneC (Lg L i) (Lg L 0) ≠ 0) (hi : i < L.length) : badC L L.length = oneC (Lg L i) (Lg L 0) := by
  have e : badC L (i + 1) = oneC (Lg L i) (Lg L 0) := by
    show (if badC L i ≠ 0 then badC L i else _) = _
    rw [if_neg (by omega)]
  rw [← e]
  exact badC_keep (by rw [e]; exact h1) hi
theorem badC_next {L : List Im} {i : Nat} (h : badC L i = 0) (h1 : oneC (Lg L i) (Lg L 0) = 0) : badC L (i + 1) = 0 := by
  show (if badC L i ≠ 0 then badC L i else _) = _
  rw [if_neg (by omega)]
  exact h1
set_option maxHeartbeats 4000000 in
theorem joinBad_s (L : List Im) : SOK Try.prog 33 (joinBadS L) := by
  refine sok_of (C := mkK 0 [(86, oneS)] noG [0]) (mkK_ok (pok_cons one_s pok_nil) noG_ok) rfl mixed ⟨Try.func33, by kernel_rfl, by kernel_rfl, by kernel_rfl⟩ fun l obs v h ho => ?_
  (unfold joinBadS at h; split at h; rotate_left; (focus (cases h)); rename_i n get; simp only [Option.some.injEq, Prod.mk.injEq] at h; obtain ⟨rfl, rfl⟩ := h; simp only [List.mem_cons, List.not_mem_nil, or_false, forall_eq_or_imp, forall_eq, false_implies, implies_true] at ho)
  obtain ⟨rfl, hg, hL, hC⟩ := ho
  refine ⟨Nat.le_of_ble_eq_true rfl, ?_⟩

  refine ⟨[(0, imsG L), (2, .ptr 0 0), (3, .int .i64 0)], ⟨1, [(0, some (.cells 33 [.int .i64 0, .int .i64 0, .int .i64 0, .nils]))]⟩, [some 0], ?_, ?_⟩
  · (repeat' (first | (refine And.intro (fun (hfk : _ = true) => ?_) (fun (hfk : _ = false) => ?_) <;> ((try (first | replace hfk := of_decide_eq_true hfk | replace hfk := of_decide_eq_false hfk | simp only [decide_eq_true_eq, decide_eq_false_iff_not, dh1, dh0, ne_eq, reduceCtorEq] at hfk)); (try (exfalso; first | omega | contradiction | exact Bool.noConfusion (Eq.trans (Eq.symm hfk) (by with_reducible assumption : _ = false)) | exact Bool.noConfusion (Eq.trans (Eq.symm hfk) (by with_reducible assumption : _ = true)))))) | (refine And.intro ?ob ?_; (case ob => (first | exact Chk.mk (by kernel_rfl) | exact True.intro | with_reducible assumption | exact rng64 (by omega) (by omega) | omega | (dsimp only; omega) | (show (_ : Nat) ≤ _; omega) | (simp only [ll1, ll2, ll0]; done) | (simp only [ll1, ll2, ll0]; omega) | (dsimp only; simp only [ll1, ll2, ll0]; omega)))) | exact True.intro | (show _ = _; first | with_reducible rfl | with_reducible assumption | omega | (simp only [ll1, ll2, ll0]; omega) | (skip; done) | exact rfl) | with_reducible assumption | (apply And.intro) | omega | (intro j hj; exact rfl) | fail))
  by_cases hn : L.length = 1 ∨ L.length = 3 ∨ L.length = 4
  · have eC : joinC L = badC L L.length := if_pos hn
    rw [eC]
    rw [eC] at hC
    (repeat' (first | (refine And.intro (fun (hfk : _ = true) => ?_) (fun (hfk : _ = false) => ?_) <;> ((try (first | replace hfk := of_decide_eq_true hfk | replace hfk := of_decide_eq_false hfk | simp only [decide_eq_true_eq, decide_eq_false_iff_not, dh1, dh0, ne_eq, reduceCtorEq] at hfk)); (try (exfalso; first | omega | contradiction | exact Bool.noConfusion (Eq.trans (Eq.symm hfk) (by with_reducible assumption : _ = false)) | exact Bool.noConfusion (Eq.trans (Eq.symm hfk) (by with_reducible assumption : _ = true)))))) | (refine And.intro ?ob ?_; (case ob => (first | exact Chk.mk (by kernel_rfl) | exact True.intro | with_reducible assumption | exact rng64 (by omega) (by omega) | omega | (dsimp only; omega) | (show (_ : Nat) ≤ _; omega) | (simp only [ll1, ll2, ll0]; done) | (simp only [ll1, ll2, ll0]; omega) | (dsimp only; simp only [ll1, ll2, ll0]; omega)))) | exact True.intro | (show _ = _; first | with_reducible rfl | with_reducible assumption | omega | (simp only [ll1, ll2, ll0]; omega) | (skip; done) | exact rfl) | with_reducible assumption | (apply And.intro) | omega | (intro j hj; exact rfl) | fail))
    all_goals
      refine ⟨Nat, fun i => [(0, imsG L), (2, .ptr 0 0), (3, .int .i64 0), (4, .int .i64 ↑L.length), (27, imsG L), (28, .int .i64 ↑L.length), (29, .int .i64 i)],
        fun i => ⟨1, [(0, some (.cells 33 [.int .i64 0, .int .i64 0, .int .i64 0, .nils]))]⟩,
        fun i => i ≤ L.length ∧ badC L i = 0, fun i => L.length - i, ⟨0, [some 0], ⟨by omega, rfl⟩, ?_⟩, fun i hi => ?_⟩
      · (repeat' (first | (refine And.intro (fun (hfk : _ = true) => ?_) (fun (hfk : _ = false) => ?_) <;> ((try (first | replace hfk := of_decide_eq_true hfk | replace hfk := of_decide_eq_false hfk | simp only [decide_eq_true_eq, decide_eq_false_iff_not, dh1, dh0, ne_eq, reduceCtorEq] at hfk)); (try (exfalso; first | omega | contradiction | exact Bool.noConfusion (Eq.trans (Eq.symm hfk) (by with_reducible assumption : _ = false)) | exact Bool.noConfusion (Eq.trans (Eq.symm hfk) (by with_reducible assumption : _ = true)))))) | (refine And.intro ?ob ?_; (case ob => (first | exact Chk.mk (by kernel_rfl) | exact True.intro | with_reducible assumption | exact rng64 (by omega) (by omega) | omega | (dsimp only; omega) | (show (_ : Nat) ≤ _; omega) | (simp only [ll1, ll2, ll0]; done) | (simp only [ll1, ll2, ll0]; omega) | (dsimp only; simp only [ll1, ll2, ll0]; omega)))) | exact True.intro | (show _ = _; first | with_reducible rfl | with_reducible assumption | omega | (simp only [ll1, ll2, ll0]; omega) | (skip; done) | exact rfl) | with_reducible assumption | (apply And.intro) | omega | (intro j hj; exact rfl) | fail))
      obtain ⟨hi1, hi2⟩ := hi
      have hI : (↑i : Int).toNat = i := Int.toNat_natCast i
      refine ⟨fun hy => ?_, fun hy => ?_⟩
      · replace hy := of_decide_eq_true hy
        have hb : oneC ⟨(Lg L (↑i : Int).toNat).w, (Lg L (↑i : Int).toNat).h, (Lg L (↑i : Int).toNat).c, (Lg L (↑i : Int).toNat).p⟩ ⟨(Lg L (Int.toNat 0)).w, (Lg L (Int.toNat 0)).h, (Lg L (Int.toNat 0)).c, (Lg L (Int.toNat 0)).p⟩ ≠ 0 → badC L L.length = oneC ⟨(Lg L (↑i : Int).toNat).w, (Lg L (↑i : Int).toNat).h, (Lg L (↑i : Int).toNat).c, (Lg L (↑i : Int).toNat).p⟩ ⟨(Lg L (Int.toNat 0)).w, (Lg L (Int.toNat 0)).h, (Lg L (Int.toNat 0)).c, (Lg L (Int.toNat 0)).p⟩ := by
          rw [hI]; exact fun h => badC_first hi2 h (by omega)
        have hc : oneC ⟨(Lg L (↑i : Int).toNat).w, (Lg L (↑i : Int).toNat).h, (Lg L (↑i : Int).toNat).c, (Lg L (↑i : Int).toNat).p⟩ ⟨(Lg L (Int.toNat 0)).w, (Lg L (Int.toNat 0)).h, (Lg L (Int.toNat 0)).c, (Lg L (Int.toNat 0)).p⟩ = 0 → badC L (i + 1) = 0 := by
          rw [hI]; exact badC_next hi2
        (repeat' (first | (refine And.intro (fun (hfk : _ = true) => ?_) (fun (hfk : _ = false) => ?_) <;> ((try (first | replace hfk := of_decide_eq_true hfk | replace hfk := of_decide_eq_false hfk | simp only [decide_eq_true_eq, decide_eq_false_iff_not, dh1, dh0, ne_eq, reduceCtorEq] at hfk)); (try (exfalso; first | omega | contradiction | exact Bool.noConfusion (Eq.trans (Eq.symm hfk) (by with_reducible assumption : _ = false)) | exact Bool.noConfusion (Eq.trans (Eq.symm hfk) (by with_reducible assumption : _ = true)))))) | (refine And.intro ?ob ?_; (case ob => (first | exact Chk.mk (by kernel_rfl) | exact True.intro | with_reducible assumption | exact rng64 (by omega) (by omega) | omega | (dsimp only; omega) | (show (_ : Nat) ≤ _; omega) | (simp only [ll1, ll2, ll0]; done) | (simp only [ll1, ll2, ll0]; omega) | (dsimp only; simp only [ll1, ll2, ll0]; omega)))) | exact True.intro | (show _ = _; first | with_reducible rfl | with_reducible assumption | omega | (simp only [ll1, ll2, ll0]; omega) | (skip; done) | exact rfl) | with_reducible assumption | (apply And.intro) | omega | (intro j hj; exact rfl) | (refine ⟨i + 1, [some 0], ?_, ?mu, ?_⟩; (case mu => ((try dsimp only); omega))) | fail))
      · obtain rfl : i = L.length := by have := of_decide_eq_false hy; omega
        exact absurd hi2 hC
  · have eC : joinC L = 10 := if_neg hn
    (repeat' (first | (refine And.intro (fun (hfk : _ = true) => ?_) (fun (hfk : _ = false) => ?_) <;> ((try (first | replace hfk := of_decide_eq_true hfk | replace hfk := of_decide_eq_false hfk | simp only [decide_eq_true_eq, decide_eq_false_iff_not, dh1, dh0, ne_eq, reduceCtorEq] at hfk)); (try (exfalso; first | omega | contradiction | exact Bool.noConfusion (Eq.trans (Eq.symm hfk) (by with_reducible assumption : _ = false)) | exact Bool.noConfusion (Eq.trans (Eq.symm hfk) (by with_reducible assumption : _ = true)))))) | (refine And.intro ?ob ?_; (case ob => (first | exact Chk.mk (by kernel_rfl) | exact True.intro | with_reducible assumption | exact rng64 (by omega) (by omega) | omega | (dsimp only; omega) | (show (_ : Nat) ≤ _; omega) | (simp only [ll1, ll2, ll0]; done) | (simp only [ll1, ll2, ll0]; omega) | (dsimp only; simp only [ll1, ll2, ll0]; omega)))) | exact True.intro | (show _ = _; first | with_reducible rfl | with_reducible assumption | omega | (simp only [ll1, ll2, ll0]; omega) | (skip; done) | exact rfl) | with_reducible assumption | (apply And.intro) | omega | (intro j hj; exact rfl) | fail))
end Go.Proofs.Ytjnkjjojkfemoaa
