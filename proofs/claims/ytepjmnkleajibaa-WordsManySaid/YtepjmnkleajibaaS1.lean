/- Texts laid together. No condition. -/
import Derived.Test.YtepjmnkleajibaaE21
import Derived.Test.YtepjmnkleajibaaU
import Derived.Test.YtepjmnkleajibaaE22
namespace Go.Proofs.Ytepjmnkleajibaa
theorem oT {p : Prop} [Decidable p] (h : decide p = true) : p := of_decide_eq_true h
theorem oF {p : Prop} [Decidable p] (h : decide p = false) : ¬ p := of_decide_eq_false h
theorem oA {p : Prop} [Decidable p] : (decide p = true) = p := decide_eq_true_eq
theorem oB {p : Prop} [Decidable p] : decide p = false ↔ ¬ p := decide_eq_false_iff_not
theorem xF {x : Bool} (h : x = true) (k : x = false) : False := Bool.noConfusion (Eq.trans (Eq.symm h) k)
theorem xI {x : Bool} {A B : Prop} (f : x = true → A) (g : x = false → B) : (x = true → A) ∧ (x = false → B) := ⟨f, g⟩
theorem xT {x : Bool} (h : x = false) (k : x = true) : False := Bool.noConfusion (Eq.trans (Eq.symm h) k)
end Go.Proofs.Ytepjmnkleajibaa
set_option maxRecDepth 100000
set_option linter.unusedVariables false
set_option linter.unusedSimpArgs false
namespace Go.Proofs.Ytepjmnkleajibaa
open Go Go.RowKit
set_option maxHeartbeats 4000000
def cntN (p : Int → Bool) : List UInt8 → Nat
  | [] => 0
  | c :: r => if p (c.toNat : Int) = true then cntN p r + 1 else 0
theorem cnt_le (p : Int → Bool) : ∀ l, cntN p l ≤ l.length
  | [] => Nat.le_refl _
  | c :: r => by
    have := cnt_le p r
    unfold cntN
    split
    · rw [List.length_cons]; omega
    · exact Nat.zero_le _
theorem cnt_in {p : Int → Bool} : ∀ {l : List UInt8} {t : Nat}, t < cntN p l → p ((l.getD t 0).toNat : Int) = true
  | [], t, h => by simp [cntN] at h
  | c :: r, t, h => by
    unfold cntN at h
    split at h
    · rename_i k
      cases t with
      | zero => exact k
      | succ t => exact cnt_in (l := r) (by omega)
    · omega
theorem cnt_out {p : Int → Bool} : ∀ {l : List UInt8}, cntN p l < l.length → p ((l.getD (cntN p l) 0).toNat : Int) = false
  | [], h => by simp [cntN] at h
  | c :: r, h => by
    by_cases k : p (c.toNat : Int) = true
    · have e : cntN p (c :: r) = cntN p r + 1 := if_pos k
      rw [e] at h ⊢
      exact cnt_out (l := r) (by simpa using h)
    · have e : cntN p (c :: r) = 0 := if_neg k
      rw [e]
      simpa using k
theorem sdrop_getD {s : List UInt8} {a t : Nat} : (s.drop a).getD t 0 = s.getD (a + t) 0 := by simp [List.getD, List.getElem?_drop]
def mkP (x : Int) : Bool := decide (33 ≤ x ∧ x ≤ 126 ∧ x ≠ 35)
def bwP (x : Int) : Bool := decide (x = 9 ∨ x = 13 ∨ x = 32)
def nlP (x : Int) : Bool := decide (x ≠ 10)
abbrev markS : PSpec := fun l => match l with | [.int .u8 x] => some ([], .bool (decide (33 ≤ x ∧ x ≤ 126 ∧ x ≠ 35))) | _ => none
theorem mark_s : SOK Try.prog 190 markS := by
  refine sok_of (C := mkC 0 [] noG) (mkC_ok pok_nil noG_ok) rfl mixed ⟨Try.func190, by kernel_rfl, by kernel_rfl, by kernel_rfl⟩ fun l obs v h ho => ?_
  (unfold markS at h; split at h; rotate_left; (focus (cases h)); rename_i x; simp only [Option.some.injEq, Prod.mk.injEq] at h; obtain ⟨rfl, rfl⟩ := h; simp only [List.mem_cons, List.not_mem_nil, or_false, forall_eq_or_imp, forall_eq, false_implies, implies_true] at ho)
  refine ⟨Nat.le_of_ble_eq_true rfl, ?_⟩
  by_cases k : 33 ≤ x ∧ x ≤ 126 ∧ x ≠ 35
  · rw [decide_eq_true k]
    have e : decide (x ≠ 35) = true := decide_eq_true k.2.2
    (repeat' (first | (refine xI (fun hfk => ?_) (fun hfk => ?_) <;> ((try (first | replace hfk := oT hfk | replace hfk := oF hfk | simp only [oA, oB, dh1, dh0, ne_eq, reduceCtorEq] at hfk)); (try (exfalso; first | omega | contradiction | exact xF hfk (by with_reducible assumption) | exact xT hfk (by with_reducible assumption))))) | (refine And.intro ?ob ?_; (case ob => (first | exact Chk.mk (by kernel_rfl) | exact True.intro | with_reducible assumption | exact rng64 (by omega) (by omega) | omega | (dsimp only; omega) | (show (_ : Nat) ≤ _; omega) | (simp only [ll1, ll2, ll0]; first | done | omega) | (dsimp only; simp only [ll1, ll2, ll0]; omega)))) | exact True.intro | (show _ = _; first | with_reducible rfl | with_reducible assumption | omega | (simp only [ll1, ll2, ll0]; omega) | (first | exact e | exact e.symm; done) | exact rfl) | with_reducible assumption | (apply And.intro) | omega | (intro j hj; exact rfl)))
  · rw [decide_eq_false k]
    have e : 33 ≤ x → x ≤ 126 → decide (x ≠ 35) = false := fun p q => decide_eq_false (by omega)
    (repeat' (first | (refine xI (fun hfk => ?_) (fun hfk => ?_) <;> ((try (first | replace hfk := oT hfk | replace hfk := oF hfk | simp only [oA, oB, dh1, dh0, ne_eq, reduceCtorEq] at hfk)); (try (exfalso; first | omega | contradiction | exact xF hfk (by with_reducible assumption) | exact xT hfk (by with_reducible assumption))))) | (refine And.intro ?ob ?_; (case ob => (first | exact Chk.mk (by kernel_rfl) | exact True.intro | with_reducible assumption | exact rng64 (by omega) (by omega) | omega | (dsimp only; omega) | (show (_ : Nat) ≤ _; omega) | (simp only [ll1, ll2, ll0]; first | done | omega) | (dsimp only; simp only [ll1, ll2, ll0]; omega)))) | exact True.intro | (show _ = _; first | with_reducible rfl | with_reducible assumption | omega | (simp only [ll1, ll2, ll0]; omega) | (first | exact e (by omega) (by omega) | exact (e (by omega) (by omega)).symm; done) | exact rfl) | with_reducible assumption | (apply And.intro) | omega | (intro j hj; exact rfl)))
abbrev wblankS : PSpec := fun l => match l with | [.int .u8 x] => some ([], .bool (decide (x = 9 ∨ x = 13 ∨ x = 32))) | _ => none
theorem wblank_s : SOK Try.prog 189 wblankS := by
  refine sok_of (C := mkC 0 [] noG) (mkC_ok pok_nil noG_ok) rfl mixed ⟨Try.func189, by kernel_rfl, by kernel_rfl, by kernel_rfl⟩ fun l obs v h ho => ?_
  (unfold wblankS at h; split at h; rotate_left; (focus (cases h)); rename_i x; simp only [Option.some.injEq, Prod.mk.injEq] at h; obtain ⟨rfl, rfl⟩ := h; simp only [List.mem_cons, List.not_mem_nil, or_false, forall_eq_or_imp, forall_eq, false_implies, implies_true] at ho)
  refine ⟨Nat.le_of_ble_eq_true rfl, ?_⟩
  by_cases k : x = 9 ∨ x = 13 ∨ x = 32
  · rw [decide_eq_true k]
    have e : x ≠ 9 → x ≠ 13 → decide (x = 32) = true := fun p q => decide_eq_true (by omega)
    (repeat' (first | (refine xI (fun hfk => ?_) (fun hfk => ?_) <;> ((try (first | replace hfk := oT hfk | replace hfk := oF hfk | simp only [oA, oB, dh1, dh0, ne_eq, reduceCtorEq] at hfk)); (try (exfalso; first | omega | contradiction | exact xF hfk (by with_reducible assumption) | exact xT hfk (by with_reducible assumption))))) | (refine And.intro ?ob ?_; (case ob => (first | exact Chk.mk (by kernel_rfl) | exact True.intro | with_reducible assumption | exact rng64 (by omega) (by omega) | omega | (dsimp only; omega) | (show (_ : Nat) ≤ _; omega) | (simp only [ll1, ll2, ll0]; first | done | omega) | (dsimp only; simp only [ll1, ll2, ll0]; omega)))) | exact True.intro | (show _ = _; first | with_reducible rfl | with_reducible assumption | omega | (simp only [ll1, ll2, ll0]; omega) | (first | exact e (by omega) (by omega) | exact (e (by omega) (by omega)).symm; done) | exact rfl) | with_reducible assumption | (apply And.intro) | omega | (intro j hj; exact rfl)))
  · rw [decide_eq_false k]
    have e : decide (x = 32) = false := decide_eq_false (by omega)
    (repeat' (first | (refine xI (fun hfk => ?_) (fun hfk => ?_) <;> ((try (first | replace hfk := oT hfk | replace hfk := oF hfk | simp only [oA, oB, dh1, dh0, ne_eq, reduceCtorEq] at hfk)); (try (exfalso; first | omega | contradiction | exact xF hfk (by with_reducible assumption) | exact xT hfk (by with_reducible assumption))))) | (refine And.intro ?ob ?_; (case ob => (first | exact Chk.mk (by kernel_rfl) | exact True.intro | with_reducible assumption | exact rng64 (by omega) (by omega) | omega | (dsimp only; omega) | (show (_ : Nat) ≤ _; omega) | (simp only [ll1, ll2, ll0]; first | done | omega) | (dsimp only; simp only [ll1, ll2, ll0]; omega)))) | exact True.intro | (show _ = _; first | with_reducible rfl | with_reducible assumption | omega | (simp only [ll1, ll2, ll0]; omega) | (first | exact e | exact e.symm; done) | exact rfl) | with_reducible assumption | (apply And.intro) | omega | (intro j hj; exact rfl)))
def bkN (l : List UInt8) : Nat := if (l.drop (cntN bwP l)).length ≠ 0 ∧ ((l.drop (cntN bwP l)).getD 0 0).toNat = 35 then cntN bwP l + cntN nlP (l.drop (cntN bwP l)) else cntN bwP l
theorem bkN_le (l : List UInt8) : bkN l ≤ l.length := by
  have h1 := cnt_le bwP l
  have h2 := cnt_le nlP (l.drop (cntN bwP l))
  rw [List.length_drop] at h2
  unfold bkN
  split <;> omega
def mkN (l : List UInt8) : Nat := cntN mkP l
def wordF : FSpec := fun l es => match l, es with
  | [.ptr 0 0], [.cells 184 [.str s, .int .i64 a, .int .i64 n, .nils, .int .i64 v]] =>
    some ([0 ≤ a, a ≤ s.length, s.length ≤ 100000], .str ((s.drop a.toNat).take (mkN (s.drop a.toNat))), [some (.cells 184 [.str s, .int .i64 (a + (mkN (s.drop a.toNat) : Int)), .int .i64 n, .nils, .int .i64 v])])
  | [.ptr 0 0], [.cells 184 [.str s, .int .i64 a, .int .i64 n, .sl 1 2 0 k, .int .i64 v], .recs 121 2 m f] =>
    some ([0 ≤ a, a ≤ s.length, s.length ≤ 100000], .str ((s.drop a.toNat).take (mkN (s.drop a.toNat))), [some (.cells 184 [.str s, .int .i64 (a + (mkN (s.drop a.toNat) : Int)), .int .i64 n, .sl 1 2 0 k, .int .i64 v]), some (.recs 121 2 m f)])
  | _, _ => none
theorem word_g : GSOK Try.prog 161 (fG wordF) := by
  refine fok (S := [(190, markS)]) (G := noG) (pok_cons mark_s pok_nil) noG_ok ⟨Try.func161, by kernel_rfl, by kernel_rfl, by kernel_rfl⟩ fun l es obs v es' h ho => ?_
  unfold wordF at h
  split at h
  · rename_i s a n v
    simp only [Option.some.injEq, Prod.mk.injEq] at h
    obtain ⟨rfl, rfl, rfl⟩ := h
    simp only [List.mem_cons, List.not_mem_nil, or_false, forall_eq_or_imp, forall_eq] at ho
    obtain ⟨ho1, ho2, ho3⟩ := ho
    refine ⟨Nat.le_of_ble_eq_true rfl, ?_⟩
    obtain ⟨A, rfl⟩ := Int.eq_ofNat_of_zero_le ho1
    have hA : A ≤ s.length := by omega
    obtain ⟨M, hM⟩ : ∃ M, mkN (s.drop A) = M := ⟨_, rfl⟩
    have hMl := cnt_le mkP (s.drop A)
    rw [List.length_drop] at hMl
    have hM2 : mkN (s.drop A) = cntN mkP (s.drop A) := rfl
    rw [Int.toNat_natCast, hM]
    (repeat' (first | (refine xI (fun hfk => ?_) (fun hfk => ?_) <;> ((try (first | replace hfk := oT hfk | replace hfk := oF hfk | simp only [oA, oB, dh1, dh0, ne_eq, reduceCtorEq] at hfk)); (try (exfalso; first | omega | contradiction | exact xF hfk (by with_reducible assumption) | exact xT hfk (by with_reducible assumption))))) | (refine And.intro ?ob ?_; (case ob => (first | exact Chk.mk (by kernel_rfl) | exact True.intro | with_reducible assumption | exact rng64 (by omega) (by omega) | omega | (dsimp only; omega) | (show (_ : Nat) ≤ _; omega) | (simp only [ll1, ll2, ll0]; first | done | omega) | (dsimp only; simp only [ll1, ll2, ll0]; omega)))) | exact True.intro | (show _ = _; first | with_reducible rfl | with_reducible assumption | omega | (simp only [ll1, ll2, ll0]; omega) | (skip; done) | exact rfl) | with_reducible assumption | (apply And.intro) | omega | (intro j hj; exact rfl)))
    refine ⟨Nat, fun t => [(0, .ptr 0 0), (2, .str ((ByteArray.mk #[]).data.toList)), (3, .int .i64 (A : Int))],
      fun t => ⟨1, [(0, some (.cells 184 [.str s, .int .i64 ((A + t : Nat) : Int), .int .i64 n, .nils, .int .i64 v]))]⟩,
      fun t => t ≤ M, fun t => M - t, ⟨0, [some 0], Nat.zero_le _, ?_⟩, fun t ht => ?_⟩
    · (repeat' (first | (refine And.intro ?_ ?_) | exact True.intro | (show _ = _; with_reducible rfl) | exact Chk.mk (by kernel_rfl)))
      all_goals first | rfl | (intro j hj; rfl) | (show (_ : Int) = _; omega)
    have ht : t ≤ M := ht
    have g1 : s.getD ((A + t : Nat) : Int).toNat 0 = (s.drop A).getD t 0 := by rw [sdrop_getD]; rfl
    have rt : rngI .i64 (((A + t : Nat) : Int) + 1) := rng64 (by omega) (by omega)
    by_cases hlt : t < M
    · have hm : mkP (((s.drop A).getD t 0).toNat : Int) = true := cnt_in (by omega)
      have hm := of_decide_eq_true hm
      rw [← g1] at hm
      (repeat' (first | (refine xI (fun hfk => ?_) (fun hfk => ?_) <;> ((try (first | replace hfk := oT hfk | replace hfk := oF hfk | simp only [oA, oB, dh1, dh0, ne_eq, reduceCtorEq] at hfk)); (try (exfalso; first | omega | contradiction | exact xF hfk (by with_reducible assumption) | exact xT hfk (by with_reducible assumption))))) | (refine And.intro ?ob ?_; (case ob => (first | exact Chk.mk (by kernel_rfl) | exact True.intro | with_reducible assumption | exact rng64 (by omega) (by omega) | omega | (dsimp only; omega) | (show (_ : Nat) ≤ _; omega) | (simp only [ll1, ll2, ll0]; first | done | omega) | (dsimp only; simp only [ll1, ll2, ll0]; omega)))) | exact True.intro | (show _ = _; first | with_reducible rfl | with_reducible assumption | omega | (simp only [ll1, ll2, ll0]; omega) | (skip; done) | exact rfl) | with_reducible assumption | (apply And.intro) | omega | (intro j hj; exact rfl)))
      refine ⟨t + 1, [some 0], hlt, ?mu, ?_⟩
      case mu => (show M - (t + 1) < M - t; omega)
      (repeat' (first | (refine And.intro ?_ ?_) | exact True.intro | (show _ = _; with_reducible rfl) | exact Chk.mk (by kernel_rfl)))
      all_goals first | rfl | (intro j hj; rfl) | (show (_ : Int) = _; omega)
    · obtain rfl : t = M := by omega
      have hm : A + t < s.length → ¬ (33 ≤ ((s.getD ((A + t : Nat) : Int).toNat 0).toNat : Int) ∧ ((s.getD ((A + t : Nat) : Int).toNat 0).toNat : Int) ≤ 126 ∧ ((s.getD ((A + t : Nat) : Int).toNat 0).toNat : Int) ≠ 35) := fun hl => by
        have := cnt_out (p := mkP) (l := s.drop A) (by rw [List.length_drop]; omega)
        rw [← hM2, hM, ← g1] at this
        exact of_decide_eq_false this
      have e1 : List.drop (A : Int).toNat (List.take ((A + t : Nat) : Int).toNat s) = List.take t (List.drop A s) := by
        rw [Int.toNat_natCast, Int.toNat_natCast, List.drop_take, Nat.add_sub_cancel_left]
      by_cases hl : A + t < s.length
      · have hm := hm hl
        (repeat' (first | (refine xI (fun hfk => ?_) (fun hfk => ?_) <;> ((try (first | replace hfk := oT hfk | replace hfk := oF hfk | simp only [oA, oB, dh1, dh0, ne_eq, reduceCtorEq] at hfk)); (try (exfalso; first | omega | contradiction | exact xF hfk (by with_reducible assumption) | exact xT hfk (by with_reducible assumption))))) | (refine And.intro ?ob ?_; (case ob => (first | exact Chk.mk (by kernel_rfl) | exact True.intro | with_reducible assumption | exact rng64 (by omega) (by omega) | omega | (dsimp only; omega) | (show (_ : Nat) ≤ _; omega) | (simp only [ll1, ll2, ll0]; first | done | omega) | (dsimp only; simp only [ll1, ll2, ll0]; omega)))) | exact True.intro | (show _ = _; first | with_reducible rfl | with_reducible assumption | omega | (simp only [ll1, ll2, ll0]; omega) | (first | exact e1 | rfl; done) | exact rfl) | with_reducible assumption | (apply And.intro) | omega | (intro j hj; exact rfl)))
        refine ⟨[some 0], ?_⟩
        (repeat' (first | (refine xI (fun hfk => ?_) (fun hfk => ?_) <;> ((try (first | replace hfk := oT hfk | replace hfk := oF hfk | simp only [oA, oB, dh1, dh0, ne_eq, reduceCtorEq] at hfk)); (try (exfalso; first | omega | contradiction | exact xF hfk (by with_reducible assumption) | exact xT hfk (by with_reducible assumption))))) | (refine And.intro ?ob ?_; (case ob => (first | exact Chk.mk (by kernel_rfl) | exact True.intro | with_reducible assumption | exact rng64 (by omega) (by omega) | omega | (dsimp only; omega) | (show (_ : Nat) ≤ _; omega) | (simp only [ll1, ll2, ll0]; first | done | omega) | (dsimp only; simp only [ll1, ll2, ll0]; omega)))) | exact True.intro | (show _ = _; first | with_reducible rfl | with_reducible assumption | omega | (simp only [ll1, ll2, ll0]; omega) | (first | rfl | (intro j hj; rfl) | (show (_ : Int) = _; omega); done) | exact rfl) | with_reducible assumption | (apply And.intro) | omega | (intro j hj; exact rfl)))
      · clear hm
        (repeat' (first | (refine xI (fun hfk => ?_) (fun hfk => ?_) <;> ((try (first | replace hfk := oT hfk | replace hfk := oF hfk | simp only [oA, oB, dh1, dh0, ne_eq, reduceCtorEq] at hfk)); (try (exfalso; first | omega | contradiction | exact xF hfk (by with_reducible assumption) | exact xT hfk (by with_reducible assumption))))) | (refine And.intro ?ob ?_; (case ob => (first | exact Chk.mk (by kernel_rfl) | exact True.intro | with_reducible assumption | exact rng64 (by omega) (by omega) | omega | (dsimp only; omega) | (show (_ : Nat) ≤ _; omega) | (simp only [ll1, ll2, ll0]; first | done | omega) | (dsimp only; simp only [ll1, ll2, ll0]; omega)))) | exact True.intro | (show _ = _; first | with_reducible rfl | with_reducible assumption | omega | (simp only [ll1, ll2, ll0]; omega) | (first | exact e1 | rfl; done) | exact rfl) | with_reducible assumption | (apply And.intro) | omega | (intro j hj; exact rfl)))
        refine ⟨[some 0], ?_⟩
        (repeat' (first | (refine xI (fun hfk => ?_) (fun hfk => ?_) <;> ((try (first | replace hfk := oT hfk | replace hfk := oF hfk | simp only [oA, oB, dh1, dh0, ne_eq, reduceCtorEq] at hfk)); (try (exfalso; first | omega | contradiction | exact xF hfk (by with_reducible assumption) | exact xT hfk (by with_reducible assumption))))) | (refine And.intro ?ob ?_; (case ob => (first | exact Chk.mk (by kernel_rfl) | exact True.intro | with_reducible assumption | exact rng64 (by omega) (by omega) | omega | (dsimp only; omega) | (show (_ : Nat) ≤ _; omega) | (simp only [ll1, ll2, ll0]; first | done | omega) | (dsimp only; simp only [ll1, ll2, ll0]; omega)))) | exact True.intro | (show _ = _; first | with_reducible rfl | with_reducible assumption | omega | (simp only [ll1, ll2, ll0]; omega) | (first | rfl | (intro j hj; rfl) | (show (_ : Int) = _; omega); done) | exact rfl) | with_reducible assumption | (apply And.intro) | omega | (intro j hj; exact rfl)))
  · rename_i s a n k v m f
    simp only [Option.some.injEq, Prod.mk.injEq] at h
    obtain ⟨rfl, rfl, rfl⟩ := h
    simp only [List.mem_cons, List.not_mem_nil, or_false, forall_eq_or_imp, forall_eq] at ho
    obtain ⟨ho1, ho2, ho3⟩ := ho
    refine ⟨Nat.le_of_ble_eq_true rfl, ?_⟩
    obtain ⟨A, rfl⟩ := Int.eq_ofNat_of_zero_le ho1
    have hA : A ≤ s.length := by omega
    obtain ⟨M, hM⟩ : ∃ M, mkN (s.drop A) = M := ⟨_, rfl⟩
    have hMl := cnt_le mkP (s.drop A)
    rw [List.length_drop] at hMl
    have hM2 : mkN (s.drop A) = cntN mkP (s.drop A) := rfl
    rw [Int.toNat_natCast, hM]
    (repeat' (first | (refine xI (fun hfk => ?_) (fun hfk => ?_) <;> ((try (first | replace hfk := oT hfk | replace hfk := oF hfk | simp only [oA, oB, dh1, dh0, ne_eq, reduceCtorEq] at hfk)); (try (exfalso; first | omega | contradiction | exact xF hfk (by with_reducible assumption) | exact xT hfk (by with_reducible assumption))))) | (refine And.intro ?ob ?_; (case ob => (first | exact Chk.mk (by kernel_rfl) | exact True.intro | with_reducible assumption | exact rng64 (by omega) (by omega) | omega | (dsimp only; omega) | (show (_ : Nat) ≤ _; omega) | (simp only [ll1, ll2, ll0]; first | done | omega) | (dsimp only; simp only [ll1, ll2, ll0]; omega)))) | exact True.intro | (show _ = _; first | with_reducible rfl | with_reducible assumption | omega | (simp only [ll1, ll2, ll0]; omega) | (skip; done) | exact rfl) | with_reducible assumption | (apply And.intro) | omega | (intro j hj; exact rfl)))
    refine ⟨Nat, fun t => [(0, .ptr 0 0), (2, .str ((ByteArray.mk #[]).data.toList)), (3, .int .i64 (A : Int))],
      fun t => ⟨2, [(0, some (.cells 184 [.str s, .int .i64 ((A + t : Nat) : Int), .int .i64 n, .sl 1 2 0 k, .int .i64 v])), (1, some (.recs 121 2 m f))]⟩,
      fun t => t ≤ M, fun t => M - t, ⟨0, [some 0, some 1], Nat.zero_le _, ?_⟩, fun t ht => ?_⟩
    · (repeat' (first | (refine And.intro ?_ ?_) | exact True.intro | (show _ = _; with_reducible rfl) | exact Chk.mk (by kernel_rfl)))
      all_goals first | rfl | (intro j hj; rfl) | (show (_ : Int) = _; omega)
    have ht : t ≤ M := ht
    have g1 : s.getD ((A + t : Nat) : Int).toNat 0 = (s.drop A).getD t 0 := by rw [sdrop_getD]; rfl
    have rt : rngI .i64 (((A + t : Nat) : Int) + 1) := rng64 (by omega) (by omega)
    by_cases hlt : t < M
    · have hm : mkP (((s.drop A).getD t 0).toNat : Int) = true := cnt_in (by omega)
      have hm := of_decide_eq_true hm
      rw [← g1] at hm
      (repeat' (first | (refine xI (fun hfk => ?_) (fun hfk => ?_) <;> ((try (first | replace hfk := oT hfk | replace hfk := oF hfk | simp only [oA, oB, dh1, dh0, ne_eq, reduceCtorEq] at hfk)); (try (exfalso; first | omega | contradiction | exact xF hfk (by with_reducible assumption) | exact xT hfk (by with_reducible assumption))))) | (refine And.intro ?ob ?_; (case ob => (first | exact Chk.mk (by kernel_rfl) | exact True.intro | with_reducible assumption | exact rng64 (by omega) (by omega) | omega | (dsimp only; omega) | (show (_ : Nat) ≤ _; omega) | (simp only [ll1, ll2, ll0]; first | done | omega) | (dsimp only; simp only [ll1, ll2, ll0]; omega)))) | exact True.intro | (show _ = _; first | with_reducible rfl | with_reducible assumption | omega | (simp only [ll1, ll2, ll0]; omega) | (skip; done) | exact rfl) | with_reducible assumption | (apply And.intro) | omega | (intro j hj; exact rfl)))
      refine ⟨t + 1, [some 0, some 1], hlt, ?mu, ?_⟩
      case mu => (show M - (t + 1) < M - t; omega)
      (repeat' (first | (refine And.intro ?_ ?_) | exact True.intro | (show _ = _; with_reducible rfl) | exact Chk.mk (by kernel_rfl)))
      all_goals first | rfl | (intro j hj; rfl) | (show (_ : Int) = _; omega)
    · obtain rfl : t = M := by omega
      have hm : A + t < s.length → ¬ (33 ≤ ((s.getD ((A + t : Nat) : Int).toNat 0).toNat : Int) ∧ ((s.getD ((A + t : Nat) : Int).toNat 0).toNat : Int) ≤ 126 ∧ ((s.getD ((A + t : Nat) : Int).toNat 0).toNat : Int) ≠ 35) := fun hl => by
        have := cnt_out (p := mkP) (l := s.drop A) (by rw [List.length_drop]; omega)
        rw [← hM2, hM, ← g1] at this
        exact of_decide_eq_false this
      have e1 : List.drop (A : Int).toNat (List.take ((A + t : Nat) : Int).toNat s) = List.take t (List.drop A s) := by
        rw [Int.toNat_natCast, Int.toNat_natCast, List.drop_take, Nat.add_sub_cancel_left]
      by_cases hl : A + t < s.length
      · have hm := hm hl
        (repeat' (first | (refine xI (fun hfk => ?_) (fun hfk => ?_) <;> ((try (first | replace hfk := oT hfk | replace hfk := oF hfk | simp only [oA, oB, dh1, dh0, ne_eq, reduceCtorEq] at hfk)); (try (exfalso; first | omega | contradiction | exact xF hfk (by with_reducible assumption) | exact xT hfk (by with_reducible assumption))))) | (refine And.intro ?ob ?_; (case ob => (first | exact Chk.mk (by kernel_rfl) | exact True.intro | with_reducible assumption | exact rng64 (by omega) (by omega) | omega | (dsimp only; omega) | (show (_ : Nat) ≤ _; omega) | (simp only [ll1, ll2, ll0]; first | done | omega) | (dsimp only; simp only [ll1, ll2, ll0]; omega)))) | exact True.intro | (show _ = _; first | with_reducible rfl | with_reducible assumption | omega | (simp only [ll1, ll2, ll0]; omega) | (first | exact e1 | rfl; done) | exact rfl) | with_reducible assumption | (apply And.intro) | omega | (intro j hj; exact rfl)))
        refine ⟨[some 0, some 1], ?_⟩
        (repeat' (first | (refine xI (fun hfk => ?_) (fun hfk => ?_) <;> ((try (first | replace hfk := oT hfk | replace hfk := oF hfk | simp only [oA, oB, dh1, dh0, ne_eq, reduceCtorEq] at hfk)); (try (exfalso; first | omega | contradiction | exact xF hfk (by with_reducible assumption) | exact xT hfk (by with_reducible assumption))))) | (refine And.intro ?ob ?_; (case ob => (first | exact Chk.mk (by kernel_rfl) | exact True.intro | with_reducible assumption | exact rng64 (by omega) (by omega) | omega | (dsimp only; omega) | (show (_ : Nat) ≤ _; omega) | (simp only [ll1, ll2, ll0]; first | done | omega) | (dsimp only; simp only [ll1, ll2, ll0]; omega)))) | exact True.intro | (show _ = _; first | with_reducible rfl | with_reducible assumption | omega | (simp only [ll1, ll2, ll0]; omega) | (first | rfl | (intro j hj; rfl) | (show (_ : Int) = _; omega); done) | exact rfl) | with_reducible assumption | (apply And.intro) | omega | (intro j hj; exact rfl)))
      · clear hm
        (repeat' (first | (refine xI (fun hfk => ?_) (fun hfk => ?_) <;> ((try (first | replace hfk := oT hfk | replace hfk := oF hfk | simp only [oA, oB, dh1, dh0, ne_eq, reduceCtorEq] at hfk)); (try (exfalso; first | omega | contradiction | exact xF hfk (by with_reducible assumption) | exact xT hfk (by with_reducible assumption))))) | (refine And.intro ?ob ?_; (case ob => (first | exact Chk.mk (by kernel_rfl) | exact True.intro | with_reducible assumption | exact rng64 (by omega) (by omega) | omega | (dsimp only; omega) | (show (_ : Nat) ≤ _; omega) | (simp only [ll1, ll2, ll0]; first | done | omega) | (dsimp only; simp only [ll1, ll2, ll0]; omega)))) | exact True.intro | (show _ = _; first | with_reducible rfl | with_reducible assumption | omega | (simp only [ll1, ll2, ll0]; omega) | (first | exact e1 | rfl; done) | exact rfl) | with_reducible assumption | (apply And.intro) | omega | (intro j hj; exact rfl)))
        refine ⟨[some 0, some 1], ?_⟩
        (repeat' (first | (refine xI (fun hfk => ?_) (fun hfk => ?_) <;> ((try (first | replace hfk := oT hfk | replace hfk := oF hfk | simp only [oA, oB, dh1, dh0, ne_eq, reduceCtorEq] at hfk)); (try (exfalso; first | omega | contradiction | exact xF hfk (by with_reducible assumption) | exact xT hfk (by with_reducible assumption))))) | (refine And.intro ?ob ?_; (case ob => (first | exact Chk.mk (by kernel_rfl) | exact True.intro | with_reducible assumption | exact rng64 (by omega) (by omega) | omega | (dsimp only; omega) | (show (_ : Nat) ≤ _; omega) | (simp only [ll1, ll2, ll0]; first | done | omega) | (dsimp only; simp only [ll1, ll2, ll0]; omega)))) | exact True.intro | (show _ = _; first | with_reducible rfl | with_reducible assumption | omega | (simp only [ll1, ll2, ll0]; omega) | (first | rfl | (intro j hj; rfl) | (show (_ : Int) = _; omega); done) | exact rfl) | with_reducible assumption | (apply And.intro) | omega | (intro j hj; exact rfl)))
  · cases h
def blanksF : FSpec := fun l es => match l, es with
  | [.ptr 0 0], [.cells 184 [.str s, .int .i64 a, .int .i64 n, .nils, .int .i64 v]] =>
    some ([0 ≤ a, a ≤ s.length, s.length ≤ 100000], .tup [], [some (.cells 184 [.str s, .int .i64 (a + (bkN (s.drop a.toNat) : Int)), .int .i64 n, .nils, .int .i64 v])])
  | [.ptr 0 0], [.cells 184 [.str s, .int .i64 a, .int .i64 n, .sl 1 2 0 k, .int .i64 v], .recs 121 2 m f] =>
    some ([0 ≤ a, a ≤ s.length, s.length ≤ 100000], .tup [], [some (.cells 184 [.str s, .int .i64 (a + (bkN (s.drop a.toNat) : Int)), .int .i64 n, .sl 1 2 0 k, .int .i64 v]), some (.recs 121 2 m f)])
  | _, _ => none
theorem blanks_g : GSOK Try.prog 160 (fG blanksF) := by
  refine fok (S := [(189, wblankS)]) (G := noG) (pok_cons wblank_s pok_nil) noG_ok ⟨Try.func160, by kernel_rfl, by kernel_rfl, by kernel_rfl⟩ fun l es obs v es' h ho => ?_
  unfold blanksF at h
  split at h
  · rename_i s a n v
    simp only [Option.some.injEq, Prod.mk.injEq] at h
    obtain ⟨rfl, rfl, rfl⟩ := h
    simp only [List.mem_cons, List.not_mem_nil, or_false, forall_eq_or_imp, forall_eq] at ho
    obtain ⟨ho1, ho2, ho3⟩ := ho
    refine ⟨Nat.le_of_ble_eq_true rfl, ?_⟩
    obtain ⟨A, rfl⟩ := Int.eq_ofNat_of_zero_le ho1
    have hA : A ≤ s.length := by omega
    obtain ⟨M, hM⟩ : ∃ M, cntN bwP (s.drop A) = M := ⟨_, rfl⟩
    have hMl := cnt_le bwP (s.drop A)
    rw [List.length_drop] at hMl
    rw [Int.toNat_natCast]
    (repeat' (first | (refine xI (fun hfk => ?_) (fun hfk => ?_) <;> ((try (first | replace hfk := oT hfk | replace hfk := oF hfk | simp only [oA, oB, dh1, dh0, ne_eq, reduceCtorEq] at hfk)); (try (exfalso; first | omega | contradiction | exact xF hfk (by with_reducible assumption) | exact xT hfk (by with_reducible assumption))))) | (refine And.intro ?ob ?_; (case ob => (first | exact Chk.mk (by kernel_rfl) | exact True.intro | with_reducible assumption | exact rng64 (by omega) (by omega) | omega | (dsimp only; omega) | (show (_ : Nat) ≤ _; omega) | (simp only [ll1, ll2, ll0]; first | done | omega) | (dsimp only; simp only [ll1, ll2, ll0]; omega)))) | exact True.intro | (show _ = _; first | with_reducible rfl | with_reducible assumption | omega | (simp only [ll1, ll2, ll0]; omega) | (skip; done) | exact rfl) | with_reducible assumption | (apply And.intro) | omega | (intro j hj; exact rfl)))
    refine ⟨Nat, fun t => [(0, .ptr 0 0)], fun t => ⟨1, [(0, some (.cells 184 [.str s, .int .i64 ((A + t : Nat) : Int), .int .i64 n, .nils, .int .i64 v]))]⟩,
      fun t => t ≤ M, fun t => M - t, ⟨0, [some 0], Nat.zero_le _, ?_⟩, fun t ht => ?_⟩
    · (repeat' (first | (refine And.intro ?_ ?_) | exact True.intro | (show _ = _; with_reducible rfl) | exact Chk.mk (by kernel_rfl)))
      all_goals first | rfl | (intro j hj; rfl) | (show (_ : Int) = _; omega)
    have ht : t ≤ M := ht
    have g1 : s.getD ((A + t : Nat) : Int).toNat 0 = (s.drop A).getD t 0 := by rw [sdrop_getD]; rfl
    have rt : rngI .i64 (((A + t : Nat) : Int) + 1) := rng64 (by omega) (by omega)
    by_cases hlt : t < M
    · have hm : bwP (((s.drop A).getD t 0).toNat : Int) = true := cnt_in (by omega)
      have hm := of_decide_eq_true hm
      rw [← g1] at hm
      (repeat' (first | (refine xI (fun hfk => ?_) (fun hfk => ?_) <;> ((try (first | replace hfk := oT hfk | replace hfk := oF hfk | simp only [oA, oB, dh1, dh0, ne_eq, reduceCtorEq] at hfk)); (try (exfalso; first | omega | contradiction | exact xF hfk (by with_reducible assumption) | exact xT hfk (by with_reducible assumption))))) | (refine And.intro ?ob ?_; (case ob => (first | exact Chk.mk (by kernel_rfl) | exact True.intro | with_reducible assumption | exact rng64 (by omega) (by omega) | omega | (dsimp only; omega) | (show (_ : Nat) ≤ _; omega) | (simp only [ll1, ll2, ll0]; first | done | omega) | (dsimp only; simp only [ll1, ll2, ll0]; omega)))) | exact True.intro | (show _ = _; first | with_reducible rfl | with_reducible assumption | omega | (simp only [ll1, ll2, ll0]; omega) | (skip; done) | exact rfl) | with_reducible assumption | (apply And.intro) | omega | (intro j hj; exact rfl)))
      refine ⟨t + 1, [some 0], hlt, ?mu, ?_⟩
      case mu => (show M - (t + 1) < M - t; omega)
      (repeat' (first | (refine And.intro ?_ ?_) | exact True.intro | (show _ = _; with_reducible rfl) | exact Chk.mk (by kernel_rfl)))
      all_goals first | rfl | (intro j hj; rfl) | (show (_ : Int) = _; omega)
    · obtain rfl : t = M := by omega
      have hdd : (s.drop A).drop t = s.drop (A + t) := by rw [List.drop_drop]
      by_cases hl : A + t < s.length
      · have hm := cnt_out (p := bwP) (l := s.drop A) (by rw [List.length_drop]; omega)
        rw [hM, ← g1] at hm
        have hm := of_decide_eq_false hm
        have hg2 : (s.drop (A + t)).getD 0 0 = s.getD ((A + t : Nat) : Int).toNat 0 := by rw [sdrop_getD]; rfl
        by_cases h35 : (s.getD ((A + t : Nat) : Int).toNat 0).toNat = 35
        · skip
          have eb : bkN (s.drop A) = t + cntN nlP (s.drop (A + t)) := by
            unfold bkN
            rw [hM, hdd, if_pos ⟨by rw [List.length_drop]; omega, by rw [hg2]; exact h35⟩]
          obtain ⟨K, hK⟩ : ∃ K, cntN nlP (s.drop (A + t)) = K := ⟨_, rfl⟩
          have hKl := cnt_le nlP (s.drop (A + t))
          rw [List.length_drop] at hKl
          rw [eb, hK]
          clear rt
          (repeat' (first | (refine xI (fun hfk => ?_) (fun hfk => ?_) <;> ((try (first | replace hfk := oT hfk | replace hfk := oF hfk | simp only [oA, oB, dh1, dh0, ne_eq, reduceCtorEq] at hfk)); (try (exfalso; first | omega | contradiction | exact xF hfk (by with_reducible assumption) | exact xT hfk (by with_reducible assumption))))) | (refine And.intro ?ob ?_; (case ob => (first | exact Chk.mk (by kernel_rfl) | exact True.intro | with_reducible assumption | exact rng64 (by omega) (by omega) | omega | (dsimp only; omega) | (show (_ : Nat) ≤ _; omega) | (simp only [ll1, ll2, ll0]; first | done | omega) | (dsimp only; simp only [ll1, ll2, ll0]; omega)))) | exact True.intro | (show _ = _; first | with_reducible rfl | with_reducible assumption | omega | (simp only [ll1, ll2, ll0]; omega) | (skip; done) | exact rfl) | with_reducible assumption | (apply And.intro) | omega | (intro j hj; exact rfl)))
          refine ⟨Nat, fun t2 => [(0, .ptr 0 0)], fun t2 => ⟨1, [(0, some (.cells 184 [.str s, .int .i64 ((A + t + t2 : Nat) : Int), .int .i64 n, .nils, .int .i64 v]))]⟩,
            fun t2 => t2 ≤ K, fun t2 => K - t2, ⟨0, [some 0], Nat.zero_le _, ?_⟩, fun t2 ht2 => ?_⟩
          · (repeat' (first | (refine And.intro ?_ ?_) | exact True.intro | (show _ = _; with_reducible rfl) | exact Chk.mk (by kernel_rfl)))
            all_goals first | rfl | (intro j hj; rfl) | (show (_ : Int) = _; omega)
          have ht2 : t2 ≤ K := ht2
          have g2 : s.getD ((A + t + t2 : Nat) : Int).toNat 0 = (s.drop (A + t)).getD t2 0 := by rw [sdrop_getD]; rfl
          have rt2 : rngI .i64 (((A + t + t2 : Nat) : Int) + 1) := rng64 (by omega) (by omega)
          clear hm h35 hg2
          by_cases hlt2 : t2 < K
          · have hm2 : nlP (((s.drop (A + t)).getD t2 0).toNat : Int) = true := cnt_in (by omega)
            have hm2 := of_decide_eq_true hm2
            rw [← g2] at hm2
            (repeat' (first | (refine xI (fun hfk => ?_) (fun hfk => ?_) <;> ((try (first | replace hfk := oT hfk | replace hfk := oF hfk | simp only [oA, oB, dh1, dh0, ne_eq, reduceCtorEq] at hfk)); (try (exfalso; first | omega | contradiction | exact xF hfk (by with_reducible assumption) | exact xT hfk (by with_reducible assumption))))) | (refine And.intro ?ob ?_; (case ob => (first | exact Chk.mk (by kernel_rfl) | exact True.intro | with_reducible assumption | exact rng64 (by omega) (by omega) | omega | (dsimp only; omega) | (show (_ : Nat) ≤ _; omega) | (simp only [ll1, ll2, ll0]; first | done | omega) | (dsimp only; simp only [ll1, ll2, ll0]; omega)))) | exact True.intro | (show _ = _; first | with_reducible rfl | with_reducible assumption | omega | (simp only [ll1, ll2, ll0]; omega) | (skip; done) | exact rfl) | with_reducible assumption | (apply And.intro) | omega | (intro j hj; exact rfl)))
            refine ⟨t2 + 1, [some 0], hlt2, ?mu2, ?_⟩
            case mu2 => (show K - (t2 + 1) < K - t2; omega)
            (repeat' (first | (refine And.intro ?_ ?_) | exact True.intro | (show _ = _; with_reducible rfl) | exact Chk.mk (by kernel_rfl)))
            all_goals first | rfl | (intro j hj; rfl) | (show (_ : Int) = _; omega)
          · obtain rfl : t2 = K := by omega
            by_cases hl2 : A + t + t2 < s.length
            · have hm2 := cnt_out (p := nlP) (l := s.drop (A + t)) (by rw [List.length_drop]; omega)
              rw [hK, ← g2] at hm2
              have hm2 := of_decide_eq_false hm2
              (repeat' (first | (refine xI (fun hfk => ?_) (fun hfk => ?_) <;> ((try (first | replace hfk := oT hfk | replace hfk := oF hfk | simp only [oA, oB, dh1, dh0, ne_eq, reduceCtorEq] at hfk)); (try (exfalso; first | omega | contradiction | exact xF hfk (by with_reducible assumption) | exact xT hfk (by with_reducible assumption))))) | (refine And.intro ?ob ?_; (case ob => (first | exact Chk.mk (by kernel_rfl) | exact True.intro | with_reducible assumption | exact rng64 (by omega) (by omega) | omega | (dsimp only; omega) | (show (_ : Nat) ≤ _; omega) | (simp only [ll1, ll2, ll0]; first | done | omega) | (dsimp only; simp only [ll1, ll2, ll0]; omega)))) | exact True.intro | (show _ = _; first | with_reducible rfl | with_reducible assumption | omega | (simp only [ll1, ll2, ll0]; omega) | (skip; done) | exact rfl) | with_reducible assumption | (apply And.intro) | omega | (intro j hj; exact rfl)))
              refine ⟨[some 0], ?_⟩
              (repeat' (first | (refine xI (fun hfk => ?_) (fun hfk => ?_) <;> ((try (first | replace hfk := oT hfk | replace hfk := oF hfk | simp only [oA, oB, dh1, dh0, ne_eq, reduceCtorEq] at hfk)); (try (exfalso; first | omega | contradiction | exact xF hfk (by with_reducible assumption) | exact xT hfk (by with_reducible assumption))))) | (refine And.intro ?ob ?_; (case ob => (first | exact Chk.mk (by kernel_rfl) | exact True.intro | with_reducible assumption | exact rng64 (by omega) (by omega) | omega | (dsimp only; omega) | (show (_ : Nat) ≤ _; omega) | (simp only [ll1, ll2, ll0]; first | done | omega) | (dsimp only; simp only [ll1, ll2, ll0]; omega)))) | exact True.intro | (show _ = _; first | with_reducible rfl | with_reducible assumption | omega | (simp only [ll1, ll2, ll0]; omega) | (first | rfl | (intro j hj; rfl) | (show (_ : Int) = _; omega); done) | exact rfl) | with_reducible assumption | (apply And.intro) | omega | (intro j hj; exact rfl)))
            · (repeat' (first | (refine xI (fun hfk => ?_) (fun hfk => ?_) <;> ((try (first | replace hfk := oT hfk | replace hfk := oF hfk | simp only [oA, oB, dh1, dh0, ne_eq, reduceCtorEq] at hfk)); (try (exfalso; first | omega | contradiction | exact xF hfk (by with_reducible assumption) | exact xT hfk (by with_reducible assumption))))) | (refine And.intro ?ob ?_; (case ob => (first | exact Chk.mk (by kernel_rfl) | exact True.intro | with_reducible assumption | exact rng64 (by omega) (by omega) | omega | (dsimp only; omega) | (show (_ : Nat) ≤ _; omega) | (simp only [ll1, ll2, ll0]; first | done | omega) | (dsimp only; simp only [ll1, ll2, ll0]; omega)))) | exact True.intro | (show _ = _; first | with_reducible rfl | with_reducible assumption | omega | (simp only [ll1, ll2, ll0]; omega) | (skip; done) | exact rfl) | with_reducible assumption | (apply And.intro) | omega | (intro j hj; exact rfl)))
              refine ⟨[some 0], ?_⟩
              (repeat' (first | (refine xI (fun hfk => ?_) (fun hfk => ?_) <;> ((try (first | replace hfk := oT hfk | replace hfk := oF hfk | simp only [oA, oB, dh1, dh0, ne_eq, reduceCtorEq] at hfk)); (try (exfalso; first | omega | contradiction | exact xF hfk (by with_reducible assumption) | exact xT hfk (by with_reducible assumption))))) | (refine And.intro ?ob ?_; (case ob => (first | exact Chk.mk (by kernel_rfl) | exact True.intro | with_reducible assumption | exact rng64 (by omega) (by omega) | omega | (dsimp only; omega) | (show (_ : Nat) ≤ _; omega) | (simp only [ll1, ll2, ll0]; first | done | omega) | (dsimp only; simp only [ll1, ll2, ll0]; omega)))) | exact True.intro | (show _ = _; first | with_reducible rfl | with_reducible assumption | omega | (simp only [ll1, ll2, ll0]; omega) | (first | rfl | (intro j hj; rfl) | (show (_ : Int) = _; omega); done) | exact rfl) | with_reducible assumption | (apply And.intro) | omega | (intro j hj; exact rfl)))
        · have eb : bkN (s.drop A) = t := by
            unfold bkN
            rw [hM, hdd, if_neg (fun q => h35 (by rw [← hg2]; exact q.2))]
          rw [eb]
          (repeat' (first | (refine xI (fun hfk => ?_) (fun hfk => ?_) <;> ((try (first | replace hfk := oT hfk | replace hfk := oF hfk | simp only [oA, oB, dh1, dh0, ne_eq, reduceCtorEq] at hfk)); (try (exfalso; first | omega | contradiction | exact xF hfk (by with_reducible assumption) | exact xT hfk (by with_reducible assumption))))) | (refine And.intro ?ob ?_; (case ob => (first | exact Chk.mk (by kernel_rfl) | exact True.intro | with_reducible assumption | exact rng64 (by omega) (by omega) | omega | (dsimp only; omega) | (show (_ : Nat) ≤ _; omega) | (simp only [ll1, ll2, ll0]; first | done | omega) | (dsimp only; simp only [ll1, ll2, ll0]; omega)))) | exact True.intro | (show _ = _; first | with_reducible rfl | with_reducible assumption | omega | (simp only [ll1, ll2, ll0]; omega) | (skip; done) | exact rfl) | with_reducible assumption | (apply And.intro) | omega | (intro j hj; exact rfl)))
          refine ⟨[some 0], ?_⟩
          (repeat' (first | (refine xI (fun hfk => ?_) (fun hfk => ?_) <;> ((try (first | replace hfk := oT hfk | replace hfk := oF hfk | simp only [oA, oB, dh1, dh0, ne_eq, reduceCtorEq] at hfk)); (try (exfalso; first | omega | contradiction | exact xF hfk (by with_reducible assumption) | exact xT hfk (by with_reducible assumption))))) | (refine And.intro ?ob ?_; (case ob => (first | exact Chk.mk (by kernel_rfl) | exact True.intro | with_reducible assumption | exact rng64 (by omega) (by omega) | omega | (dsimp only; omega) | (show (_ : Nat) ≤ _; omega) | (simp only [ll1, ll2, ll0]; first | done | omega) | (dsimp only; simp only [ll1, ll2, ll0]; omega)))) | exact True.intro | (show _ = _; first | with_reducible rfl | with_reducible assumption | omega | (simp only [ll1, ll2, ll0]; omega) | (first | rfl | (intro j hj; rfl) | (show (_ : Int) = _; omega); done) | exact rfl) | with_reducible assumption | (apply And.intro) | omega | (intro j hj; exact rfl)))
      · have eb : bkN (s.drop A) = t := by
          unfold bkN
          rw [hM, hdd, if_neg (fun q => q.1 (by rw [List.length_drop]; omega))]
        rw [eb]
        (repeat' (first | (refine xI (fun hfk => ?_) (fun hfk => ?_) <;> ((try (first | replace hfk := oT hfk | replace hfk := oF hfk | simp only [oA, oB, dh1, dh0, ne_eq, reduceCtorEq] at hfk)); (try (exfalso; first | omega | contradiction | exact xF hfk (by with_reducible assumption) | exact xT hfk (by with_reducible assumption))))) | (refine And.intro ?ob ?_; (case ob => (first | exact Chk.mk (by kernel_rfl) | exact True.intro | with_reducible assumption | exact rng64 (by omega) (by omega) | omega | (dsimp only; omega) | (show (_ : Nat) ≤ _; omega) | (simp only [ll1, ll2, ll0]; first | done | omega) | (dsimp only; simp only [ll1, ll2, ll0]; omega)))) | exact True.intro | (show _ = _; first | with_reducible rfl | with_reducible assumption | omega | (simp only [ll1, ll2, ll0]; omega) | (skip; done) | exact rfl) | with_reducible assumption | (apply And.intro) | omega | (intro j hj; exact rfl)))
        refine ⟨[some 0], ?_⟩
        (repeat' (first | (refine xI (fun hfk => ?_) (fun hfk => ?_) <;> ((try (first | replace hfk := oT hfk | replace hfk := oF hfk | simp only [oA, oB, dh1, dh0, ne_eq, reduceCtorEq] at hfk)); (try (exfalso; first | omega | contradiction | exact xF hfk (by with_reducible assumption) | exact xT hfk (by with_reducible assumption))))) | (refine And.intro ?ob ?_; (case ob => (first | exact Chk.mk (by kernel_rfl) | exact True.intro | with_reducible assumption | exact rng64 (by omega) (by omega) | omega | (dsimp only; omega) | (show (_ : Nat) ≤ _; omega) | (simp only [ll1, ll2, ll0]; first | done | omega) | (dsimp only; simp only [ll1, ll2, ll0]; omega)))) | exact True.intro | (show _ = _; first | with_reducible rfl | with_reducible assumption | omega | (simp only [ll1, ll2, ll0]; omega) | (first | rfl | (intro j hj; rfl) | (show (_ : Int) = _; omega); done) | exact rfl) | with_reducible assumption | (apply And.intro) | omega | (intro j hj; exact rfl)))
  · rename_i s a n k v m f
    simp only [Option.some.injEq, Prod.mk.injEq] at h
    obtain ⟨rfl, rfl, rfl⟩ := h
    simp only [List.mem_cons, List.not_mem_nil, or_false, forall_eq_or_imp, forall_eq] at ho
    obtain ⟨ho1, ho2, ho3⟩ := ho
    refine ⟨Nat.le_of_ble_eq_true rfl, ?_⟩
    obtain ⟨A, rfl⟩ := Int.eq_ofNat_of_zero_le ho1
    have hA : A ≤ s.length := by omega
    obtain ⟨M, hM⟩ : ∃ M, cntN bwP (s.drop A) = M := ⟨_, rfl⟩
    have hMl := cnt_le bwP (s.drop A)
    rw [List.length_drop] at hMl
    rw [Int.toNat_natCast]
    (repeat' (first | (refine xI (fun hfk => ?_) (fun hfk => ?_) <;> ((try (first | replace hfk := oT hfk | replace hfk := oF hfk | simp only [oA, oB, dh1, dh0, ne_eq, reduceCtorEq] at hfk)); (try (exfalso; first | omega | contradiction | exact xF hfk (by with_reducible assumption) | exact xT hfk (by with_reducible assumption))))) | (refine And.intro ?ob ?_; (case ob => (first | exact Chk.mk (by kernel_rfl) | exact True.intro | with_reducible assumption | exact rng64 (by omega) (by omega) | omega | (dsimp only; omega) | (show (_ : Nat) ≤ _; omega) | (simp only [ll1, ll2, ll0]; first | done | omega) | (dsimp only; simp only [ll1, ll2, ll0]; omega)))) | exact True.intro | (show _ = _; first | with_reducible rfl | with_reducible assumption | omega | (simp only [ll1, ll2, ll0]; omega) | (skip; done) | exact rfl) | with_reducible assumption | (apply And.intro) | omega | (intro j hj; exact rfl)))
    refine ⟨Nat, fun t => [(0, .ptr 0 0)], fun t => ⟨2, [(0, some (.cells 184 [.str s, .int .i64 ((A + t : Nat) : Int), .int .i64 n, .sl 1 2 0 k, .int .i64 v])), (1, some (.recs 121 2 m f))]⟩,
      fun t => t ≤ M, fun t => M - t, ⟨0, [some 0, some 1], Nat.zero_le _, ?_⟩, fun t ht => ?_⟩
    · (repeat' (first | (refine And.intro ?_ ?_) | exact True.intro | (show _ = _; with_reducible rfl) | exact Chk.mk (by kernel_rfl)))
      all_goals first | rfl | (intro j hj; rfl) | (show (_ : Int) = _; omega)
    have ht : t ≤ M := ht
    have g1 : s.getD ((A + t : Nat) : Int).toNat 0 = (s.drop A).getD t 0 := by rw [sdrop_getD]; rfl
    have rt : rngI .i64 (((A + t : Nat) : Int) + 1) := rng64 (by omega) (by omega)
    by_cases hlt : t < M
    · have hm : bwP (((s.drop A).getD t 0).toNat : Int) = true := cnt_in (by omega)
      have hm := of_decide_eq_true hm
      rw [← g1] at hm
      (repeat' (first | (refine xI (fun hfk => ?_) (fun hfk => ?_) <;> ((try (first | replace hfk := oT hfk | replace hfk := oF hfk | simp only [oA, oB, dh1, dh0, ne_eq, reduceCtorEq] at hfk)); (try (exfalso; first | omega | contradiction | exact xF hfk (by with_reducible assumption) | exact xT hfk (by with_reducible assumption))))) | (refine And.intro ?ob ?_; (case ob => (first | exact Chk.mk (by kernel_rfl) | exact True.intro | with_reducible assumption | exact rng64 (by omega) (by omega) | omega | (dsimp only; omega) | (show (_ : Nat) ≤ _; omega) | (simp only [ll1, ll2, ll0]; first | done | omega) | (dsimp only; simp only [ll1, ll2, ll0]; omega)))) | exact True.intro | (show _ = _; first | with_reducible rfl | with_reducible assumption | omega | (simp only [ll1, ll2, ll0]; omega) | (skip; done) | exact rfl) | with_reducible assumption | (apply And.intro) | omega | (intro j hj; exact rfl)))
      refine ⟨t + 1, [some 0, some 1], hlt, ?mu, ?_⟩
      case mu => (show M - (t + 1) < M - t; omega)
      (repeat' (first | (refine And.intro ?_ ?_) | exact True.intro | (show _ = _; with_reducible rfl) | exact Chk.mk (by kernel_rfl)))
      all_goals first | rfl | (intro j hj; rfl) | (show (_ : Int) = _; omega)
    · obtain rfl : t = M := by omega
      have hdd : (s.drop A).drop t = s.drop (A + t) := by rw [List.drop_drop]
      by_cases hl : A + t < s.length
      · have hm := cnt_out (p := bwP) (l := s.drop A) (by rw [List.length_drop]; omega)
        rw [hM, ← g1] at hm
        have hm := of_decide_eq_false hm
        have hg2 : (s.drop (A + t)).getD 0 0 = s.getD ((A + t : Nat) : Int).toNat 0 := by rw [sdrop_getD]; rfl
        by_cases h35 : (s.getD ((A + t : Nat) : Int).toNat 0).toNat = 35
        · skip
          have eb : bkN (s.drop A) = t + cntN nlP (s.drop (A + t)) := by
            unfold bkN
            rw [hM, hdd, if_pos ⟨by rw [List.length_drop]; omega, by rw [hg2]; exact h35⟩]
          obtain ⟨K, hK⟩ : ∃ K, cntN nlP (s.drop (A + t)) = K := ⟨_, rfl⟩
          have hKl := cnt_le nlP (s.drop (A + t))
          rw [List.length_drop] at hKl
          rw [eb, hK]
          clear rt
          (repeat' (first | (refine xI (fun hfk => ?_) (fun hfk => ?_) <;> ((try (first | replace hfk := oT hfk | replace hfk := oF hfk | simp only [oA, oB, dh1, dh0, ne_eq, reduceCtorEq] at hfk)); (try (exfalso; first | omega | contradiction | exact xF hfk (by with_reducible assumption) | exact xT hfk (by with_reducible assumption))))) | (refine And.intro ?ob ?_; (case ob => (first | exact Chk.mk (by kernel_rfl) | exact True.intro | with_reducible assumption | exact rng64 (by omega) (by omega) | omega | (dsimp only; omega) | (show (_ : Nat) ≤ _; omega) | (simp only [ll1, ll2, ll0]; first | done | omega) | (dsimp only; simp only [ll1, ll2, ll0]; omega)))) | exact True.intro | (show _ = _; first | with_reducible rfl | with_reducible assumption | omega | (simp only [ll1, ll2, ll0]; omega) | (skip; done) | exact rfl) | with_reducible assumption | (apply And.intro) | omega | (intro j hj; exact rfl)))
          refine ⟨Nat, fun t2 => [(0, .ptr 0 0)], fun t2 => ⟨2, [(0, some (.cells 184 [.str s, .int .i64 ((A + t + t2 : Nat) : Int), .int .i64 n, .sl 1 2 0 k, .int .i64 v])), (1, some (.recs 121 2 m f))]⟩,
            fun t2 => t2 ≤ K, fun t2 => K - t2, ⟨0, [some 0, some 1], Nat.zero_le _, ?_⟩, fun t2 ht2 => ?_⟩
          · (repeat' (first | (refine And.intro ?_ ?_) | exact True.intro | (show _ = _; with_reducible rfl) | exact Chk.mk (by kernel_rfl)))
            all_goals first | rfl | (intro j hj; rfl) | (show (_ : Int) = _; omega)
          have ht2 : t2 ≤ K := ht2
          have g2 : s.getD ((A + t + t2 : Nat) : Int).toNat 0 = (s.drop (A + t)).getD t2 0 := by rw [sdrop_getD]; rfl
          have rt2 : rngI .i64 (((A + t + t2 : Nat) : Int) + 1) := rng64 (by omega) (by omega)
          clear hm h35 hg2
          by_cases hlt2 : t2 < K
          · have hm2 : nlP (((s.drop (A + t)).getD t2 0).toNat : Int) = true := cnt_in (by omega)
            have hm2 := of_decide_eq_true hm2
            rw [← g2] at hm2
            (repeat' (first | (refine xI (fun hfk => ?_) (fun hfk => ?_) <;> ((try (first | replace hfk := oT hfk | replace hfk := oF hfk | simp only [oA, oB, dh1, dh0, ne_eq, reduceCtorEq] at hfk)); (try (exfalso; first | omega | contradiction | exact xF hfk (by with_reducible assumption) | exact xT hfk (by with_reducible assumption))))) | (refine And.intro ?ob ?_; (case ob => (first | exact Chk.mk (by kernel_rfl) | exact True.intro | with_reducible assumption | exact rng64 (by omega) (by omega) | omega | (dsimp only; omega) | (show (_ : Nat) ≤ _; omega) | (simp only [ll1, ll2, ll0]; first | done | omega) | (dsimp only; simp only [ll1, ll2, ll0]; omega)))) | exact True.intro | (show _ = _; first | with_reducible rfl | with_reducible assumption | omega | (simp only [ll1, ll2, ll0]; omega) | (skip; done) | exact rfl) | with_reducible assumption | (apply And.intro) | omega | (intro j hj; exact rfl)))
            refine ⟨t2 + 1, [some 0, some 1], hlt2, ?mu2, ?_⟩
            case mu2 => (show K - (t2 + 1) < K - t2; omega)
            (repeat' (first | (refine And.intro ?_ ?_) | exact True.intro | (show _ = _; with_reducible rfl) | exact Chk.mk (by kernel_rfl)))
            all_goals first | rfl | (intro j hj; rfl) | (show (_ : Int) = _; omega)
          · obtain rfl : t2 = K := by omega
            by_cases hl2 : A + t + t2 < s.length
            · have hm2 := cnt_out (p := nlP) (l := s.drop (A + t)) (by rw [List.length_drop]; omega)
              rw [hK, ← g2] at hm2
              have hm2 := of_decide_eq_false hm2
              (repeat' (first | (refine xI (fun hfk => ?_) (fun hfk => ?_) <;> ((try (first | replace hfk := oT hfk | replace hfk := oF hfk | simp only [oA, oB, dh1, dh0, ne_eq, reduceCtorEq] at hfk)); (try (exfalso; first | omega | contradiction | exact xF hfk (by with_reducible assumption) | exact xT hfk (by with_reducible assumption))))) | (refine And.intro ?ob ?_; (case ob => (first | exact Chk.mk (by kernel_rfl) | exact True.intro | with_reducible assumption | exact rng64 (by omega) (by omega) | omega | (dsimp only; omega) | (show (_ : Nat) ≤ _; omega) | (simp only [ll1, ll2, ll0]; first | done | omega) | (dsimp only; simp only [ll1, ll2, ll0]; omega)))) | exact True.intro | (show _ = _; first | with_reducible rfl | with_reducible assumption | omega | (simp only [ll1, ll2, ll0]; omega) | (skip; done) | exact rfl) | with_reducible assumption | (apply And.intro) | omega | (intro j hj; exact rfl)))
              refine ⟨[some 0, some 1], ?_⟩
              (repeat' (first | (refine xI (fun hfk => ?_) (fun hfk => ?_) <;> ((try (first | replace hfk := oT hfk | replace hfk := oF hfk | simp only [oA, oB, dh1, dh0, ne_eq, reduceCtorEq] at hfk)); (try (exfalso; first | omega | contradiction | exact xF hfk (by with_reducible assumption) | exact xT hfk (by with_reducible assumption))))) | (refine And.intro ?ob ?_; (case ob => (first | exact Chk.mk (by kernel_rfl) | exact True.intro | with_reducible assumption | exact rng64 (by omega) (by omega) | omega | (dsimp only; omega) | (show (_ : Nat) ≤ _; omega) | (simp only [ll1, ll2, ll0]; first | done | omega) | (dsimp only; simp only [ll1, ll2, ll0]; omega)))) | exact True.intro | (show _ = _; first | with_reducible rfl | with_reducible assumption | omega | (simp only [ll1, ll2, ll0]; omega) | (first | rfl | (intro j hj; rfl) | (show (_ : Int) = _; omega); done) | exact rfl) | with_reducible assumption | (apply And.intro) | omega | (intro j hj; exact rfl)))
            · (repeat' (first | (refine xI (fun hfk => ?_) (fun hfk => ?_) <;> ((try (first | replace hfk := oT hfk | replace hfk := oF hfk | simp only [oA, oB, dh1, dh0, ne_eq, reduceCtorEq] at hfk)); (try (exfalso; first | omega | contradiction | exact xF hfk (by with_reducible assumption) | exact xT hfk (by with_reducible assumption))))) | (refine And.intro ?ob ?_; (case ob => (first | exact Chk.mk (by kernel_rfl) | exact True.intro | with_reducible assumption | exact rng64 (by omega) (by omega) | omega | (dsimp only; omega) | (show (_ : Nat) ≤ _; omega) | (simp only [ll1, ll2, ll0]; first | done | omega) | (dsimp only; simp only [ll1, ll2, ll0]; omega)))) | exact True.intro | (show _ = _; first | with_reducible rfl | with_reducible assumption | omega | (simp only [ll1, ll2, ll0]; omega) | (skip; done) | exact rfl) | with_reducible assumption | (apply And.intro) | omega | (intro j hj; exact rfl)))
              refine ⟨[some 0, some 1], ?_⟩
              (repeat' (first | (refine xI (fun hfk => ?_) (fun hfk => ?_) <;> ((try (first | replace hfk := oT hfk | replace hfk := oF hfk | simp only [oA, oB, dh1, dh0, ne_eq, reduceCtorEq] at hfk)); (try (exfalso; first | omega | contradiction | exact xF hfk (by with_reducible assumption) | exact xT hfk (by with_reducible assumption))))) | (refine And.intro ?ob ?_; (case ob => (first | exact Chk.mk (by kernel_rfl) | exact True.intro | with_reducible assumption | exact rng64 (by omega) (by omega) | omega | (dsimp only; omega) | (show (_ : Nat) ≤ _; omega) | (simp only [ll1, ll2, ll0]; first | done | omega) | (dsimp only; simp only [ll1, ll2, ll0]; omega)))) | exact True.intro | (show _ = _; first | with_reducible rfl | with_reducible assumption | omega | (simp only [ll1, ll2, ll0]; omega) | (first | rfl | (intro j hj; rfl) | (show (_ : Int) = _; omega); done) | exact rfl) | with_reducible assumption | (apply And.intro) | omega | (intro j hj; exact rfl)))
        · have eb : bkN (s.drop A) = t := by
            unfold bkN
            rw [hM, hdd, if_neg (fun q => h35 (by rw [← hg2]; exact q.2))]
          rw [eb]
          (repeat' (first | (refine xI (fun hfk => ?_) (fun hfk => ?_) <;> ((try (first | replace hfk := oT hfk | replace hfk := oF hfk | simp only [oA, oB, dh1, dh0, ne_eq, reduceCtorEq] at hfk)); (try (exfalso; first | omega | contradiction | exact xF hfk (by with_reducible assumption) | exact xT hfk (by with_reducible assumption))))) | (refine And.intro ?ob ?_; (case ob => (first | exact Chk.mk (by kernel_rfl) | exact True.intro | with_reducible assumption | exact rng64 (by omega) (by omega) | omega | (dsimp only; omega) | (show (_ : Nat) ≤ _; omega) | (simp only [ll1, ll2, ll0]; first | done | omega) | (dsimp only; simp only [ll1, ll2, ll0]; omega)))) | exact True.intro | (show _ = _; first | with_reducible rfl | with_reducible assumption | omega | (simp only [ll1, ll2, ll0]; omega) | (skip; done) | exact rfl) | with_reducible assumption | (apply And.intro) | omega | (intro j hj; exact rfl)))
          refine ⟨[some 0, some 1], ?_⟩
          (repeat' (first | (refine xI (fun hfk => ?_) (fun hfk => ?_) <;> ((try (first | replace hfk := oT hfk | replace hfk := oF hfk | simp only [oA, oB, dh1, dh0, ne_eq, reduceCtorEq] at hfk)); (try (exfalso; first | omega | contradiction | exact xF hfk (by with_reducible assumption) | exact xT hfk (by with_reducible assumption))))) | (refine And.intro ?ob ?_; (case ob => (first | exact Chk.mk (by kernel_rfl) | exact True.intro | with_reducible assumption | exact rng64 (by omega) (by omega) | omega | (dsimp only; omega) | (show (_ : Nat) ≤ _; omega) | (simp only [ll1, ll2, ll0]; first | done | omega) | (dsimp only; simp only [ll1, ll2, ll0]; omega)))) | exact True.intro | (show _ = _; first | with_reducible rfl | with_reducible assumption | omega | (simp only [ll1, ll2, ll0]; omega) | (first | rfl | (intro j hj; rfl) | (show (_ : Int) = _; omega); done) | exact rfl) | with_reducible assumption | (apply And.intro) | omega | (intro j hj; exact rfl)))
      · have eb : bkN (s.drop A) = t := by
          unfold bkN
          rw [hM, hdd, if_neg (fun q => q.1 (by rw [List.length_drop]; omega))]
        rw [eb]
        (repeat' (first | (refine xI (fun hfk => ?_) (fun hfk => ?_) <;> ((try (first | replace hfk := oT hfk | replace hfk := oF hfk | simp only [oA, oB, dh1, dh0, ne_eq, reduceCtorEq] at hfk)); (try (exfalso; first | omega | contradiction | exact xF hfk (by with_reducible assumption) | exact xT hfk (by with_reducible assumption))))) | (refine And.intro ?ob ?_; (case ob => (first | exact Chk.mk (by kernel_rfl) | exact True.intro | with_reducible assumption | exact rng64 (by omega) (by omega) | omega | (dsimp only; omega) | (show (_ : Nat) ≤ _; omega) | (simp only [ll1, ll2, ll0]; first | done | omega) | (dsimp only; simp only [ll1, ll2, ll0]; omega)))) | exact True.intro | (show _ = _; first | with_reducible rfl | with_reducible assumption | omega | (simp only [ll1, ll2, ll0]; omega) | (skip; done) | exact rfl) | with_reducible assumption | (apply And.intro) | omega | (intro j hj; exact rfl)))
        refine ⟨[some 0, some 1], ?_⟩
        (repeat' (first | (refine xI (fun hfk => ?_) (fun hfk => ?_) <;> ((try (first | replace hfk := oT hfk | replace hfk := oF hfk | simp only [oA, oB, dh1, dh0, ne_eq, reduceCtorEq] at hfk)); (try (exfalso; first | omega | contradiction | exact xF hfk (by with_reducible assumption) | exact xT hfk (by with_reducible assumption))))) | (refine And.intro ?ob ?_; (case ob => (first | exact Chk.mk (by kernel_rfl) | exact True.intro | with_reducible assumption | exact rng64 (by omega) (by omega) | omega | (dsimp only; omega) | (show (_ : Nat) ≤ _; omega) | (simp only [ll1, ll2, ll0]; first | done | omega) | (dsimp only; simp only [ll1, ll2, ll0]; omega)))) | exact True.intro | (show _ = _; first | with_reducible rfl | with_reducible assumption | omega | (simp only [ll1, ll2, ll0]; omega) | (first | rfl | (intro j hj; rfl) | (show (_ : Int) = _; omega); done) | exact rfl) | with_reducible assumption | (apply And.intro) | omega | (intro j hj; exact rfl)))
  · cases h
end Go.Proofs.Ytepjmnkleajibaa
namespace Go.Proofs.Ytepjmnkleajibaa
open Go Go.RowKit
set_option maxHeartbeats 4000000
def lnV : Nat → List UInt8 → List (List UInt8) × Nat
  | 0, l => ([], bkN l)
  | k + 1, l => if mkN (l.drop (bkN l)) = 0 then ([], bkN l) else
    (((l.drop (bkN l)).take (mkN (l.drop (bkN l)))) :: (lnV k ((l.drop (bkN l)).drop (mkN (l.drop (bkN l))))).1, bkN l + mkN (l.drop (bkN l)) + (lnV k ((l.drop (bkN l)).drop (mkN (l.drop (bkN l))))).2)
def lnW (l : List UInt8) : List (List UInt8) := (lnV (l.length + 1) l).1
def lnE (l : List UInt8) : Nat := (lnV (l.length + 1) l).2
theorem mkN_le (l : List UInt8) : mkN l ≤ l.length := cnt_le _ _
theorem lnV_le : ∀ (k : Nat) (l : List UInt8), (lnV k l).2 ≤ l.length
  | 0, l => bkN_le l
  | k + 1, l => by
    have h1 := bkN_le l
    have h2 := mkN_le (l.drop (bkN l))
    have h3 := lnV_le k ((l.drop (bkN l)).drop (mkN (l.drop (bkN l))))
    rw [List.length_drop, List.length_drop] at h3
    rw [List.length_drop] at h2
    unfold lnV
    split
    · exact h1
    · show bkN l + mkN (l.drop (bkN l)) + _ ≤ _
      omega
def lnX (l : List UInt8) : Nat := if lnE l < l.length ∧ (l.getD (lnE l) 0).toNat ≠ 10 then 1 else 0
def lnC (l : List UInt8) : Nat := if lnX l = 0 ∧ lnW l ≠ [] then 1 else 0
abbrev wA (W : List (List UInt8)) : AV := .ro 1 W.length (fun j => .str (W.getD j []))
def lnA (n : Int) (W : List (List UInt8)) : AV := .agg [.int .i64 n, wA W]
theorem snoc1 {Wd : List (List UInt8)} {w : List UInt8} {j : Nat} (z : j < Wd.length) : (Wd ++ [w]).getD j [] = Wd.getD j [] := by
  rw [List.getD_eq_getElem?_getD, List.getD_eq_getElem?_getD, List.getElem?_append_left z]
theorem snoc2 {Wd : List (List UInt8)} {w : List UInt8} {j : Nat} (z : j = Wd.length) : (Wd ++ [w]).getD j [] = w := by
  subst z
  rw [List.getD_eq_getElem?_getD, List.getElem?_append_right (Nat.le_refl _), Nat.sub_self]; rfl
theorem wA_shift (n : Int) (W : List (List UInt8)) : AV.agg [AV.int .i64 n, AV.ro 1 W.length fun j => (fun j => AV.str (W.getD j [])) (0 + j)] = AV.agg [.int .i64 n, wA W] := by
  have : (fun j => (fun j => AV.str (W.getD j [])) (0 + j)) = fun j => AV.str (W.getD j []) := by funext j; show AV.str (W.getD (0 + j) []) = _; rw [Nat.zero_add]
  rw [this]
def gdis (s1 s2 : GSpec) : GSpec := fun l H K => s1 l H K ∨ s2 l H K
theorem gdis_ok {P : Program} {g : FuncId} {s1 s2 : GSpec} (h1 : GSOK P g s1) (h2 : GSOK P g s2) : GSOK P g (gdis s1 s2) := ⟨h1.1, fun l H K h => h.elim (h1.2 l H K) (h2.2 l H K)⟩
theorem lnC0 {l : List UInt8} (h : lnC l = 0) : lnX l ≠ 0 ∨ lnW l = [] := by
  by_cases a : lnX l = 0
  · by_cases b : lnW l = []
    · exact .inr b
    · unfold lnC at h; rw [if_pos ⟨a, b⟩] at h; cases h
  · exact .inl a
theorem lnC1 {l : List UInt8} (h : lnC l = 1) : lnX l = 0 ∧ lnW l ≠ [] := by
  unfold lnC at h
  split at h
  · assumption
  · cases h
def lineF1 : FSpec := fun l es => match l, es with
  | [.ptr 0 0], [.cells 184 [.str s, .int .i64 a, .int .i64 n, .sl 1 2 0 k, .int .i64 v], .recs 121 2 m f] =>
    some ([0 ≤ a, a ≤ s.length, s.length ≤ 100000, k = m, m ≤ 100000, lnC (s.drop a.toNat) = 0], .bool (decide (lnX (s.drop a.toNat) = 0)),
      [some (.cells 184 [.str s, .int .i64 (a + (lnE (s.drop a.toNat) : Int)), .int .i64 n, .sl 1 2 0 m, .int .i64 v]), some (.recs 121 2 m f)])
  | _, _ => none
def lineF2 : FSpec := fun l es => match l, es with
  | [.ptr 0 0], [.cells 184 [.str s, .int .i64 a, .int .i64 n, .sl 1 2 0 k, .int .i64 v], .recs 121 2 m f] =>
    some ([0 ≤ a, a ≤ s.length, s.length ≤ 100000, k = m, m ≤ 100000, lnC (s.drop a.toNat) = 1], .bool (decide (lnX (s.drop a.toNat) = 0)),
      [some (.cells 184 [.str s, .int .i64 (a + (lnE (s.drop a.toNat) : Int)), .int .i64 n, .sl 2 2 0 (m + 1), .int .i64 (if m = 4096 then a else v)]), none,
       some (.recs 121 2 (m + 1) (fun j => if j < m then f j else lnA n (lnW (s.drop a.toNat))))])
  | _, _ => none
theorem line_g1 : GSOK Try.prog 118 (fG lineF1) := by
  refine fokE (S := []) (G := glook [(160, fG blanksF), (161, fG wordF)]) [] [] [2, 3, 1000008] pok_nil (gl_cons blanks_g (gl_cons word_g gl_nil)) dl_nil ⟨Try.func118, by kernel_rfl, by kernel_rfl, by kernel_rfl⟩ fun l es obs v es' h ho => ?_
  (unfold lineF1 at h; split at h; rotate_left; (focus (cases h)); rename_i s a n k v m f; simp only [Option.some.injEq, Prod.mk.injEq] at h; obtain ⟨rfl, rfl, rfl⟩ := h; simp only [List.mem_cons, List.not_mem_nil, or_false, forall_eq_or_imp, forall_eq, false_implies, implies_true] at ho)
  obtain ⟨ho1, ho2, ho3, rfl, ho5, hC⟩ := ho
  obtain ⟨A, rfl⟩ := Int.eq_ofNat_of_zero_le ho1
  have hA : A ≤ s.length := by omega
  refine ⟨Nat.le_of_ble_eq_true rfl, ?_⟩
  rw [Int.toNat_natCast] at hC ⊢
  obtain ⟨r, hr⟩ : ∃ r, s.drop A = r := ⟨_, rfl⟩
  have hrl : r.length = s.length - A := by rw [← hr, List.length_drop]
  rw [hr] at hC ⊢
  (repeat' (first | (refine xI (fun hfk => ?_) (fun hfk => ?_) <;> ((try (first | replace hfk := oT hfk | replace hfk := oF hfk | simp only [oA, oB, dh1, dh0, ne_eq, reduceCtorEq] at hfk)); (try (exfalso; first | omega | contradiction | exact xF hfk (by with_reducible assumption) | exact xT hfk (by with_reducible assumption))))) | (refine And.intro ?ob ?_; (case ob => (first | exact Chk.mk (by kernel_rfl) | exact True.intro | with_reducible assumption | exact rng64 (by omega) (by omega) | omega | (dsimp only; omega) | (show (_ : Nat) ≤ _; omega) | (simp only [ll1, ll2, ll0]; first | done | omega) | (dsimp only; simp only [ll1, ll2, ll0]; omega)))) | exact True.intro | (show _ = _; first | with_reducible rfl | with_reducible assumption | omega | (simp only [ll1, ll2, ll0]; omega) | (skip; done) | exact rfl) | with_reducible assumption | (apply And.intro) | omega | (intro j hj; exact rfl)))
  refine ⟨Nat × Nat × List (List UInt8), fun g => [(0, .ptr 0 0), (2, .bool false), (3, .ptr 2 0), (4, .int .i64 (A : Int))],
    fun g => ⟨4, [(0, some (.cells 184 [.str s, .int .i64 ((A + g.2.1 : Nat) : Int), .int .i64 n, .sl 1 2 0 k, .int .i64 v])), (1, some (.recs 121 2 k f)), (2, some (.cells 121 [.int .i64 n, .sl 3 1 0 g.2.2.length])), (3, some (.recs 9 1 g.2.2.length (fun j => .str (g.2.2.getD j []))))]⟩,
    fun g => g.2.1 ≤ r.length ∧ r.length - g.2.1 < g.1 ∧ g.2.2.length ≤ g.2.1 ∧ g.2.2 ++ (lnV g.1 (r.drop g.2.1)).1 = lnW r ∧ g.2.1 + (lnV g.1 (r.drop g.2.1)).2 = lnE r, fun g => g.1,
    ⟨(r.length + 1, 0, []), [some 0, some 1, some 2, none], ⟨Nat.zero_le _, by show r.length - 0 < r.length + 1; omega, Nat.le_refl _, by rfl, by show 0 + _ = _; rw [Nat.zero_add]; rfl⟩, ?_⟩, fun g hg => ?_⟩
  · (repeat' (first | (refine And.intro ?_ ?_) | exact True.intro | (show _ = _; with_reducible rfl) | exact Chk.mk (by kernel_rfl)))
    all_goals first | rfl | (intro j hj; rfl) | (show (_ : Int) = _; omega)
  obtain ⟨q, t, Wd⟩ := g
  obtain ⟨g1, g2, g3, g4, g5⟩ := hg
  have g1 : t ≤ r.length := g1
  have g2 : r.length - t < q := g2
  have g3 : Wd.length ≤ t := g3
  have g4 : Wd ++ (lnV q (r.drop t)).1 = lnW r := g4
  have g5 : t + (lnV q (r.drop t)).2 = lnE r := g5
  dsimp only
  obtain ⟨q, rfl⟩ : ∃ q', q = q' + 1 := ⟨q - 1, by omega⟩
  have ed : List.drop ((A + t : Nat) : Int).toNat s = r.drop t := by rw [← hr, List.drop_drop]; rfl
  obtain ⟨b, hb⟩ : ∃ b, bkN (r.drop t) = b := ⟨_, rfl⟩
  have hbl := bkN_le (r.drop t)
  rw [List.length_drop, hb] at hbl
  obtain ⟨m, hm⟩ : ∃ m, mkN (r.drop (t + b)) = m := ⟨_, rfl⟩
  have hml := mkN_le (r.drop (t + b))
  rw [List.length_drop, hm] at hml
  have hd2 : (r.drop t).drop b = r.drop (t + b) := List.drop_drop
  have hd3 : (r.drop (t + b)).drop m = r.drop (t + b + m) := List.drop_drop
  (repeat' (first | (refine xI (fun hfk => ?_) (fun hfk => ?_) <;> ((try (first | replace hfk := oT hfk | replace hfk := oF hfk | simp only [oA, oB, dh1, dh0, ne_eq, reduceCtorEq] at hfk)); (try (exfalso; first | omega | contradiction | exact xF hfk (by with_reducible assumption) | exact xT hfk (by with_reducible assumption))))) | (refine And.intro ?ob ?_; (case ob => (first | exact Chk.mk (by kernel_rfl) | exact True.intro | with_reducible assumption | exact rng64 (by omega) (by omega) | omega | (dsimp only; omega) | (show (_ : Nat) ≤ _; omega) | (simp only [ll1, ll2, ll0]; first | done | omega) | (dsimp only; simp only [ll1, ll2, ll0]; omega)))) | exact True.intro | (show _ = _; first | with_reducible rfl | with_reducible assumption | omega | (simp only [ll1, ll2, ll0]; omega) | (skip; done) | exact rfl) | with_reducible assumption | (apply And.intro) | omega | (intro j hj; exact rfl)))
  (refine ⟨[0, 1], ⟨by kernel_rfl⟩, ?_⟩)
  (repeat' (first | (refine xI (fun hfk => ?_) (fun hfk => ?_) <;> ((try (first | replace hfk := oT hfk | replace hfk := oF hfk | simp only [oA, oB, dh1, dh0, ne_eq, reduceCtorEq] at hfk)); (try (exfalso; first | omega | contradiction | exact xF hfk (by with_reducible assumption) | exact xT hfk (by with_reducible assumption))))) | (refine And.intro ?ob ?_; (case ob => (first | exact Chk.mk (by kernel_rfl) | exact True.intro | with_reducible assumption | exact rng64 (by omega) (by omega) | omega | (dsimp only; omega) | (show (_ : Nat) ≤ _; omega) | (simp only [ll1, ll2, ll0]; first | done | omega) | (dsimp only; simp only [ll1, ll2, ll0]; omega)))) | exact True.intro | (show _ = _; first | with_reducible rfl | with_reducible assumption | omega | (simp only [ll1, ll2, ll0]; omega) | (skip; done) | exact rfl) | with_reducible assumption | (apply And.intro) | omega | (intro j hj; exact rfl)))
  refine ⟨[(0, .ptr 0 0), (2, .bool false), (3, .ptr 2 0), (4, .int .i64 (A : Int))],
    ⟨4, [(0, some (.cells 184 [.str s, .int .i64 ((A + t + b : Nat) : Int), .int .i64 n, .sl 1 2 0 k, .int .i64 v])), (1, some (.recs 121 2 k f)), (2, some (.cells 121 [.int .i64 n, .sl 3 1 0 Wd.length])), (3, some (.recs 9 1 Wd.length (fun j => .str (Wd.getD j []))))]⟩, [some 0, some 1, some 2, some 3], ?_, ?_⟩
  · have e1 : ((A + t : Nat) : Int) + (bkN (List.drop ((A + t : Nat) : Int).toNat s) : Int) = ((A + t + b : Nat) : Int) := by rw [ed, hb]; omega
    (repeat' (first | (refine And.intro ?_ ?_) | exact True.intro | (show _ = _; with_reducible rfl) | exact Chk.mk (by kernel_rfl)))
    all_goals first | exact e1 | rfl | (intro j hj; rfl)
  have ed2 : List.drop ((A + t + b : Nat) : Int).toNat s = r.drop (t + b) := by rw [← hr, List.drop_drop, Nat.add_assoc]; rfl
  clear ed
  (repeat' (first | (refine xI (fun hfk => ?_) (fun hfk => ?_) <;> ((try (first | replace hfk := oT hfk | replace hfk := oF hfk | simp only [oA, oB, dh1, dh0, ne_eq, reduceCtorEq] at hfk)); (try (exfalso; first | omega | contradiction | exact xF hfk (by with_reducible assumption) | exact xT hfk (by with_reducible assumption))))) | (refine And.intro ?ob ?_; (case ob => (first | exact Chk.mk (by kernel_rfl) | exact True.intro | with_reducible assumption | exact rng64 (by omega) (by omega) | omega | (dsimp only; omega) | (show (_ : Nat) ≤ _; omega) | (simp only [ll1, ll2, ll0]; first | done | omega) | (dsimp only; simp only [ll1, ll2, ll0]; omega)))) | exact True.intro | (show _ = _; first | with_reducible rfl | with_reducible assumption | omega | (simp only [ll1, ll2, ll0]; omega) | (skip; done) | exact rfl) | with_reducible assumption | (apply And.intro) | omega | (intro j hj; exact rfl)))
  (refine ⟨[0, 1], ⟨by kernel_rfl⟩, ?_⟩)
  (repeat' (first | (refine xI (fun hfk => ?_) (fun hfk => ?_) <;> ((try (first | replace hfk := oT hfk | replace hfk := oF hfk | simp only [oA, oB, dh1, dh0, ne_eq, reduceCtorEq] at hfk)); (try (exfalso; first | omega | contradiction | exact xF hfk (by with_reducible assumption) | exact xT hfk (by with_reducible assumption))))) | (refine And.intro ?ob ?_; (case ob => (first | exact Chk.mk (by kernel_rfl) | exact True.intro | with_reducible assumption | exact rng64 (by omega) (by omega) | omega | (dsimp only; omega) | (show (_ : Nat) ≤ _; omega) | (simp only [ll1, ll2, ll0]; first | done | omega) | (dsimp only; simp only [ll1, ll2, ll0]; omega)))) | exact True.intro | (show _ = _; first | with_reducible rfl | with_reducible assumption | omega | (simp only [ll1, ll2, ll0]; omega) | (skip; done) | exact rfl) | with_reducible assumption | (apply And.intro) | omega | (intro j hj; exact rfl)))
  refine ⟨[(0, .ptr 0 0), (2, .bool false), (3, .ptr 2 0), (4, .int .i64 (A : Int)), (5, .str ((r.drop (t + b)).take m))],
    ⟨4, [(0, some (.cells 184 [.str s, .int .i64 ((A + t + b + m : Nat) : Int), .int .i64 n, .sl 1 2 0 k, .int .i64 v])), (1, some (.recs 121 2 k f)), (2, some (.cells 121 [.int .i64 n, .sl 3 1 0 Wd.length])), (3, some (.recs 9 1 Wd.length (fun j => .str (Wd.getD j []))))]⟩, [some 0, some 1, some 2, some 3], ?_, ?_⟩
  · have e1 : ((A + t + b : Nat) : Int) + (mkN (List.drop ((A + t + b : Nat) : Int).toNat s) : Int) = ((A + t + b + m : Nat) : Int) := by rw [ed2, hm]; omega
    have e2 : List.take (mkN (List.drop ((A + t + b : Nat) : Int).toNat s)) (List.drop ((A + t + b : Nat) : Int).toNat s) = (r.drop (t + b)).take m := by rw [ed2, hm]
    (repeat' (first | (refine And.intro ?_ ?_) | exact True.intro | (show _ = _; with_reducible rfl) | exact Chk.mk (by kernel_rfl)))
    all_goals first | exact e1 | exact e2 | rfl | (intro j hj; rfl)
  clear ed2
  by_cases hm0 : m = 0
  · have v1 : lnV (q + 1) (r.drop t) = ([], b) := by
      unfold lnV; rw [hb, hd2, hm, if_pos hm0]
    rw [v1] at g4 g5
    rw [List.append_nil] at g4
    have g6 : t + b = lnE r := g5
    clear g5
    obtain rfl : Wd = lnW r := g4
    have hem : List.take m (r.drop (t + b)) = (ByteArray.mk #[]).data.toList := by rw [hm0]; rfl
    have gE : s.getD ((A + t + b + m : Nat) : Int).toNat 0 = r.getD (lnE r) 0 := by
      have hq : ∀ j, r.getD j 0 = s.getD (A + j) 0 := fun j => by rw [← hr]; exact sdrop_getD
      rw [hq, ← g6, hm0, Int.toNat_natCast]
      show s.getD (A + t + b) 0 = _
      rw [Nat.add_assoc]
    have hE : A + t + b + m = A + lnE r := by omega
    clear hd2 hd3 v1 g3
    have hcs := lnC0 hC
    by_cases hx : lnX r = 0
    rotate_left
    · have hx2 : lnE r < r.length ∧ (r.getD (lnE r) 0).toNat ≠ 10 := by
        unfold lnX at hx
        split at hx
        · assumption
        · exact absurd rfl hx
      rw [← gE] at hx2
      have r1 : decide (lnX r = 0) = false := decide_eq_false hx
      rw [r1]
      (repeat' (first | (refine xI (fun hfk => ?_) (fun hfk => ?_) <;> ((try (first | replace hfk := oT hfk | replace hfk := oF hfk | simp only [oA, oB, dh1, dh0, ne_eq, reduceCtorEq] at hfk)); (try (exfalso; first | omega | contradiction | exact xF hfk (by with_reducible assumption) | exact xT hfk (by with_reducible assumption))))) | (refine And.intro ?ob ?_; (case ob => (first | exact Chk.mk (by kernel_rfl) | exact True.intro | with_reducible assumption | exact rng64 (by omega) (by omega) | omega | (dsimp only; omega) | (show (_ : Nat) ≤ _; omega) | (simp only [ll1, ll2, ll0]; first | done | omega) | (dsimp only; simp only [ll1, ll2, ll0]; omega)))) | exact True.intro | (show _ = _; first | with_reducible rfl | with_reducible assumption | omega | (simp only [ll1, ll2, ll0]; omega) | (skip; done) | exact rfl) | with_reducible assumption | (apply And.intro) | omega | (intro j hj; exact rfl)))
      refine ⟨[some 0, some 1], ?_⟩
      (repeat' (first | (refine xI (fun hfk => ?_) (fun hfk => ?_) <;> ((try (first | replace hfk := oT hfk | replace hfk := oF hfk | simp only [oA, oB, dh1, dh0, ne_eq, reduceCtorEq] at hfk)); (try (exfalso; first | omega | contradiction | exact xF hfk (by with_reducible assumption) | exact xT hfk (by with_reducible assumption))))) | (refine And.intro ?ob ?_; (case ob => (first | exact Chk.mk (by kernel_rfl) | exact True.intro | with_reducible assumption | exact rng64 (by omega) (by omega) | omega | (dsimp only; omega) | (show (_ : Nat) ≤ _; omega) | (simp only [ll1, ll2, ll0]; first | done | omega) | (dsimp only; simp only [ll1, ll2, ll0]; omega)))) | exact True.intro | (show _ = _; first | with_reducible rfl | with_reducible assumption | omega | (simp only [ll1, ll2, ll0]; omega) | (first | rfl | (intro j hj; rfl) | (show (_ : Int) = _; omega); done) | exact rfl) | with_reducible assumption | (apply And.intro) | omega | (intro j hj; exact rfl)))
    · have hx2 : ¬ (lnE r < r.length ∧ (r.getD (lnE r) 0).toNat ≠ 10) := fun k => by
        unfold lnX at hx; rw [if_pos k] at hx; cases hx
      rw [← gE] at hx2
      have r1 : decide (lnX r = 0) = true := decide_eq_true hx
      rw [r1]
      have hW : lnW r = [] := hcs.resolve_left (fun k => k hx)
      have hWl : (lnW r).length = 0 := by rw [hW]; rfl
      by_cases hl : A + t + b + m < s.length
      all_goals
        (repeat' (first | (refine xI (fun hfk => ?_) (fun hfk => ?_) <;> ((try (first | replace hfk := oT hfk | replace hfk := oF hfk | simp only [oA, oB, dh1, dh0, ne_eq, reduceCtorEq] at hfk)); (try (exfalso; first | omega | contradiction | exact xF hfk (by with_reducible assumption) | exact xT hfk (by with_reducible assumption))))) | (refine And.intro ?ob ?_; (case ob => (first | exact Chk.mk (by kernel_rfl) | exact True.intro | with_reducible assumption | exact rng64 (by omega) (by omega) | omega | (dsimp only; omega) | (show (_ : Nat) ≤ _; omega) | (simp only [ll1, ll2, ll0]; first | done | omega) | (dsimp only; simp only [ll1, ll2, ll0]; omega)))) | exact True.intro | (show _ = _; first | with_reducible rfl | with_reducible assumption | omega | (simp only [ll1, ll2, ll0]; omega) | (skip; done) | exact rfl) | with_reducible assumption | (apply And.intro) | omega | (intro j hj; exact rfl)))
        refine ⟨[], ?_⟩
        (repeat' (first | (refine xI (fun hfk => ?_) (fun hfk => ?_) <;> ((try (first | replace hfk := oT hfk | replace hfk := oF hfk | simp only [oA, oB, dh1, dh0, ne_eq, reduceCtorEq] at hfk)); (try (exfalso; first | omega | contradiction | exact xF hfk (by with_reducible assumption) | exact xT hfk (by with_reducible assumption))))) | (refine And.intro ?ob ?_; (case ob => (first | exact Chk.mk (by kernel_rfl) | exact True.intro | with_reducible assumption | exact rng64 (by omega) (by omega) | omega | (dsimp only; omega) | (show (_ : Nat) ≤ _; omega) | (simp only [ll1, ll2, ll0]; first | done | omega) | (dsimp only; simp only [ll1, ll2, ll0]; omega)))) | exact True.intro | (show _ = _; first | with_reducible rfl | with_reducible assumption | omega | (simp only [ll1, ll2, ll0]; omega) | (skip; done) | exact rfl) | with_reducible assumption | (apply And.intro) | omega | (intro j hj; exact rfl)))
        refine ⟨[(0, .ptr 0 0), (2, .bool false), (3, .ptr 2 0), (4, .int .i64 (A : Int)), (52, .bool (decide (0 < ((lnW r).length : Int))))],
          ⟨4, [(0, some (.cells 184 [.str s, .int .i64 ((A + t + b + m : Nat) : Int), .int .i64 n, .sl 1 2 0 k, .int .i64 v])), (1, some (.recs 121 2 k f)), (2, some (.cells 121 [.int .i64 n, .sl 3 1 0 (lnW r).length])), (3, some (.recs 9 1 (lnW r).length (fun j => .str ((lnW r).getD j []))))]⟩, [some 0, some 1, some 2, some 3], ?_, ?_⟩
        · (repeat' (first | (refine And.intro ?_ ?_) | exact True.intro | (show _ = _; with_reducible rfl) | exact Chk.mk (by kernel_rfl)))
          all_goals first | rfl | (intro j hj; rfl)
        (repeat' (first | (refine xI (fun hfk => ?_) (fun hfk => ?_) <;> ((try (first | replace hfk := oT hfk | replace hfk := oF hfk | simp only [oA, oB, dh1, dh0, ne_eq, reduceCtorEq] at hfk)); (try (exfalso; first | omega | contradiction | exact xF hfk (by with_reducible assumption) | exact xT hfk (by with_reducible assumption))))) | (refine And.intro ?ob ?_; (case ob => (first | exact Chk.mk (by kernel_rfl) | exact True.intro | with_reducible assumption | exact rng64 (by omega) (by omega) | omega | (dsimp only; omega) | (show (_ : Nat) ≤ _; omega) | (simp only [ll1, ll2, ll0]; first | done | omega) | (dsimp only; simp only [ll1, ll2, ll0]; omega)))) | exact True.intro | (show _ = _; first | with_reducible rfl | with_reducible assumption | omega | (simp only [ll1, ll2, ll0]; omega) | (skip; done) | exact rfl) | with_reducible assumption | (apply And.intro) | omega | (intro j hj; exact rfl)))
        all_goals (refine ⟨[some 0, some 1], ?_⟩)
        (repeat' (first | (refine xI (fun hfk => ?_) (fun hfk => ?_) <;> ((try (first | replace hfk := oT hfk | replace hfk := oF hfk | simp only [oA, oB, dh1, dh0, ne_eq, reduceCtorEq] at hfk)); (try (exfalso; first | omega | contradiction | exact xF hfk (by with_reducible assumption) | exact xT hfk (by with_reducible assumption))))) | (refine And.intro ?ob ?_; (case ob => (first | exact Chk.mk (by kernel_rfl) | exact True.intro | with_reducible assumption | exact rng64 (by omega) (by omega) | omega | (dsimp only; omega) | (show (_ : Nat) ≤ _; omega) | (simp only [ll1, ll2, ll0]; first | done | omega) | (dsimp only; simp only [ll1, ll2, ll0]; omega)))) | exact True.intro | (show _ = _; first | with_reducible rfl | with_reducible assumption | omega | (simp only [ll1, ll2, ll0]; omega) | (first | rfl | (intro j hj; rfl) | (show (_ : Int) = _; omega); done) | exact rfl) | with_reducible assumption | (apply And.intro) | omega | (intro j hj; exact rfl)))
  · have v1 : lnV (q + 1) (r.drop t) = ((r.drop (t + b)).take m :: (lnV q (r.drop (t + b + m))).1, b + m + (lnV q (r.drop (t + b + m))).2) := by
      have : lnV (q + 1) (r.drop t) = if mkN ((r.drop t).drop (bkN (r.drop t))) = 0 then ([], bkN (r.drop t)) else (((r.drop t).drop (bkN (r.drop t))).take (mkN ((r.drop t).drop (bkN (r.drop t)))) :: (lnV q (((r.drop t).drop (bkN (r.drop t))).drop (mkN ((r.drop t).drop (bkN (r.drop t)))))).1, bkN (r.drop t) + mkN ((r.drop t).drop (bkN (r.drop t))) + (lnV q (((r.drop t).drop (bkN (r.drop t))).drop (mkN ((r.drop t).drop (bkN (r.drop t)))))).2) := rfl
      rw [this, hb, hd2, hm, if_neg hm0, hd3]
    rw [v1] at g4 g5
    have g6 : t + (b + m + (lnV q (r.drop (t + b + m))).2) = lnE r := g5
    clear g5
    have hne : ¬ List.take m (r.drop (t + b)) = (ByteArray.mk #[]).data.toList := fun k => hm0 (by
      have := congrArg List.length k
      rw [List.length_take, List.length_drop] at this
      have e0 : ((ByteArray.mk #[]).data.toList : List UInt8).length = 0 := rfl
      rw [e0] at this; omega)
    have g7 : (Wd ++ [(r.drop (t + b)).take m]).length = Wd.length + 1 := by simp
    clear v1
    (repeat' (first | (refine xI (fun hfk => ?_) (fun hfk => ?_) <;> ((try (first | replace hfk := oT hfk | replace hfk := oF hfk | simp only [oA, oB, dh1, dh0, ne_eq, reduceCtorEq] at hfk)); (try (exfalso; first | omega | contradiction | exact xF hfk (by with_reducible assumption) | exact xT hfk (by with_reducible assumption))))) | (refine And.intro ?ob ?_; (case ob => (first | exact Chk.mk (by kernel_rfl) | exact True.intro | with_reducible assumption | exact rng64 (by omega) (by omega) | omega | (dsimp only; omega) | (show (_ : Nat) ≤ _; omega) | (simp only [ll1, ll2, ll0]; first | done | omega) | (dsimp only; simp only [ll1, ll2, ll0]; omega)))) | exact True.intro | (show _ = _; first | with_reducible rfl | with_reducible assumption | omega | (simp only [ll1, ll2, ll0]; omega) | (skip; done) | exact rfl) | with_reducible assumption | (apply And.intro) | omega | (intro j hj; exact rfl)))
    have f1 : t + b + m ≤ r.length := by omega
    have f2 : r.length - (t + b + m) < q := by omega
    have f3 : (Wd ++ [(r.drop (t + b)).take m]).length ≤ t + b + m := by rw [g7]; omega
    have f4 : (Wd ++ [(r.drop (t + b)).take m]) ++ (lnV q (r.drop (t + b + m))).1 = lnW r := by rw [List.append_assoc]; exact g4
    have f5 : t + b + m + (lnV q (r.drop (t + b + m))).2 = lnE r := by omega
    have e8 : ((A + t + b + m : Nat) : Int) = ((A + (t + b + m) : Nat) : Int) := by omega
    refine ⟨(q, t + b + m, Wd ++ [(r.drop (t + b)).take m]), [some 0, some 1, some 2, some 5], ⟨f1, f2, f3, f4, f5⟩, Nat.lt_succ_self q, ?_⟩
    (repeat' (first | (refine And.intro ?_ ?_) | exact True.intro | (show _ = _; with_reducible rfl) | exact Chk.mk (by kernel_rfl)))
    all_goals first | rfl | exact e8 | exact g7.symm | (intro j hj; rfl) | (intro j hj; (have hj2 : j < (Wd ++ [(r.drop (t + b)).take m]).length := hj); rw [g7] at hj2; dsimp only; by_cases z : j < Wd.length; (rw [if_pos z, snoc1 z]); (have e : j - Wd.length = 0 := by omega); rw [if_neg z, snoc2 (show j = Wd.length by omega), e]; rfl)
theorem line_g2 : GSOK Try.prog 118 (fG lineF2) := by
  refine fokE (S := []) (G := glook [(160, fG blanksF), (161, fG wordF)]) [] [] [2, 3, 1000008] pok_nil (gl_cons blanks_g (gl_cons word_g gl_nil)) dl_nil ⟨Try.func118, by kernel_rfl, by kernel_rfl, by kernel_rfl⟩ fun l es obs v es' h ho => ?_
  (unfold lineF2 at h; split at h; rotate_left; (focus (cases h)); rename_i s a n k v m f; simp only [Option.some.injEq, Prod.mk.injEq] at h; obtain ⟨rfl, rfl, rfl⟩ := h; simp only [List.mem_cons, List.not_mem_nil, or_false, forall_eq_or_imp, forall_eq, false_implies, implies_true] at ho)
  obtain ⟨ho1, ho2, ho3, rfl, ho5, hC⟩ := ho
  obtain ⟨A, rfl⟩ := Int.eq_ofNat_of_zero_le ho1
  have hA : A ≤ s.length := by omega
  refine ⟨Nat.le_of_ble_eq_true rfl, ?_⟩
  rw [Int.toNat_natCast] at hC ⊢
  obtain ⟨r, hr⟩ : ∃ r, s.drop A = r := ⟨_, rfl⟩
  have hrl : r.length = s.length - A := by rw [← hr, List.length_drop]
  rw [hr] at hC ⊢
  (repeat' (first | (refine xI (fun hfk => ?_) (fun hfk => ?_) <;> ((try (first | replace hfk := oT hfk | replace hfk := oF hfk | simp only [oA, oB, dh1, dh0, ne_eq, reduceCtorEq] at hfk)); (try (exfalso; first | omega | contradiction | exact xF hfk (by with_reducible assumption) | exact xT hfk (by with_reducible assumption))))) | (refine And.intro ?ob ?_; (case ob => (first | exact Chk.mk (by kernel_rfl) | exact True.intro | with_reducible assumption | exact rng64 (by omega) (by omega) | omega | (dsimp only; omega) | (show (_ : Nat) ≤ _; omega) | (simp only [ll1, ll2, ll0]; first | done | omega) | (dsimp only; simp only [ll1, ll2, ll0]; omega)))) | exact True.intro | (show _ = _; first | with_reducible rfl | with_reducible assumption | omega | (simp only [ll1, ll2, ll0]; omega) | (skip; done) | exact rfl) | with_reducible assumption | (apply And.intro) | omega | (intro j hj; exact rfl)))
  refine ⟨Nat × Nat × List (List UInt8), fun g => [(0, .ptr 0 0), (2, .bool false), (3, .ptr 2 0), (4, .int .i64 (A : Int))],
    fun g => ⟨4, [(0, some (.cells 184 [.str s, .int .i64 ((A + g.2.1 : Nat) : Int), .int .i64 n, .sl 1 2 0 k, .int .i64 v])), (1, some (.recs 121 2 k f)), (2, some (.cells 121 [.int .i64 n, .sl 3 1 0 g.2.2.length])), (3, some (.recs 9 1 g.2.2.length (fun j => .str (g.2.2.getD j []))))]⟩,
    fun g => g.2.1 ≤ r.length ∧ r.length - g.2.1 < g.1 ∧ g.2.2.length ≤ g.2.1 ∧ g.2.2 ++ (lnV g.1 (r.drop g.2.1)).1 = lnW r ∧ g.2.1 + (lnV g.1 (r.drop g.2.1)).2 = lnE r, fun g => g.1,
    ⟨(r.length + 1, 0, []), [some 0, some 1, some 2, none], ⟨Nat.zero_le _, by show r.length - 0 < r.length + 1; omega, Nat.le_refl _, by rfl, by show 0 + _ = _; rw [Nat.zero_add]; rfl⟩, ?_⟩, fun g hg => ?_⟩
  · (repeat' (first | (refine And.intro ?_ ?_) | exact True.intro | (show _ = _; with_reducible rfl) | exact Chk.mk (by kernel_rfl)))
    all_goals first | rfl | (intro j hj; rfl) | (show (_ : Int) = _; omega)
  obtain ⟨q, t, Wd⟩ := g
  obtain ⟨g1, g2, g3, g4, g5⟩ := hg
  have g1 : t ≤ r.length := g1
  have g2 : r.length - t < q := g2
  have g3 : Wd.length ≤ t := g3
  have g4 : Wd ++ (lnV q (r.drop t)).1 = lnW r := g4
  have g5 : t + (lnV q (r.drop t)).2 = lnE r := g5
  dsimp only
  obtain ⟨q, rfl⟩ : ∃ q', q = q' + 1 := ⟨q - 1, by omega⟩
  have ed : List.drop ((A + t : Nat) : Int).toNat s = r.drop t := by rw [← hr, List.drop_drop]; rfl
  obtain ⟨b, hb⟩ : ∃ b, bkN (r.drop t) = b := ⟨_, rfl⟩
  have hbl := bkN_le (r.drop t)
  rw [List.length_drop, hb] at hbl
  obtain ⟨m, hm⟩ : ∃ m, mkN (r.drop (t + b)) = m := ⟨_, rfl⟩
  have hml := mkN_le (r.drop (t + b))
  rw [List.length_drop, hm] at hml
  have hd2 : (r.drop t).drop b = r.drop (t + b) := List.drop_drop
  have hd3 : (r.drop (t + b)).drop m = r.drop (t + b + m) := List.drop_drop
  (repeat' (first | (refine xI (fun hfk => ?_) (fun hfk => ?_) <;> ((try (first | replace hfk := oT hfk | replace hfk := oF hfk | simp only [oA, oB, dh1, dh0, ne_eq, reduceCtorEq] at hfk)); (try (exfalso; first | omega | contradiction | exact xF hfk (by with_reducible assumption) | exact xT hfk (by with_reducible assumption))))) | (refine And.intro ?ob ?_; (case ob => (first | exact Chk.mk (by kernel_rfl) | exact True.intro | with_reducible assumption | exact rng64 (by omega) (by omega) | omega | (dsimp only; omega) | (show (_ : Nat) ≤ _; omega) | (simp only [ll1, ll2, ll0]; first | done | omega) | (dsimp only; simp only [ll1, ll2, ll0]; omega)))) | exact True.intro | (show _ = _; first | with_reducible rfl | with_reducible assumption | omega | (simp only [ll1, ll2, ll0]; omega) | (skip; done) | exact rfl) | with_reducible assumption | (apply And.intro) | omega | (intro j hj; exact rfl)))
  (refine ⟨[0, 1], ⟨by kernel_rfl⟩, ?_⟩)
  (repeat' (first | (refine xI (fun hfk => ?_) (fun hfk => ?_) <;> ((try (first | replace hfk := oT hfk | replace hfk := oF hfk | simp only [oA, oB, dh1, dh0, ne_eq, reduceCtorEq] at hfk)); (try (exfalso; first | omega | contradiction | exact xF hfk (by with_reducible assumption) | exact xT hfk (by with_reducible assumption))))) | (refine And.intro ?ob ?_; (case ob => (first | exact Chk.mk (by kernel_rfl) | exact True.intro | with_reducible assumption | exact rng64 (by omega) (by omega) | omega | (dsimp only; omega) | (show (_ : Nat) ≤ _; omega) | (simp only [ll1, ll2, ll0]; first | done | omega) | (dsimp only; simp only [ll1, ll2, ll0]; omega)))) | exact True.intro | (show _ = _; first | with_reducible rfl | with_reducible assumption | omega | (simp only [ll1, ll2, ll0]; omega) | (skip; done) | exact rfl) | with_reducible assumption | (apply And.intro) | omega | (intro j hj; exact rfl)))
  refine ⟨[(0, .ptr 0 0), (2, .bool false), (3, .ptr 2 0), (4, .int .i64 (A : Int))],
    ⟨4, [(0, some (.cells 184 [.str s, .int .i64 ((A + t + b : Nat) : Int), .int .i64 n, .sl 1 2 0 k, .int .i64 v])), (1, some (.recs 121 2 k f)), (2, some (.cells 121 [.int .i64 n, .sl 3 1 0 Wd.length])), (3, some (.recs 9 1 Wd.length (fun j => .str (Wd.getD j []))))]⟩, [some 0, some 1, some 2, some 3], ?_, ?_⟩
  · have e1 : ((A + t : Nat) : Int) + (bkN (List.drop ((A + t : Nat) : Int).toNat s) : Int) = ((A + t + b : Nat) : Int) := by rw [ed, hb]; omega
    (repeat' (first | (refine And.intro ?_ ?_) | exact True.intro | (show _ = _; with_reducible rfl) | exact Chk.mk (by kernel_rfl)))
    all_goals first | exact e1 | rfl | (intro j hj; rfl)
  have ed2 : List.drop ((A + t + b : Nat) : Int).toNat s = r.drop (t + b) := by rw [← hr, List.drop_drop, Nat.add_assoc]; rfl
  clear ed
  (repeat' (first | (refine xI (fun hfk => ?_) (fun hfk => ?_) <;> ((try (first | replace hfk := oT hfk | replace hfk := oF hfk | simp only [oA, oB, dh1, dh0, ne_eq, reduceCtorEq] at hfk)); (try (exfalso; first | omega | contradiction | exact xF hfk (by with_reducible assumption) | exact xT hfk (by with_reducible assumption))))) | (refine And.intro ?ob ?_; (case ob => (first | exact Chk.mk (by kernel_rfl) | exact True.intro | with_reducible assumption | exact rng64 (by omega) (by omega) | omega | (dsimp only; omega) | (show (_ : Nat) ≤ _; omega) | (simp only [ll1, ll2, ll0]; first | done | omega) | (dsimp only; simp only [ll1, ll2, ll0]; omega)))) | exact True.intro | (show _ = _; first | with_reducible rfl | with_reducible assumption | omega | (simp only [ll1, ll2, ll0]; omega) | (skip; done) | exact rfl) | with_reducible assumption | (apply And.intro) | omega | (intro j hj; exact rfl)))
  (refine ⟨[0, 1], ⟨by kernel_rfl⟩, ?_⟩)
  (repeat' (first | (refine xI (fun hfk => ?_) (fun hfk => ?_) <;> ((try (first | replace hfk := oT hfk | replace hfk := oF hfk | simp only [oA, oB, dh1, dh0, ne_eq, reduceCtorEq] at hfk)); (try (exfalso; first | omega | contradiction | exact xF hfk (by with_reducible assumption) | exact xT hfk (by with_reducible assumption))))) | (refine And.intro ?ob ?_; (case ob => (first | exact Chk.mk (by kernel_rfl) | exact True.intro | with_reducible assumption | exact rng64 (by omega) (by omega) | omega | (dsimp only; omega) | (show (_ : Nat) ≤ _; omega) | (simp only [ll1, ll2, ll0]; first | done | omega) | (dsimp only; simp only [ll1, ll2, ll0]; omega)))) | exact True.intro | (show _ = _; first | with_reducible rfl | with_reducible assumption | omega | (simp only [ll1, ll2, ll0]; omega) | (skip; done) | exact rfl) | with_reducible assumption | (apply And.intro) | omega | (intro j hj; exact rfl)))
  refine ⟨[(0, .ptr 0 0), (2, .bool false), (3, .ptr 2 0), (4, .int .i64 (A : Int)), (5, .str ((r.drop (t + b)).take m))],
    ⟨4, [(0, some (.cells 184 [.str s, .int .i64 ((A + t + b + m : Nat) : Int), .int .i64 n, .sl 1 2 0 k, .int .i64 v])), (1, some (.recs 121 2 k f)), (2, some (.cells 121 [.int .i64 n, .sl 3 1 0 Wd.length])), (3, some (.recs 9 1 Wd.length (fun j => .str (Wd.getD j []))))]⟩, [some 0, some 1, some 2, some 3], ?_, ?_⟩
  · have e1 : ((A + t + b : Nat) : Int) + (mkN (List.drop ((A + t + b : Nat) : Int).toNat s) : Int) = ((A + t + b + m : Nat) : Int) := by rw [ed2, hm]; omega
    have e2 : List.take (mkN (List.drop ((A + t + b : Nat) : Int).toNat s)) (List.drop ((A + t + b : Nat) : Int).toNat s) = (r.drop (t + b)).take m := by rw [ed2, hm]
    (repeat' (first | (refine And.intro ?_ ?_) | exact True.intro | (show _ = _; with_reducible rfl) | exact Chk.mk (by kernel_rfl)))
    all_goals first | exact e1 | exact e2 | rfl | (intro j hj; rfl)
  clear ed2
  by_cases hm0 : m = 0
  · have v1 : lnV (q + 1) (r.drop t) = ([], b) := by
      unfold lnV; rw [hb, hd2, hm, if_pos hm0]
    rw [v1] at g4 g5
    rw [List.append_nil] at g4
    have g6 : t + b = lnE r := g5
    clear g5
    obtain rfl : Wd = lnW r := g4
    have hem : List.take m (r.drop (t + b)) = (ByteArray.mk #[]).data.toList := by rw [hm0]; rfl
    have gE : s.getD ((A + t + b + m : Nat) : Int).toNat 0 = r.getD (lnE r) 0 := by
      have hq : ∀ j, r.getD j 0 = s.getD (A + j) 0 := fun j => by rw [← hr]; exact sdrop_getD
      rw [hq, ← g6, hm0, Int.toNat_natCast]
      show s.getD (A + t + b) 0 = _
      rw [Nat.add_assoc]
    have hE : A + t + b + m = A + lnE r := by omega
    clear hd2 hd3 v1 g3
    obtain ⟨hx, hW⟩ := lnC1 hC
    have hx2 : ¬ (lnE r < r.length ∧ (r.getD (lnE r) 0).toNat ≠ 10) := fun k => by
      unfold lnX at hx; rw [if_pos k] at hx; cases hx
    rw [← gE] at hx2
    have r1 : decide (lnX r = 0) = true := decide_eq_true hx
    rw [r1]
    have hWl : 0 < (lnW r).length := List.length_pos_iff.2 hW
    have fA : ∀ j, j < k + 1 → (if j < k then f j else lnA n (lnW r)) = (if j < k then f j else lnA n (lnW r)) := fun _ _ => rfl
    by_cases hl : A + t + b + m < s.length
    all_goals
      (repeat' (first | (refine xI (fun hfk => ?_) (fun hfk => ?_) <;> ((try (first | replace hfk := oT hfk | replace hfk := oF hfk | simp only [oA, oB, dh1, dh0, ne_eq, reduceCtorEq] at hfk)); (try (exfalso; first | omega | contradiction | exact xF hfk (by with_reducible assumption) | exact xT hfk (by with_reducible assumption))))) | (refine And.intro ?ob ?_; (case ob => (first | exact Chk.mk (by kernel_rfl) | exact True.intro | with_reducible assumption | exact rng64 (by omega) (by omega) | omega | (dsimp only; omega) | (show (_ : Nat) ≤ _; omega) | (simp only [ll1, ll2, ll0]; first | done | omega) | (dsimp only; simp only [ll1, ll2, ll0]; omega)))) | exact True.intro | (show _ = _; first | with_reducible rfl | with_reducible assumption | omega | (simp only [ll1, ll2, ll0]; omega) | (skip; done) | exact rfl) | with_reducible assumption | (apply And.intro) | omega | (intro j hj; exact rfl)))
      refine ⟨[3], ?_⟩
      (repeat' (first | (refine xI (fun hfk => ?_) (fun hfk => ?_) <;> ((try (first | replace hfk := oT hfk | replace hfk := oF hfk | simp only [oA, oB, dh1, dh0, ne_eq, reduceCtorEq] at hfk)); (try (exfalso; first | omega | contradiction | exact xF hfk (by with_reducible assumption) | exact xT hfk (by with_reducible assumption))))) | (refine And.intro ?ob ?_; (case ob => (first | exact Chk.mk (by kernel_rfl) | exact True.intro | with_reducible assumption | exact rng64 (by omega) (by omega) | omega | (dsimp only; omega) | (show (_ : Nat) ≤ _; omega) | (simp only [ll1, ll2, ll0]; first | done | omega) | (dsimp only; simp only [ll1, ll2, ll0]; omega)))) | exact True.intro | (show _ = _; first | with_reducible rfl | with_reducible assumption | omega | (simp only [ll1, ll2, ll0]; omega) | (skip; done) | exact rfl) | with_reducible assumption | (apply And.intro) | omega | (intro j hj; exact rfl)))
      refine ⟨[(0, .ptr 0 0), (2, .bool false), (3, .rop (.agg [.int .i64 n, wA (lnW r)])), (4, .int .i64 (A : Int)), (52, .bool (decide (0 < ((lnW r).length : Int))))],
        ⟨2, [(0, some (.cells 184 [.str s, .int .i64 ((A + t + b + m : Nat) : Int), .int .i64 n, .sl 1 2 0 k, .int .i64 v])), (1, some (.recs 121 2 k f))]⟩, [some 0, some 1], ?_, ?_⟩
      · (repeat' (first | (refine And.intro ?_ ?_) | exact True.intro | (show _ = _; with_reducible rfl) | exact Chk.mk (by kernel_rfl)))
        all_goals first | rfl | (intro j hj; rfl) | exact wA_shift n (lnW r)
      (repeat' (first | (refine xI (fun hfk => ?_) (fun hfk => ?_) <;> ((try (first | replace hfk := oT hfk | replace hfk := oF hfk | simp only [oA, oB, dh1, dh0, ne_eq, reduceCtorEq] at hfk)); (try (exfalso; first | omega | contradiction | exact xF hfk (by with_reducible assumption) | exact xT hfk (by with_reducible assumption))))) | (refine And.intro ?ob ?_; (case ob => (first | exact Chk.mk (by kernel_rfl) | exact True.intro | with_reducible assumption | exact rng64 (by omega) (by omega) | omega | (dsimp only; omega) | (show (_ : Nat) ≤ _; omega) | (simp only [ll1, ll2, ll0]; first | done | omega) | (dsimp only; simp only [ll1, ll2, ll0]; omega)))) | exact True.intro | (show _ = _; first | with_reducible rfl | with_reducible assumption | omega | (simp only [ll1, ll2, ll0]; omega) | (skip; done) | exact rfl) | with_reducible assumption | (apply And.intro) | omega | (intro j hj; exact rfl)))
      all_goals (refine ⟨[some 0, some 1, some 3], ?_⟩)
      (repeat' (first | (refine xI (fun hfk => ?_) (fun hfk => ?_) <;> ((try (first | replace hfk := oT hfk | replace hfk := oF hfk | simp only [oA, oB, dh1, dh0, ne_eq, reduceCtorEq] at hfk)); (try (exfalso; first | omega | contradiction | exact xF hfk (by with_reducible assumption) | exact xT hfk (by with_reducible assumption))))) | (refine And.intro ?ob ?_; (case ob => (first | exact Chk.mk (by kernel_rfl) | exact True.intro | with_reducible assumption | exact rng64 (by omega) (by omega) | omega | (dsimp only; omega) | (show (_ : Nat) ≤ _; omega) | (simp only [ll1, ll2, ll0]; first | done | omega) | (dsimp only; simp only [ll1, ll2, ll0]; omega)))) | exact True.intro | (show _ = _; first | with_reducible rfl | with_reducible assumption | omega | (simp only [ll1, ll2, ll0]; omega) | (first | rfl | exact (if_pos (by omega)).symm | exact (if_neg (by omega)).symm | (show (_ : Int) = _; omega); done) | exact rfl) | with_reducible assumption | (apply And.intro) | omega | (intro j hj; exact rfl)))
      all_goals (intro j hj; dsimp only; by_cases z : j < k; (rw [if_pos z, if_pos z]); (have e : j - k = 0 := by omega); rw [if_neg z, if_neg z, e]; rfl)
  · have v1 : lnV (q + 1) (r.drop t) = ((r.drop (t + b)).take m :: (lnV q (r.drop (t + b + m))).1, b + m + (lnV q (r.drop (t + b + m))).2) := by
      have : lnV (q + 1) (r.drop t) = if mkN ((r.drop t).drop (bkN (r.drop t))) = 0 then ([], bkN (r.drop t)) else (((r.drop t).drop (bkN (r.drop t))).take (mkN ((r.drop t).drop (bkN (r.drop t)))) :: (lnV q (((r.drop t).drop (bkN (r.drop t))).drop (mkN ((r.drop t).drop (bkN (r.drop t)))))).1, bkN (r.drop t) + mkN ((r.drop t).drop (bkN (r.drop t))) + (lnV q (((r.drop t).drop (bkN (r.drop t))).drop (mkN ((r.drop t).drop (bkN (r.drop t)))))).2) := rfl
      rw [this, hb, hd2, hm, if_neg hm0, hd3]
    rw [v1] at g4 g5
    have g6 : t + (b + m + (lnV q (r.drop (t + b + m))).2) = lnE r := g5
    clear g5
    have hne : ¬ List.take m (r.drop (t + b)) = (ByteArray.mk #[]).data.toList := fun k => hm0 (by
      have := congrArg List.length k
      rw [List.length_take, List.length_drop] at this
      have e0 : ((ByteArray.mk #[]).data.toList : List UInt8).length = 0 := rfl
      rw [e0] at this; omega)
    have g7 : (Wd ++ [(r.drop (t + b)).take m]).length = Wd.length + 1 := by simp
    clear v1
    (repeat' (first | (refine xI (fun hfk => ?_) (fun hfk => ?_) <;> ((try (first | replace hfk := oT hfk | replace hfk := oF hfk | simp only [oA, oB, dh1, dh0, ne_eq, reduceCtorEq] at hfk)); (try (exfalso; first | omega | contradiction | exact xF hfk (by with_reducible assumption) | exact xT hfk (by with_reducible assumption))))) | (refine And.intro ?ob ?_; (case ob => (first | exact Chk.mk (by kernel_rfl) | exact True.intro | with_reducible assumption | exact rng64 (by omega) (by omega) | omega | (dsimp only; omega) | (show (_ : Nat) ≤ _; omega) | (simp only [ll1, ll2, ll0]; first | done | omega) | (dsimp only; simp only [ll1, ll2, ll0]; omega)))) | exact True.intro | (show _ = _; first | with_reducible rfl | with_reducible assumption | omega | (simp only [ll1, ll2, ll0]; omega) | (skip; done) | exact rfl) | with_reducible assumption | (apply And.intro) | omega | (intro j hj; exact rfl)))
    have f1 : t + b + m ≤ r.length := by omega
    have f2 : r.length - (t + b + m) < q := by omega
    have f3 : (Wd ++ [(r.drop (t + b)).take m]).length ≤ t + b + m := by rw [g7]; omega
    have f4 : (Wd ++ [(r.drop (t + b)).take m]) ++ (lnV q (r.drop (t + b + m))).1 = lnW r := by rw [List.append_assoc]; exact g4
    have f5 : t + b + m + (lnV q (r.drop (t + b + m))).2 = lnE r := by omega
    have e8 : ((A + t + b + m : Nat) : Int) = ((A + (t + b + m) : Nat) : Int) := by omega
    have f1 : t + b + m ≤ r.length := by omega
    have f2 : r.length - (t + b + m) < q := by omega
    have f3 : (Wd ++ [(r.drop (t + b)).take m]).length ≤ t + b + m := by rw [g7]; omega
    have f4 : (Wd ++ [(r.drop (t + b)).take m]) ++ (lnV q (r.drop (t + b + m))).1 = lnW r := by rw [List.append_assoc]; exact g4
    have f5 : t + b + m + (lnV q (r.drop (t + b + m))).2 = lnE r := by omega
    have e8 : ((A + t + b + m : Nat) : Int) = ((A + (t + b + m) : Nat) : Int) := by omega
    refine ⟨(q, t + b + m, Wd ++ [(r.drop (t + b)).take m]), [some 0, some 1, some 2, some 5], ⟨f1, f2, f3, f4, f5⟩, Nat.lt_succ_self q, ?_⟩
    (repeat' (first | (refine And.intro ?_ ?_) | exact True.intro | (show _ = _; with_reducible rfl) | exact Chk.mk (by kernel_rfl)))
    all_goals first | rfl | exact e8 | exact g7.symm | (intro j hj; rfl) | (intro j hj; (have hj2 : j < (Wd ++ [(r.drop (t + b)).take m]).length := hj); rw [g7] at hj2; dsimp only; by_cases z : j < Wd.length; (rw [if_pos z, snoc1 z]); (have e : j - Wd.length = 0 := by omega); rw [if_neg z, snoc2 (show j = Wd.length by omega), e]; rfl)
end Go.Proofs.Ytepjmnkleajibaa
namespace Go.Proofs.Ytepjmnkleajibaa
open Go Go.RowKit
set_option maxHeartbeats 4000000
abbrev Ln : Type := Int × List (List UInt8)
def Ln.av (x : Ln) : AV := lnA x.1 x.2
abbrev Ln.z : Ln := (0, [])
abbrev lnsA (L : List Ln) : AV := .ro 2 L.length (fun j => (L.getD j Ln.z).av)
theorem lsnoc1 {L : List Ln} {x : Ln} {j : Nat} (z : j < L.length) : (L ++ [x]).getD j Ln.z = L.getD j Ln.z := by
  rw [List.getD_eq_getElem?_getD, List.getD_eq_getElem?_getD, List.getElem?_append_left z]
theorem lsnoc2 {L : List Ln} {x : Ln} {j : Nat} (z : j = L.length) : (L ++ [x]).getD j Ln.z = x := by
  subst z
  rw [List.getD_eq_getElem?_getD, List.getElem?_append_right (Nat.le_refl _), Nat.sub_self]; rfl
structure LsR where
  bad : Option Nat
  out : List Ln
  ov : Int
def lsV (s : List UInt8) : Nat → Nat → Nat → List Ln → Int → LsR
  | 0, a, n, out, v => ⟨none, out, v⟩
  | k + 1, a, n, out, v =>
    if s.length < a then ⟨none, out, v⟩
    else if lnX (s.drop a) ≠ 0 then ⟨some (a + lnE (s.drop a)), out, v⟩
    else if lnC (s.drop a) = 1 then lsV s k (a + lnE (s.drop a) + 1) (n + 1) (out ++ [(((n + 1 : Nat) : Int), lnW (s.drop a))]) (if out.length = 4096 then (a : Int) else v)
    else lsV s k (a + lnE (s.drop a) + 1) (n + 1) out v
def lsT (s : List UInt8) : LsR := lsV s (s.length + 2) 0 0 [] 0
def lsE (s : List UInt8) : Int := if 65536 < s.length then 30 else match (lsT s).bad with | some _ => 21 | none => if 4096 < (lsT s).out.length then 30 else 0
def lsA (s : List UInt8) : Int := if 65536 < s.length then 0 else match (lsT s).bad with | some p => (p : Int) | none => if 4096 < (lsT s).out.length then (lsT s).ov else 0
def lsL (s : List UInt8) : List Ln := if lsE s = 0 then (lsT s).out else []
abbrev linesS : PSpec := fun l => match l with | [.str s] => some ([s.length ≤ 140737488355328], .tup [lnsA (lsL s), .int .i64 (lsA s), .int .i64 (lsE s)]) | _ => none
theorem lines_s : SOK Try.prog 51 linesS := by
  refine sok_of (C := mkE 0 [] (glook [(118, gdis (fG lineF1) (fG lineF2))]) [] [] []) (mkE_ok pok_nil (gl_cons (gdis_ok line_g1 line_g2) gl_nil) dl_nil) rfl mixed ⟨Try.func51, by kernel_rfl, by kernel_rfl, by kernel_rfl⟩ fun l obs v h ho => ?_
  (unfold linesS at h; split at h; rotate_left; (focus (cases h)); rename_i s; simp only [Option.some.injEq, Prod.mk.injEq] at h; obtain ⟨rfl, rfl⟩ := h; simp only [List.mem_cons, List.not_mem_nil, or_false, forall_eq_or_imp, forall_eq, false_implies, implies_true] at ho)
  refine ⟨Nat.le_of_ble_eq_true rfl, ?_⟩
  by_cases hl : 65536 < s.length
  · have e1 : lsE s = 30 := if_pos hl
    have e2 : lsA s = 0 := if_pos hl
    have e3 : lsL s = [] := if_neg (by rw [e1]; decide)
    rw [e1, e2, e3]
    (repeat' (first | (refine xI (fun hfk => ?_) (fun hfk => ?_) <;> ((try (first | replace hfk := oT hfk | replace hfk := oF hfk | simp only [oA, oB, dh1, dh0, ne_eq, reduceCtorEq] at hfk)); (try (exfalso; first | omega | contradiction | exact xF hfk (by with_reducible assumption) | exact xT hfk (by with_reducible assumption))))) | (refine And.intro ?ob ?_; (case ob => (first | exact Chk.mk (by kernel_rfl) | exact True.intro | with_reducible assumption | exact rng64 (by omega) (by omega) | omega | (dsimp only; omega) | (show (_ : Nat) ≤ _; omega) | (simp only [ll1, ll2, ll0]; first | done | omega) | (dsimp only; simp only [ll1, ll2, ll0]; omega)))) | exact True.intro | (show _ = _; first | with_reducible rfl | with_reducible assumption | omega | (simp only [ll1, ll2, ll0]; omega) | (first | rfl | (intro j hj; exact absurd hj (Nat.not_lt_zero _)); done) | exact rfl) | with_reducible assumption | (apply And.intro) | omega | (intro j hj; exact rfl)))
  obtain ⟨R, hR⟩ : ∃ R, lsT s = R := ⟨_, rfl⟩
  (repeat' (first | (refine xI (fun hfk => ?_) (fun hfk => ?_) <;> ((try (first | replace hfk := oT hfk | replace hfk := oF hfk | simp only [oA, oB, dh1, dh0, ne_eq, reduceCtorEq] at hfk)); (try (exfalso; first | omega | contradiction | exact xF hfk (by with_reducible assumption) | exact xT hfk (by with_reducible assumption))))) | (refine And.intro ?ob ?_; (case ob => (first | exact Chk.mk (by kernel_rfl) | exact True.intro | with_reducible assumption | exact rng64 (by omega) (by omega) | omega | (dsimp only; omega) | (show (_ : Nat) ≤ _; omega) | (simp only [ll1, ll2, ll0]; first | done | omega) | (dsimp only; simp only [ll1, ll2, ll0]; omega)))) | exact True.intro | (show _ = _; first | with_reducible rfl | with_reducible assumption | omega | (simp only [ll1, ll2, ll0]; omega) | (skip; done) | exact rfl) | with_reducible assumption | (apply And.intro) | omega | (intro j hj; exact rfl)))
  refine ⟨Nat × Nat × Nat × List Ln × Int, fun g => [(0, .str s), (2, .nils), (3, .int .i64 0), (4, .int .i64 0), (5, .ptr 0 0), (6, .fn 118 1 [.ptr 0 0])],
    fun g => ⟨2, [(0, some (.cells 184 [.str s, .int .i64 (g.2.1 : Int), .int .i64 (g.2.2.1 : Int), .sl 1 2 0 g.2.2.2.1.length, .int .i64 g.2.2.2.2])), (1, some (.recs 121 2 g.2.2.2.1.length (fun j => (g.2.2.2.1.getD j Ln.z).av)))]⟩,
    fun g => g.2.1 ≤ s.length + 1 ∧ s.length + 1 - g.2.1 < g.1 ∧ g.2.2.1 ≤ g.2.1 ∧ g.2.2.2.1.length ≤ g.2.1 ∧ lsV s g.1 g.2.1 g.2.2.1 g.2.2.2.1 g.2.2.2.2 = R, fun g => g.1,
    ⟨(s.length + 2, 0, 0, [], 0), [some 0, none], ⟨Nat.zero_le _, by show s.length + 1 - 0 < s.length + 2; omega, Nat.le_refl _, Nat.le_refl _, hR⟩, ?_⟩, fun g hg => ?_⟩
  · (repeat' (first | (refine And.intro ?_ ?_) | exact True.intro | (show _ = _; with_reducible rfl) | exact Chk.mk (by kernel_rfl)))
    all_goals first | rfl | (intro j hj; rfl)
  obtain ⟨q, a, n, L, v⟩ := g
  obtain ⟨g1, g2, g3, g4, g5⟩ := hg
  have g1 : a ≤ s.length + 1 := g1
  have g2 : s.length + 1 - a < q := g2
  have g3 : n ≤ a := g3
  have g4 : L.length ≤ a := g4
  have g5 : lsV s q a n L v = R := g5
  dsimp only
  obtain ⟨q, rfl⟩ : ∃ q', q = q' + 1 := ⟨q - 1, by omega⟩
  have rn : rngI .i64 ((n : Int) + 1) := rng64 (by omega) (by omega)
  by_cases ha : a ≤ s.length
  · have hE := lnV_le ((s.drop a).length + 1) (s.drop a)
    have hE : lnE (s.drop a) ≤ (s.drop a).length := hE
    rw [List.length_drop] at hE
    have tn : ((a : Nat) : Int).toNat = a := Int.toNat_natCast a
    have rE : rngI .i64 ((a : Int) + (lnE (List.drop (a : Int).toNat s) : Int) + 1) := rng64 (by omega) (by rw [tn]; omega)
    unfold lsV at g5
    rw [if_neg (by omega)] at g5
    by_cases hx : lnX (s.drop a) = 0
    rotate_left
    · rw [if_pos hx] at g5
      have hC : lnC (List.drop (a : Int).toNat s) = 0 := if_neg (fun k => hx k.1)
      have hx2 : ¬ lnX (List.drop (a : Int).toNat s) = 0 := hx
      have eb : R.bad = some (a + lnE (s.drop a)) := by rw [← g5]
      have e1 : lsE s = 21 := by unfold lsE; rw [if_neg hl, hR, eb]
      have e2 : lsA s = (a : Int) + (lnE (List.drop (a : Int).toNat s) : Int) := by unfold lsA; rw [if_neg hl, hR, eb]; rfl
      have e3 : lsL s = [] := if_neg (by rw [e1]; decide)
      rw [e1, e2, e3]
      clear e1 e2 e3 eb g5 hE
      (repeat' (first | (refine xI (fun hfk => ?_) (fun hfk => ?_) <;> ((try (first | replace hfk := oT hfk | replace hfk := oF hfk | simp only [oA, oB, dh1, dh0, ne_eq, reduceCtorEq] at hfk)); (try (exfalso; first | omega | contradiction | exact xF hfk (by with_reducible assumption) | exact xT hfk (by with_reducible assumption))))) | (refine And.intro ?ob ?_; (case ob => (first | exact Chk.mk (by kernel_rfl) | exact True.intro | with_reducible assumption | exact rng64 (by omega) (by omega) | omega | (dsimp only; omega) | (show (_ : Nat) ≤ _; omega) | (simp only [ll1, ll2, ll0]; first | done | omega) | (dsimp only; simp only [ll1, ll2, ll0]; omega)))) | exact True.intro | (show _ = _; first | with_reducible rfl | with_reducible assumption | omega | (simp only [ll1, ll2, ll0]; omega) | (skip; done) | exact rfl) | with_reducible assumption | (apply And.intro) | omega | (intro j hj; exact rfl)))
      left
      refine ⟨[0, 1], ⟨by kernel_rfl⟩, ?_⟩
      (repeat' (first | (refine xI (fun hfk => ?_) (fun hfk => ?_) <;> ((try (first | replace hfk := oT hfk | replace hfk := oF hfk | simp only [oA, oB, dh1, dh0, ne_eq, reduceCtorEq] at hfk)); (try (exfalso; first | omega | contradiction | exact xF hfk (by with_reducible assumption) | exact xT hfk (by with_reducible assumption))))) | (refine And.intro ?ob ?_; (case ob => (first | exact Chk.mk (by kernel_rfl) | exact True.intro | with_reducible assumption | exact rng64 (by omega) (by omega) | omega | (dsimp only; omega) | (show (_ : Nat) ≤ _; omega) | (simp only [ll1, ll2, ll0]; first | done | omega) | (dsimp only; simp only [ll1, ll2, ll0]; omega)))) | exact True.intro | (show _ = _; first | with_reducible rfl | with_reducible assumption | omega | (simp only [ll1, ll2, ll0]; omega) | (first | rfl | (intro j hj; exact absurd hj (Nat.not_lt_zero _)); done) | exact rfl) | with_reducible assumption | (apply And.intro) | omega | (intro j hj; exact rfl)))
    rw [if_neg (fun k => k hx)] at g5
    have hx2 : lnX (List.drop (a : Int).toNat s) = 0 := hx
    by_cases hC : lnC (s.drop a) = 1
    · rw [if_pos hC] at g5
      have hC2 : lnC (List.drop (a : Int).toNat s) = 1 := hC
      have gl : (L ++ [(((n + 1 : Nat) : Int), lnW (s.drop a))]).length = L.length + 1 := by simp
      have b1 : a + lnE (s.drop a) + 1 ≤ s.length + 1 := by omega
      have b2 : s.length + 1 - (a + lnE (s.drop a) + 1) < q := by omega
      have b3 : n + 1 ≤ a + lnE (s.drop a) + 1 := by omega
      have b4 : (L ++ [(((n + 1 : Nat) : Int), lnW (s.drop a))]).length ≤ a + lnE (s.drop a) + 1 := by rw [gl]; omega
      have e8 : (a : Int) + (lnE (List.drop (a : Int).toNat s) : Int) + 1 = ((a + lnE (s.drop a) + 1 : Nat) : Int) := by rw [tn]; omega
      clear hE
      (repeat' (first | (refine xI (fun hfk => ?_) (fun hfk => ?_) <;> ((try (first | replace hfk := oT hfk | replace hfk := oF hfk | simp only [oA, oB, dh1, dh0, ne_eq, reduceCtorEq] at hfk)); (try (exfalso; first | omega | contradiction | exact xF hfk (by with_reducible assumption) | exact xT hfk (by with_reducible assumption))))) | (refine And.intro ?ob ?_; (case ob => (first | exact Chk.mk (by kernel_rfl) | exact True.intro | with_reducible assumption | exact rng64 (by omega) (by omega) | omega | (dsimp only; omega) | (show (_ : Nat) ≤ _; omega) | (simp only [ll1, ll2, ll0]; first | done | omega) | (dsimp only; simp only [ll1, ll2, ll0]; omega)))) | exact True.intro | (show _ = _; first | with_reducible rfl | with_reducible assumption | omega | (simp only [ll1, ll2, ll0]; omega) | (skip; done) | exact rfl) | with_reducible assumption | (apply And.intro) | omega | (intro j hj; exact rfl)))
      right
      refine ⟨[0, 1], ⟨by kernel_rfl⟩, ?_⟩
      (repeat' (first | (refine xI (fun hfk => ?_) (fun hfk => ?_) <;> ((try (first | replace hfk := oT hfk | replace hfk := oF hfk | simp only [oA, oB, dh1, dh0, ne_eq, reduceCtorEq] at hfk)); (try (exfalso; first | omega | contradiction | exact xF hfk (by with_reducible assumption) | exact xT hfk (by with_reducible assumption))))) | (refine And.intro ?ob ?_; (case ob => (first | exact Chk.mk (by kernel_rfl) | exact True.intro | with_reducible assumption | exact rng64 (by omega) (by omega) | omega | (dsimp only; omega) | (show (_ : Nat) ≤ _; omega) | (simp only [ll1, ll2, ll0]; first | done | omega) | (dsimp only; simp only [ll1, ll2, ll0]; omega)))) | exact True.intro | (show _ = _; first | with_reducible rfl | with_reducible assumption | omega | (simp only [ll1, ll2, ll0]; omega) | (skip; done) | exact rfl) | with_reducible assumption | (apply And.intro) | omega | (intro j hj; exact rfl)))
      refine ⟨(q, a + lnE (s.drop a) + 1, n + 1, L ++ [(((n + 1 : Nat) : Int), lnW (s.drop a))], if L.length = 4096 then (a : Int) else v), [some 0, some 2], ⟨b1, b2, b3, b4, g5⟩, Nat.lt_succ_self q, ?_⟩
      have en : (n : Int) + 1 = ((n + 1 : Nat) : Int) := by omega
      (repeat' (first | (refine And.intro ?_ ?_) | exact True.intro | (show _ = _; with_reducible rfl) | exact Chk.mk (by kernel_rfl)))
      all_goals first | rfl | exact e8 | exact en | exact gl.symm | (intro j hj; (have hj2 : j < (L ++ [(((n + 1 : Nat) : Int), lnW (s.drop a))]).length := hj); rw [gl] at hj2; dsimp only; by_cases z : j < L.length; (rw [if_pos z, lsnoc1 z]); rw [if_neg z, lsnoc2 (show j = L.length by omega)]; rfl)
    · rw [if_neg hC] at g5
      have hC2 : lnC (List.drop (a : Int).toNat s) = 0 := by
        have : lnC (s.drop a) = 0 := by unfold lnC at hC ⊢; split at hC; exact absurd rfl hC; rw [if_neg (by assumption)]
        exact this
      have b1 : a + lnE (s.drop a) + 1 ≤ s.length + 1 := by omega
      have b2 : s.length + 1 - (a + lnE (s.drop a) + 1) < q := by omega
      have b3 : n + 1 ≤ a + lnE (s.drop a) + 1 := by omega
      have b4 : L.length ≤ a + lnE (s.drop a) + 1 := by omega
      have e8 : (a : Int) + (lnE (List.drop (a : Int).toNat s) : Int) + 1 = ((a + lnE (s.drop a) + 1 : Nat) : Int) := by rw [tn]; omega
      clear hE hC
      (repeat' (first | (refine xI (fun hfk => ?_) (fun hfk => ?_) <;> ((try (first | replace hfk := oT hfk | replace hfk := oF hfk | simp only [oA, oB, dh1, dh0, ne_eq, reduceCtorEq] at hfk)); (try (exfalso; first | omega | contradiction | exact xF hfk (by with_reducible assumption) | exact xT hfk (by with_reducible assumption))))) | (refine And.intro ?ob ?_; (case ob => (first | exact Chk.mk (by kernel_rfl) | exact True.intro | with_reducible assumption | exact rng64 (by omega) (by omega) | omega | (dsimp only; omega) | (show (_ : Nat) ≤ _; omega) | (simp only [ll1, ll2, ll0]; first | done | omega) | (dsimp only; simp only [ll1, ll2, ll0]; omega)))) | exact True.intro | (show _ = _; first | with_reducible rfl | with_reducible assumption | omega | (simp only [ll1, ll2, ll0]; omega) | (skip; done) | exact rfl) | with_reducible assumption | (apply And.intro) | omega | (intro j hj; exact rfl)))
      left
      refine ⟨[0, 1], ⟨by kernel_rfl⟩, ?_⟩
      (repeat' (first | (refine xI (fun hfk => ?_) (fun hfk => ?_) <;> ((try (first | replace hfk := oT hfk | replace hfk := oF hfk | simp only [oA, oB, dh1, dh0, ne_eq, reduceCtorEq] at hfk)); (try (exfalso; first | omega | contradiction | exact xF hfk (by with_reducible assumption) | exact xT hfk (by with_reducible assumption))))) | (refine And.intro ?ob ?_; (case ob => (first | exact Chk.mk (by kernel_rfl) | exact True.intro | with_reducible assumption | exact rng64 (by omega) (by omega) | omega | (dsimp only; omega) | (show (_ : Nat) ≤ _; omega) | (simp only [ll1, ll2, ll0]; first | done | omega) | (dsimp only; simp only [ll1, ll2, ll0]; omega)))) | exact True.intro | (show _ = _; first | with_reducible rfl | with_reducible assumption | omega | (simp only [ll1, ll2, ll0]; omega) | (skip; done) | exact rfl) | with_reducible assumption | (apply And.intro) | omega | (intro j hj; exact rfl)))
      refine ⟨(q, a + lnE (s.drop a) + 1, n + 1, L, v), [some 0, some 1], ⟨b1, b2, b3, b4, g5⟩, Nat.lt_succ_self q, ?_⟩
      (repeat' (first | (refine And.intro ?_ ?_) | exact True.intro | (show _ = _; with_reducible rfl) | exact Chk.mk (by kernel_rfl)))
      all_goals first | rfl | exact e8 | (intro j hj; rfl) | (show (_ : Int) = _; omega)
  · unfold lsV at g5
    rw [if_pos (by omega)] at g5
    have eb : R.bad = none := by rw [← g5]
    have eo : R.out = L := by rw [← g5]
    have ev : R.ov = v := by rw [← g5]
    by_cases h4 : 4096 < L.length
    · have e1 : lsE s = 30 := by unfold lsE; rw [if_neg hl, hR, eb]; show (if 4096 < R.out.length then _ else _) = _; rw [eo, if_pos h4]
      have e2 : lsA s = v := by unfold lsA; rw [if_neg hl, hR, eb]; show (if 4096 < R.out.length then R.ov else _) = _; rw [eo, ev, if_pos h4]
      have e3 : lsL s = [] := if_neg (by rw [e1]; decide)
      rw [e1, e2, e3]
      (repeat' (first | (refine xI (fun hfk => ?_) (fun hfk => ?_) <;> ((try (first | replace hfk := oT hfk | replace hfk := oF hfk | simp only [oA, oB, dh1, dh0, ne_eq, reduceCtorEq] at hfk)); (try (exfalso; first | omega | contradiction | exact xF hfk (by with_reducible assumption) | exact xT hfk (by with_reducible assumption))))) | (refine And.intro ?ob ?_; (case ob => (first | exact Chk.mk (by kernel_rfl) | exact True.intro | with_reducible assumption | exact rng64 (by omega) (by omega) | omega | (dsimp only; omega) | (show (_ : Nat) ≤ _; omega) | (simp only [ll1, ll2, ll0]; first | done | omega) | (dsimp only; simp only [ll1, ll2, ll0]; omega)))) | exact True.intro | (show _ = _; first | with_reducible rfl | with_reducible assumption | omega | (simp only [ll1, ll2, ll0]; omega) | (first | rfl | (intro j hj; exact absurd hj (Nat.not_lt_zero _)); done) | exact rfl) | with_reducible assumption | (apply And.intro) | omega | (intro j hj; exact rfl)))
    · have e1 : lsE s = 0 := by unfold lsE; rw [if_neg hl, hR, eb]; show (if 4096 < R.out.length then _ else _) = _; rw [eo, if_neg h4]
      have e2 : lsA s = 0 := by unfold lsA; rw [if_neg hl, hR, eb]; show (if 4096 < R.out.length then R.ov else _) = _; rw [eo, if_neg h4]
      have e3 : lsL s = L := by unfold lsL; rw [if_pos e1, hR, eo]
      rw [e1, e2, e3]
      (repeat' (first | (refine xI (fun hfk => ?_) (fun hfk => ?_) <;> ((try (first | replace hfk := oT hfk | replace hfk := oF hfk | simp only [oA, oB, dh1, dh0, ne_eq, reduceCtorEq] at hfk)); (try (exfalso; first | omega | contradiction | exact xF hfk (by with_reducible assumption) | exact xT hfk (by with_reducible assumption))))) | (refine And.intro ?ob ?_; (case ob => (first | exact Chk.mk (by kernel_rfl) | exact True.intro | with_reducible assumption | exact rng64 (by omega) (by omega) | omega | (dsimp only; omega) | (show (_ : Nat) ≤ _; omega) | (simp only [ll1, ll2, ll0]; first | done | omega) | (dsimp only; simp only [ll1, ll2, ll0]; omega)))) | exact True.intro | (show _ = _; first | with_reducible rfl | with_reducible assumption | omega | (simp only [ll1, ll2, ll0]; omega) | (first | rfl | (intro j hj; rfl); done) | exact rfl) | with_reducible assumption | (apply And.intro) | omega | (intro j hj; exact rfl)))
      intro j hj
      show (L.getD (0 + j) Ln.z).av = (L.getD j Ln.z).av
      rw [Nat.zero_add]
end Go.Proofs.Ytepjmnkleajibaa
namespace Go.Proofs.Ytepjmnkleajibaa
open Go Go.RowKit
set_option maxHeartbeats 4000000
def GapB (c : UInt8) : Prop := c = 32 ∨ c = 10 ∨ c = 9
def txt (gap : List UInt8) : Nat → List UInt8
  | 0 => []
  | k + 1 => txt gap k ++ (120 :: 10 :: gap)
theorem txt_cons (gap : List UInt8) : ∀ k, txt gap (k + 1) = (120 :: 10 :: gap) ++ txt gap k
  | 0 => by show [] ++ _ = _ ++ []; rw [List.nil_append, List.append_nil]
  | k + 1 => by
    have ih := txt_cons gap k
    show txt gap (k + 1) ++ (120 :: 10 :: gap) = (120 :: 10 :: gap) ++ (txt gap k ++ (120 :: 10 :: gap))
    rw [ih, List.append_assoc]
theorem txt_len (gap : List UInt8) : ∀ k, (txt gap k).length = k * (2 + gap.length)
  | 0 => by show 0 = _; omega
  | k + 1 => by
    show (txt gap k ++ _).length = _
    rw [List.length_append, txt_len gap k, Nat.succ_mul]
    simp only [List.length_cons]; omega
theorem cnt_app {p : Int → Bool} : ∀ {bl rest : List UInt8}, (∀ c ∈ bl, p (c.toNat : Int) = true) → cntN p (bl ++ rest) = bl.length + cntN p rest
  | [], rest, _ => by simp
  | c :: bl, rest, h => by
    have h1 := h c List.mem_cons_self
    have ih := cnt_app (p := p) (bl := bl) (rest := rest) (fun x hx => h x (List.mem_cons_of_mem _ hx))
    show cntN p (c :: (bl ++ rest)) = _
    have e : cntN p (c :: (bl ++ rest)) = cntN p (bl ++ rest) + 1 := if_pos h1
    rw [e, ih, List.length_cons]; omega
def Stop (rest : List UInt8) : Prop := rest = [] ∨ ∃ c r, rest = c :: r ∧ bwP (c.toNat : Int) = false ∧ c.toNat ≠ 35
theorem bk_pre {bl rest : List UInt8} (h : ∀ c ∈ bl, bwP (c.toNat : Int) = true) (hs : Stop rest) : bkN (bl ++ rest) = bl.length := by
  have h0 : cntN bwP rest = 0 := by
    rcases hs with rfl | ⟨c, r, rfl, h1, _⟩
    · rfl
    · exact if_neg (by rw [h1]; decide)
  have e := cnt_app (rest := rest) h
  rw [h0, Nat.add_zero] at e
  have ed : (bl ++ rest).drop bl.length = rest := by simp
  unfold bkN
  rw [e, ed, if_neg]
  rintro ⟨k1, k2⟩
  rcases hs with rfl | ⟨c, r, rfl, _, h2⟩
  · exact k1 rfl
  · exact h2 k2
theorem mk10 (r : List UInt8) : mkN (10 :: r) = 0 := by
  show (if mkP ((10 : UInt8).toNat : Int) = true then cntN mkP r + 1 else 0) = 0
  exact if_neg (by decide)
theorem mk120 (r : List UInt8) : mkN (120 :: r) = mkN r + 1 := by
  show (if mkP ((120 : UInt8).toNat : Int) = true then cntN mkP r + 1 else 0) = _
  rw [if_pos (by decide)]; rfl
theorem drop_pre {bl rest : List UInt8} : (bl ++ rest).drop bl.length = rest := by simp
theorem ln_blank {bl rest : List UInt8} (h : ∀ c ∈ bl, bwP (c.toNat : Int) = true) (hs : rest = [] ∨ ∃ r, rest = 10 :: r) : lnW (bl ++ rest) = [] ∧ lnE (bl ++ rest) = bl.length ∧ lnX (bl ++ rest) = 0 ∧ lnC (bl ++ rest) = 0 := by
  have hst : Stop rest := by
    rcases hs with rfl | ⟨r, rfl⟩
    · exact .inl rfl
    · exact .inr ⟨10, r, rfl, by decide, by decide⟩
  have hm : mkN rest = 0 := by
    rcases hs with rfl | ⟨r, rfl⟩
    · rfl
    · exact mk10 r
  have eb := bk_pre h hst
  have ev : lnV ((bl ++ rest).length + 1) (bl ++ rest) = ([], bl.length) := by
    unfold lnV
    rw [eb, drop_pre, if_pos hm]
  have e1 : lnW (bl ++ rest) = [] := congrArg Prod.fst ev
  have e2 : lnE (bl ++ rest) = bl.length := congrArg Prod.snd ev
  have e3 : lnX (bl ++ rest) = 0 := by
    unfold lnX
    rw [e2, if_neg]
    rintro ⟨k1, k2⟩
    rcases hs with rfl | ⟨r, rfl⟩
    · simp at k1
    · rw [List.getD_eq_getElem?_getD, List.getElem?_append_right (Nat.le_refl _), Nat.sub_self] at k2
      exact k2 rfl
  exact ⟨e1, e2, e3, if_neg (fun k => k.2 e1)⟩
theorem ln_word {bl rest : List UInt8} (h : ∀ c ∈ bl, bwP (c.toNat : Int) = true) : lnE (bl ++ 120 :: 10 :: rest) = bl.length + 1 ∧ lnX (bl ++ 120 :: 10 :: rest) = 0 ∧ lnC (bl ++ 120 :: 10 :: rest) = 1 := by
  have eb := bk_pre (rest := 120 :: 10 :: rest) h (.inr ⟨120, 10 :: rest, rfl, by decide, by decide⟩)
  have hm : mkN (120 :: 10 :: rest) = 1 := by
    rw [mk120, mk10]
  have hm2 : mkN (10 :: rest) = 0 := mk10 rest
  have eb2 : bkN (10 :: rest) = 0 := bk_pre (bl := []) (rest := 10 :: rest) (fun c hc => by cases hc) (.inr ⟨10, rest, rfl, by decide, by decide⟩)
  have hlen : (bl ++ 120 :: 10 :: rest).length = (bl.length + rest.length + 1) + 1 := by simp; omega
  have v2 : lnV (bl ++ 120 :: 10 :: rest).length (10 :: rest) = ([], 0) := by
    rw [hlen]
    unfold lnV
    rw [eb2]
    exact if_pos hm2
  have ev : lnV ((bl ++ 120 :: 10 :: rest).length + 1) (bl ++ 120 :: 10 :: rest) = ([[120]], bl.length + 1) := by
    unfold lnV
    rw [eb, drop_pre, hm, if_neg (by decide)]
    have ed : (120 :: 10 :: rest : List UInt8).drop 1 = 10 :: rest := rfl
    rw [ed, v2]; rfl
  have e1 : lnW (bl ++ 120 :: 10 :: rest) = [[120]] := congrArg Prod.fst ev
  have e2 : lnE (bl ++ 120 :: 10 :: rest) = bl.length + 1 := congrArg Prod.snd ev
  have e3 : lnX (bl ++ 120 :: 10 :: rest) = 0 := by
    unfold lnX
    rw [e2, if_neg]
    rintro ⟨k1, k2⟩
    rw [List.getD_eq_getElem?_getD, List.getElem?_append_right (by omega), Nat.add_sub_cancel_left] at k2
    exact k2 rfl
  exact ⟨e2, e3, if_pos ⟨e3, by rw [e1]; decide⟩⟩
def tb : List UInt8 → Nat
  | [] => 0
  | c :: r => if c ≠ 10 ∧ tb r = r.length then r.length + 1 else tb r
theorem tb_le : ∀ l, tb l ≤ l.length
  | [] => Nat.le_refl _
  | c :: r => by
    have := tb_le r
    unfold tb
    split
    · exact Nat.le_refl _
    · rw [List.length_cons]; omega
theorem tb_all : ∀ {l : List UInt8}, (∀ c ∈ l, c ≠ 10) → tb l = l.length
  | [], _ => rfl
  | c :: r, h => by
    have ih := tb_all (l := r) (fun x hx => h x (List.mem_cons_of_mem _ hx))
    exact if_pos ⟨h c List.mem_cons_self, ih⟩
theorem tb_nl {g : List UInt8} : ∀ bl : List UInt8, tb (bl ++ 10 :: g) = tb g
  | [] => by
    show tb (10 :: g) = _
    exact if_neg (fun k => k.1 rfl)
  | c :: bl => by
    have ih := tb_nl (g := g) bl
    have h1 := tb_le g
    show tb (c :: (bl ++ 10 :: g)) = _
    have e : tb (c :: (bl ++ 10 :: g)) = tb (bl ++ 10 :: g) := if_neg (fun k => by
      have := k.2
      rw [ih, List.length_append, List.length_cons] at this; omega)
    rw [e, ih]
theorem tb_spec : ∀ l : List UInt8, (∀ t, t < tb l → l.getD (l.length - 1 - t) 0 ≠ 10) ∧ (tb l < l.length → l.getD (l.length - 1 - tb l) 0 = 10)
  | [] => ⟨fun t ht => by simp [tb] at ht, fun h => by simp [tb] at h⟩
  | c :: r => by
    obtain ⟨i1, i2⟩ := tb_spec r
    have hl := tb_le r
    have gs : ∀ t, t < r.length → (c :: r).getD ((c :: r).length - 1 - t) 0 = r.getD (r.length - 1 - t) 0 := fun t ht => by
      rw [List.length_cons, show r.length + 1 - 1 - t = (r.length - 1 - t) + 1 by omega]; rfl
    by_cases k : c ≠ 10 ∧ tb r = r.length
    · have e : tb (c :: r) = r.length + 1 := if_pos k
      rw [e]
      refine ⟨fun t ht => ?_, fun h => by rw [List.length_cons] at h; omega⟩
      by_cases z : t < r.length
      · rw [gs t z]; exact i1 t (by omega)
      · rw [List.length_cons, show r.length + 1 - 1 - t = 0 by omega]; exact k.1
    · have e : tb (c :: r) = tb r := if_neg k
      rw [e]
      refine ⟨fun t ht => ?_, fun h => ?_⟩
      · rw [gs t (by omega)]; exact i1 t ht
      · by_cases z : tb r < r.length
        · rw [gs _ z]; exact i2 z
        · have hz : tb r = r.length := by omega
          have hc : c = 10 := Classical.byContradiction fun q => k ⟨q, hz⟩
          rw [List.length_cons, hz, show r.length + 1 - 1 - r.length = 0 by omega]; exact hc
theorem gap_split : ∀ g : List UInt8, (∀ c ∈ g, GapB c) → (∀ c ∈ g, bwP (c.toNat : Int) = true ∧ c ≠ 10) ∨ ∃ bl g', g = bl ++ 10 :: g' ∧ ∀ c ∈ bl, bwP (c.toNat : Int) = true
  | [], _ => .inl (fun c hc => by cases hc)
  | c :: r, h => by
    by_cases k : c = 10
    · subst k
      exact .inr ⟨[], r, rfl, fun c hc => by cases hc⟩
    · have hc : bwP (c.toNat : Int) = true := by
        rcases h c List.mem_cons_self with q | q | q
        · subst q; decide
        · exact absurd q k
        · subst q; decide
      rcases gap_split r (fun x hx => h x (List.mem_cons_of_mem _ hx)) with i | ⟨bl, g', e, i⟩
      · refine .inl fun x hx => ?_
        rcases List.mem_cons.1 hx with rfl | hx
        · exact ⟨hc, k⟩
        · exact i x hx
      · refine .inr ⟨c :: bl, g', by rw [e]; rfl, fun x hx => ?_⟩
        rcases List.mem_cons.1 hx with rfl | hx
        · exact hc
        · exact i x hx
theorem ls_text {s gap : List UInt8} (hg : ∀ c ∈ gap, GapB c) : ∀ (k a n : Nat) (out : List Ln) (v : Int) (g : List UInt8) (m : Nat), (∀ c ∈ g, GapB c) → s.drop a = g ++ txt gap m → a ≤ s.length → s.length + 1 - a < k →
    a + g.length = out.length * (2 + gap.length) → (out.length = 0 ∨ tb g = tb gap) →
    (lsV s k a n out v).bad = none ∧ (lsV s k a n out v).out.length = out.length + m ∧
    (lsV s k a n out v).ov = if out.length ≤ 4096 ∧ 4096 < out.length + m then ((4096 * (2 + gap.length) - tb gap : Nat) : Int) else v
  | 0, a, n, out, v, g, m, h1, h2, h3, h4, h5, h6 => by omega
  | k + 1, a, n, out, v, g, m, h1, h2, h3, h4, h5, h6 => by
    have hle : ¬ s.length < a := by omega
    have hlen : s.length - a = g.length + m * (2 + gap.length) := by
      have := congrArg List.length h2
      rw [List.length_drop, List.length_append, txt_len] at this; exact this
    rcases gap_split g h1 with i | ⟨bl, g', e, i⟩
    · cases m with
      | zero =>
        have h2' : s.drop a = g ++ [] := h2
        obtain ⟨e1, e2, e3, e4⟩ := ln_blank (rest := []) (fun c hc => (i c hc).1) (.inl rfl)
        rw [← h2'] at e1 e2 e3 e4
        have ev : lsV s (k + 1) a n out v = lsV s k (a + g.length + 1) (n + 1) out v := by
          rw [lsV, if_neg hle, if_neg (fun q => q e3), if_neg (by rw [e4]; decide), e2]
        have ev2 : lsV s k (a + g.length + 1) (n + 1) out v = ⟨none, out, v⟩ := by
          cases k with
          | zero => rfl
          | succ k => rw [lsV, if_pos (by omega)]
        rw [ev, ev2]
        exact ⟨rfl, rfl, (if_neg (by omega)).symm⟩
      | succ m =>
        have h2' : s.drop a = g ++ 120 :: 10 :: (gap ++ txt gap m) := by rw [h2, txt_cons]; rfl
        obtain ⟨e2, e3, e4⟩ := ln_word (rest := gap ++ txt gap m) (fun c hc => (i c hc).1)
        rw [← h2'] at e2 e3 e4
        have ev : lsV s (k + 1) a n out v = lsV s k (a + (g.length + 1) + 1) (n + 1) (out ++ [(((n + 1 : Nat) : Int), lnW (s.drop a))]) (if out.length = 4096 then (a : Int) else v) := by
          rw [lsV, if_neg hle, if_neg (fun q => q e3), if_pos e4, e2]
        have gl : (out ++ [(((n + 1 : Nat) : Int), lnW (s.drop a))]).length = out.length + 1 := by simp
        rw [Nat.succ_mul] at hlen
        have hd : s.drop (a + (g.length + 1) + 1) = gap ++ txt gap m := by
          rw [show a + (g.length + 1) + 1 = a + (g.length + 2) by omega, ← List.drop_drop, h2', ← List.drop_drop, drop_pre]; rfl
        have ht : tb g = g.length := tb_all (fun c hc => (i c hc).2)
        obtain ⟨r1, r2, r3⟩ := ls_text hg k (a + (g.length + 1) + 1) (n + 1) (out ++ [(((n + 1 : Nat) : Int), lnW (s.drop a))]) (if out.length = 4096 then (a : Int) else v) gap m hg hd (by omega) (by omega) (by rw [gl, Nat.succ_mul]; omega) (.inr rfl)
        rw [ev]
        refine ⟨r1, by rw [r2, gl]; omega, ?_⟩
        rw [r3, gl]
        by_cases c1 : out.length = 4096
        · have hz : tb g = tb gap := h6.resolve_left (by omega)
          rw [if_neg (by omega), if_pos c1, if_pos (by omega)]
          rw [c1] at h5
          omega
        · rw [if_neg c1]
          by_cases c2 : out.length ≤ 4096 ∧ 4096 < out.length + (m + 1)
          · rw [if_pos (by omega), if_pos c2]
          · rw [if_neg (by omega), if_neg c2]
    · have h2' : s.drop a = bl ++ 10 :: (g' ++ txt gap m) := by rw [h2, e, List.append_assoc]; rfl
      obtain ⟨e1, e2, e3, e4⟩ := ln_blank (rest := 10 :: (g' ++ txt gap m)) i (.inr ⟨_, rfl⟩)
      rw [← h2'] at e1 e2 e3 e4
      have ev : lsV s (k + 1) a n out v = lsV s k (a + bl.length + 1) (n + 1) out v := by
        rw [lsV, if_neg hle, if_neg (fun q => q e3), if_neg (by rw [e4]; decide), e2]
      have gl : g.length = bl.length + (g'.length + 1) := by rw [e, List.length_append, List.length_cons]
      have hd : s.drop (a + bl.length + 1) = g' ++ txt gap m := by
        rw [show a + bl.length + 1 = a + (bl.length + 1) by omega, ← List.drop_drop, h2', ← List.drop_drop, drop_pre]; rfl
      rw [ev]
      exact ls_text hg k (a + bl.length + 1) (n + 1) out v g' m (fun c hc => h1 c (by rw [e]; exact List.mem_append_right _ (List.mem_cons_of_mem _ hc))) hd (by omega) (by omega) (by omega) (h6.imp id (fun q => by rw [← q, e, tb_nl]))
end Go.Proofs.Ytepjmnkleajibaa
namespace Go.Proofs.Ytepjmnkleajibaa
open Go Go.RowKit
set_option maxHeartbeats 4000000
theorem al_E : lsE (ByteArray.mk #[97, 32, 98, 32, 35, 32, 99]).data.toList = 0 := by kernel_rfl
theorem al_A : lsA (ByteArray.mk #[97, 32, 98, 32, 35, 32, 99]).data.toList = 0 := by kernel_rfl
theorem al_L : lsL (ByteArray.mk #[97, 32, 98, 32, 35, 32, 99]).data.toList = [(1, [[97], [98]])] := by kernel_rfl
abbrev alS49 : PSpec := fun l => match l with | [] => some ([], .bool true) | _ => none
theorem alive49_s : SOK Try.prog 52 alS49 := by
  refine sok_of (C := mkE 0 [(51, linesS)] noG [] [] [1]) (mkE_ok (pok_cons lines_s pok_nil) noG_ok dl_nil) rfl mixed ⟨Try.func52, by kernel_rfl, by kernel_rfl, by kernel_rfl⟩ fun l obs v h ho => ?_
  unfold alS49 at h; split at h; rotate_left; (focus (cases h)); simp only [Option.some.injEq, Prod.mk.injEq] at h; obtain ⟨rfl, rfl⟩ := h
  refine ⟨Nat.le_of_ble_eq_true rfl, ?_⟩
  (repeat' (first | (refine xI (fun hfk => ?_) (fun hfk => ?_) <;> ((try (first | replace hfk := oT hfk | replace hfk := oF hfk | simp only [oA, oB, dh1, dh0, ne_eq, reduceCtorEq] at hfk)); (try (exfalso; first | omega | contradiction | exact xF hfk (by with_reducible assumption) | exact xT hfk (by with_reducible assumption))))) | (refine And.intro ?ob ?_; (case ob => (first | exact Chk.mk (by kernel_rfl) | exact True.intro | with_reducible assumption | exact rng64 (by omega) (by omega) | omega | (dsimp only; omega) | (show (_ : Nat) ≤ _; omega) | (simp only [ll1, ll2, ll0]; first | done | omega) | (dsimp only; simp only [ll1, ll2, ll0]; omega)))) | exact True.intro | (show _ = _; first | with_reducible rfl | with_reducible assumption | omega | (simp only [ll1, ll2, ll0]; omega) | (skip; done) | exact rfl) | with_reducible assumption | (apply And.intro) | omega | (intro j hj; exact rfl)))
  refine ⟨[(1, .ro 2 1 (fun j => (([(1, [[97], [98]])] : List Ln).getD j Ln.z).av)), (2, .int .i64 0), (3, .int .i64 0)], ⟨0, []⟩, [], ?_, ?_⟩
  · have eL : lnsA (lsL (ByteArray.mk #[97, 32, 98, 32, 35, 32, 99]).data.toList) = .ro 2 1 (fun j => (([(1, [[97], [98]])] : List Ln).getD j Ln.z).av) := by rw [al_L]; rfl
    have eLl : (lsL (ByteArray.mk #[97, 32, 98, 32, 35, 32, 99]).data.toList).length = 1 := by rw [al_L]; rfl
    (repeat' (first | (refine And.intro ?_ ?_) | exact True.intro | (show _ = _; with_reducible rfl) | exact Chk.mk (by kernel_rfl)))
    all_goals first | exact eL | exact eLl | exact al_A | exact al_E | rfl | (intro j hj; exact congrArg (fun L : List Ln => (L.getD j Ln.z).av) al_L)
  (repeat' (first | (refine xI (fun hfk => ?_) (fun hfk => ?_) <;> ((try (first | replace hfk := oT hfk | replace hfk := oF hfk | simp only [oA, oB, dh1, dh0, ne_eq, reduceCtorEq] at hfk)); (try (exfalso; first | omega | contradiction | exact xF hfk (by with_reducible assumption) | exact xT hfk (by with_reducible assumption))))) | (refine And.intro ?ob ?_; (case ob => (first | exact Chk.mk (by kernel_rfl) | exact True.intro | with_reducible assumption | exact rng64 (by omega) (by omega) | omega | (dsimp only; omega) | (show (_ : Nat) ≤ _; omega) | (simp only [ll1, ll2, ll0]; first | done | omega) | (dsimp only; simp only [ll1, ll2, ll0]; omega)))) | exact True.intro | (show _ = _; first | with_reducible rfl | with_reducible assumption | omega | (simp only [ll1, ll2, ll0]; omega) | (rfl; done) | exact rfl) | with_reducible assumption | (apply And.intro) | omega | (intro j hj; exact rfl)))
theorem txt_get (gap : List UInt8) : ∀ {k i j : Nat}, i < k → j < 2 + gap.length → (txt gap k).getD (i * (2 + gap.length) + j) 0 = (120 :: 10 :: gap).getD j 0
  | 0, i, j, h, _ => by omega
  | k + 1, i, j, h, hj => by
    show (txt gap k ++ (120 :: 10 :: gap)).getD _ 0 = _
    have hl := txt_len gap k
    by_cases z : i < k
    · have hk : i * (2 + gap.length) + (2 + gap.length) ≤ k * (2 + gap.length) := by rw [← Nat.succ_mul]; exact Nat.mul_le_mul_right _ z
      rw [List.getD_eq_getElem?_getD, List.getElem?_append_left (by omega), ← List.getD_eq_getElem?_getD]
      exact txt_get gap z hj
    · obtain rfl : i = k := by omega
      rw [List.getD_eq_getElem?_getD, List.getElem?_append_right (by omega), hl, Nat.add_sub_cancel_left, ← List.getD_eq_getElem?_getD]
theorem want_byte {gap : List UInt8} {k t : Nat} (hk : 4096 < k) (ht : t ≤ tb gap) : (txt gap k).getD (4096 * (2 + gap.length) - t - 1) 0 = 10 ↔ t = tb gap := by
  have hb := tb_le gap
  obtain ⟨s1, s2⟩ := tb_spec gap
  have hi : 4096 * (2 + gap.length) - t - 1 = 4095 * (2 + gap.length) + (1 + gap.length - t) := by omega
  rw [hi, txt_get gap (show 4095 < k by omega) (by omega)]
  by_cases z : t < gap.length
  · have e : (120 :: 10 :: gap).getD (1 + gap.length - t) 0 = gap.getD (gap.length - 1 - t) 0 := by
      rw [show 1 + gap.length - t = (gap.length - 1 - t) + 1 + 1 by omega]; rfl
    rw [e]
    constructor
    · intro h
      by_cases q : t < tb gap
      · exact absurd h (s1 t q)
      · omega
    · rintro rfl
      exact s2 z
  · have e : (120 :: 10 :: gap).getD (1 + gap.length - t) 0 = 10 := by
      rw [show 1 + gap.length - t = 1 by omega]; rfl
    rw [e]
    exact ⟨fun _ => by omega, fun _ => rfl⟩
theorem u16_wf {x : Int} (h : (Lit.int .u16 x).wf = true) : 0 ≤ x ∧ x < 65536 := by
  simp [Lit.wf, IntKind.min, IntKind.max, IntKind.signed, IntKind.bits] at h
  omega
theorem walk_WordsMany' (n : Int) (gap : List UInt8) (hw : (Lit.int .u16 n).wf = true) (W : World) {cl : List Value} (hcl : CRel noN W NoO [.int .u16 n, .str gap] cl) :
    Calls Try.prog 10 cl.toArray W fun e W' => e = .returned (.bool true) ∧ Below W.heap.size W W' := by
  refine law_of (C := mkA 0 [(51, linesS), (52, alS49)] noG [8])
    (mkA_ok (pok_cons lines_s (pok_cons alive49_s pok_nil)) noG_ok) rfl ⟨Try.func10, by kernel_rfl, by kernel_rfl, by kernel_rfl⟩ (by exact Nat.le_of_ble_eq_true rfl) ?_ hcl
  have hn := u16_wf hw
  clear hw
  by_cases hg6 : 6 < gap.length
  · (repeat' (first | (refine xI (fun hfk => ?_) (fun hfk => ?_) <;> ((try (first | replace hfk := oT hfk | replace hfk := oF hfk | simp only [oA, oB, dh1, dh0, ne_eq, reduceCtorEq] at hfk)); (try (exfalso; first | omega | contradiction | exact xF hfk (by with_reducible assumption) | exact xT hfk (by with_reducible assumption))))) | (refine And.intro ?ob ?_; (case ob => (first | exact Chk.mk (by kernel_rfl) | exact True.intro | with_reducible assumption | exact rng64 (by omega) (by omega) | omega | (dsimp only; omega) | (show (_ : Nat) ≤ _; omega) | (simp only [ll1, ll2, ll0]; first | done | omega) | (dsimp only; simp only [ll1, ll2, ll0]; omega)))) | exact True.intro | (show _ = _; first | with_reducible rfl | with_reducible assumption | omega | (simp only [ll1, ll2, ll0]; omega) | (rfl; done) | exact rfl) | with_reducible assumption | (apply And.intro) | omega | (intro j hj; exact rfl)))
  (repeat' (first | (refine xI (fun hfk => ?_) (fun hfk => ?_) <;> ((try (first | replace hfk := oT hfk | replace hfk := oF hfk | simp only [oA, oB, dh1, dh0, ne_eq, reduceCtorEq] at hfk)); (try (exfalso; first | omega | contradiction | exact xF hfk (by with_reducible assumption) | exact xT hfk (by with_reducible assumption))))) | (refine And.intro ?ob ?_; (case ob => (first | exact Chk.mk (by kernel_rfl) | exact True.intro | with_reducible assumption | exact rng64 (by omega) (by omega) | omega | (dsimp only; omega) | (show (_ : Nat) ≤ _; omega) | (simp only [ll1, ll2, ll0]; first | done | omega) | (dsimp only; simp only [ll1, ll2, ll0]; omega)))) | exact True.intro | (show _ = _; first | with_reducible rfl | with_reducible assumption | omega | (simp only [ll1, ll2, ll0]; omega) | (skip; done) | exact rfl) | with_reducible assumption | (apply And.intro) | omega | (intro j hj; exact rfl)))
  refine ⟨Nat, fun i => [(0, .int .u16 n), (1, .str gap), (4, .bool false), (5, .int .i64 (i : Int))], fun i => ⟨0, []⟩,
    fun i => i ≤ gap.length ∧ ∀ j, j < i → GapB (gap.getD j 0), fun i => gap.length - i, ⟨0, [], ⟨Nat.zero_le _, fun j hj => absurd hj (Nat.not_lt_zero _)⟩, ?_⟩, fun i hi => ?_⟩
  · (repeat' (first | (refine And.intro ?_ ?_) | exact True.intro | (show _ = _; with_reducible rfl) | exact Chk.mk (by kernel_rfl)))
    all_goals rfl
  obtain ⟨i1, i2⟩ := hi
  have i1 : i ≤ gap.length := i1
  have i2 : ∀ j, j < i → GapB (gap.getD j 0) := i2
  by_cases hlt : i < gap.length
  · have ri : rngI .i64 ((i : Int) + 1) := rng64 (by omega) (by omega)
    obtain ⟨c, hc⟩ : ∃ c, gap.getD i 0 = c := ⟨_, rfl⟩
    have hc2 : gap.getD (i : Int).toNat 0 = c := hc
    by_cases hp : GapB c
    · have hp2 : (c.toNat : Int) = 32 ∨ (c.toNat : Int) = 10 ∨ (c.toNat : Int) = 9 := by
        rcases hp with q | q | q <;> subst q <;> decide
      have hp3 : ((gap.getD (i : Int).toNat 0).toNat : Int) = 32 ∨ ((gap.getD (i : Int).toNat 0).toNat : Int) = 10 ∨ ((gap.getD (i : Int).toNat 0).toNat : Int) = 9 := by rw [hc2]; exact hp2
      have nx : ∀ j, j < i + 1 → GapB (gap.getD j 0) := fun j hj => by
        by_cases z : j < i
        · exact i2 j z
        · obtain rfl : j = i := by omega
          rw [hc]; exact hp
      (repeat' (first | (refine xI (fun hfk => ?_) (fun hfk => ?_) <;> ((try (first | replace hfk := oT hfk | replace hfk := oF hfk | simp only [oA, oB, dh1, dh0, ne_eq, reduceCtorEq] at hfk)); (try (exfalso; first | omega | contradiction | exact xF hfk (by with_reducible assumption) | exact xT hfk (by with_reducible assumption))))) | (refine And.intro ?ob ?_; (case ob => (first | exact Chk.mk (by kernel_rfl) | exact True.intro | with_reducible assumption | exact rng64 (by omega) (by omega) | omega | (dsimp only; omega) | (show (_ : Nat) ≤ _; omega) | (simp only [ll1, ll2, ll0]; first | done | omega) | (dsimp only; simp only [ll1, ll2, ll0]; omega)))) | exact True.intro | (show _ = _; first | with_reducible rfl | with_reducible assumption | omega | (simp only [ll1, ll2, ll0]; omega) | (skip; done) | exact rfl) | with_reducible assumption | (apply And.intro) | omega | (intro j hj; exact rfl)))
      all_goals
        refine ⟨i + 1, [], ⟨hlt, nx⟩, ?_, ?_⟩
        · (show gap.length - (i + 1) < gap.length - i; omega)
        (repeat' (first | (refine And.intro ?_ ?_) | exact True.intro | (show _ = _; with_reducible rfl) | exact Chk.mk (by kernel_rfl)))
        all_goals first | rfl | (show (_ : Int) = _; omega)
    · have hp2 : ¬ ((c.toNat : Int) = 32 ∨ (c.toNat : Int) = 10 ∨ (c.toNat : Int) = 9) := fun q => hp (by
        rcases q with q | q | q
        · exact .inl (UInt8.toNat_inj.1 (by have : (32 : UInt8).toNat = 32 := rfl
                                            omega))
        · exact .inr (.inl (UInt8.toNat_inj.1 (by have : (10 : UInt8).toNat = 10 := rfl
                                                  omega)))
        · exact .inr (.inr (UInt8.toNat_inj.1 (by have : (9 : UInt8).toNat = 9 := rfl
                                                  omega))))
      have hp3 : ¬ (((gap.getD (i : Int).toNat 0).toNat : Int) = 32 ∨ ((gap.getD (i : Int).toNat 0).toNat : Int) = 10 ∨ ((gap.getD (i : Int).toNat 0).toNat : Int) = 9) := by rw [hc2]; exact hp2
      (repeat' (first | (refine xI (fun hfk => ?_) (fun hfk => ?_) <;> ((try (first | replace hfk := oT hfk | replace hfk := oF hfk | simp only [oA, oB, dh1, dh0, ne_eq, reduceCtorEq] at hfk)); (try (exfalso; first | omega | contradiction | exact xF hfk (by with_reducible assumption) | exact xT hfk (by with_reducible assumption))))) | (refine And.intro ?ob ?_; (case ob => (first | exact Chk.mk (by kernel_rfl) | exact True.intro | with_reducible assumption | exact rng64 (by omega) (by omega) | omega | (dsimp only; omega) | (show (_ : Nat) ≤ _; omega) | (simp only [ll1, ll2, ll0]; first | done | omega) | (dsimp only; simp only [ll1, ll2, ll0]; omega)))) | exact True.intro | (show _ = _; first | with_reducible rfl | with_reducible assumption | omega | (simp only [ll1, ll2, ll0]; omega) | (rfl; done) | exact rfl) | with_reducible assumption | (apply And.intro) | omega | (intro j hj; exact rfl)))
  obtain rfl : i = gap.length := by omega
  have hgap : ∀ c ∈ gap, GapB c := fun c hc => by
    obtain ⟨j, hj, rfl⟩ := List.mem_iff_getElem.1 hc
    have := i2 j hj
    rwa [List.getD_eq_getElem?_getD, List.getElem?_eq_getElem hj] at this
  have nm : n.tmod 12 = n % 12 := Int.tmod_eq_emod_of_nonneg hn.1
  have rn1 : rngI .i64 (n.tmod 12) := by rw [nm]; exact rng64 (by omega) (by omega)
  have rn2 : rngI .i64 (4090 + n.tmod 12) := by rw [nm]; exact rng64 (by omega) (by omega)
  (repeat' (first | (refine xI (fun hfk => ?_) (fun hfk => ?_) <;> ((try (first | replace hfk := oT hfk | replace hfk := oF hfk | simp only [oA, oB, dh1, dh0, ne_eq, reduceCtorEq] at hfk)); (try (exfalso; first | omega | contradiction | exact xF hfk (by with_reducible assumption) | exact xT hfk (by with_reducible assumption))))) | (refine And.intro ?ob ?_; (case ob => (first | exact Chk.mk (by kernel_rfl) | exact True.intro | with_reducible assumption | exact rng64 (by omega) (by omega) | omega | (dsimp only; omega) | (show (_ : Nat) ≤ _; omega) | (simp only [ll1, ll2, ll0]; first | done | omega) | (dsimp only; simp only [ll1, ll2, ll0]; omega)))) | exact True.intro | (show _ = _; first | with_reducible rfl | with_reducible assumption | omega | (simp only [ll1, ll2, ll0]; omega) | (first | exact rn1 | exact rn2; done) | exact rfl) | with_reducible assumption | (apply And.intro) | omega | (intro j hj; exact rfl)))
  obtain ⟨N, hN, hN1, hN2⟩ : ∃ N : Nat, 4090 + n.tmod 12 = (N : Int) ∧ 4090 ≤ N ∧ N ≤ 4101 := ⟨(4090 + n.tmod 12).toNat, by omega, by omega, by omega⟩
  refine ⟨[(1, .str gap), (4, .bool false), (6, .int .i64 (N : Int))], ⟨0, []⟩, [], ?_, ?_⟩
  · (repeat' (first | (refine And.intro ?_ ?_) | exact True.intro | (show _ = _; with_reducible rfl) | exact Chk.mk (by kernel_rfl)))
    all_goals first | exact hN | rfl
  clear rn1 rn2 nm hN
  obtain ⟨G, hG⟩ : ∃ G, gap.length = G := ⟨_, rfl⟩
  have cNG : ((N * (2 + G) : Nat) : Int) = (N : Int) * (2 + (G : Int)) := by rw [Int.natCast_mul, Int.natCast_add]; rfl
  have hNG : N * (2 + G) ≤ 4101 * 8 := Nat.mul_le_mul hN2 (by omega)
  have eG : (gap.length : Int) = (G : Int) := by rw [hG]
  by_cases hbig : 65536 < N * (2 + G)
  · omega
  have rm : rngI .i64 ((N : Int) * (2 + (gap.length : Int))) := by rw [eG, ← cNG]; exact rng64 (by omega) (by omega)
  have rm2 : ¬ 65536 < (N : Int) * (2 + (gap.length : Int)) := by rw [eG, ← cNG]; omega
  (repeat' (first | (refine xI (fun hfk => ?_) (fun hfk => ?_) <;> ((try (first | replace hfk := oT hfk | replace hfk := oF hfk | simp only [oA, oB, dh1, dh0, ne_eq, reduceCtorEq] at hfk)); (try (exfalso; first | omega | contradiction | exact xF hfk (by with_reducible assumption) | exact xT hfk (by with_reducible assumption))))) | (refine And.intro ?ob ?_; (case ob => (first | exact Chk.mk (by kernel_rfl) | exact True.intro | with_reducible assumption | exact rng64 (by omega) (by omega) | omega | (dsimp only; omega) | (show (_ : Nat) ≤ _; omega) | (simp only [ll1, ll2, ll0]; first | done | omega) | (dsimp only; simp only [ll1, ll2, ll0]; omega)))) | exact True.intro | (show _ = _; first | with_reducible rfl | with_reducible assumption | omega | (simp only [ll1, ll2, ll0]; omega) | (first | exact rm | skip; done) | exact rfl) | with_reducible assumption | (apply And.intro) | omega | (intro j hj; exact rfl)))
  have s0 : (0 : Nat) = 0 * (2 + G) := by omega
  refine ⟨Nat, fun k => [(1, .str gap), (4, .bool false), (6, .int .i64 (N : Int)), (7, .sl 0 1 0 (k * (2 + G))), (8, .int .i64 (if 4096 < k then ((4096 * (2 + G) : Nat) : Int) else 0)), (9, .int .i64 (k : Int))],
    fun k => ⟨1, [(0, some (.ints 5 .u8 ((txt gap k).map fun c => (c.toNat : Int))))]⟩,
    fun k => k ≤ N, fun k => N - k, ⟨0, [some 0], Nat.zero_le _, ?_⟩, fun k hk => ?_⟩
  · (repeat' (first | (refine And.intro ?_ ?_) | exact True.intro | (show _ = _; with_reducible rfl) | exact Chk.mk (by kernel_rfl)))
    all_goals first | rfl | exact s0
  have hk : k ≤ N := hk
  have tl : ((txt gap k).map fun c => (c.toNat : Int)).length = k * (2 + G) := by rw [List.length_map, txt_len, hG]
  by_cases hlt : k < N
  · have hkN : k * (2 + G) + (2 + G) ≤ N * (2 + G) := by rw [← Nat.succ_mul]; exact Nat.mul_le_mul_right _ hlt
    have rk : rngI .i64 ((k : Int) + 1) := rng64 (by omega) (by omega)
    have tl2 : (List.take 2 (List.drop 0 ((fun x => (120 : Int) :: x) ((fun x => (10 : Int) :: x) ([] : List Int))))).length = 2 := rfl
    have xL : ((txt gap k).map fun c => (c.toNat : Int)) ++ List.take 2 (List.drop 0 ((fun x => (120 : Int) :: x) ((fun x => (10 : Int) :: x) ([] : List Int)))) ++ (gap.map fun c => (c.toNat : Int)) = (txt gap (k + 1)).map fun c => (c.toNat : Int) := by
      show _ = (txt gap k ++ (120 :: 10 :: gap)).map fun c => (c.toNat : Int)
      rw [List.map_append, List.append_assoc]; rfl
    have xl : ((txt gap k).map fun c => (c.toNat : Int)).length + (List.take 2 (List.drop 0 ((fun x => (120 : Int) :: x) ((fun x => (10 : Int) :: x) ([] : List Int))))).length + gap.length = (k + 1) * (2 + G) := by
      rw [tl, tl2, hG, Nat.succ_mul]; omega
    have xn : (k : Int) + 1 = ((k + 1 : Nat) : Int) := by omega
    by_cases h96 : k = 4096
    · have xw : ((k * (2 + G) : Nat) : Int) = if 4096 < k + 1 then ((4096 * (2 + G) : Nat) : Int) else 0 := by rw [if_pos (by omega), h96]
      (repeat' (first | (refine xI (fun hfk => ?_) (fun hfk => ?_) <;> ((try (first | replace hfk := oT hfk | replace hfk := oF hfk | simp only [oA, oB, dh1, dh0, ne_eq, reduceCtorEq] at hfk)); (try (exfalso; first | omega | contradiction | exact xF hfk (by with_reducible assumption) | exact xT hfk (by with_reducible assumption))))) | (refine And.intro ?ob ?_; (case ob => (first | exact Chk.mk (by kernel_rfl) | exact True.intro | with_reducible assumption | exact rng64 (by omega) (by omega) | omega | (dsimp only; omega) | (show (_ : Nat) ≤ _; omega) | (simp only [ll1, ll2, ll0]; first | done | omega) | (dsimp only; simp only [ll1, ll2, ll0]; omega)))) | exact True.intro | (show _ = _; first | with_reducible rfl | with_reducible assumption | omega | (simp only [ll1, ll2, ll0]; omega) | (skip; done) | exact rfl) | with_reducible assumption | (apply And.intro) | omega | (intro j hj; exact rfl)))
      · show (_ : Int) * ((1 : Nat) : Int) ≤ _
        omega
      refine ⟨k + 1, [some 3], hlt, ?_, ?_⟩
      · (show N - (k + 1) < N - k; omega)
      (repeat' (first | (refine And.intro ?_ ?_) | exact True.intro | (show _ = _; with_reducible rfl) | exact Chk.mk (by kernel_rfl)))
      all_goals first | rfl | exact xL | exact xl | exact xn | exact xw
    · have xw : (if 4096 < k then ((4096 * (2 + G) : Nat) : Int) else 0) = if 4096 < k + 1 then ((4096 * (2 + G) : Nat) : Int) else 0 := by
        by_cases z : 4096 < k
        · rw [if_pos z, if_pos (by omega)]
        · rw [if_neg z, if_neg (by omega)]
      (repeat' (first | (refine xI (fun hfk => ?_) (fun hfk => ?_) <;> ((try (first | replace hfk := oT hfk | replace hfk := oF hfk | simp only [oA, oB, dh1, dh0, ne_eq, reduceCtorEq] at hfk)); (try (exfalso; first | omega | contradiction | exact xF hfk (by with_reducible assumption) | exact xT hfk (by with_reducible assumption))))) | (refine And.intro ?ob ?_; (case ob => (first | exact Chk.mk (by kernel_rfl) | exact True.intro | with_reducible assumption | exact rng64 (by omega) (by omega) | omega | (dsimp only; omega) | (show (_ : Nat) ≤ _; omega) | (simp only [ll1, ll2, ll0]; first | done | omega) | (dsimp only; simp only [ll1, ll2, ll0]; omega)))) | exact True.intro | (show _ = _; first | with_reducible rfl | with_reducible assumption | omega | (simp only [ll1, ll2, ll0]; omega) | (skip; done) | exact rfl) | with_reducible assumption | (apply And.intro) | omega | (intro j hj; exact rfl)))
      · show (_ : Int) * ((1 : Nat) : Int) ≤ _
        omega
      refine ⟨k + 1, [some 3], hlt, ?_, ?_⟩
      · (show N - (k + 1) < N - k; omega)
      (repeat' (first | (refine And.intro ?_ ?_) | exact True.intro | (show _ = _; with_reducible rfl) | exact Chk.mk (by kernel_rfl)))
      all_goals first | rfl | exact xL | exact xl | exact xn | exact xw
  · obtain rfl : k = N := by omega
    have sT : (List.map (fun n => UInt8.ofNat n.toNat) (List.take (k * (2 + G)) (List.drop 0 (List.map (fun c => (c.toNat : Int)) (txt gap k))))) = txt gap k := by
      rw [List.drop_zero, List.take_of_length_le (by rw [tl]; exact Nat.le_refl _), List.map_map]
      have : ((fun n : Int => UInt8.ofNat n.toNat) ∘ fun c : UInt8 => (c.toNat : Int)) = id := by
        funext c
        show UInt8.ofNat ((c.toNat : Int)).toNat = c
        rw [Int.toNat_natCast]; simp
      rw [this, List.map_id]
    have hsl : (txt gap k).length = k * (2 + G) := by rw [txt_len, hG]
    obtain ⟨r1, r2, r3⟩ := ls_text (s := txt gap k) hgap ((txt gap k).length + 2) 0 0 [] 0 [] k (fun c hc => by cases hc) rfl (Nat.zero_le _) (by omega) (by show 0 + 0 = 0 * _; omega) (.inl rfl)
    have r2 : (lsT (txt gap k)).out.length = 0 + k := r2
    have r1 : (lsT (txt gap k)).bad = none := r1
    have r3 : (lsT (txt gap k)).ov = if 0 ≤ 4096 ∧ 4096 < 0 + k then ((4096 * (2 + gap.length) - tb gap : Nat) : Int) else 0 := r3
    have hno : ¬ 65536 < (txt gap k).length := by omega
    by_cases h96 : 4096 < k
    · have e1 : lsE (txt gap k) = 30 := by unfold lsE; rw [if_neg hno, r1]; show (if 4096 < (lsT (txt gap k)).out.length then _ else _) = _; rw [r2, if_pos (by omega)]
      have e2 : lsA (txt gap k) = ((4096 * (2 + G) - tb gap : Nat) : Int) := by
        unfold lsA; rw [if_neg hno, r1]; show (if 4096 < (lsT (txt gap k)).out.length then _ else _) = _
        rw [r2, if_pos (by omega), r3, if_pos (by omega), hG]
      have e3 : lsL (txt gap k) = [] := if_neg (by rw [e1]; decide)
      have e4 : (lsL (txt gap k)).length = 0 := by rw [e3]; rfl
      rw [← sT] at e1 e2 e4
      have hw : (if 4096 < k then ((4096 * (2 + G) : Nat) : Int) else 0) = ((4096 * (2 + G) : Nat) : Int) := if_pos h96
      clear r1 r2 r3 e3
      have e2' := e2
      rw [sT] at e2'
      (repeat' (first | (refine xI (fun hfk => ?_) (fun hfk => ?_) <;> ((try (first | replace hfk := oT hfk | replace hfk := oF hfk | simp only [oA, oB, dh1, dh0, ne_eq, reduceCtorEq] at hfk)); (try (exfalso; first | omega | contradiction | exact xF hfk (by with_reducible assumption) | exact xT hfk (by with_reducible assumption))))) | (refine And.intro ?ob ?_; (case ob => (first | exact Chk.mk (by kernel_rfl) | exact True.intro | with_reducible assumption | exact rng64 (by omega) (by omega) | omega | (dsimp only; omega) | (show (_ : Nat) ≤ _; omega) | (simp only [ll1, ll2, ll0]; first | done | omega) | (dsimp only; simp only [ll1, ll2, ll0]; omega)))) | exact True.intro | (show _ = _; first | with_reducible rfl | with_reducible assumption | omega | (simp only [ll1, ll2, ll0]; omega) | (skip; done) | exact rfl) | with_reducible assumption | (apply And.intro) | omega | (intro j hj; exact rfl)))
      have w0 : (if 4096 < k then ((4096 * (2 + G) : Nat) : Int) else 0) = ((4096 * (2 + G) - 0 : Nat) : Int) := hw
      have hb := tb_le gap
      refine ⟨Nat, fun t => [(4, .bool false), (7, .sl 0 1 0 (k * (2 + G))), (8, .int .i64 ((4096 * (2 + G) - t : Nat) : Int)), (10, .ro 2 0 (fun j => (([] : List Ln).getD j Ln.z).av)), (11, .int .i64 ((4096 * (2 + G) - tb gap : Nat) : Int)), (12, .int .i64 30)],
        fun t => ⟨1, [(0, some (.ints 5 .u8 (List.map (fun c => (c.toNat : Int)) (txt gap k))))]⟩,
        fun t => t ≤ tb gap, fun t => tb gap - t, ⟨0, [some 0], Nat.zero_le _, ?_⟩, fun t ht => ?_⟩
      · (repeat' (first | (refine And.intro ?_ ?_) | exact True.intro | (show _ = _; with_reducible rfl) | exact Chk.mk (by kernel_rfl)))
        all_goals first | exact w0 | exact e1 | exact e2 | exact e4 | rfl | (intro j hj; exact absurd hj (by first | exact Nat.not_lt_zero _ | (rw [e4]; exact Nat.not_lt_zero _)))
      have ht : t ≤ tb gap := ht
      have hWp : 4096 * (2 + G) ≤ k * (2 + G) := Nat.mul_le_mul_right _ (by omega)
      have hby := want_byte h96 ht
      rw [hG] at hby
      have hix : (0 + (((4096 * (2 + G) - t : Nat) : Int) - 1).toNat) = 4096 * (2 + G) - t - 1 := by omega
      have hlt2 : 4096 * (2 + G) - t - 1 < (txt gap k).length := by omega
      have hgb : (List.map (fun c => (c.toNat : Int)) (txt gap k)).getD (0 + (((4096 * (2 + G) - t : Nat) : Int) - 1).toNat) 0 = (((txt gap k).getD (4096 * (2 + G) - t - 1) 0).toNat : Int) := by
        rw [hix, List.getD_eq_getElem?_getD, List.getElem?_map, List.getElem?_eq_getElem hlt2, List.getD_eq_getElem?_getD, List.getElem?_eq_getElem hlt2]; rfl
      obtain ⟨c, hc⟩ : ∃ c, (txt gap k).getD (4096 * (2 + G) - t - 1) 0 = c := ⟨_, rfl⟩
      rw [hc] at hby hgb
      have hc10 : (c.toNat : Int) = 10 ↔ c = 10 := by
        constructor
        · intro q
          have h10 : (10 : UInt8).toNat = 10 := rfl
          exact UInt8.toNat_inj.1 (by omega)
        · intro q; subst q; rfl
      have rw1 : rngI .i64 (((4096 * (2 + G) - t : Nat) : Int) - 1) := rng64 (by omega) (by omega)
      by_cases hq : t = tb gap
      · have hv : (List.map (fun c => (c.toNat : Int)) (txt gap k)).getD (0 + (((4096 * (2 + G) - t : Nat) : Int) - 1).toNat) 0 = 10 := by rw [hgb]; exact hc10.2 (hby.2 hq)
        clear hgb hc10 hby
        have eT : 4096 * (2 + G) - t = 4096 * (2 + G) - tb gap := by rw [hq]
        (repeat' (first | (refine xI (fun hfk => ?_) (fun hfk => ?_) <;> ((try (first | replace hfk := oT hfk | replace hfk := oF hfk | simp only [oA, oB, dh1, dh0, ne_eq, reduceCtorEq] at hfk)); (try (exfalso; first | omega | contradiction | exact xF hfk (by with_reducible assumption) | exact xT hfk (by with_reducible assumption))))) | (refine And.intro ?ob ?_; (case ob => (first | exact Chk.mk (by kernel_rfl) | exact True.intro | with_reducible assumption | exact rng64 (by omega) (by omega) | omega | (dsimp only; omega) | (show (_ : Nat) ≤ _; omega) | (simp only [ll1, ll2, ll0]; first | done | omega) | (dsimp only; simp only [ll1, ll2, ll0]; omega)))) | exact True.intro | (show _ = _; first | with_reducible rfl | with_reducible assumption | omega | (simp only [ll1, ll2, ll0]; omega) | (rfl; done) | exact rfl) | with_reducible assumption | (apply And.intro) | omega | (intro j hj; exact rfl)))
      · have hv : (List.map (fun c => (c.toNat : Int)) (txt gap k)).getD (0 + (((4096 * (2 + G) - t : Nat) : Int) - 1).toNat) 0 ≠ 10 := by rw [hgb]; exact fun q => hq (hby.1 (hc10.1 q))
        have wn : ((4096 * (2 + G) - t : Nat) : Int) - 1 = ((4096 * (2 + G) - (t + 1) : Nat) : Int) := by omega
        clear hgb hc10 hby
        (repeat' (first | (refine xI (fun hfk => ?_) (fun hfk => ?_) <;> ((try (first | replace hfk := oT hfk | replace hfk := oF hfk | simp only [oA, oB, dh1, dh0, ne_eq, reduceCtorEq] at hfk)); (try (exfalso; first | omega | contradiction | exact xF hfk (by with_reducible assumption) | exact xT hfk (by with_reducible assumption))))) | (refine And.intro ?ob ?_; (case ob => (first | exact Chk.mk (by kernel_rfl) | exact True.intro | with_reducible assumption | exact rng64 (by omega) (by omega) | omega | (dsimp only; omega) | (show (_ : Nat) ≤ _; omega) | (simp only [ll1, ll2, ll0]; first | done | omega) | (dsimp only; simp only [ll1, ll2, ll0]; omega)))) | exact True.intro | (show _ = _; first | with_reducible rfl | with_reducible assumption | omega | (simp only [ll1, ll2, ll0]; omega) | (skip; done) | exact rfl) | with_reducible assumption | (apply And.intro) | omega | (intro j hj; exact rfl)))
        refine ⟨t + 1, [some 0], by show t + 1 ≤ tb gap; omega, by show tb gap - (t + 1) < tb gap - t; omega, ?_⟩
        (repeat' (first | (refine And.intro ?_ ?_) | exact True.intro | (show _ = _; with_reducible rfl) | exact Chk.mk (by kernel_rfl)))
        all_goals first | rfl | exact wn | (intro j hj; rfl)
    · have e1 : lsE (txt gap k) = 0 := by unfold lsE; rw [if_neg hno, r1]; show (if 4096 < (lsT (txt gap k)).out.length then _ else _) = _; rw [r2, if_neg (by omega)]
      have e2 : lsA (txt gap k) = 0 := by unfold lsA; rw [if_neg hno, r1]; show (if 4096 < (lsT (txt gap k)).out.length then _ else _) = _; rw [r2, if_neg (by omega)]
      have e4 : (lsL (txt gap k)).length = k := by unfold lsL; rw [if_pos e1, r2]; omega
      rw [← sT] at e1 e2 e4
      clear r1 r2 r3
      (repeat' (first | (refine xI (fun hfk => ?_) (fun hfk => ?_) <;> ((try (first | replace hfk := oT hfk | replace hfk := oF hfk | simp only [oA, oB, dh1, dh0, ne_eq, reduceCtorEq] at hfk)); (try (exfalso; first | omega | contradiction | exact xF hfk (by with_reducible assumption) | exact xT hfk (by with_reducible assumption))))) | (refine And.intro ?ob ?_; (case ob => (first | exact Chk.mk (by kernel_rfl) | exact True.intro | with_reducible assumption | exact rng64 (by omega) (by omega) | omega | (dsimp only; omega) | (show (_ : Nat) ≤ _; omega) | (simp only [ll1, ll2, ll0]; first | done | omega) | (dsimp only; simp only [ll1, ll2, ll0]; omega)))) | exact True.intro | (show _ = _; first | with_reducible rfl | with_reducible assumption | omega | (simp only [ll1, ll2, ll0]; omega) | (rfl; done) | exact rfl) | with_reducible assumption | (apply And.intro) | omega | (intro j hj; exact rfl)))
end Go.Proofs.Ytepjmnkleajibaa

