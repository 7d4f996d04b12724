/- Texts laid together. No condition. -/
import Derived.Test.YtgbekbofeaoniaaE21
import Derived.Test.YtgbekbofeaoniaaU
import Derived.Test.YtgbekbofeaoniaaE22
namespace Go.Proofs.Ytgbekbofeaoniaa
theorem oT {p : Prop} [Decidable p] (h : decide p = true) : p := of_decide_eq_true h
theorem oF {p : Prop} [Decidable p] (h : decide p = false) : ¬ p := of_decide_eq_false h
theorem oA {p : Prop} [Decidable p] : (decide p = true) = p := decide_eq_true_eq
theorem oB {p : Prop} [Decidable p] : decide p = false ↔ ¬ p := decide_eq_false_iff_not
theorem oD : (∀ (p : Prop) [Decidable p], (decide p = true) = p) ∧ (∀ (p : Prop) [Decidable p], decide p = false ↔ ¬ p) ∧ ((∀ b : Bool, ((!b) = true) = (b = false)) ∧ (∀ b : Bool, ((!b) = false) = (b = true)) ∧ (∀ a b : Bool, ((a && b) = true) = (a = true ∧ b = true)) ∧ (∀ a b : Bool, ((a || b) = true) = (a = true ∨ b = true)) ∧ (∀ a b : Bool, ((a && b) = false) = (a = false ∨ b = false)) ∧ (∀ a b : Bool, ((a || b) = false) = (a = false ∧ b = false)) ∧ (∀ a b : Int, (¬ a < b) = (b ≤ a)) ∧ (∀ a b : Int, (¬ a ≤ b) = (b < a))) ∧ ((∀ p : Prop, (¬ ¬ p) = p) ∧ (true = false) = False ∧ (false = true) = False ∧ (∀ p : Prop, (p ∨ False) = p) ∧ (∀ p : Prop, (False ∨ p) = p) ∧ (∀ p : Prop, (p ∧ True) = p) ∧ (∀ p : Prop, (True ∧ p) = p) ∧ (¬ True) = False ∧ (¬ False) = True) := ⟨fun _ _ => oA, fun _ _ => oB, dh1, dh0⟩
theorem xF {x : Bool} (h : x = true) (k : x = false) : False := Bool.noConfusion (Eq.trans (Eq.symm h) k)
theorem xI {x : Bool} {A B : Prop} (f : x = true → A) (g : x = false → B) : (x = true → A) ∧ (x = false → B) := ⟨f, g⟩
theorem xT {x : Bool} (h : x = false) (k : x = true) : False := Bool.noConfusion (Eq.trans (Eq.symm h) k)
theorem oZ {p : Prop} (h : p := by (first | exact Chk.mk (by kernel_rfl) | exact True.intro | with_reducible assumption | exact rng64 (by omega) (by omega) | omega | (dsimp only; omega) | (show (_ : Nat) ≤ _; omega) | (simp only [ll1, ll2, ll0]; first | done | omega) | (dsimp only; simp only [ll1, ll2, ll0]; omega))) : p := h
theorem oX (h : False := by first | omega | contradiction | exact xF hfk (by with_reducible assumption) | exact xT hfk (by with_reducible assumption)) {p : Prop} : p := h.elim
theorem oY {p : Prop} (h : p := by first | with_reducible rfl | with_reducible assumption | omega | (simp only [ll1, ll2, ll0]; omega)) : p := h
theorem oW {p : Prop} (h : p := by first | with_reducible assumption | omega | (intro j hj; exact rfl)) : p := h
end Go.Proofs.Ytgbekbofeaoniaa
set_option maxRecDepth 100000
set_option maxHeartbeats 4000000
set_option linter.unusedVariables false
set_option linter.unusedSimpArgs false
namespace Go.Proofs.Ytgbekbofeaoniaa
open Go Go.RowKit
def cntN (p : Int → Bool) : List UInt8 → Nat
  | [] => 0
  | c :: r => if p (c.toNat : Int) = true then cntN p r + 1 else 0
theorem cnt_le (p : Int → Bool) : ∀ l, cntN p l ≤ l.length
  | [] => Nat.le_refl _
  | c :: r => by
    have := cnt_le p r
    unfold cntN
    split
    · rw [List.length_cons]; omega
    · exact Nat.zero_le _
theorem cnt_in {p : Int → Bool} : ∀ {l : List UInt8} {t : Nat}, t < cntN p l → p ((l.getD t 0).toNat : Int) = true
  | [], t, h => by simp [cntN] at h
  | c :: r, t, h => by
    unfold cntN at h
    split at h
    · rename_i k
      cases t with
      | zero => exact k
      | succ t => exact cnt_in (l := r) (by omega)
    · omega
theorem cnt_out {p : Int → Bool} : ∀ {l : List UInt8}, cntN p l < l.length → p ((l.getD (cntN p l) 0).toNat : Int) = false
  | [], h => by simp [cntN] at h
  | c :: r, h => by
    by_cases k : p (c.toNat : Int) = true
    · have e : cntN p (c :: r) = cntN p r + 1 := if_pos k
      rw [e] at h ⊢
      exact cnt_out (l := r) (by simpa using h)
    · have e : cntN p (c :: r) = 0 := if_neg k
      rw [e]
      simpa using k
theorem sdrop_getD {s : List UInt8} {a t : Nat} : (s.drop a).getD t 0 = s.getD (a + t) 0 := by simp [List.getD, List.getElem?_drop]
def mkP (x : Int) : Bool := decide (33 ≤ x ∧ x ≤ 126 ∧ x ≠ 35)
def bwP (x : Int) : Bool := decide (x = 9 ∨ x = 13 ∨ x = 32)
def nlP (x : Int) : Bool := decide (x ≠ 10)
abbrev markS : PSpec := fun l => match l with | [.int .u8 x] => some ([], .bool (decide (33 ≤ x ∧ x ≤ 126 ∧ x ≠ 35))) | _ => none
theorem mark_s : SOK Try.prog 94 markS := by
  refine sok_of (C := mkC 0 [] noG) (mkC_ok pok_nil noG_ok) rfl mixed ⟨Try.func94, by kernel_rfl, by kernel_rfl, by kernel_rfl⟩ fun l obs v h ho => ?_
  (unfold markS at h; split at h; rotate_left; (focus (cases h)); rename_i x; simp only [Option.some.injEq, Prod.mk.injEq] at h; obtain ⟨rfl, rfl⟩ := h; simp only [List.mem_cons, List.not_mem_nil, or_false, forall_eq_or_imp, forall_eq, false_implies, implies_true] at ho)
  refine ⟨Nat.le_of_ble_eq_true rfl, ?_⟩
  by_cases k : 33 ≤ x ∧ x ≤ 126 ∧ x ≠ 35
  · rw [decide_eq_true k]
    have e : decide (x ≠ 35) = true := decide_eq_true k.2.2
    (repeat' (first | (refine xI (fun hfk => ?_) (fun hfk => ?_) <;> ((try (first | replace hfk := oT hfk | replace hfk := oF hfk | simp only [oD, ne_eq, reduceCtorEq] at hfk)); (try exact oX))) | (refine And.intro ?ob ?_; (case ob => (exact oZ))) | exact True.intro | (show _ = _; first | exact oY | (first | exact e | exact e.symm; done) | exact rfl) | exact oW | (apply And.intro)))
  · rw [decide_eq_false k]
    have e : 33 ≤ x → x ≤ 126 → decide (x ≠ 35) = false := fun p q => decide_eq_false (by omega)
    (repeat' (first | (refine xI (fun hfk => ?_) (fun hfk => ?_) <;> ((try (first | replace hfk := oT hfk | replace hfk := oF hfk | simp only [oD, ne_eq, reduceCtorEq] at hfk)); (try exact oX))) | (refine And.intro ?ob ?_; (case ob => (exact oZ))) | exact True.intro | (show _ = _; first | exact oY | (first | exact e (by omega) (by omega) | exact (e (by omega) (by omega)).symm; done) | exact rfl) | exact oW | (apply And.intro)))
abbrev wblankS : PSpec := fun l => match l with | [.int .u8 x] => some ([], .bool (decide (x = 9 ∨ x = 13 ∨ x = 32))) | _ => none
theorem wblank_s : SOK Try.prog 93 wblankS := by
  refine sok_of (C := mkC 0 [] noG) (mkC_ok pok_nil noG_ok) rfl mixed ⟨Try.func93, by kernel_rfl, by kernel_rfl, by kernel_rfl⟩ fun l obs v h ho => ?_
  (unfold wblankS at h; split at h; rotate_left; (focus (cases h)); rename_i x; simp only [Option.some.injEq, Prod.mk.injEq] at h; obtain ⟨rfl, rfl⟩ := h; simp only [List.mem_cons, List.not_mem_nil, or_false, forall_eq_or_imp, forall_eq, false_implies, implies_true] at ho)
  refine ⟨Nat.le_of_ble_eq_true rfl, ?_⟩
  by_cases k : x = 9 ∨ x = 13 ∨ x = 32
  · rw [decide_eq_true k]
    have e : x ≠ 9 → x ≠ 13 → decide (x = 32) = true := fun p q => decide_eq_true (by omega)
    (repeat' (first | (refine xI (fun hfk => ?_) (fun hfk => ?_) <;> ((try (first | replace hfk := oT hfk | replace hfk := oF hfk | simp only [oD, ne_eq, reduceCtorEq] at hfk)); (try exact oX))) | (refine And.intro ?ob ?_; (case ob => (exact oZ))) | exact True.intro | (show _ = _; first | exact oY | (first | exact e (by omega) (by omega) | exact (e (by omega) (by omega)).symm; done) | exact rfl) | exact oW | (apply And.intro)))
  · rw [decide_eq_false k]
    have e : decide (x = 32) = false := decide_eq_false (by omega)
    (repeat' (first | (refine xI (fun hfk => ?_) (fun hfk => ?_) <;> ((try (first | replace hfk := oT hfk | replace hfk := oF hfk | simp only [oD, ne_eq, reduceCtorEq] at hfk)); (try exact oX))) | (refine And.intro ?ob ?_; (case ob => (exact oZ))) | exact True.intro | (show _ = _; first | exact oY | (first | exact e | exact e.symm; done) | exact rfl) | exact oW | (apply And.intro)))
def bkN (l : List UInt8) : Nat := if (l.drop (cntN bwP l)).length ≠ 0 ∧ ((l.drop (cntN bwP l)).getD 0 0).toNat = 35 then cntN bwP l + cntN nlP (l.drop (cntN bwP l)) else cntN bwP l
theorem bkN_le (l : List UInt8) : bkN l ≤ l.length := by
  have h1 := cnt_le bwP l
  have h2 := cnt_le nlP (l.drop (cntN bwP l))
  rw [List.length_drop] at h2
  unfold bkN
  split <;> omega
def mrkN (l : List UInt8) : Nat := cntN mkP l
def wordF : FSpec := fun l es => match l, es with
  | [.ptr 0 0], [.cells 97 [.str s, .int .i64 a, .int .i64 n, .nils, .int .i64 v]] =>
    some ([0 ≤ a, a ≤ s.length, s.length ≤ 100000], .str ((s.drop a.toNat).take (mrkN (s.drop a.toNat))), [some (.cells 97 [.str s, .int .i64 (a + (mrkN (s.drop a.toNat) : Int)), .int .i64 n, .nils, .int .i64 v])])
  | [.ptr 0 0], [.cells 97 [.str s, .int .i64 a, .int .i64 n, .sl 1 2 0 k, .int .i64 v], .recs 35 2 m f] =>
    some ([0 ≤ a, a ≤ s.length, s.length ≤ 100000], .str ((s.drop a.toNat).take (mrkN (s.drop a.toNat))), [some (.cells 97 [.str s, .int .i64 (a + (mrkN (s.drop a.toNat) : Int)), .int .i64 n, .sl 1 2 0 k, .int .i64 v]), some (.recs 35 2 m f)])
  | _, _ => none
theorem word_g : GSOK Try.prog 76 (fG wordF) := by
  refine fok (S := [(94, markS)]) (G := noG) (pok_cons mark_s pok_nil) noG_ok ⟨Try.func76, by kernel_rfl, by kernel_rfl, by kernel_rfl⟩ fun l es obs v es' h ho => ?_
  unfold wordF at h
  split at h
  · rename_i s a n v
    simp only [Option.some.injEq, Prod.mk.injEq] at h
    obtain ⟨rfl, rfl, rfl⟩ := h
    simp only [List.mem_cons, List.not_mem_nil, or_false, forall_eq_or_imp, forall_eq] at ho
    obtain ⟨ho1, ho2, ho3⟩ := ho
    refine ⟨Nat.le_of_ble_eq_true rfl, ?_⟩
    obtain ⟨A, rfl⟩ := Int.eq_ofNat_of_zero_le ho1
    have hA : A ≤ s.length := by omega
    obtain ⟨M, hM⟩ : ∃ M, mrkN (s.drop A) = M := ⟨_, rfl⟩
    have hMl := cnt_le mkP (s.drop A)
    rw [List.length_drop] at hMl
    have hM2 : mrkN (s.drop A) = cntN mkP (s.drop A) := rfl
    rw [Int.toNat_natCast, hM]
    (repeat' (first | (refine xI (fun hfk => ?_) (fun hfk => ?_) <;> ((try (first | replace hfk := oT hfk | replace hfk := oF hfk | simp only [oD, ne_eq, reduceCtorEq] at hfk)); (try exact oX))) | (refine And.intro ?ob ?_; (case ob => (exact oZ))) | exact True.intro | (show _ = _; first | exact oY | exact rfl) | exact oW | (apply And.intro)))
    refine ⟨Nat, fun t => [(0, .ptr 0 0), (2, .str ((ByteArray.mk #[]).data.toList)), (3, .int .i64 (A : Int))],
      fun t => ⟨1, [(0, some (.cells 97 [.str s, .int .i64 ((A + t : Nat) : Int), .int .i64 n, .nils, .int .i64 v]))]⟩,
      fun t => t ≤ M, fun t => M - t, ⟨0, [some 0], Nat.zero_le _, ?_⟩, fun t ht => ?_⟩
    · (repeat' (first | (refine And.intro ?_ ?_) | exact True.intro | (show _ = _; with_reducible rfl) | exact Chk.mk (by kernel_rfl)))
      all_goals first | rfl | (intro j hj; rfl) | (show (_ : Int) = _; omega)
    have ht : t ≤ M := ht
    have g1 : s.getD ((A + t : Nat) : Int).toNat 0 = (s.drop A).getD t 0 := by rw [sdrop_getD]; rfl
    have rt : rngI .i64 (((A + t : Nat) : Int) + 1) := rng64 (by omega) (by omega)
    by_cases hlt : t < M
    · have hm : mkP (((s.drop A).getD t 0).toNat : Int) = true := cnt_in (by omega)
      have hm := of_decide_eq_true hm
      rw [← g1] at hm
      (repeat' (first | (refine xI (fun hfk => ?_) (fun hfk => ?_) <;> ((try (first | replace hfk := oT hfk | replace hfk := oF hfk | simp only [oD, ne_eq, reduceCtorEq] at hfk)); (try exact oX))) | (refine And.intro ?ob ?_; (case ob => (exact oZ))) | exact True.intro | (show _ = _; first | exact oY | exact rfl) | exact oW | (apply And.intro)))
      refine ⟨t + 1, [some 0], hlt, ?mu, ?_⟩
      case mu => (show M - (t + 1) < M - t; omega)
      (repeat' (first | (refine And.intro ?_ ?_) | exact True.intro | (show _ = _; with_reducible rfl) | exact Chk.mk (by kernel_rfl)))
      all_goals first | rfl | (intro j hj; rfl) | (show (_ : Int) = _; omega)
    · obtain rfl : t = M := by omega
      have hm : A + t < s.length → ¬ (33 ≤ ((s.getD ((A + t : Nat) : Int).toNat 0).toNat : Int) ∧ ((s.getD ((A + t : Nat) : Int).toNat 0).toNat : Int) ≤ 126 ∧ ((s.getD ((A + t : Nat) : Int).toNat 0).toNat : Int) ≠ 35) := fun hl => by
        have := cnt_out (p := mkP) (l := s.drop A) (by rw [List.length_drop]; omega)
        rw [← hM2, hM, ← g1] at this
        exact of_decide_eq_false this
      have e1 : List.drop (A : Int).toNat (List.take ((A + t : Nat) : Int).toNat s) = List.take t (List.drop A s) := by
        rw [Int.toNat_natCast, Int.toNat_natCast, List.drop_take, Nat.add_sub_cancel_left]
      by_cases hl : A + t < s.length
      · have hm := hm hl
        (repeat' (first | (refine xI (fun hfk => ?_) (fun hfk => ?_) <;> ((try (first | replace hfk := oT hfk | replace hfk := oF hfk | simp only [oD, ne_eq, reduceCtorEq] at hfk)); (try exact oX))) | (refine And.intro ?ob ?_; (case ob => (exact oZ))) | exact True.intro | (show _ = _; first | exact oY | (first | exact e1 | rfl; done) | exact rfl) | exact oW | (apply And.intro)))
        refine ⟨[some 0], ?_⟩
        (repeat' (first | (refine xI (fun hfk => ?_) (fun hfk => ?_) <;> ((try (first | replace hfk := oT hfk | replace hfk := oF hfk | simp only [oD, ne_eq, reduceCtorEq] at hfk)); (try exact oX))) | (refine And.intro ?ob ?_; (case ob => (exact oZ))) | exact True.intro | (show _ = _; first | exact oY | (first | rfl | (intro j hj; rfl) | (show (_ : Int) = _; omega); done) | exact rfl) | exact oW | (apply And.intro)))
      · clear hm
        (repeat' (first | (refine xI (fun hfk => ?_) (fun hfk => ?_) <;> ((try (first | replace hfk := oT hfk | replace hfk := oF hfk | simp only [oD, ne_eq, reduceCtorEq] at hfk)); (try exact oX))) | (refine And.intro ?ob ?_; (case ob => (exact oZ))) | exact True.intro | (show _ = _; first | exact oY | (first | exact e1 | rfl; done) | exact rfl) | exact oW | (apply And.intro)))
        refine ⟨[some 0], ?_⟩
        (repeat' (first | (refine xI (fun hfk => ?_) (fun hfk => ?_) <;> ((try (first | replace hfk := oT hfk | replace hfk := oF hfk | simp only [oD, ne_eq, reduceCtorEq] at hfk)); (try exact oX))) | (refine And.intro ?ob ?_; (case ob => (exact oZ))) | exact True.intro | (show _ = _; first | exact oY | (first | rfl | (intro j hj; rfl) | (show (_ : Int) = _; omega); done) | exact rfl) | exact oW | (apply And.intro)))
  · rename_i s a n k v m f
    simp only [Option.some.injEq, Prod.mk.injEq] at h
    obtain ⟨rfl, rfl, rfl⟩ := h
    simp only [List.mem_cons, List.not_mem_nil, or_false, forall_eq_or_imp, forall_eq] at ho
    obtain ⟨ho1, ho2, ho3⟩ := ho
    refine ⟨Nat.le_of_ble_eq_true rfl, ?_⟩
    obtain ⟨A, rfl⟩ := Int.eq_ofNat_of_zero_le ho1
    have hA : A ≤ s.length := by omega
    obtain ⟨M, hM⟩ : ∃ M, mrkN (s.drop A) = M := ⟨_, rfl⟩
    have hMl := cnt_le mkP (s.drop A)
    rw [List.length_drop] at hMl
    have hM2 : mrkN (s.drop A) = cntN mkP (s.drop A) := rfl
    rw [Int.toNat_natCast, hM]
    (repeat' (first | (refine xI (fun hfk => ?_) (fun hfk => ?_) <;> ((try (first | replace hfk := oT hfk | replace hfk := oF hfk | simp only [oD, ne_eq, reduceCtorEq] at hfk)); (try exact oX))) | (refine And.intro ?ob ?_; (case ob => (exact oZ))) | exact True.intro | (show _ = _; first | exact oY | exact rfl) | exact oW | (apply And.intro)))
    refine ⟨Nat, fun t => [(0, .ptr 0 0), (2, .str ((ByteArray.mk #[]).data.toList)), (3, .int .i64 (A : Int))],
      fun t => ⟨2, [(0, some (.cells 97 [.str s, .int .i64 ((A + t : Nat) : Int), .int .i64 n, .sl 1 2 0 k, .int .i64 v])), (1, some (.recs 35 2 m f))]⟩,
      fun t => t ≤ M, fun t => M - t, ⟨0, [some 0, some 1], Nat.zero_le _, ?_⟩, fun t ht => ?_⟩
    · (repeat' (first | (refine And.intro ?_ ?_) | exact True.intro | (show _ = _; with_reducible rfl) | exact Chk.mk (by kernel_rfl)))
      all_goals first | rfl | (intro j hj; rfl) | (show (_ : Int) = _; omega)
    have ht : t ≤ M := ht
    have g1 : s.getD ((A + t : Nat) : Int).toNat 0 = (s.drop A).getD t 0 := by rw [sdrop_getD]; rfl
    have rt : rngI .i64 (((A + t : Nat) : Int) + 1) := rng64 (by omega) (by omega)
    by_cases hlt : t < M
    · have hm : mkP (((s.drop A).getD t 0).toNat : Int) = true := cnt_in (by omega)
      have hm := of_decide_eq_true hm
      rw [← g1] at hm
      (repeat' (first | (refine xI (fun hfk => ?_) (fun hfk => ?_) <;> ((try (first | replace hfk := oT hfk | replace hfk := oF hfk | simp only [oD, ne_eq, reduceCtorEq] at hfk)); (try exact oX))) | (refine And.intro ?ob ?_; (case ob => (exact oZ))) | exact True.intro | (show _ = _; first | exact oY | exact rfl) | exact oW | (apply And.intro)))
      refine ⟨t + 1, [some 0, some 1], hlt, ?mu, ?_⟩
      case mu => (show M - (t + 1) < M - t; omega)
      (repeat' (first | (refine And.intro ?_ ?_) | exact True.intro | (show _ = _; with_reducible rfl) | exact Chk.mk (by kernel_rfl)))
      all_goals first | rfl | (intro j hj; rfl) | (show (_ : Int) = _; omega)
    · obtain rfl : t = M := by omega
      have hm : A + t < s.length → ¬ (33 ≤ ((s.getD ((A + t : Nat) : Int).toNat 0).toNat : Int) ∧ ((s.getD ((A + t : Nat) : Int).toNat 0).toNat : Int) ≤ 126 ∧ ((s.getD ((A + t : Nat) : Int).toNat 0).toNat : Int) ≠ 35) := fun hl => by
        have := cnt_out (p := mkP) (l := s.drop A) (by rw [List.length_drop]; omega)
        rw [← hM2, hM, ← g1] at this
        exact of_decide_eq_false this
      have e1 : List.drop (A : Int).toNat (List.take ((A + t : Nat) : Int).toNat s) = List.take t (List.drop A s) := by
        rw [Int.toNat_natCast, Int.toNat_natCast, List.drop_take, Nat.add_sub_cancel_left]
      by_cases hl : A + t < s.length
      · have hm := hm hl
        (repeat' (first | (refine xI (fun hfk => ?_) (fun hfk => ?_) <;> ((try (first | replace hfk := oT hfk | replace hfk := oF hfk | simp only [oD, ne_eq, reduceCtorEq] at hfk)); (try exact oX))) | (refine And.intro ?ob ?_; (case ob => (exact oZ))) | exact True.intro | (show _ = _; first | exact oY | (first | exact e1 | rfl; done) | exact rfl) | exact oW | (apply And.intro)))
        refine ⟨[some 0, some 1], ?_⟩
        (repeat' (first | (refine xI (fun hfk => ?_) (fun hfk => ?_) <;> ((try (first | replace hfk := oT hfk | replace hfk := oF hfk | simp only [oD, ne_eq, reduceCtorEq] at hfk)); (try exact oX))) | (refine And.intro ?ob ?_; (case ob => (exact oZ))) | exact True.intro | (show _ = _; first | exact oY | (first | rfl | (intro j hj; rfl) | (show (_ : Int) = _; omega); done) | exact rfl) | exact oW | (apply And.intro)))
      · clear hm
        (repeat' (first | (refine xI (fun hfk => ?_) (fun hfk => ?_) <;> ((try (first | replace hfk := oT hfk | replace hfk := oF hfk | simp only [oD, ne_eq, reduceCtorEq] at hfk)); (try exact oX))) | (refine And.intro ?ob ?_; (case ob => (exact oZ))) | exact True.intro | (show _ = _; first | exact oY | (first | exact e1 | rfl; done) | exact rfl) | exact oW | (apply And.intro)))
        refine ⟨[some 0, some 1], ?_⟩
        (repeat' (first | (refine xI (fun hfk => ?_) (fun hfk => ?_) <;> ((try (first | replace hfk := oT hfk | replace hfk := oF hfk | simp only [oD, ne_eq, reduceCtorEq] at hfk)); (try exact oX))) | (refine And.intro ?ob ?_; (case ob => (exact oZ))) | exact True.intro | (show _ = _; first | exact oY | (first | rfl | (intro j hj; rfl) | (show (_ : Int) = _; omega); done) | exact rfl) | exact oW | (apply And.intro)))
  · cases h
def blanksF : FSpec := fun l es => match l, es with
  | [.ptr 0 0], [.cells 97 [.str s, .int .i64 a, .int .i64 n, .nils, .int .i64 v]] =>
    some ([0 ≤ a, a ≤ s.length, s.length ≤ 100000], .tup [], [some (.cells 97 [.str s, .int .i64 (a + (bkN (s.drop a.toNat) : Int)), .int .i64 n, .nils, .int .i64 v])])
  | [.ptr 0 0], [.cells 97 [.str s, .int .i64 a, .int .i64 n, .sl 1 2 0 k, .int .i64 v], .recs 35 2 m f] =>
    some ([0 ≤ a, a ≤ s.length, s.length ≤ 100000], .tup [], [some (.cells 97 [.str s, .int .i64 (a + (bkN (s.drop a.toNat) : Int)), .int .i64 n, .sl 1 2 0 k, .int .i64 v]), some (.recs 35 2 m f)])
  | _, _ => none
theorem blanks_g : GSOK Try.prog 75 (fG blanksF) := by
  refine fok (S := [(93, wblankS)]) (G := noG) (pok_cons wblank_s pok_nil) noG_ok ⟨Try.func75, by kernel_rfl, by kernel_rfl, by kernel_rfl⟩ fun l es obs v es' h ho => ?_
  unfold blanksF at h
  split at h
  · rename_i s a n v
    simp only [Option.some.injEq, Prod.mk.injEq] at h
    obtain ⟨rfl, rfl, rfl⟩ := h
    simp only [List.mem_cons, List.not_mem_nil, or_false, forall_eq_or_imp, forall_eq] at ho
    obtain ⟨ho1, ho2, ho3⟩ := ho
    refine ⟨Nat.le_of_ble_eq_true rfl, ?_⟩
    obtain ⟨A, rfl⟩ := Int.eq_ofNat_of_zero_le ho1
    have hA : A ≤ s.length := by omega
    obtain ⟨M, hM⟩ : ∃ M, cntN bwP (s.drop A) = M := ⟨_, rfl⟩
    have hMl := cnt_le bwP (s.drop A)
    rw [List.length_drop] at hMl
    rw [Int.toNat_natCast]
    (repeat' (first | (refine xI (fun hfk => ?_) (fun hfk => ?_) <;> ((try (first | replace hfk := oT hfk | replace hfk := oF hfk | simp only [oD, ne_eq, reduceCtorEq] at hfk)); (try exact oX))) | (refine And.intro ?ob ?_; (case ob => (exact oZ))) | exact True.intro | (show _ = _; first | exact oY | exact rfl) | exact oW | (apply And.intro)))
    refine ⟨Nat, fun t => [(0, .ptr 0 0)], fun t => ⟨1, [(0, some (.cells 97 [.str s, .int .i64 ((A + t : Nat) : Int), .int .i64 n, .nils, .int .i64 v]))]⟩,
      fun t => t ≤ M, fun t => M - t, ⟨0, [some 0], Nat.zero_le _, ?_⟩, fun t ht => ?_⟩
    · (repeat' (first | (refine And.intro ?_ ?_) | exact True.intro | (show _ = _; with_reducible rfl) | exact Chk.mk (by kernel_rfl)))
      all_goals first | rfl | (intro j hj; rfl) | (show (_ : Int) = _; omega)
    have ht : t ≤ M := ht
    have g1 : s.getD ((A + t : Nat) : Int).toNat 0 = (s.drop A).getD t 0 := by rw [sdrop_getD]; rfl
    have rt : rngI .i64 (((A + t : Nat) : Int) + 1) := rng64 (by omega) (by omega)
    by_cases hlt : t < M
    · have hm : bwP (((s.drop A).getD t 0).toNat : Int) = true := cnt_in (by omega)
      have hm := of_decide_eq_true hm
      rw [← g1] at hm
      (repeat' (first | (refine xI (fun hfk => ?_) (fun hfk => ?_) <;> ((try (first | replace hfk := oT hfk | replace hfk := oF hfk | simp only [oD, ne_eq, reduceCtorEq] at hfk)); (try exact oX))) | (refine And.intro ?ob ?_; (case ob => (exact oZ))) | exact True.intro | (show _ = _; first | exact oY | exact rfl) | exact oW | (apply And.intro)))
      refine ⟨t + 1, [some 0], hlt, ?mu, ?_⟩
      case mu => (show M - (t + 1) < M - t; omega)
      (repeat' (first | (refine And.intro ?_ ?_) | exact True.intro | (show _ = _; with_reducible rfl) | exact Chk.mk (by kernel_rfl)))
      all_goals first | rfl | (intro j hj; rfl) | (show (_ : Int) = _; omega)
    · obtain rfl : t = M := by omega
      have hdd : (s.drop A).drop t = s.drop (A + t) := by rw [List.drop_drop]
      by_cases hl : A + t < s.length
      · have hm := cnt_out (p := bwP) (l := s.drop A) (by rw [List.length_drop]; omega)
        rw [hM, ← g1] at hm
        have hm := of_decide_eq_false hm
        have hg2 : (s.drop (A + t)).getD 0 0 = s.getD ((A + t : Nat) : Int).toNat 0 := by rw [sdrop_getD]; rfl
        by_cases h35 : (s.getD ((A + t : Nat) : Int).toNat 0).toNat = 35
        · skip
          have eb : bkN (s.drop A) = t + cntN nlP (s.drop (A + t)) := by
            unfold bkN
            rw [hM, hdd, if_pos ⟨by rw [List.length_drop]; omega, by rw [hg2]; exact h35⟩]
          obtain ⟨K, hK⟩ : ∃ K, cntN nlP (s.drop (A + t)) = K := ⟨_, rfl⟩
          have hKl := cnt_le nlP (s.drop (A + t))
          rw [List.length_drop] at hKl
          rw [eb, hK]
          clear rt
          (repeat' (first | (refine xI (fun hfk => ?_) (fun hfk => ?_) <;> ((try (first | replace hfk := oT hfk | replace hfk := oF hfk | simp only [oD, ne_eq, reduceCtorEq] at hfk)); (try exact oX))) | (refine And.intro ?ob ?_; (case ob => (exact oZ))) | exact True.intro | (show _ = _; first | exact oY | exact rfl) | exact oW | (apply And.intro)))
          refine ⟨Nat, fun t2 => [(0, .ptr 0 0)], fun t2 => ⟨1, [(0, some (.cells 97 [.str s, .int .i64 ((A + t + t2 : Nat) : Int), .int .i64 n, .nils, .int .i64 v]))]⟩,
            fun t2 => t2 ≤ K, fun t2 => K - t2, ⟨0, [some 0], Nat.zero_le _, ?_⟩, fun t2 ht2 => ?_⟩
          · (repeat' (first | (refine And.intro ?_ ?_) | exact True.intro | (show _ = _; with_reducible rfl) | exact Chk.mk (by kernel_rfl)))
            all_goals first | rfl | (intro j hj; rfl) | (show (_ : Int) = _; omega)
          have ht2 : t2 ≤ K := ht2
          have g2 : s.getD ((A + t + t2 : Nat) : Int).toNat 0 = (s.drop (A + t)).getD t2 0 := by rw [sdrop_getD]; rfl
          have rt2 : rngI .i64 (((A + t + t2 : Nat) : Int) + 1) := rng64 (by omega) (by omega)
          clear hm h35 hg2
          by_cases hlt2 : t2 < K
          · have hm2 : nlP (((s.drop (A + t)).getD t2 0).toNat : Int) = true := cnt_in (by omega)
            have hm2 := of_decide_eq_true hm2
            rw [← g2] at hm2
            (repeat' (first | (refine xI (fun hfk => ?_) (fun hfk => ?_) <;> ((try (first | replace hfk := oT hfk | replace hfk := oF hfk | simp only [oD, ne_eq, reduceCtorEq] at hfk)); (try exact oX))) | (refine And.intro ?ob ?_; (case ob => (exact oZ))) | exact True.intro | (show _ = _; first | exact oY | exact rfl) | exact oW | (apply And.intro)))
            refine ⟨t2 + 1, [some 0], hlt2, ?mu2, ?_⟩
            case mu2 => (show K - (t2 + 1) < K - t2; omega)
            (repeat' (first | (refine And.intro ?_ ?_) | exact True.intro | (show _ = _; with_reducible rfl) | exact Chk.mk (by kernel_rfl)))
            all_goals first | rfl | (intro j hj; rfl) | (show (_ : Int) = _; omega)
          · obtain rfl : t2 = K := by omega
            by_cases hl2 : A + t + t2 < s.length
            · have hm2 := cnt_out (p := nlP) (l := s.drop (A + t)) (by rw [List.length_drop]; omega)
              rw [hK, ← g2] at hm2
              have hm2 := of_decide_eq_false hm2
              (repeat' (first | (refine xI (fun hfk => ?_) (fun hfk => ?_) <;> ((try (first | replace hfk := oT hfk | replace hfk := oF hfk | simp only [oD, ne_eq, reduceCtorEq] at hfk)); (try exact oX))) | (refine And.intro ?ob ?_; (case ob => (exact oZ))) | exact True.intro | (show _ = _; first | exact oY | exact rfl) | exact oW | (apply And.intro)))
              refine ⟨[some 0], ?_⟩
              (repeat' (first | (refine xI (fun hfk => ?_) (fun hfk => ?_) <;> ((try (first | replace hfk := oT hfk | replace hfk := oF hfk | simp only [oD, ne_eq, reduceCtorEq] at hfk)); (try exact oX))) | (refine And.intro ?ob ?_; (case ob => (exact oZ))) | exact True.intro | (show _ = _; first | exact oY | (first | rfl | (intro j hj; rfl) | (show (_ : Int) = _; omega); done) | exact rfl) | exact oW | (apply And.intro)))
            · (repeat' (first | (refine xI (fun hfk => ?_) (fun hfk => ?_) <;> ((try (first | replace hfk := oT hfk | replace hfk := oF hfk | simp only [oD, ne_eq, reduceCtorEq] at hfk)); (try exact oX))) | (refine And.intro ?ob ?_; (case ob => (exact oZ))) | exact True.intro | (show _ = _; first | exact oY | exact rfl) | exact oW | (apply And.intro)))
              refine ⟨[some 0], ?_⟩
              (repeat' (first | (refine xI (fun hfk => ?_) (fun hfk => ?_) <;> ((try (first | replace hfk := oT hfk | replace hfk := oF hfk | simp only [oD, ne_eq, reduceCtorEq] at hfk)); (try exact oX))) | (refine And.intro ?ob ?_; (case ob => (exact oZ))) | exact True.intro | (show _ = _; first | exact oY | (first | rfl | (intro j hj; rfl) | (show (_ : Int) = _; omega); done) | exact rfl) | exact oW | (apply And.intro)))
        · have eb : bkN (s.drop A) = t := by
            unfold bkN
            rw [hM, hdd, if_neg (fun q => h35 (by rw [← hg2]; exact q.2))]
          rw [eb]
          (repeat' (first | (refine xI (fun hfk => ?_) (fun hfk => ?_) <;> ((try (first | replace hfk := oT hfk | replace hfk := oF hfk | simp only [oD, ne_eq, reduceCtorEq] at hfk)); (try exact oX))) | (refine And.intro ?ob ?_; (case ob => (exact oZ))) | exact True.intro | (show _ = _; first | exact oY | exact rfl) | exact oW | (apply And.intro)))
          refine ⟨[some 0], ?_⟩
          (repeat' (first | (refine xI (fun hfk => ?_) (fun hfk => ?_) <;> ((try (first | replace hfk := oT hfk | replace hfk := oF hfk | simp only [oD, ne_eq, reduceCtorEq] at hfk)); (try exact oX))) | (refine And.intro ?ob ?_; (case ob => (exact oZ))) | exact True.intro | (show _ = _; first | exact oY | (first | rfl | (intro j hj; rfl) | (show (_ : Int) = _; omega); done) | exact rfl) | exact oW | (apply And.intro)))
      · have eb : bkN (s.drop A) = t := by
          unfold bkN
          rw [hM, hdd, if_neg (fun q => q.1 (by rw [List.length_drop]; omega))]
        rw [eb]
        (repeat' (first | (refine xI (fun hfk => ?_) (fun hfk => ?_) <;> ((try (first | replace hfk := oT hfk | replace hfk := oF hfk | simp only [oD, ne_eq, reduceCtorEq] at hfk)); (try exact oX))) | (refine And.intro ?ob ?_; (case ob => (exact oZ))) | exact True.intro | (show _ = _; first | exact oY | exact rfl) | exact oW | (apply And.intro)))
        refine ⟨[some 0], ?_⟩
        (repeat' (first | (refine xI (fun hfk => ?_) (fun hfk => ?_) <;> ((try (first | replace hfk := oT hfk | replace hfk := oF hfk | simp only [oD, ne_eq, reduceCtorEq] at hfk)); (try exact oX))) | (refine And.intro ?ob ?_; (case ob => (exact oZ))) | exact True.intro | (show _ = _; first | exact oY | (first | rfl | (intro j hj; rfl) | (show (_ : Int) = _; omega); done) | exact rfl) | exact oW | (apply And.intro)))
  · rename_i s a n k v m f
    simp only [Option.some.injEq, Prod.mk.injEq] at h
    obtain ⟨rfl, rfl, rfl⟩ := h
    simp only [List.mem_cons, List.not_mem_nil, or_false, forall_eq_or_imp, forall_eq] at ho
    obtain ⟨ho1, ho2, ho3⟩ := ho
    refine ⟨Nat.le_of_ble_eq_true rfl, ?_⟩
    obtain ⟨A, rfl⟩ := Int.eq_ofNat_of_zero_le ho1
    have hA : A ≤ s.length := by omega
    obtain ⟨M, hM⟩ : ∃ M, cntN bwP (s.drop A) = M := ⟨_, rfl⟩
    have hMl := cnt_le bwP (s.drop A)
    rw [List.length_drop] at hMl
    rw [Int.toNat_natCast]
    (repeat' (first | (refine xI (fun hfk => ?_) (fun hfk => ?_) <;> ((try (first | replace hfk := oT hfk | replace hfk := oF hfk | simp only [oD, ne_eq, reduceCtorEq] at hfk)); (try exact oX))) | (refine And.intro ?ob ?_; (case ob => (exact oZ))) | exact True.intro | (show _ = _; first | exact oY | exact rfl) | exact oW | (apply And.intro)))
    refine ⟨Nat, fun t => [(0, .ptr 0 0)], fun t => ⟨2, [(0, some (.cells 97 [.str s, .int .i64 ((A + t : Nat) : Int), .int .i64 n, .sl 1 2 0 k, .int .i64 v])), (1, some (.recs 35 2 m f))]⟩,
      fun t => t ≤ M, fun t => M - t, ⟨0, [some 0, some 1], Nat.zero_le _, ?_⟩, fun t ht => ?_⟩
    · (repeat' (first | (refine And.intro ?_ ?_) | exact True.intro | (show _ = _; with_reducible rfl) | exact Chk.mk (by kernel_rfl)))
      all_goals first | rfl | (intro j hj; rfl) | (show (_ : Int) = _; omega)
    have ht : t ≤ M := ht
    have g1 : s.getD ((A + t : Nat) : Int).toNat 0 = (s.drop A).getD t 0 := by rw [sdrop_getD]; rfl
    have rt : rngI .i64 (((A + t : Nat) : Int) + 1) := rng64 (by omega) (by omega)
    by_cases hlt : t < M
    · have hm : bwP (((s.drop A).getD t 0).toNat : Int) = true := cnt_in (by omega)
      have hm := of_decide_eq_true hm
      rw [← g1] at hm
      (repeat' (first | (refine xI (fun hfk => ?_) (fun hfk => ?_) <;> ((try (first | replace hfk := oT hfk | replace hfk := oF hfk | simp only [oD, ne_eq, reduceCtorEq] at hfk)); (try exact oX))) | (refine And.intro ?ob ?_; (case ob => (exact oZ))) | exact True.intro | (show _ = _; first | exact oY | exact rfl) | exact oW | (apply And.intro)))
      refine ⟨t + 1, [some 0, some 1], hlt, ?mu, ?_⟩
      case mu => (show M - (t + 1) < M - t; omega)
      (repeat' (first | (refine And.intro ?_ ?_) | exact True.intro | (show _ = _; with_reducible rfl) | exact Chk.mk (by kernel_rfl)))
      all_goals first | rfl | (intro j hj; rfl) | (show (_ : Int) = _; omega)
    · obtain rfl : t = M := by omega
      have hdd : (s.drop A).drop t = s.drop (A + t) := by rw [List.drop_drop]
      by_cases hl : A + t < s.length
      · have hm := cnt_out (p := bwP) (l := s.drop A) (by rw [List.length_drop]; omega)
        rw [hM, ← g1] at hm
        have hm := of_decide_eq_false hm
        have hg2 : (s.drop (A + t)).getD 0 0 = s.getD ((A + t : Nat) : Int).toNat 0 := by rw [sdrop_getD]; rfl
        by_cases h35 : (s.getD ((A + t : Nat) : Int).toNat 0).toNat = 35
        · skip
          have eb : bkN (s.drop A) = t + cntN nlP (s.drop (A + t)) := by
            unfold bkN
            rw [hM, hdd, if_pos ⟨by rw [List.length_drop]; omega, by rw [hg2]; exact h35⟩]
          obtain ⟨K, hK⟩ : ∃ K, cntN nlP (s.drop (A + t)) = K := ⟨_, rfl⟩
          have hKl := cnt_le nlP (s.drop (A + t))
          rw [List.length_drop] at hKl
          rw [eb, hK]
          clear rt
          (repeat' (first | (refine xI (fun hfk => ?_) (fun hfk => ?_) <;> ((try (first | replace hfk := oT hfk | replace hfk := oF hfk | simp only [oD, ne_eq, reduceCtorEq] at hfk)); (try exact oX))) | (refine And.intro ?ob ?_; (case ob => (exact oZ))) | exact True.intro | (show _ = _; first | exact oY | exact rfl) | exact oW | (apply And.intro)))
          refine ⟨Nat, fun t2 => [(0, .ptr 0 0)], fun t2 => ⟨2, [(0, some (.cells 97 [.str s, .int .i64 ((A + t + t2 : Nat) : Int), .int .i64 n, .sl 1 2 0 k, .int .i64 v])), (1, some (.recs 35 2 m f))]⟩,
            fun t2 => t2 ≤ K, fun t2 => K - t2, ⟨0, [some 0, some 1], Nat.zero_le _, ?_⟩, fun t2 ht2 => ?_⟩
          · (repeat' (first | (refine And.intro ?_ ?_) | exact True.intro | (show _ = _; with_reducible rfl) | exact Chk.mk (by kernel_rfl)))
            all_goals first | rfl | (intro j hj; rfl) | (show (_ : Int) = _; omega)
          have ht2 : t2 ≤ K := ht2
          have g2 : s.getD ((A + t + t2 : Nat) : Int).toNat 0 = (s.drop (A + t)).getD t2 0 := by rw [sdrop_getD]; rfl
          have rt2 : rngI .i64 (((A + t + t2 : Nat) : Int) + 1) := rng64 (by omega) (by omega)
          clear hm h35 hg2
          by_cases hlt2 : t2 < K
          · have hm2 : nlP (((s.drop (A + t)).getD t2 0).toNat : Int) = true := cnt_in (by omega)
            have hm2 := of_decide_eq_true hm2
            rw [← g2] at hm2
            (repeat' (first | (refine xI (fun hfk => ?_) (fun hfk => ?_) <;> ((try (first | replace hfk := oT hfk | replace hfk := oF hfk | simp only [oD, ne_eq, reduceCtorEq] at hfk)); (try exact oX))) | (refine And.intro ?ob ?_; (case ob => (exact oZ))) | exact True.intro | (show _ = _; first | exact oY | exact rfl) | exact oW | (apply And.intro)))
            refine ⟨t2 + 1, [some 0, some 1], hlt2, ?mu2, ?_⟩
            case mu2 => (show K - (t2 + 1) < K - t2; omega)
            (repeat' (first | (refine And.intro ?_ ?_) | exact True.intro | (show _ = _; with_reducible rfl) | exact Chk.mk (by kernel_rfl)))
            all_goals first | rfl | (intro j hj; rfl) | (show (_ : Int) = _; omega)
          · obtain rfl : t2 = K := by omega
            by_cases hl2 : A + t + t2 < s.length
            · have hm2 := cnt_out (p := nlP) (l := s.drop (A + t)) (by rw [List.length_drop]; omega)
              rw [hK, ← g2] at hm2
              have hm2 := of_decide_eq_false hm2
              (repeat' (first | (refine xI (fun hfk => ?_) (fun hfk => ?_) <;> ((try (first | replace hfk := oT hfk | replace hfk := oF hfk | simp only [oD, ne_eq, reduceCtorEq] at hfk)); (try exact oX))) | (refine And.intro ?ob ?_; (case ob => (exact oZ))) | exact True.intro | (show _ = _; first | exact oY | exact rfl) | exact oW | (apply And.intro)))
              refine ⟨[some 0, some 1], ?_⟩
              (repeat' (first | (refine xI (fun hfk => ?_) (fun hfk => ?_) <;> ((try (first | replace hfk := oT hfk | replace hfk := oF hfk | simp only [oD, ne_eq, reduceCtorEq] at hfk)); (try exact oX))) | (refine And.intro ?ob ?_; (case ob => (exact oZ))) | exact True.intro | (show _ = _; first | exact oY | (first | rfl | (intro j hj; rfl) | (show (_ : Int) = _; omega); done) | exact rfl) | exact oW | (apply And.intro)))
            · (repeat' (first | (refine xI (fun hfk => ?_) (fun hfk => ?_) <;> ((try (first | replace hfk := oT hfk | replace hfk := oF hfk | simp only [oD, ne_eq, reduceCtorEq] at hfk)); (try exact oX))) | (refine And.intro ?ob ?_; (case ob => (exact oZ))) | exact True.intro | (show _ = _; first | exact oY | exact rfl) | exact oW | (apply And.intro)))
              refine ⟨[some 0, some 1], ?_⟩
              (repeat' (first | (refine xI (fun hfk => ?_) (fun hfk => ?_) <;> ((try (first | replace hfk := oT hfk | replace hfk := oF hfk | simp only [oD, ne_eq, reduceCtorEq] at hfk)); (try exact oX))) | (refine And.intro ?ob ?_; (case ob => (exact oZ))) | exact True.intro | (show _ = _; first | exact oY | (first | rfl | (intro j hj; rfl) | (show (_ : Int) = _; omega); done) | exact rfl) | exact oW | (apply And.intro)))
        · have eb : bkN (s.drop A) = t := by
            unfold bkN
            rw [hM, hdd, if_neg (fun q => h35 (by rw [← hg2]; exact q.2))]
          rw [eb]
          (repeat' (first | (refine xI (fun hfk => ?_) (fun hfk => ?_) <;> ((try (first | replace hfk := oT hfk | replace hfk := oF hfk | simp only [oD, ne_eq, reduceCtorEq] at hfk)); (try exact oX))) | (refine And.intro ?ob ?_; (case ob => (exact oZ))) | exact True.intro | (show _ = _; first | exact oY | exact rfl) | exact oW | (apply And.intro)))
          refine ⟨[some 0, some 1], ?_⟩
          (repeat' (first | (refine xI (fun hfk => ?_) (fun hfk => ?_) <;> ((try (first | replace hfk := oT hfk | replace hfk := oF hfk | simp only [oD, ne_eq, reduceCtorEq] at hfk)); (try exact oX))) | (refine And.intro ?ob ?_; (case ob => (exact oZ))) | exact True.intro | (show _ = _; first | exact oY | (first | rfl | (intro j hj; rfl) | (show (_ : Int) = _; omega); done) | exact rfl) | exact oW | (apply And.intro)))
      · have eb : bkN (s.drop A) = t := by
          unfold bkN
          rw [hM, hdd, if_neg (fun q => q.1 (by rw [List.length_drop]; omega))]
        rw [eb]
        (repeat' (first | (refine xI (fun hfk => ?_) (fun hfk => ?_) <;> ((try (first | replace hfk := oT hfk | replace hfk := oF hfk | simp only [oD, ne_eq, reduceCtorEq] at hfk)); (try exact oX))) | (refine And.intro ?ob ?_; (case ob => (exact oZ))) | exact True.intro | (show _ = _; first | exact oY | exact rfl) | exact oW | (apply And.intro)))
        refine ⟨[some 0, some 1], ?_⟩
        (repeat' (first | (refine xI (fun hfk => ?_) (fun hfk => ?_) <;> ((try (first | replace hfk := oT hfk | replace hfk := oF hfk | simp only [oD, ne_eq, reduceCtorEq] at hfk)); (try exact oX))) | (refine And.intro ?ob ?_; (case ob => (exact oZ))) | exact True.intro | (show _ = _; first | exact oY | (first | rfl | (intro j hj; rfl) | (show (_ : Int) = _; omega); done) | exact rfl) | exact oW | (apply And.intro)))
  · cases h
end Go.Proofs.Ytgbekbofeaoniaa
namespace Go.Proofs.Ytgbekbofeaoniaa
open Go Go.RowKit
def lnV : Nat → List UInt8 → List (List UInt8) × Nat
  | 0, l => ([], bkN l)
  | k + 1, l => if mrkN (l.drop (bkN l)) = 0 then ([], bkN l) else
    (((l.drop (bkN l)).take (mrkN (l.drop (bkN l)))) :: (lnV k ((l.drop (bkN l)).drop (mrkN (l.drop (bkN l))))).1, bkN l + mrkN (l.drop (bkN l)) + (lnV k ((l.drop (bkN l)).drop (mrkN (l.drop (bkN l))))).2)
def lnW (l : List UInt8) : List (List UInt8) := (lnV (l.length + 1) l).1
def lnE (l : List UInt8) : Nat := (lnV (l.length + 1) l).2
theorem mkN_le (l : List UInt8) : mrkN l ≤ l.length := cnt_le _ _
theorem lnV_le : ∀ (k : Nat) (l : List UInt8), (lnV k l).2 ≤ l.length
  | 0, l => bkN_le l
  | k + 1, l => by
    have h1 := bkN_le l
    have h2 := mkN_le (l.drop (bkN l))
    have h3 := lnV_le k ((l.drop (bkN l)).drop (mrkN (l.drop (bkN l))))
    rw [List.length_drop, List.length_drop] at h3
    rw [List.length_drop] at h2
    unfold lnV
    split
    · exact h1
    · show bkN l + mrkN (l.drop (bkN l)) + _ ≤ _
      omega
def lnX (l : List UInt8) : Nat := if lnE l < l.length ∧ (l.getD (lnE l) 0).toNat ≠ 10 then 1 else 0
def lnC (l : List UInt8) : Nat := if lnX l = 0 ∧ lnW l ≠ [] then 1 else 0
abbrev wA (W : List (List UInt8)) : AV := .ro 1 W.length (fun j => .str (W.getD j []))
def lnA (n : Int) (W : List (List UInt8)) : AV := .agg [.int .i64 n, wA W]
theorem snoc1 {Wd : List (List UInt8)} {w : List UInt8} {j : Nat} (z : j < Wd.length) : (Wd ++ [w]).getD j [] = Wd.getD j [] := by
  rw [List.getD_eq_getElem?_getD, List.getD_eq_getElem?_getD, List.getElem?_append_left z]
theorem snoc2 {Wd : List (List UInt8)} {w : List UInt8} {j : Nat} (z : j = Wd.length) : (Wd ++ [w]).getD j [] = w := by
  subst z
  rw [List.getD_eq_getElem?_getD, List.getElem?_append_right (Nat.le_refl _), Nat.sub_self]; rfl
theorem wA_shift (n : Int) (W : List (List UInt8)) : AV.agg [AV.int .i64 n, AV.ro 1 W.length fun j => (fun j => AV.str (W.getD j [])) (0 + j)] = AV.agg [.int .i64 n, wA W] := by
  have : (fun j => (fun j => AV.str (W.getD j [])) (0 + j)) = fun j => AV.str (W.getD j []) := by funext j; show AV.str (W.getD (0 + j) []) = _; rw [Nat.zero_add]
  rw [this]
def gdis (s1 s2 : GSpec) : GSpec := fun l H K => s1 l H K ∨ s2 l H K
theorem gdis_ok {P : Program} {g : FuncId} {s1 s2 : GSpec} (h1 : GSOK P g s1) (h2 : GSOK P g s2) : GSOK P g (gdis s1 s2) := ⟨h1.1, fun l H K h => h.elim (h1.2 l H K) (h2.2 l H K)⟩
theorem lnC0 {l : List UInt8} (h : lnC l = 0) : lnX l ≠ 0 ∨ lnW l = [] := by
  by_cases a : lnX l = 0
  · by_cases b : lnW l = []
    · exact .inr b
    · unfold lnC at h; rw [if_pos ⟨a, b⟩] at h; cases h
  · exact .inl a
theorem lnC1 {l : List UInt8} (h : lnC l = 1) : lnX l = 0 ∧ lnW l ≠ [] := by
  unfold lnC at h
  split at h
  · assumption
  · cases h
def lineF1 : FSpec := fun l es => match l, es with
  | [.ptr 0 0], [.cells 97 [.str s, .int .i64 a, .int .i64 n, .sl 1 2 0 k, .int .i64 v], .recs 35 2 m f] =>
    some ([0 ≤ a, a ≤ s.length, s.length ≤ 100000, k = m, m ≤ 100000, lnC (s.drop a.toNat) = 0], .bool (decide (lnX (s.drop a.toNat) = 0)),
      [some (.cells 97 [.str s, .int .i64 (a + (lnE (s.drop a.toNat) : Int)), .int .i64 n, .sl 1 2 0 m, .int .i64 v]), some (.recs 35 2 m f)])
  | _, _ => none
def lineF2 : FSpec := fun l es => match l, es with
  | [.ptr 0 0], [.cells 97 [.str s, .int .i64 a, .int .i64 n, .sl 1 2 0 k, .int .i64 v], .recs 35 2 m f] =>
    some ([0 ≤ a, a ≤ s.length, s.length ≤ 100000, k = m, m ≤ 100000, lnC (s.drop a.toNat) = 1], .bool (decide (lnX (s.drop a.toNat) = 0)),
      [some (.cells 97 [.str s, .int .i64 (a + (lnE (s.drop a.toNat) : Int)), .int .i64 n, .sl 2 2 0 (m + 1), .int .i64 (if m = 4096 then a else v)]), none,
       some (.recs 35 2 (m + 1) (fun j => if j < m then f j else lnA n (lnW (s.drop a.toNat))))])
  | _, _ => none
theorem line_g1 : GSOK Try.prog 46 (fG lineF1) := by
  refine fokE (S := []) (G := glook [(75, fG blanksF), (76, fG wordF)]) [] [] [2, 3, 1000008] pok_nil (gl_cons blanks_g (gl_cons word_g gl_nil)) dl_nil ⟨Try.func46, by kernel_rfl, by kernel_rfl, by kernel_rfl⟩ fun l es obs v es' h ho => ?_
  (unfold lineF1 at h; split at h; rotate_left; (focus (cases h)); rename_i s a n k v m f; simp only [Option.some.injEq, Prod.mk.injEq] at h; obtain ⟨rfl, rfl, rfl⟩ := h; simp only [List.mem_cons, List.not_mem_nil, or_false, forall_eq_or_imp, forall_eq, false_implies, implies_true] at ho)
  obtain ⟨ho1, ho2, ho3, rfl, ho5, hC⟩ := ho
  obtain ⟨A, rfl⟩ := Int.eq_ofNat_of_zero_le ho1
  have hA : A ≤ s.length := by omega
  refine ⟨Nat.le_of_ble_eq_true rfl, ?_⟩
  rw [Int.toNat_natCast] at hC ⊢
  obtain ⟨r, hr⟩ : ∃ r, s.drop A = r := ⟨_, rfl⟩
  have hrl : r.length = s.length - A := by rw [← hr, List.length_drop]
  rw [hr] at hC ⊢
  (repeat' (first | (refine xI (fun hfk => ?_) (fun hfk => ?_) <;> ((try (first | replace hfk := oT hfk | replace hfk := oF hfk | simp only [oD, ne_eq, reduceCtorEq] at hfk)); (try exact oX))) | (refine And.intro ?ob ?_; (case ob => (exact oZ))) | exact True.intro | (show _ = _; first | exact oY | exact rfl) | exact oW | (apply And.intro)))
  refine ⟨Nat × Nat × List (List UInt8), fun g => [(0, .ptr 0 0), (2, .bool false), (3, .ptr 2 0), (4, .int .i64 (A : Int))],
    fun g => ⟨4, [(0, some (.cells 97 [.str s, .int .i64 ((A + g.2.1 : Nat) : Int), .int .i64 n, .sl 1 2 0 k, .int .i64 v])), (1, some (.recs 35 2 k f)), (2, some (.cells 35 [.int .i64 n, .sl 3 1 0 g.2.2.length])), (3, some (.recs 9 1 g.2.2.length (fun j => .str (g.2.2.getD j []))))]⟩,
    fun g => g.2.1 ≤ r.length ∧ r.length - g.2.1 < g.1 ∧ g.2.2.length ≤ g.2.1 ∧ g.2.2 ++ (lnV g.1 (r.drop g.2.1)).1 = lnW r ∧ g.2.1 + (lnV g.1 (r.drop g.2.1)).2 = lnE r, fun g => g.1,
    ⟨(r.length + 1, 0, []), [some 0, some 1, some 2, none], ⟨Nat.zero_le _, by show r.length - 0 < r.length + 1; omega, Nat.le_refl _, by rfl, by show 0 + _ = _; rw [Nat.zero_add]; rfl⟩, ?_⟩, fun g hg => ?_⟩
  · (repeat' (first | (refine And.intro ?_ ?_) | exact True.intro | (show _ = _; with_reducible rfl) | exact Chk.mk (by kernel_rfl)))
    all_goals first | rfl | (intro j hj; rfl) | (show (_ : Int) = _; omega)
  obtain ⟨q, t, Wd⟩ := g
  obtain ⟨g1, g2, g3, g4, g5⟩ := hg
  have g1 : t ≤ r.length := g1
  have g2 : r.length - t < q := g2
  have g3 : Wd.length ≤ t := g3
  have g4 : Wd ++ (lnV q (r.drop t)).1 = lnW r := g4
  have g5 : t + (lnV q (r.drop t)).2 = lnE r := g5
  dsimp only
  obtain ⟨q, rfl⟩ : ∃ q', q = q' + 1 := ⟨q - 1, by omega⟩
  have ed : List.drop ((A + t : Nat) : Int).toNat s = r.drop t := by rw [← hr, List.drop_drop]; rfl
  obtain ⟨b, hb⟩ : ∃ b, bkN (r.drop t) = b := ⟨_, rfl⟩
  have hbl := bkN_le (r.drop t)
  rw [List.length_drop, hb] at hbl
  obtain ⟨m, hm⟩ : ∃ m, mrkN (r.drop (t + b)) = m := ⟨_, rfl⟩
  have hml := mkN_le (r.drop (t + b))
  rw [List.length_drop, hm] at hml
  have hd2 : (r.drop t).drop b = r.drop (t + b) := List.drop_drop
  have hd3 : (r.drop (t + b)).drop m = r.drop (t + b + m) := List.drop_drop
  (repeat' (first | (refine xI (fun hfk => ?_) (fun hfk => ?_) <;> ((try (first | replace hfk := oT hfk | replace hfk := oF hfk | simp only [oD, ne_eq, reduceCtorEq] at hfk)); (try exact oX))) | (refine And.intro ?ob ?_; (case ob => (exact oZ))) | exact True.intro | (show _ = _; first | exact oY | exact rfl) | exact oW | (apply And.intro)))
  (refine ⟨[0, 1], ⟨by kernel_rfl⟩, ?_⟩)
  (repeat' (first | (refine xI (fun hfk => ?_) (fun hfk => ?_) <;> ((try (first | replace hfk := oT hfk | replace hfk := oF hfk | simp only [oD, ne_eq, reduceCtorEq] at hfk)); (try exact oX))) | (refine And.intro ?ob ?_; (case ob => (exact oZ))) | exact True.intro | (show _ = _; first | exact oY | exact rfl) | exact oW | (apply And.intro)))
  refine ⟨[(0, .ptr 0 0), (2, .bool false), (3, .ptr 2 0), (4, .int .i64 (A : Int))],
    ⟨4, [(0, some (.cells 97 [.str s, .int .i64 ((A + t + b : Nat) : Int), .int .i64 n, .sl 1 2 0 k, .int .i64 v])), (1, some (.recs 35 2 k f)), (2, some (.cells 35 [.int .i64 n, .sl 3 1 0 Wd.length])), (3, some (.recs 9 1 Wd.length (fun j => .str (Wd.getD j []))))]⟩, [some 0, some 1, some 2, some 3], ?_, ?_⟩
  · have e1 : ((A + t : Nat) : Int) + (bkN (List.drop ((A + t : Nat) : Int).toNat s) : Int) = ((A + t + b : Nat) : Int) := by rw [ed, hb]; omega
    (repeat' (first | (refine And.intro ?_ ?_) | exact True.intro | (show _ = _; with_reducible rfl) | exact Chk.mk (by kernel_rfl)))
    all_goals first | exact e1 | rfl | (intro j hj; rfl)
  have ed2 : List.drop ((A + t + b : Nat) : Int).toNat s = r.drop (t + b) := by rw [← hr, List.drop_drop, Nat.add_assoc]; rfl
  clear ed
  (repeat' (first | (refine xI (fun hfk => ?_) (fun hfk => ?_) <;> ((try (first | replace hfk := oT hfk | replace hfk := oF hfk | simp only [oD, ne_eq, reduceCtorEq] at hfk)); (try exact oX))) | (refine And.intro ?ob ?_; (case ob => (exact oZ))) | exact True.intro | (show _ = _; first | exact oY | exact rfl) | exact oW | (apply And.intro)))
  (refine ⟨[0, 1], ⟨by kernel_rfl⟩, ?_⟩)
  (repeat' (first | (refine xI (fun hfk => ?_) (fun hfk => ?_) <;> ((try (first | replace hfk := oT hfk | replace hfk := oF hfk | simp only [oD, ne_eq, reduceCtorEq] at hfk)); (try exact oX))) | (refine And.intro ?ob ?_; (case ob => (exact oZ))) | exact True.intro | (show _ = _; first | exact oY | exact rfl) | exact oW | (apply And.intro)))
  refine ⟨[(0, .ptr 0 0), (2, .bool false), (3, .ptr 2 0), (4, .int .i64 (A : Int)), (5, .str ((r.drop (t + b)).take m))],
    ⟨4, [(0, some (.cells 97 [.str s, .int .i64 ((A + t + b + m : Nat) : Int), .int .i64 n, .sl 1 2 0 k, .int .i64 v])), (1, some (.recs 35 2 k f)), (2, some (.cells 35 [.int .i64 n, .sl 3 1 0 Wd.length])), (3, some (.recs 9 1 Wd.length (fun j => .str (Wd.getD j []))))]⟩, [some 0, some 1, some 2, some 3], ?_, ?_⟩
  · have e1 : ((A + t + b : Nat) : Int) + (mrkN (List.drop ((A + t + b : Nat) : Int).toNat s) : Int) = ((A + t + b + m : Nat) : Int) := by rw [ed2, hm]; omega
    have e2 : List.take (mrkN (List.drop ((A + t + b : Nat) : Int).toNat s)) (List.drop ((A + t + b : Nat) : Int).toNat s) = (r.drop (t + b)).take m := by rw [ed2, hm]
    (repeat' (first | (refine And.intro ?_ ?_) | exact True.intro | (show _ = _; with_reducible rfl) | exact Chk.mk (by kernel_rfl)))
    all_goals first | exact e1 | exact e2 | rfl | (intro j hj; rfl)
  clear ed2
  by_cases hm0 : m = 0
  · have v1 : lnV (q + 1) (r.drop t) = ([], b) := by
      unfold lnV; rw [hb, hd2, hm, if_pos hm0]
    rw [v1] at g4 g5
    rw [List.append_nil] at g4
    have g6 : t + b = lnE r := g5
    clear g5
    obtain rfl : Wd = lnW r := g4
    have hem : List.take m (r.drop (t + b)) = (ByteArray.mk #[]).data.toList := by rw [hm0]; rfl
    have gE : s.getD ((A + t + b + m : Nat) : Int).toNat 0 = r.getD (lnE r) 0 := by
      have hq : ∀ j, r.getD j 0 = s.getD (A + j) 0 := fun j => by rw [← hr]; exact sdrop_getD
      rw [hq, ← g6, hm0, Int.toNat_natCast]
      show s.getD (A + t + b) 0 = _
      rw [Nat.add_assoc]
    have hE : A + t + b + m = A + lnE r := by omega
    clear hd2 hd3 v1 g3
    have hcs := lnC0 hC
    by_cases hx : lnX r = 0
    rotate_left
    · have hx2 : lnE r < r.length ∧ (r.getD (lnE r) 0).toNat ≠ 10 := by
        unfold lnX at hx
        split at hx
        · assumption
        · exact absurd rfl hx
      rw [← gE] at hx2
      have r1 : decide (lnX r = 0) = false := decide_eq_false hx
      rw [r1]
      (repeat' (first | (refine xI (fun hfk => ?_) (fun hfk => ?_) <;> ((try (first | replace hfk := oT hfk | replace hfk := oF hfk | simp only [oD, ne_eq, reduceCtorEq] at hfk)); (try exact oX))) | (refine And.intro ?ob ?_; (case ob => (exact oZ))) | exact True.intro | (show _ = _; first | exact oY | exact rfl) | exact oW | (apply And.intro)))
      refine ⟨[some 0, some 1], ?_⟩
      (repeat' (first | (refine xI (fun hfk => ?_) (fun hfk => ?_) <;> ((try (first | replace hfk := oT hfk | replace hfk := oF hfk | simp only [oD, ne_eq, reduceCtorEq] at hfk)); (try exact oX))) | (refine And.intro ?ob ?_; (case ob => (exact oZ))) | exact True.intro | (show _ = _; first | exact oY | (first | rfl | (intro j hj; rfl) | (show (_ : Int) = _; omega); done) | exact rfl) | exact oW | (apply And.intro)))
    · have hx2 : ¬ (lnE r < r.length ∧ (r.getD (lnE r) 0).toNat ≠ 10) := fun k => by
        unfold lnX at hx; rw [if_pos k] at hx; cases hx
      rw [← gE] at hx2
      have r1 : decide (lnX r = 0) = true := decide_eq_true hx
      rw [r1]
      have hW : lnW r = [] := hcs.resolve_left (fun k => k hx)
      have hWl : (lnW r).length = 0 := by rw [hW]; rfl
      by_cases hl : A + t + b + m < s.length
      all_goals
        (repeat' (first | (refine xI (fun hfk => ?_) (fun hfk => ?_) <;> ((try (first | replace hfk := oT hfk | replace hfk := oF hfk | simp only [oD, ne_eq, reduceCtorEq] at hfk)); (try exact oX))) | (refine And.intro ?ob ?_; (case ob => (exact oZ))) | exact True.intro | (show _ = _; first | exact oY | exact rfl) | exact oW | (apply And.intro)))
        refine ⟨[], ?_⟩
        (repeat' (first | (refine xI (fun hfk => ?_) (fun hfk => ?_) <;> ((try (first | replace hfk := oT hfk | replace hfk := oF hfk | simp only [oD, ne_eq, reduceCtorEq] at hfk)); (try exact oX))) | (refine And.intro ?ob ?_; (case ob => (exact oZ))) | exact True.intro | (show _ = _; first | exact oY | exact rfl) | exact oW | (apply And.intro)))
        refine ⟨[(0, .ptr 0 0), (2, .bool false), (3, .ptr 2 0), (4, .int .i64 (A : Int)), (52, .bool (decide (0 < ((lnW r).length : Int))))],
          ⟨4, [(0, some (.cells 97 [.str s, .int .i64 ((A + t + b + m : Nat) : Int), .int .i64 n, .sl 1 2 0 k, .int .i64 v])), (1, some (.recs 35 2 k f)), (2, some (.cells 35 [.int .i64 n, .sl 3 1 0 (lnW r).length])), (3, some (.recs 9 1 (lnW r).length (fun j => .str ((lnW r).getD j []))))]⟩, [some 0, some 1, some 2, some 3], ?_, ?_⟩
        · (repeat' (first | (refine And.intro ?_ ?_) | exact True.intro | (show _ = _; with_reducible rfl) | exact Chk.mk (by kernel_rfl)))
          all_goals first | rfl | (intro j hj; rfl)
        (repeat' (first | (refine xI (fun hfk => ?_) (fun hfk => ?_) <;> ((try (first | replace hfk := oT hfk | replace hfk := oF hfk | simp only [oD, ne_eq, reduceCtorEq] at hfk)); (try exact oX))) | (refine And.intro ?ob ?_; (case ob => (exact oZ))) | exact True.intro | (show _ = _; first | exact oY | exact rfl) | exact oW | (apply And.intro)))
        all_goals (refine ⟨[some 0, some 1], ?_⟩)
        (repeat' (first | (refine xI (fun hfk => ?_) (fun hfk => ?_) <;> ((try (first | replace hfk := oT hfk | replace hfk := oF hfk | simp only [oD, ne_eq, reduceCtorEq] at hfk)); (try exact oX))) | (refine And.intro ?ob ?_; (case ob => (exact oZ))) | exact True.intro | (show _ = _; first | exact oY | (first | rfl | (intro j hj; rfl) | (show (_ : Int) = _; omega); done) | exact rfl) | exact oW | (apply And.intro)))
  · have v1 : lnV (q + 1) (r.drop t) = ((r.drop (t + b)).take m :: (lnV q (r.drop (t + b + m))).1, b + m + (lnV q (r.drop (t + b + m))).2) := by
      have : lnV (q + 1) (r.drop t) = if mrkN ((r.drop t).drop (bkN (r.drop t))) = 0 then ([], bkN (r.drop t)) else (((r.drop t).drop (bkN (r.drop t))).take (mrkN ((r.drop t).drop (bkN (r.drop t)))) :: (lnV q (((r.drop t).drop (bkN (r.drop t))).drop (mrkN ((r.drop t).drop (bkN (r.drop t)))))).1, bkN (r.drop t) + mrkN ((r.drop t).drop (bkN (r.drop t))) + (lnV q (((r.drop t).drop (bkN (r.drop t))).drop (mrkN ((r.drop t).drop (bkN (r.drop t)))))).2) := rfl
      rw [this, hb, hd2, hm, if_neg hm0, hd3]
    rw [v1] at g4 g5
    have g6 : t + (b + m + (lnV q (r.drop (t + b + m))).2) = lnE r := g5
    clear g5
    have hne : ¬ List.take m (r.drop (t + b)) = (ByteArray.mk #[]).data.toList := fun k => hm0 (by
      have := congrArg List.length k
      rw [List.length_take, List.length_drop] at this
      have e0 : ((ByteArray.mk #[]).data.toList : List UInt8).length = 0 := rfl
      rw [e0] at this; omega)
    have g7 : (Wd ++ [(r.drop (t + b)).take m]).length = Wd.length + 1 := by simp
    clear v1
    (repeat' (first | (refine xI (fun hfk => ?_) (fun hfk => ?_) <;> ((try (first | replace hfk := oT hfk | replace hfk := oF hfk | simp only [oD, ne_eq, reduceCtorEq] at hfk)); (try exact oX))) | (refine And.intro ?ob ?_; (case ob => (exact oZ))) | exact True.intro | (show _ = _; first | exact oY | exact rfl) | exact oW | (apply And.intro)))
    have f1 : t + b + m ≤ r.length := by omega
    have f2 : r.length - (t + b + m) < q := by omega
    have f3 : (Wd ++ [(r.drop (t + b)).take m]).length ≤ t + b + m := by rw [g7]; omega
    have f4 : (Wd ++ [(r.drop (t + b)).take m]) ++ (lnV q (r.drop (t + b + m))).1 = lnW r := by rw [List.append_assoc]; exact g4
    have f5 : t + b + m + (lnV q (r.drop (t + b + m))).2 = lnE r := by omega
    have e8 : ((A + t + b + m : Nat) : Int) = ((A + (t + b + m) : Nat) : Int) := by omega
    refine ⟨(q, t + b + m, Wd ++ [(r.drop (t + b)).take m]), [some 0, some 1, some 2, some 5], ⟨f1, f2, f3, f4, f5⟩, Nat.lt_succ_self q, ?_⟩
    (repeat' (first | (refine And.intro ?_ ?_) | exact True.intro | (show _ = _; with_reducible rfl) | exact Chk.mk (by kernel_rfl)))
    all_goals first | rfl | exact e8 | exact g7.symm | (intro j hj; rfl) | (intro j hj; (have hj2 : j < (Wd ++ [(r.drop (t + b)).take m]).length := hj); rw [g7] at hj2; dsimp only; by_cases z : j < Wd.length; (rw [if_pos z, snoc1 z]); (have e : j - Wd.length = 0 := by omega); rw [if_neg z, snoc2 (show j = Wd.length by omega), e]; rfl)
theorem line_g2 : GSOK Try.prog 46 (fG lineF2) := by
  refine fokE (S := []) (G := glook [(75, fG blanksF), (76, fG wordF)]) [] [] [2, 3, 1000008] pok_nil (gl_cons blanks_g (gl_cons word_g gl_nil)) dl_nil ⟨Try.func46, by kernel_rfl, by kernel_rfl, by kernel_rfl⟩ fun l es obs v es' h ho => ?_
  (unfold lineF2 at h; split at h; rotate_left; (focus (cases h)); rename_i s a n k v m f; simp only [Option.some.injEq, Prod.mk.injEq] at h; obtain ⟨rfl, rfl, rfl⟩ := h; simp only [List.mem_cons, List.not_mem_nil, or_false, forall_eq_or_imp, forall_eq, false_implies, implies_true] at ho)
  obtain ⟨ho1, ho2, ho3, rfl, ho5, hC⟩ := ho
  obtain ⟨A, rfl⟩ := Int.eq_ofNat_of_zero_le ho1
  have hA : A ≤ s.length := by omega
  refine ⟨Nat.le_of_ble_eq_true rfl, ?_⟩
  rw [Int.toNat_natCast] at hC ⊢
  obtain ⟨r, hr⟩ : ∃ r, s.drop A = r := ⟨_, rfl⟩
  have hrl : r.length = s.length - A := by rw [← hr, List.length_drop]
  rw [hr] at hC ⊢
  (repeat' (first | (refine xI (fun hfk => ?_) (fun hfk => ?_) <;> ((try (first | replace hfk := oT hfk | replace hfk := oF hfk | simp only [oD, ne_eq, reduceCtorEq] at hfk)); (try exact oX))) | (refine And.intro ?ob ?_; (case ob => (exact oZ))) | exact True.intro | (show _ = _; first | exact oY | exact rfl) | exact oW | (apply And.intro)))
  refine ⟨Nat × Nat × List (List UInt8), fun g => [(0, .ptr 0 0), (2, .bool false), (3, .ptr 2 0), (4, .int .i64 (A : Int))],
    fun g => ⟨4, [(0, some (.cells 97 [.str s, .int .i64 ((A + g.2.1 : Nat) : Int), .int .i64 n, .sl 1 2 0 k, .int .i64 v])), (1, some (.recs 35 2 k f)), (2, some (.cells 35 [.int .i64 n, .sl 3 1 0 g.2.2.length])), (3, some (.recs 9 1 g.2.2.length (fun j => .str (g.2.2.getD j []))))]⟩,
    fun g => g.2.1 ≤ r.length ∧ r.length - g.2.1 < g.1 ∧ g.2.2.length ≤ g.2.1 ∧ g.2.2 ++ (lnV g.1 (r.drop g.2.1)).1 = lnW r ∧ g.2.1 + (lnV g.1 (r.drop g.2.1)).2 = lnE r, fun g => g.1,
    ⟨(r.length + 1, 0, []), [some 0, some 1, some 2, none], ⟨Nat.zero_le _, by show r.length - 0 < r.length + 1; omega, Nat.le_refl _, by rfl, by show 0 + _ = _; rw [Nat.zero_add]; rfl⟩, ?_⟩, fun g hg => ?_⟩
  · (repeat' (first | (refine And.intro ?_ ?_) | exact True.intro | (show _ = _; with_reducible rfl) | exact Chk.mk (by kernel_rfl)))
    all_goals first | rfl | (intro j hj; rfl) | (show (_ : Int) = _; omega)
  obtain ⟨q, t, Wd⟩ := g
  obtain ⟨g1, g2, g3, g4, g5⟩ := hg
  have g1 : t ≤ r.length := g1
  have g2 : r.length - t < q := g2
  have g3 : Wd.length ≤ t := g3
  have g4 : Wd ++ (lnV q (r.drop t)).1 = lnW r := g4
  have g5 : t + (lnV q (r.drop t)).2 = lnE r := g5
  dsimp only
  obtain ⟨q, rfl⟩ : ∃ q', q = q' + 1 := ⟨q - 1, by omega⟩
  have ed : List.drop ((A + t : Nat) : Int).toNat s = r.drop t := by rw [← hr, List.drop_drop]; rfl
  obtain ⟨b, hb⟩ : ∃ b, bkN (r.drop t) = b := ⟨_, rfl⟩
  have hbl := bkN_le (r.drop t)
  rw [List.length_drop, hb] at hbl
  obtain ⟨m, hm⟩ : ∃ m, mrkN (r.drop (t + b)) = m := ⟨_, rfl⟩
  have hml := mkN_le (r.drop (t + b))
  rw [List.length_drop, hm] at hml
  have hd2 : (r.drop t).drop b = r.drop (t + b) := List.drop_drop
  have hd3 : (r.drop (t + b)).drop m = r.drop (t + b + m) := List.drop_drop
  (repeat' (first | (refine xI (fun hfk => ?_) (fun hfk => ?_) <;> ((try (first | replace hfk := oT hfk | replace hfk := oF hfk | simp only [oD, ne_eq, reduceCtorEq] at hfk)); (try exact oX))) | (refine And.intro ?ob ?_; (case ob => (exact oZ))) | exact True.intro | (show _ = _; first | exact oY | exact rfl) | exact oW | (apply And.intro)))
  (refine ⟨[0, 1], ⟨by kernel_rfl⟩, ?_⟩)
  (repeat' (first | (refine xI (fun hfk => ?_) (fun hfk => ?_) <;> ((try (first | replace hfk := oT hfk | replace hfk := oF hfk | simp only [oD, ne_eq, reduceCtorEq] at hfk)); (try exact oX))) | (refine And.intro ?ob ?_; (case ob => (exact oZ))) | exact True.intro | (show _ = _; first | exact oY | exact rfl) | exact oW | (apply And.intro)))
  refine ⟨[(0, .ptr 0 0), (2, .bool false), (3, .ptr 2 0), (4, .int .i64 (A : Int))],
    ⟨4, [(0, some (.cells 97 [.str s, .int .i64 ((A + t + b : Nat) : Int), .int .i64 n, .sl 1 2 0 k, .int .i64 v])), (1, some (.recs 35 2 k f)), (2, some (.cells 35 [.int .i64 n, .sl 3 1 0 Wd.length])), (3, some (.recs 9 1 Wd.length (fun j => .str (Wd.getD j []))))]⟩, [some 0, some 1, some 2, some 3], ?_, ?_⟩
  · have e1 : ((A + t : Nat) : Int) + (bkN (List.drop ((A + t : Nat) : Int).toNat s) : Int) = ((A + t + b : Nat) : Int) := by rw [ed, hb]; omega
    (repeat' (first | (refine And.intro ?_ ?_) | exact True.intro | (show _ = _; with_reducible rfl) | exact Chk.mk (by kernel_rfl)))
    all_goals first | exact e1 | rfl | (intro j hj; rfl)
  have ed2 : List.drop ((A + t + b : Nat) : Int).toNat s = r.drop (t + b) := by rw [← hr, List.drop_drop, Nat.add_assoc]; rfl
  clear ed
  (repeat' (first | (refine xI (fun hfk => ?_) (fun hfk => ?_) <;> ((try (first | replace hfk := oT hfk | replace hfk := oF hfk | simp only [oD, ne_eq, reduceCtorEq] at hfk)); (try exact oX))) | (refine And.intro ?ob ?_; (case ob => (exact oZ))) | exact True.intro | (show _ = _; first | exact oY | exact rfl) | exact oW | (apply And.intro)))
  (refine ⟨[0, 1], ⟨by kernel_rfl⟩, ?_⟩)
  (repeat' (first | (refine xI (fun hfk => ?_) (fun hfk => ?_) <;> ((try (first | replace hfk := oT hfk | replace hfk := oF hfk | simp only [oD, ne_eq, reduceCtorEq] at hfk)); (try exact oX))) | (refine And.intro ?ob ?_; (case ob => (exact oZ))) | exact True.intro | (show _ = _; first | exact oY | exact rfl) | exact oW | (apply And.intro)))
  refine ⟨[(0, .ptr 0 0), (2, .bool false), (3, .ptr 2 0), (4, .int .i64 (A : Int)), (5, .str ((r.drop (t + b)).take m))],
    ⟨4, [(0, some (.cells 97 [.str s, .int .i64 ((A + t + b + m : Nat) : Int), .int .i64 n, .sl 1 2 0 k, .int .i64 v])), (1, some (.recs 35 2 k f)), (2, some (.cells 35 [.int .i64 n, .sl 3 1 0 Wd.length])), (3, some (.recs 9 1 Wd.length (fun j => .str (Wd.getD j []))))]⟩, [some 0, some 1, some 2, some 3], ?_, ?_⟩
  · have e1 : ((A + t + b : Nat) : Int) + (mrkN (List.drop ((A + t + b : Nat) : Int).toNat s) : Int) = ((A + t + b + m : Nat) : Int) := by rw [ed2, hm]; omega
    have e2 : List.take (mrkN (List.drop ((A + t + b : Nat) : Int).toNat s)) (List.drop ((A + t + b : Nat) : Int).toNat s) = (r.drop (t + b)).take m := by rw [ed2, hm]
    (repeat' (first | (refine And.intro ?_ ?_) | exact True.intro | (show _ = _; with_reducible rfl) | exact Chk.mk (by kernel_rfl)))
    all_goals first | exact e1 | exact e2 | rfl | (intro j hj; rfl)
  clear ed2
  by_cases hm0 : m = 0
  · have v1 : lnV (q + 1) (r.drop t) = ([], b) := by
      unfold lnV; rw [hb, hd2, hm, if_pos hm0]
    rw [v1] at g4 g5
    rw [List.append_nil] at g4
    have g6 : t + b = lnE r := g5
    clear g5
    obtain rfl : Wd = lnW r := g4
    have hem : List.take m (r.drop (t + b)) = (ByteArray.mk #[]).data.toList := by rw [hm0]; rfl
    have gE : s.getD ((A + t + b + m : Nat) : Int).toNat 0 = r.getD (lnE r) 0 := by
      have hq : ∀ j, r.getD j 0 = s.getD (A + j) 0 := fun j => by rw [← hr]; exact sdrop_getD
      rw [hq, ← g6, hm0, Int.toNat_natCast]
      show s.getD (A + t + b) 0 = _
      rw [Nat.add_assoc]
    have hE : A + t + b + m = A + lnE r := by omega
    clear hd2 hd3 v1 g3
    obtain ⟨hx, hW⟩ := lnC1 hC
    have hx2 : ¬ (lnE r < r.length ∧ (r.getD (lnE r) 0).toNat ≠ 10) := fun k => by
      unfold lnX at hx; rw [if_pos k] at hx; cases hx
    rw [← gE] at hx2
    have r1 : decide (lnX r = 0) = true := decide_eq_true hx
    rw [r1]
    have hWl : 0 < (lnW r).length := List.length_pos_iff.2 hW
    have fA : ∀ j, j < k + 1 → (if j < k then f j else lnA n (lnW r)) = (if j < k then f j else lnA n (lnW r)) := fun _ _ => rfl
    by_cases hl : A + t + b + m < s.length
    all_goals
      (repeat' (first | (refine xI (fun hfk => ?_) (fun hfk => ?_) <;> ((try (first | replace hfk := oT hfk | replace hfk := oF hfk | simp only [oD, ne_eq, reduceCtorEq] at hfk)); (try exact oX))) | (refine And.intro ?ob ?_; (case ob => (exact oZ))) | exact True.intro | (show _ = _; first | exact oY | exact rfl) | exact oW | (apply And.intro)))
      refine ⟨[3], ?_⟩
      (repeat' (first | (refine xI (fun hfk => ?_) (fun hfk => ?_) <;> ((try (first | replace hfk := oT hfk | replace hfk := oF hfk | simp only [oD, ne_eq, reduceCtorEq] at hfk)); (try exact oX))) | (refine And.intro ?ob ?_; (case ob => (exact oZ))) | exact True.intro | (show _ = _; first | exact oY | exact rfl) | exact oW | (apply And.intro)))
      refine ⟨[(0, .ptr 0 0), (2, .bool false), (3, .rop (.agg [.int .i64 n, wA (lnW r)])), (4, .int .i64 (A : Int)), (52, .bool (decide (0 < ((lnW r).length : Int))))],
        ⟨2, [(0, some (.cells 97 [.str s, .int .i64 ((A + t + b + m : Nat) : Int), .int .i64 n, .sl 1 2 0 k, .int .i64 v])), (1, some (.recs 35 2 k f))]⟩, [some 0, some 1], ?_, ?_⟩
      · (repeat' (first | (refine And.intro ?_ ?_) | exact True.intro | (show _ = _; with_reducible rfl) | exact Chk.mk (by kernel_rfl)))
        all_goals first | rfl | (intro j hj; rfl) | exact wA_shift n (lnW r)
      (repeat' (first | (refine xI (fun hfk => ?_) (fun hfk => ?_) <;> ((try (first | replace hfk := oT hfk | replace hfk := oF hfk | simp only [oD, ne_eq, reduceCtorEq] at hfk)); (try exact oX))) | (refine And.intro ?ob ?_; (case ob => (exact oZ))) | exact True.intro | (show _ = _; first | exact oY | exact rfl) | exact oW | (apply And.intro)))
      all_goals (refine ⟨[some 0, some 1, some 3], ?_⟩)
      (repeat' (first | (refine xI (fun hfk => ?_) (fun hfk => ?_) <;> ((try (first | replace hfk := oT hfk | replace hfk := oF hfk | simp only [oD, ne_eq, reduceCtorEq] at hfk)); (try exact oX))) | (refine And.intro ?ob ?_; (case ob => (exact oZ))) | exact True.intro | (show _ = _; first | exact oY | (first | rfl | exact (if_pos (by omega)).symm | exact (if_neg (by omega)).symm | (show (_ : Int) = _; omega); done) | exact rfl) | exact oW | (apply And.intro)))
      all_goals (intro j hj; dsimp only; by_cases z : j < k; (rw [if_pos z, if_pos z]); (have e : j - k = 0 := by omega); rw [if_neg z, if_neg z, e]; rfl)
  · have v1 : lnV (q + 1) (r.drop t) = ((r.drop (t + b)).take m :: (lnV q (r.drop (t + b + m))).1, b + m + (lnV q (r.drop (t + b + m))).2) := by
      have : lnV (q + 1) (r.drop t) = if mrkN ((r.drop t).drop (bkN (r.drop t))) = 0 then ([], bkN (r.drop t)) else (((r.drop t).drop (bkN (r.drop t))).take (mrkN ((r.drop t).drop (bkN (r.drop t)))) :: (lnV q (((r.drop t).drop (bkN (r.drop t))).drop (mrkN ((r.drop t).drop (bkN (r.drop t)))))).1, bkN (r.drop t) + mrkN ((r.drop t).drop (bkN (r.drop t))) + (lnV q (((r.drop t).drop (bkN (r.drop t))).drop (mrkN ((r.drop t).drop (bkN (r.drop t)))))).2) := rfl
      rw [this, hb, hd2, hm, if_neg hm0, hd3]
    rw [v1] at g4 g5
    have g6 : t + (b + m + (lnV q (r.drop (t + b + m))).2) = lnE r := g5
    clear g5
    have hne : ¬ List.take m (r.drop (t + b)) = (ByteArray.mk #[]).data.toList := fun k => hm0 (by
      have := congrArg List.length k
      rw [List.length_take, List.length_drop] at this
      have e0 : ((ByteArray.mk #[]).data.toList : List UInt8).length = 0 := rfl
      rw [e0] at this; omega)
    have g7 : (Wd ++ [(r.drop (t + b)).take m]).length = Wd.length + 1 := by simp
    clear v1
    (repeat' (first | (refine xI (fun hfk => ?_) (fun hfk => ?_) <;> ((try (first | replace hfk := oT hfk | replace hfk := oF hfk | simp only [oD, ne_eq, reduceCtorEq] at hfk)); (try exact oX))) | (refine And.intro ?ob ?_; (case ob => (exact oZ))) | exact True.intro | (show _ = _; first | exact oY | exact rfl) | exact oW | (apply And.intro)))
    have f1 : t + b + m ≤ r.length := by omega
    have f2 : r.length - (t + b + m) < q := by omega
    have f3 : (Wd ++ [(r.drop (t + b)).take m]).length ≤ t + b + m := by rw [g7]; omega
    have f4 : (Wd ++ [(r.drop (t + b)).take m]) ++ (lnV q (r.drop (t + b + m))).1 = lnW r := by rw [List.append_assoc]; exact g4
    have f5 : t + b + m + (lnV q (r.drop (t + b + m))).2 = lnE r := by omega
    have e8 : ((A + t + b + m : Nat) : Int) = ((A + (t + b + m) : Nat) : Int) := by omega
    have f1 : t + b + m ≤ r.length := by omega
    have f2 : r.length - (t + b + m) < q := by omega
    have f3 : (Wd ++ [(r.drop (t + b)).take m]).length ≤ t + b + m := by rw [g7]; omega
    have f4 : (Wd ++ [(r.drop (t + b)).take m]) ++ (lnV q (r.drop (t + b + m))).1 = lnW r := by rw [List.append_assoc]; exact g4
    have f5 : t + b + m + (lnV q (r.drop (t + b + m))).2 = lnE r := by omega
    have e8 : ((A + t + b + m : Nat) : Int) = ((A + (t + b + m) : Nat) : Int) := by omega
    refine ⟨(q, t + b + m, Wd ++ [(r.drop (t + b)).take m]), [some 0, some 1, some 2, some 5], ⟨f1, f2, f3, f4, f5⟩, Nat.lt_succ_self q, ?_⟩
    (repeat' (first | (refine And.intro ?_ ?_) | exact True.intro | (show _ = _; with_reducible rfl) | exact Chk.mk (by kernel_rfl)))
    all_goals first | rfl | exact e8 | exact g7.symm | (intro j hj; rfl) | (intro j hj; (have hj2 : j < (Wd ++ [(r.drop (t + b)).take m]).length := hj); rw [g7] at hj2; dsimp only; by_cases z : j < Wd.length; (rw [if_pos z, snoc1 z]); (have e : j - Wd.length = 0 := by omega); rw [if_neg z, snoc2 (show j = Wd.length by omega), e]; rfl)
end Go.Proofs.Ytgbekbofeaoniaa
namespace Go.Proofs.Ytgbekbofeaoniaa
open Go Go.RowKit
abbrev Ln : Type := Int × List (List UInt8)
def Ln.av (x : Ln) : AV := lnA x.1 x.2
abbrev Ln.z : Ln := (0, [])
abbrev lnsA (L : List Ln) : AV := .ro 2 L.length (fun j => (L.getD j Ln.z).av)
theorem lsnoc1 {L : List Ln} {x : Ln} {j : Nat} (z : j < L.length) : (L ++ [x]).getD j Ln.z = L.getD j Ln.z := by
  rw [List.getD_eq_getElem?_getD, List.getD_eq_getElem?_getD, List.getElem?_append_left z]
theorem lsnoc2 {L : List Ln} {x : Ln} {j : Nat} (z : j = L.length) : (L ++ [x]).getD j Ln.z = x := by
  subst z
  rw [List.getD_eq_getElem?_getD, List.getElem?_append_right (Nat.le_refl _), Nat.sub_self]; rfl
structure LsR where
  bad : Option Nat
  out : List Ln
  ov : Int
def lsV (s : List UInt8) : Nat → Nat → Nat → List Ln → Int → LsR
  | 0, a, n, out, v => ⟨none, out, v⟩
  | k + 1, a, n, out, v =>
    if s.length < a then ⟨none, out, v⟩
    else if lnX (s.drop a) ≠ 0 then ⟨some (a + lnE (s.drop a)), out, v⟩
    else if lnC (s.drop a) = 1 then lsV s k (a + lnE (s.drop a) + 1) (n + 1) (out ++ [(((n + 1 : Nat) : Int), lnW (s.drop a))]) (if out.length = 4096 then (a : Int) else v)
    else lsV s k (a + lnE (s.drop a) + 1) (n + 1) out v
def lsT (s : List UInt8) : LsR := lsV s (s.length + 2) 0 0 [] 0
def lsE (s : List UInt8) : Int := if 65536 < s.length then 30 else match (lsT s).bad with | some _ => 21 | none => if 4096 < (lsT s).out.length then 30 else 0
def lsA (s : List UInt8) : Int := if 65536 < s.length then 0 else match (lsT s).bad with | some p => (p : Int) | none => if 4096 < (lsT s).out.length then (lsT s).ov else 0
def lsL (s : List UInt8) : List Ln := if lsE s = 0 then (lsT s).out else []
abbrev linesS : PSpec := fun l => match l with | [.str s] => some ([s.length ≤ 9223372036854775807], .tup [lnsA (lsL s), .int .i64 (lsA s), .int .i64 (lsE s)]) | _ => none
theorem lines_s : SOK Try.prog 9 linesS := by
  refine sok_of (C := mkE 0 [] (glook [(46, gdis (fG lineF1) (fG lineF2))]) [] [] []) (mkE_ok pok_nil (gl_cons (gdis_ok line_g1 line_g2) gl_nil) dl_nil) rfl mixed ⟨Try.func9, by kernel_rfl, by kernel_rfl, by kernel_rfl⟩ fun l obs v h ho => ?_
  (unfold linesS at h; split at h; rotate_left; (focus (cases h)); rename_i s; simp only [Option.some.injEq, Prod.mk.injEq] at h; obtain ⟨rfl, rfl⟩ := h; simp only [List.mem_cons, List.not_mem_nil, or_false, forall_eq_or_imp, forall_eq, false_implies, implies_true] at ho)
  refine ⟨Nat.le_of_ble_eq_true rfl, ?_⟩
  by_cases hl : 65536 < s.length
  · have e1 : lsE s = 30 := if_pos hl
    have e2 : lsA s = 0 := if_pos hl
    have e3 : lsL s = [] := if_neg (by rw [e1]; decide)
    rw [e1, e2, e3]
    (repeat' (first | (refine xI (fun hfk => ?_) (fun hfk => ?_) <;> ((try (first | replace hfk := oT hfk | replace hfk := oF hfk | simp only [oD, ne_eq, reduceCtorEq] at hfk)); (try exact oX))) | (refine And.intro ?ob ?_; (case ob => (exact oZ))) | exact True.intro | (show _ = _; first | exact oY | (first | rfl | (intro j hj; exact absurd hj (Nat.not_lt_zero _)); done) | exact rfl) | exact oW | (apply And.intro)))
  obtain ⟨R, hR⟩ : ∃ R, lsT s = R := ⟨_, rfl⟩
  (repeat' (first | (refine xI (fun hfk => ?_) (fun hfk => ?_) <;> ((try (first | replace hfk := oT hfk | replace hfk := oF hfk | simp only [oD, ne_eq, reduceCtorEq] at hfk)); (try exact oX))) | (refine And.intro ?ob ?_; (case ob => (exact oZ))) | exact True.intro | (show _ = _; first | exact oY | exact rfl) | exact oW | (apply And.intro)))
  refine ⟨Nat × Nat × Nat × List Ln × Int, fun g => [(0, .str s), (2, .nils), (3, .int .i64 0), (4, .int .i64 0), (5, .ptr 0 0), (6, .fn 46 1 [.ptr 0 0])],
    fun g => ⟨2, [(0, some (.cells 97 [.str s, .int .i64 (g.2.1 : Int), .int .i64 (g.2.2.1 : Int), .sl 1 2 0 g.2.2.2.1.length, .int .i64 g.2.2.2.2])), (1, some (.recs 35 2 g.2.2.2.1.length (fun j => (g.2.2.2.1.getD j Ln.z).av)))]⟩,
    fun g => g.2.1 ≤ s.length + 1 ∧ s.length + 1 - g.2.1 < g.1 ∧ g.2.2.1 ≤ g.2.1 ∧ g.2.2.2.1.length ≤ g.2.1 ∧ lsV s g.1 g.2.1 g.2.2.1 g.2.2.2.1 g.2.2.2.2 = R, fun g => g.1,
    ⟨(s.length + 2, 0, 0, [], 0), [some 0, none], ⟨Nat.zero_le _, by show s.length + 1 - 0 < s.length + 2; omega, Nat.le_refl _, Nat.le_refl _, hR⟩, ?_⟩, fun g hg => ?_⟩
  · (repeat' (first | (refine And.intro ?_ ?_) | exact True.intro | (show _ = _; with_reducible rfl) | exact Chk.mk (by kernel_rfl)))
    all_goals first | rfl | (intro j hj; rfl)
  obtain ⟨q, a, n, L, v⟩ := g
  obtain ⟨g1, g2, g3, g4, g5⟩ := hg
  have g1 : a ≤ s.length + 1 := g1
  have g2 : s.length + 1 - a < q := g2
  have g3 : n ≤ a := g3
  have g4 : L.length ≤ a := g4
  have g5 : lsV s q a n L v = R := g5
  dsimp only
  obtain ⟨q, rfl⟩ : ∃ q', q = q' + 1 := ⟨q - 1, by omega⟩
  have rn : rngI .i64 ((n : Int) + 1) := rng64 (by omega) (by omega)
  by_cases ha : a ≤ s.length
  · have hE := lnV_le ((s.drop a).length + 1) (s.drop a)
    have hE : lnE (s.drop a) ≤ (s.drop a).length := hE
    rw [List.length_drop] at hE
    have tn : ((a : Nat) : Int).toNat = a := Int.toNat_natCast a
    have rE : rngI .i64 ((a : Int) + (lnE (List.drop (a : Int).toNat s) : Int) + 1) := rng64 (by omega) (by rw [tn]; omega)
    unfold lsV at g5
    rw [if_neg (by omega)] at g5
    by_cases hx : lnX (s.drop a) = 0
    rotate_left
    · rw [if_pos hx] at g5
      have hC : lnC (List.drop (a : Int).toNat s) = 0 := if_neg (fun k => hx k.1)
      have hx2 : ¬ lnX (List.drop (a : Int).toNat s) = 0 := hx
      have eb : R.bad = some (a + lnE (s.drop a)) := by rw [← g5]
      have e1 : lsE s = 21 := by unfold lsE; rw [if_neg hl, hR, eb]
      have e2 : lsA s = (a : Int) + (lnE (List.drop (a : Int).toNat s) : Int) := by unfold lsA; rw [if_neg hl, hR, eb]; rfl
      have e3 : lsL s = [] := if_neg (by rw [e1]; decide)
      rw [e1, e2, e3]
      clear e1 e2 e3 eb g5 hE
      (repeat' (first | (refine xI (fun hfk => ?_) (fun hfk => ?_) <;> ((try (first | replace hfk := oT hfk | replace hfk := oF hfk | simp only [oD, ne_eq, reduceCtorEq] at hfk)); (try exact oX))) | (refine And.intro ?ob ?_; (case ob => (exact oZ))) | exact True.intro | (show _ = _; first | exact oY | exact rfl) | exact oW | (apply And.intro)))
      left
      refine ⟨[0, 1], ⟨by kernel_rfl⟩, ?_⟩
      (repeat' (first | (refine xI (fun hfk => ?_) (fun hfk => ?_) <;> ((try (first | replace hfk := oT hfk | replace hfk := oF hfk | simp only [oD, ne_eq, reduceCtorEq] at hfk)); (try exact oX))) | (refine And.intro ?ob ?_; (case ob => (exact oZ))) | exact True.intro | (show _ = _; first | exact oY | (first | rfl | (intro j hj; exact absurd hj (Nat.not_lt_zero _)); done) | exact rfl) | exact oW | (apply And.intro)))
    rw [if_neg (fun k => k hx)] at g5
    have hx2 : lnX (List.drop (a : Int).toNat s) = 0 := hx
    by_cases hC : lnC (s.drop a) = 1
    · rw [if_pos hC] at g5
      have hC2 : lnC (List.drop (a : Int).toNat s) = 1 := hC
      have gl : (L ++ [(((n + 1 : Nat) : Int), lnW (s.drop a))]).length = L.length + 1 := by simp
      have b1 : a + lnE (s.drop a) + 1 ≤ s.length + 1 := by omega
      have b2 : s.length + 1 - (a + lnE (s.drop a) + 1) < q := by omega
      have b3 : n + 1 ≤ a + lnE (s.drop a) + 1 := by omega
      have b4 : (L ++ [(((n + 1 : Nat) : Int), lnW (s.drop a))]).length ≤ a + lnE (s.drop a) + 1 := by rw [gl]; omega
      have e8 : (a : Int) + (lnE (List.drop (a : Int).toNat s) : Int) + 1 = ((a + lnE (s.drop a) + 1 : Nat) : Int) := by rw [tn]; omega
      clear hE
      (repeat' (first | (refine xI (fun hfk => ?_) (fun hfk => ?_) <;> ((try (first | replace hfk := oT hfk | replace hfk := oF hfk | simp only [oD, ne_eq, reduceCtorEq] at hfk)); (try exact oX))) | (refine And.intro ?ob ?_; (case ob => (exact oZ))) | exact True.intro | (show _ = _; first | exact oY | exact rfl) | exact oW | (apply And.intro)))
      right
      refine ⟨[0, 1], ⟨by kernel_rfl⟩, ?_⟩
      (repeat' (first | (refine xI (fun hfk => ?_) (fun hfk => ?_) <;> ((try (first | replace hfk := oT hfk | replace hfk := oF hfk | simp only [oD, ne_eq, reduceCtorEq] at hfk)); (try exact oX))) | (refine And.intro ?ob ?_; (case ob => (exact oZ))) | exact True.intro | (show _ = _; first | exact oY | exact rfl) | exact oW | (apply And.intro)))
      refine ⟨(q, a + lnE (s.drop a) + 1, n + 1, L ++ [(((n + 1 : Nat) : Int), lnW (s.drop a))], if L.length = 4096 then (a : Int) else v), [some 0, some 2], ⟨b1, b2, b3, b4, g5⟩, Nat.lt_succ_self q, ?_⟩
      have en : (n : Int) + 1 = ((n + 1 : Nat) : Int) := by omega
      (repeat' (first | (refine And.intro ?_ ?_) | exact True.intro | (show _ = _; with_reducible rfl) | exact Chk.mk (by kernel_rfl)))
      all_goals first | rfl | exact e8 | exact en | exact gl.symm | (intro j hj; (have hj2 : j < (L ++ [(((n + 1 : Nat) : Int), lnW (s.drop a))]).length := hj); rw [gl] at hj2; dsimp only; by_cases z : j < L.length; (rw [if_pos z, lsnoc1 z]); rw [if_neg z, lsnoc2 (show j = L.length by omega)]; rfl)
    · rw [if_neg hC] at g5
      have hC2 : lnC (List.drop (a : Int).toNat s) = 0 := by
        have : lnC (s.drop a) = 0 := by unfold lnC at hC ⊢; split at hC; exact absurd rfl hC; rw [if_neg (by assumption)]
        exact this
      have b1 : a + lnE (s.drop a) + 1 ≤ s.length + 1 := by omega
      have b2 : s.length + 1 - (a + lnE (s.drop a) + 1) < q := by omega
      have b3 : n + 1 ≤ a + lnE (s.drop a) + 1 := by omega
      have b4 : L.length ≤ a + lnE (s.drop a) + 1 := by omega
      have e8 : (a : Int) + (lnE (List.drop (a : Int).toNat s) : Int) + 1 = ((a + lnE (s.drop a) + 1 : Nat) : Int) := by rw [tn]; omega
      clear hE hC
      (repeat' (first | (refine xI (fun hfk => ?_) (fun hfk => ?_) <;> ((try (first | replace hfk := oT hfk | replace hfk := oF hfk | simp only [oD, ne_eq, reduceCtorEq] at hfk)); (try exact oX))) | (refine And.intro ?ob ?_; (case ob => (exact oZ))) | exact True.intro | (show _ = _; first | exact oY | exact rfl) | exact oW | (apply And.intro)))
      left
      refine ⟨[0, 1], ⟨by kernel_rfl⟩, ?_⟩
      (repeat' (first | (refine xI (fun hfk => ?_) (fun hfk => ?_) <;> ((try (first | replace hfk := oT hfk | replace hfk := oF hfk | simp only [oD, ne_eq, reduceCtorEq] at hfk)); (try exact oX))) | (refine And.intro ?ob ?_; (case ob => (exact oZ))) | exact True.intro | (show _ = _; first | exact oY | exact rfl) | exact oW | (apply And.intro)))
      refine ⟨(q, a + lnE (s.drop a) + 1, n + 1, L, v), [some 0, some 1], ⟨b1, b2, b3, b4, g5⟩, Nat.lt_succ_self q, ?_⟩
      (repeat' (first | (refine And.intro ?_ ?_) | exact True.intro | (show _ = _; with_reducible rfl) | exact Chk.mk (by kernel_rfl)))
      all_goals first | rfl | exact e8 | (intro j hj; rfl) | (show (_ : Int) = _; omega)
  · unfold lsV at g5
    rw [if_pos (by omega)] at g5
    have eb : R.bad = none := by rw [← g5]
    have eo : R.out = L := by rw [← g5]
    have ev : R.ov = v := by rw [← g5]
    by_cases h4 : 4096 < L.length
    · have e1 : lsE s = 30 := by unfold lsE; rw [if_neg hl, hR, eb]; show (if 4096 < R.out.length then _ else _) = _; rw [eo, if_pos h4]
      have e2 : lsA s = v := by unfold lsA; rw [if_neg hl, hR, eb]; show (if 4096 < R.out.length then R.ov else _) = _; rw [eo, ev, if_pos h4]
      have e3 : lsL s = [] := if_neg (by rw [e1]; decide)
      rw [e1, e2, e3]
      (repeat' (first | (refine xI (fun hfk => ?_) (fun hfk => ?_) <;> ((try (first | replace hfk := oT hfk | replace hfk := oF hfk | simp only [oD, ne_eq, reduceCtorEq] at hfk)); (try exact oX))) | (refine And.intro ?ob ?_; (case ob => (exact oZ))) | exact True.intro | (show _ = _; first | exact oY | (first | rfl | (intro j hj; exact absurd hj (Nat.not_lt_zero _)); done) | exact rfl) | exact oW | (apply And.intro)))
    · have e1 : lsE s = 0 := by unfold lsE; rw [if_neg hl, hR, eb]; show (if 4096 < R.out.length then _ else _) = _; rw [eo, if_neg h4]
      have e2 : lsA s = 0 := by unfold lsA; rw [if_neg hl, hR, eb]; show (if 4096 < R.out.length then R.ov else _) = _; rw [eo, if_neg h4]
      have e3 : lsL s = L := by unfold lsL; rw [if_pos e1, hR, eo]
      rw [e1, e2, e3]
      (repeat' (first | (refine xI (fun hfk => ?_) (fun hfk => ?_) <;> ((try (first | replace hfk := oT hfk | replace hfk := oF hfk | simp only [oD, ne_eq, reduceCtorEq] at hfk)); (try exact oX))) | (refine And.intro ?ob ?_; (case ob => (exact oZ))) | exact True.intro | (show _ = _; first | exact oY | (first | rfl | (intro j hj; rfl); done) | exact rfl) | exact oW | (apply And.intro)))
      intro j hj
      show (L.getD (0 + j) Ln.z).av = (L.getD j Ln.z).av
      rw [Nat.zero_add]
end Go.Proofs.Ytgbekbofeaoniaa
namespace Go.Proofs.Ytgbekbofeaoniaa
open Go Go.RowKit
theorem rblank49_s : SOK Try.prog 77 wblankS := by
  refine sok_of (C := mkC 0 [] noG) (mkC_ok pok_nil noG_ok) rfl mixed ⟨Try.func77, by kernel_rfl, by kernel_rfl, by kernel_rfl⟩ fun l obs v h ho => ?_
  (unfold wblankS at h; split at h; rotate_left; (focus (cases h)); rename_i x; simp only [Option.some.injEq, Prod.mk.injEq] at h; obtain ⟨rfl, rfl⟩ := h; simp only [List.mem_cons, List.not_mem_nil, or_false, forall_eq_or_imp, forall_eq, false_implies, implies_true] at ho)
  refine ⟨Nat.le_of_ble_eq_true rfl, ?_⟩
  by_cases k : x = 9 ∨ x = 13 ∨ x = 32
  · rw [decide_eq_true k]
    have e : x ≠ 9 → x ≠ 13 → decide (x = 32) = true := fun p q => decide_eq_true (by omega)
    (repeat' (first | (refine xI (fun hfk => ?_) (fun hfk => ?_) <;> ((try (first | replace hfk := oT hfk | replace hfk := oF hfk | simp only [oD, ne_eq, reduceCtorEq] at hfk)); (try exact oX))) | (refine And.intro ?ob ?_; (case ob => (exact oZ))) | exact True.intro | (show _ = _; first | exact oY | (first | exact e (by omega) (by omega) | exact (e (by omega) (by omega)).symm; done) | exact rfl) | exact oW | (apply And.intro)))
  · rw [decide_eq_false k]
    have e : decide (x = 32) = false := decide_eq_false (by omega)
    (repeat' (first | (refine xI (fun hfk => ?_) (fun hfk => ?_) <;> ((try (first | replace hfk := oT hfk | replace hfk := oF hfk | simp only [oD, ne_eq, reduceCtorEq] at hfk)); (try exact oX))) | (refine And.intro ?ob ?_; (case ob => (exact oZ))) | exact True.intro | (show _ = _; first | exact oY | (first | exact e | exact e.symm; done) | exact rfl) | exact oW | (apply And.intro)))
structure DwR where
  bad : Option Nat
  out : List (List UInt8)
def flushW (out : List (List UInt8)) (w : List UInt8) : List (List UInt8) := if w = [] then out else out ++ [w]
def dwV : List UInt8 → Nat → List UInt8 → List (List UInt8) → DwR
  | [], _, w, out => ⟨none, flushW out w⟩
  | c :: r, i, w, out =>
    if c.toNat = 35 then ⟨none, flushW out w⟩
    else if bwP (c.toNat : Int) = true then dwV r (i + 1) [] (flushW out w)
    else if c.toNat < 33 ∨ 126 < c.toNat then ⟨some i, []⟩
    else dwV r (i + 1) (w ++ [c]) out
def dwA (R : DwR) : Int := match R.bad with | some i => (i : Int) | none => -1
abbrev dwordsS : PSpec := fun l => match l with | [.str s] => some ([s.length ≤ 100000], .tup [wA (dwV s 0 [] []).out, .int .i64 (dwA (dwV s 0 [] []))]) | _ => none
theorem sdrop_cons {s : List UInt8} {i : Nat} (h : i < s.length) : s.drop i = s.getD i 0 :: s.drop (i + 1) := by
  rw [List.drop_eq_getElem_cons h, List.getD_eq_getElem?_getD, List.getElem?_eq_getElem h]; rfl
theorem dwords_s : SOK Try.prog 47 dwordsS := by
  refine sok_of (C := mkC 0 [(77, wblankS)] noG) (mkC_ok (pok_cons rblank49_s pok_nil) noG_ok) rfl mixed ⟨Try.func47, by kernel_rfl, by kernel_rfl, by kernel_rfl⟩ fun l obs v h ho => ?_
  (unfold dwordsS at h; split at h; rotate_left; (focus (cases h)); rename_i s; simp only [Option.some.injEq, Prod.mk.injEq] at h; obtain ⟨rfl, rfl⟩ := h; simp only [List.mem_cons, List.not_mem_nil, or_false, forall_eq_or_imp, forall_eq, false_implies, implies_true] at ho)
  refine ⟨Nat.le_of_ble_eq_true rfl, ?_⟩
  obtain ⟨R, hR⟩ : ∃ R, dwV s 0 [] [] = R := ⟨_, rfl⟩
  rw [hR]
  (repeat' (first | (refine xI (fun hfk => ?_) (fun hfk => ?_) <;> ((try (first | replace hfk := oT hfk | replace hfk := oF hfk | simp only [oD, ne_eq, reduceCtorEq] at hfk)); (try exact oX))) | (refine And.intro ?ob ?_; (case ob => (exact oZ))) | exact True.intro | (show _ = _; first | exact oY | exact rfl) | exact oW | (apply And.intro)))
  refine ⟨Nat × List UInt8 × List (List UInt8), fun g => [(0, .str s), (2, .nils), (3, .int .i64 0), (4, .sl 0 1 0 g.2.2.length), (5, .str g.2.1), (6, .int .i64 (g.1 : Int))],
    fun g => ⟨1, [(0, some (.recs 9 1 g.2.2.length (fun j => .str (g.2.2.getD j []))))]⟩,
    fun g => g.1 ≤ s.length ∧ g.2.1.length ≤ g.1 ∧ g.2.2.length ≤ g.1 ∧ dwV (s.drop g.1) g.1 g.2.1 g.2.2 = R, fun g => s.length - g.1, ⟨(0, [], []), [none], ⟨Nat.zero_le _, Nat.le_refl _, Nat.le_refl _, hR⟩, ?_⟩, fun g hg => ?_⟩
  · (repeat' (first | (refine And.intro ?_ ?_) | exact True.intro | (show _ = _; with_reducible rfl) | exact Chk.mk (by kernel_rfl)))
    all_goals first | rfl | (intro j hj; rfl)
  obtain ⟨i, w, out⟩ := g
  obtain ⟨g1, g2, g3, g4⟩ := hg
  have g1 : i ≤ s.length := g1
  have g2 : w.length ≤ i := g2
  have g3 : out.length ≤ i := g3
  have g4 : dwV (s.drop i) i w out = R := g4
  dsimp only
  have ri : rngI .i64 ((i : Int) + 1) := rng64 (by omega) (by omega)
  by_cases hlt : i < s.length
  · obtain ⟨c, hc⟩ : ∃ c, s.getD i 0 = c := ⟨_, rfl⟩
    have hc2 : s.getD (i : Int).toNat 0 = c := hc
    rw [sdrop_cons hlt, hc] at g4
    have sl1 : List.drop (i : Int).toNat (List.take ((i : Int) + 1).toNat s) = [c] := by
      have e : ((i : Int) + 1).toNat = i + 1 := by omega
      rw [e, Int.toNat_natCast, List.drop_take, Nat.add_sub_cancel_left, sdrop_cons hlt, hc]; rfl
    have c8 : c.toNat < 256 := c.toNat_lt
    unfold dwV at g4
    by_cases k35 : c.toNat = 35
    · rw [if_pos k35] at g4
      have k35' : ((s.getD (i : Int).toNat 0).toNat : Int) = 35 := by rw [hc2]; omega
      by_cases hw : w = []
      · have e1 : R.out = out := by rw [← g4]; exact if_pos hw
        have e2 : dwA R = -1 := by rw [← g4]; rfl
        rw [e1, e2]
        clear g4
        (repeat' (first | (refine xI (fun hfk => ?_) (fun hfk => ?_) <;> ((try (first | replace hfk := oT hfk | replace hfk := oF hfk | simp only [oD, ne_eq, reduceCtorEq] at hfk)); (try exact oX))) | (refine And.intro ?ob ?_; (case ob => (exact oZ))) | exact True.intro | (show _ = _; first | exact oY | exact rfl) | exact oW | (apply And.intro)))
        intro j hj
        show AV.str (out.getD (0 + j) []) = AV.str (out.getD j [])
        rw [Nat.zero_add]
      · have e1 : R.out = out ++ [w] := by rw [← g4]; exact if_neg hw
        have e2 : dwA R = -1 := by rw [← g4]; rfl
        have el : (out ++ [w]).length = out.length + 1 := by simp
        rw [e1, e2]
        clear g4
        (repeat' (first | (refine xI (fun hfk => ?_) (fun hfk => ?_) <;> ((try (first | replace hfk := oT hfk | replace hfk := oF hfk | simp only [oD, ne_eq, reduceCtorEq] at hfk)); (try exact oX))) | (refine And.intro ?ob ?_; (case ob => (exact oZ))) | exact True.intro | (show _ = _; first | exact oY | (first | exact el.symm | rfl; done) | exact rfl) | exact oW | (apply And.intro)))
        all_goals (intro j hj; (have hj2 : j < (out ++ [w]).length := hj); rw [el] at hj2; dsimp only; simp only [Nat.zero_add]; by_cases z : j < out.length; (rw [if_pos z, snoc1 z]); (have e : j - out.length = 0 := by omega); rw [if_neg z, snoc2 (show j = out.length by omega), e]; rfl)
    · rw [if_neg k35] at g4
      have xi : (i : Int) + 1 = ((i + 1 : Nat) : Int) := by omega
      have k35' : ¬ ((s.getD (i : Int).toNat 0).toNat : Int) = 35 := by rw [hc2]; omega
      by_cases hb : bwP (c.toNat : Int) = true
      · rw [if_pos hb] at g4
        have hb2 := of_decide_eq_true hb
        have hb3 : ((s.getD (i : Int).toNat 0).toNat : Int) = 9 ∨ ((s.getD (i : Int).toNat 0).toNat : Int) = 13 ∨ ((s.getD (i : Int).toNat 0).toNat : Int) = 32 := by rw [hc2]; exact hb2
        by_cases hw : w = []
        · have ef : flushW out w = out := if_pos hw
          rw [ef] at g4
          (repeat' (first | (refine xI (fun hfk => ?_) (fun hfk => ?_) <;> ((try (first | replace hfk := oT hfk | replace hfk := oF hfk | simp only [oD, ne_eq, reduceCtorEq] at hfk)); (try exact oX))) | (refine And.intro ?ob ?_; (case ob => (exact oZ))) | exact True.intro | (show _ = _; first | exact oY | exact rfl) | exact oW | (apply And.intro)))
          refine ⟨(i + 1, [], out), [some 0], ⟨hlt, Nat.zero_le _, by show out.length ≤ i + 1; omega, g4⟩, by show s.length - (i + 1) < s.length - i; omega, ?_⟩
          (repeat' (first | (refine And.intro ?_ ?_) | exact True.intro | (show _ = _; with_reducible rfl) | exact Chk.mk (by kernel_rfl)))
          all_goals first | rfl | exact xi | (intro j hj; rfl)
        · have ef : flushW out w = out ++ [w] := if_neg hw
          rw [ef] at g4
          have el : (out ++ [w]).length = out.length + 1 := by simp
          have b4 : (out ++ [w]).length ≤ i + 1 := by rw [el]; omega
          (repeat' (first | (refine xI (fun hfk => ?_) (fun hfk => ?_) <;> ((try (first | replace hfk := oT hfk | replace hfk := oF hfk | simp only [oD, ne_eq, reduceCtorEq] at hfk)); (try exact oX))) | (refine And.intro ?ob ?_; (case ob => (exact oZ))) | exact True.intro | (show _ = _; first | exact oY | exact rfl) | exact oW | (apply And.intro)))
          refine ⟨(i + 1, [], out ++ [w]), [some 2], ⟨hlt, Nat.zero_le _, b4, g4⟩, by show s.length - (i + 1) < s.length - i; omega, ?_⟩
          (repeat' (first | (refine And.intro ?_ ?_) | exact True.intro | (show _ = _; with_reducible rfl) | exact Chk.mk (by kernel_rfl)))
          all_goals first | rfl | exact xi | exact el.symm | (intro j hj; (have hj2 : j < (out ++ [w]).length := hj); rw [el] at hj2; dsimp only; simp only [Nat.zero_add]; by_cases z : j < out.length; (rw [if_pos z, snoc1 z]); (have e : j - out.length = 0 := by omega); rw [if_neg z, snoc2 (show j = out.length by omega), e]; rfl)
      · rw [if_neg hb] at g4
        have hb2 : ¬ ((c.toNat : Int) = 9 ∨ (c.toNat : Int) = 13 ∨ (c.toNat : Int) = 32) := fun q => hb (decide_eq_true q)
        have hb3 : ¬ (((s.getD (i : Int).toNat 0).toNat : Int) = 9 ∨ ((s.getD (i : Int).toNat 0).toNat : Int) = 13 ∨ ((s.getD (i : Int).toNat 0).toNat : Int) = 32) := by rw [hc2]; exact hb2
        by_cases hx : c.toNat < 33 ∨ 126 < c.toNat
        · rw [if_pos hx] at g4
          have hx2 : ((s.getD (i : Int).toNat 0).toNat : Int) < 33 ∨ 126 < ((s.getD (i : Int).toNat 0).toNat : Int) := by rw [hc2]; omega
          have e1 : R.out = [] := by rw [← g4]
          have e2 : dwA R = i := by rw [← g4]; rfl
          rw [e1, e2]
          clear g4
          (repeat' (first | (refine xI (fun hfk => ?_) (fun hfk => ?_) <;> ((try (first | replace hfk := oT hfk | replace hfk := oF hfk | simp only [oD, ne_eq, reduceCtorEq] at hfk)); (try exact oX))) | (refine And.intro ?ob ?_; (case ob => (exact oZ))) | exact True.intro | (show _ = _; first | exact oY | (first | rfl | (intro j hj; exact absurd hj (Nat.not_lt_zero _)); done) | exact rfl) | exact oW | (apply And.intro)))
        · rw [if_neg hx] at g4
          have hx2 : ¬ (((s.getD (i : Int).toNat 0).toNat : Int) < 33 ∨ 126 < ((s.getD (i : Int).toNat 0).toNat : Int)) := by rw [hc2]; omega
          have ew : w ++ List.drop (i : Int).toNat (List.take ((i : Int) + 1).toNat s) = w ++ [c] := by rw [sl1]
          have wl : (w ++ [c]).length ≤ i + 1 := by rw [List.length_append]; simp; omega
          (repeat' (first | (refine xI (fun hfk => ?_) (fun hfk => ?_) <;> ((try (first | replace hfk := oT hfk | replace hfk := oF hfk | simp only [oD, ne_eq, reduceCtorEq] at hfk)); (try exact oX))) | (refine And.intro ?ob ?_; (case ob => (exact oZ))) | exact True.intro | (show _ = _; first | exact oY | exact rfl) | exact oW | (apply And.intro)))
          · rw [sl1]
            show ((w.length + 1 : Nat) : Int) ≤ 9223372036854775807
            omega
          refine ⟨(i + 1, w ++ [c], out), [some 0], ⟨hlt, wl, by show out.length ≤ i + 1; omega, g4⟩, by show s.length - (i + 1) < s.length - i; omega, ?_⟩
          (repeat' (first | (refine And.intro ?_ ?_) | exact True.intro | (show _ = _; with_reducible rfl) | exact Chk.mk (by kernel_rfl)))
          all_goals first | rfl | exact xi | exact ew | (intro j hj; rfl)
  · obtain rfl : i = s.length := by omega
    rw [List.drop_of_length_le (Nat.le_refl _)] at g4
    have g4 : (⟨none, flushW out w⟩ : DwR) = R := g4
    by_cases hw : w = []
    · have e1 : R.out = out := by rw [← g4]; exact if_pos hw
      have e2 : dwA R = -1 := by rw [← g4]; rfl
      rw [e1, e2]
      clear g4
      (repeat' (first | (refine xI (fun hfk => ?_) (fun hfk => ?_) <;> ((try (first | replace hfk := oT hfk | replace hfk := oF hfk | simp only [oD, ne_eq, reduceCtorEq] at hfk)); (try exact oX))) | (refine And.intro ?ob ?_; (case ob => (exact oZ))) | exact True.intro | (show _ = _; first | exact oY | exact rfl) | exact oW | (apply And.intro)))
      intro j hj
      show AV.str (out.getD (0 + j) []) = AV.str (out.getD j [])
      rw [Nat.zero_add]
    · have e1 : R.out = out ++ [w] := by rw [← g4]; exact if_neg hw
      have e2 : dwA R = -1 := by rw [← g4]; rfl
      have el : (out ++ [w]).length = out.length + 1 := by simp
      rw [e1, e2]
      clear g4
      (repeat' (first | (refine xI (fun hfk => ?_) (fun hfk => ?_) <;> ((try (first | replace hfk := oT hfk | replace hfk := oF hfk | simp only [oD, ne_eq, reduceCtorEq] at hfk)); (try exact oX))) | (refine And.intro ?ob ?_; (case ob => (exact oZ))) | exact True.intro | (show _ = _; first | exact oY | (first | exact el.symm | rfl; done) | exact rfl) | exact oW | (apply And.intro)))
      all_goals (intro j hj; (have hj2 : j < (out ++ [w]).length := hj); rw [el] at hj2; dsimp only; simp only [Nat.zero_add]; by_cases z : j < out.length; (rw [if_pos z, snoc1 z]); (have e : j - out.length = 0 := by omega); rw [if_neg z, snoc2 (show j = out.length by omega), e]; rfl)
end Go.Proofs.Ytgbekbofeaoniaa
namespace Go.Proofs.Ytgbekbofeaoniaa
open Go Go.RowKit
theorem cnt_app {p : Int → Bool} : ∀ {bl rest : List UInt8}, (∀ c ∈ bl, p (c.toNat : Int) = true) → cntN p (bl ++ rest) = bl.length + cntN p rest
  | [], rest, _ => by simp
  | c :: bl, rest, h => by
    have h1 := h c List.mem_cons_self
    have ih := cnt_app (p := p) (bl := bl) (rest := rest) (fun x hx => h x (List.mem_cons_of_mem _ hx))
    show cntN p (c :: (bl ++ rest)) = _
    have e : cntN p (c :: (bl ++ rest)) = cntN p (bl ++ rest) + 1 := if_pos h1
    rw [e, ih, List.length_cons]; omega
theorem drop_pre {bl rest : List UInt8} : (bl ++ rest).drop bl.length = rest := by simp
end Go.Proofs.Ytgbekbofeaoniaa
namespace Go.Proofs.Ytgbekbofeaoniaa
abbrev eolN (r : List UInt8) : Nat := cntN nlP r
theorem cnt_split (p : Int → Bool) : ∀ l : List UInt8, ∃ bl rest, l = bl ++ rest ∧ (∀ c ∈ bl, p (c.toNat : Int) = true) ∧ (rest = [] ∨ ∃ c r, rest = c :: r ∧ p (c.toNat : Int) = false) ∧ cntN p l = bl.length
  | [] => ⟨[], [], rfl, fun c hc => (by cases hc), .inl rfl, rfl⟩
  | c :: r => by
    cases h : p (c.toNat : Int) with
    | true =>
      obtain ⟨bl, rest, h1, h2, h3, h4⟩ := cnt_split p r
      refine ⟨c :: bl, rest, by rw [h1]; rfl, fun x hx => ?_, h3, ?_⟩
      · rcases List.mem_cons.1 hx with rfl | k
        · exact h
        · exact h2 x k
      · unfold cntN
        rw [if_pos h, h4]
        rfl
    | false =>
      refine ⟨[], c :: r, rfl, fun x hx => (by cases hx), .inr ⟨c, r, rfl, h⟩, ?_⟩
      unfold cntN
      rw [if_neg (by rw [h]; decide)]
      rfl
theorem nl_of_bw {x : Int} (h : bwP x = true) : nlP x = true := by
  unfold bwP at h
  have := of_decide_eq_true h
  exact decide_eq_true (by omega)
theorem nl_of_mk {x : Int} (h : mkP x = true) : nlP x = true := by
  unfold mkP at h
  have := of_decide_eq_true h
  exact decide_eq_true (by omega)
theorem eol_app {bl rest : List UInt8} (h : ∀ c ∈ bl, nlP (c.toNat : Int) = true) : eolN (bl ++ rest) = bl.length + eolN rest := cnt_app h
theorem take_app {bl rest : List UInt8} (n : Nat) : (bl ++ rest).take (bl.length + n) = bl ++ rest.take n := by
  rw [List.take_append, List.take_of_length_le (by omega), Nat.add_sub_cancel_left]
theorem dwv_cons (c : UInt8) (r : List UInt8) (i : Nat) (w : List UInt8) (out : List (List UInt8)) : dwV (c :: r) i w out = if c.toNat = 35 then ⟨none, flushW out w⟩ else if bwP (c.toNat : Int) = true then dwV r (i + 1) [] (flushW out w) else if c.toNat < 33 ∨ 126 < c.toNat then ⟨some i, []⟩ else dwV r (i + 1) (w ++ [c]) out := rfl
theorem dw_blanks : ∀ (bl t : List UInt8), (∀ c ∈ bl, bwP (c.toNat : Int) = true) → ∀ (i : Nat) (out : List (List UInt8)), dwV (bl ++ t) i [] out = dwV t (i + bl.length) [] out
  | [], t, _, i, out => rfl
  | c :: bl, t, h, i, out => by
    have hc := h c List.mem_cons_self
    have h35 : ¬ c.toNat = 35 := fun e => by
      rw [e] at hc
      exact absurd hc (by decide)
    show dwV (c :: (bl ++ t)) i [] out = _
    rw [dwv_cons, if_neg h35, if_pos hc]
    have ef : flushW out [] = out := if_pos rfl
    rw [ef, dw_blanks bl t (fun x hx => h x (List.mem_cons_of_mem _ hx))]
    rw [List.length_cons, Nat.add_assoc, Nat.add_comm 1]
theorem mk_inv {c : UInt8} (h : mkP (c.toNat : Int) = true) : 33 ≤ c.toNat ∧ c.toNat ≤ 126 ∧ c.toNat ≠ 35 := by
  unfold mkP at h
  have := of_decide_eq_true h
  omega
theorem bw_iff {c : UInt8} : bwP (c.toNat : Int) = true ↔ c.toNat = 9 ∨ c.toNat = 13 ∨ c.toNat = 32 := by
  unfold bwP
  rw [decide_eq_true_iff]
  omega
theorem dw_marks : ∀ (m t : List UInt8), (∀ c ∈ m, mkP (c.toNat : Int) = true) → ∀ (i : Nat) (w : List UInt8) (out : List (List UInt8)), dwV (m ++ t) i w out = dwV t (i + m.length) (w ++ m) out
  | [], t, _, i, w, out => by rw [List.append_nil]; rfl
  | c :: m, t, h, i, w, out => by
    have hc := mk_inv (h c List.mem_cons_self)
    show dwV (c :: (m ++ t)) i w out = _
    rw [dwv_cons, if_neg hc.2.2, if_neg (fun k => by have := bw_iff.1 k; omega), if_neg (by omega), dw_marks m t (fun x hx => h x (List.mem_cons_of_mem _ hx))]
    rw [List.length_cons, Nat.add_assoc, Nat.add_comm 1, List.append_assoc]
    rfl
theorem dw_flush {u : List UInt8} (hu : u = [] ∨ ∃ c r, u = c :: r ∧ mkP (c.toNat : Int) = false) {w : List UInt8} (hw : w ≠ []) (n j : Nat) (out : List (List UInt8)) : dwV (u.take n) j w out = dwV (u.take n) j [] (out ++ [w]) := by
  have e1 : flushW out w = out ++ [w] := if_neg hw
  have e2 : flushW (out ++ [w]) [] = out ++ [w] := if_pos rfl
  rcases hu with rfl | ⟨c, r, rfl, hc⟩
  · rw [List.take_nil]
    unfold dwV
    rw [e1, e2]
  · cases n with
    | zero =>
      rw [List.take_zero]
      unfold dwV
      rw [e1, e2]
    | succ n =>
      rw [List.take_succ_cons]
      unfold dwV
      rw [e1, e2]
      by_cases h1 : c.toNat = 35
      · rw [if_pos h1, if_pos h1]
      · rw [if_neg h1, if_neg h1]
        by_cases h2 : bwP (c.toNat : Int) = true
        · rw [if_pos h2, if_pos h2]
        · rw [if_neg h2, if_neg h2]
          have h3 : c.toNat < 33 ∨ 126 < c.toNat := by
            unfold mkP at hc
            have := of_decide_eq_false hc
            omega
          rw [if_pos h3, if_pos h3]
theorem dw_ln : ∀ (k : Nat) (r : List UInt8), r.length < k → (lnV k r).2 ≤ eolN r ∧ ∀ (i : Nat) (out : List (List UInt8)),
    ((lnV k r).2 = eolN r → dwV (r.take (eolN r)) i [] out = ⟨none, out ++ (lnV k r).1⟩) ∧ ((lnV k r).2 < eolN r → dwV (r.take (eolN r)) i [] out = ⟨some (i + (lnV k r).2), []⟩)
  | 0, r, h => absurd h (Nat.not_lt_zero _)
  | k + 1, r, hk => by
    obtain ⟨bl, t, rfl, hb, ht, hc⟩ := cnt_split bwP r
    have hbn : ∀ c ∈ bl, nlP (c.toNat : Int) = true := fun c hc => nl_of_bw (hb c hc)
    have eE : eolN (bl ++ t) = bl.length + eolN t := eol_app hbn
    have eD : (bl ++ t).drop (cntN bwP (bl ++ t)) = t := by rw [hc]; exact drop_pre
    have fl : ∀ out : List (List UInt8), flushW out [] = out := fun out => if_pos rfl
    by_cases h35 : t.length ≠ 0 ∧ (t.getD 0 0).toNat = 35
    · obtain ⟨c, t', rfl⟩ : ∃ c t', t = c :: t' := by
        cases t with
        | nil => exact absurd rfl h35.1
        | cons c t' => exact ⟨c, t', rfl⟩
      have hc35 : c.toNat = 35 := h35.2
      have eB : bkN (bl ++ c :: t') = bl.length + eolN (c :: t') := by
        unfold bkN
        rw [eD, if_pos h35, hc]
      obtain ⟨a, u, ea, ha, hu, hca⟩ := cnt_split nlP (c :: t')
      have eU : (bl ++ c :: t').drop (bkN (bl ++ c :: t')) = u := by
        rw [eB]
        show (bl ++ c :: t').drop (bl.length + cntN nlP (c :: t')) = u
        rw [hca, ea, ← List.append_assoc, ← List.length_append]
        exact drop_pre
      have hm : mrkN u = 0 := by
        rcases hu with rfl | ⟨d, u', rfl, hd⟩
        · rfl
        · unfold mrkN cntN
          rw [if_neg]
          intro hq
          rw [nl_of_mk hq] at hd
          cases hd
      have ev : lnV (k + 1) (bl ++ c :: t') = ([], bl.length + eolN (c :: t')) := by
        unfold lnV
        rw [eU, if_pos hm, eB]
      rw [ev, eE]
      refine ⟨Nat.le_refl _, fun i out => ⟨fun _ => ?_, fun h => absurd h (Nat.lt_irrefl _)⟩⟩
      rw [take_app, dw_blanks bl _ hb]
      have e1 : eolN (c :: t') = eolN t' + 1 := by
        show cntN nlP (c :: t') = _
        rw [cntN]
        exact if_pos (decide_eq_true (by omega))
      rw [e1, List.take_succ_cons]
      unfold dwV
      rw [if_pos hc35, fl, List.append_nil]
    · have eB : bkN (bl ++ t) = bl.length := by
        unfold bkN
        rw [eD, if_neg h35, hc]
      have eT : (bl ++ t).drop (bkN (bl ++ t)) = t := by rw [eB]; exact drop_pre
      by_cases hm : mrkN t = 0
      · have ev : lnV (k + 1) (bl ++ t) = ([], bl.length) := by
          unfold lnV
          rw [eT, if_pos hm, eB]
        rw [ev, eE]
        refine ⟨Nat.le_add_right _ _, fun i out => ?_⟩
        rw [take_app, dw_blanks bl _ hb]
        rcases ht with rfl | ⟨c, t', rfl, hcb⟩
        · refine ⟨fun _ => ?_, fun h => absurd h (Nat.lt_irrefl _)⟩
          rw [List.take_nil]
          unfold dwV
          rw [fl, List.append_nil]
        · have hnm : mkP (c.toNat : Int) = false := by
            cases hq : mkP (c.toNat : Int) with
            | false => rfl
            | true =>
              unfold mrkN cntN at hm
              rw [if_pos hq] at hm
              cases hm
          have hn35 : c.toNat ≠ 35 := fun e => h35 ⟨by simp, e⟩
          have hbad : c.toNat < 33 ∨ 126 < c.toNat := by
            unfold mkP at hnm
            have := of_decide_eq_false hnm
            omega
          by_cases h10 : c.toNat = 10
          · have e1 : eolN (c :: t') = 0 := by
              show cntN nlP (c :: t') = _
              rw [cntN]
              exact if_neg (fun q => by have := of_decide_eq_true q; omega)
            rw [e1, List.take_zero]
            refine ⟨fun _ => ?_, fun h => absurd h (Nat.lt_irrefl _)⟩
            unfold dwV
            rw [fl, List.append_nil]
          · have e1 : eolN (c :: t') = eolN t' + 1 := by
              show cntN nlP (c :: t') = _
              rw [cntN]
              exact if_pos (decide_eq_true (by omega))
            rw [e1, List.take_succ_cons]
            refine ⟨fun h => by omega, fun _ => ?_⟩
            unfold dwV
            rw [if_neg hn35, if_neg (by rw [hcb]; decide), if_pos hbad]
      · obtain ⟨m, u, rfl, hm1, hu, hcm⟩ := cnt_split mkP t
        have hml : mrkN (m ++ u) = m.length := hcm
        rw [hml] at hm
        have hmn : m ≠ [] := fun e => hm (by rw [e]; rfl)
        have eE2 : eolN (m ++ u) = m.length + eolN u := eol_app fun c hc => nl_of_mk (hm1 c hc)
        have hul : u.length < k := by
          rw [List.length_append, List.length_append] at hk
          omega
        obtain ⟨s1, s2⟩ := dw_ln k u hul
        have ev : lnV (k + 1) (bl ++ (m ++ u)) = (m :: (lnV k u).1, bl.length + m.length + (lnV k u).2) := by
          rw [lnV, eT, hml, if_neg hm, eB, drop_pre]
          have : (m ++ u).take m.length = m := by simp
          rw [this]
        rw [ev, eE, eE2]
        refine ⟨by show bl.length + m.length + (lnV k u).2 ≤ _; omega, fun i out => ?_⟩
        have key : dwV ((bl ++ (m ++ u)).take (bl.length + (m.length + eolN u))) i [] out = dwV (u.take (eolN u)) (i + bl.length + m.length) [] (out ++ [m]) := by
          rw [take_app, dw_blanks bl _ hb, take_app, dw_marks m _ hm1, List.nil_append, dw_flush hu hmn]
        obtain ⟨q1, q2⟩ := s2 (i + bl.length + m.length) (out ++ [m])
        refine ⟨fun h => ?_, fun h => ?_⟩
        · have h : bl.length + m.length + (lnV k u).2 = bl.length + (m.length + eolN u) := h
          rw [key, q1 (by omega), List.append_assoc]
          rfl
        · have h : bl.length + m.length + (lnV k u).2 < bl.length + (m.length + eolN u) := h
          rw [key, q2 (by omega)]
          show (⟨some (i + bl.length + m.length + (lnV k u).2), []⟩ : DwR) = ⟨some (i + (bl.length + m.length + (lnV k u).2)), []⟩
          congr 2
          omega
theorem line_doc (r : List UInt8) : ((dwV (r.take (eolN r)) 0 [] []).bad = none ∧ lnX r = 0 ∧ lnE r = eolN r ∧ lnW r = (dwV (r.take (eolN r)) 0 [] []).out) ∨ ((dwV (r.take (eolN r)) 0 [] []).bad = some (lnE r) ∧ lnX r = 1) := by
  obtain ⟨h1, h2⟩ := dw_ln (r.length + 1) r (Nat.lt_succ_self _)
  obtain ⟨q1, q2⟩ := h2 0 []
  obtain ⟨a, u, ea, ha, hu, hca⟩ := cnt_split nlP r
  by_cases e : lnE r = eolN r
  · left
    rw [q1 e]
    refine ⟨rfl, ?_, e, rfl⟩
    unfold lnX
    rw [if_neg]
    rintro ⟨k1, k2⟩
    rw [e] at k1 k2
    have hca' : eolN r = a.length := hca
    rw [hca'] at k1 k2
    rcases hu with rfl | ⟨c, u', rfl, hc⟩
    · rw [List.append_nil] at ea
      rw [ea] at k1
      exact Nat.lt_irrefl _ k1
    · rw [ea, List.getD_eq_getElem?_getD, List.getElem?_append_right (Nat.le_refl _), Nat.sub_self] at k2
      have := of_decide_eq_false hc
      have k2 : c.toNat ≠ 10 := k2
      omega
  · right
    have hlt : lnE r < eolN r := Nat.lt_of_le_of_ne h1 e
    have e2 := q2 hlt
    rw [e2, Nat.zero_add]
    refine ⟨rfl, ?_⟩
    unfold lnX
    obtain ⟨n, hn⟩ : ∃ n, lnE r = n := ⟨_, rfl⟩
    rw [hn] at hlt ⊢
    have hca' : eolN r = a.length := hca
    rw [hca'] at hlt
    have hg : r.getD n 0 = a[n] := by
      rw [ea, List.getD_eq_getElem?_getD, List.getElem?_append_left hlt, List.getElem?_eq_getElem hlt]
      rfl
    have := of_decide_eq_true (ha _ (List.getElem_mem hlt))
    rw [if_pos]
    rw [hg]
    refine ⟨by rw [ea, List.length_append]; omega, by omega⟩
end Go.Proofs.Ytgbekbofeaoniaa
namespace Go.Proofs.Ytgbekbofeaoniaa
open Go Go.RowKit
theorem eol_at {s : List UInt8} {a i : Nat} (ha : a ≤ i) (hi : i ≤ s.length) (h : ∀ j, a ≤ j → j < i → (s.getD j 0).toNat ≠ 10) (he : i = s.length ∨ (s.getD i 0).toNat = 10) : eolN (s.drop a) = i - a := by
  have e1 : s.drop a = (s.drop a).take (i - a) ++ s.drop i := by
    have := (List.take_append_drop (i - a) (s.drop a)).symm
    rw [List.drop_drop, show a + (i - a) = i by omega] at this
    exact this
  have e2 : ((s.drop a).take (i - a)).length = i - a := by
    rw [List.length_take, List.length_drop]
    omega
  rw [e1, eol_app, e2]
  · have : eolN (s.drop i) = 0 := by
      rcases he with rfl | he
      · rw [List.drop_length]
        rfl
      · by_cases hl : i < s.length
        · rw [sdrop_cons hl]
          show cntN nlP _ = 0
          rw [cntN]
          exact if_neg (fun q => by have := of_decide_eq_true q; omega)
        · rw [List.drop_eq_nil_of_le (by omega)]
          rfl
    omega
  · intro c hc
    obtain ⟨j, hj, rfl⟩ := List.mem_iff_getElem.1 hc
    rw [e2] at hj
    have hx := h (a + j) (by omega) (by omega)
    have e3 : s.getD (a + j) 0 = ((s.drop a).take (i - a))[j] := by
      rw [List.getElem_take, List.getElem_drop, List.getD_eq_getElem?_getD, List.getElem?_eq_getElem (by omega)]
      rfl
    rw [e3] at hx
    exact decide_eq_true (by omega)
theorem dlines_s : SOK Try.prog 10 linesS := by
  refine sok_of (C := mkE 0 [(47, dwordsS)] noG [] [] [12]) (mkE_ok (pok_cons dwords_s pok_nil) noG_ok dl_nil) rfl mixed ⟨Try.func10, by kernel_rfl, by kernel_rfl, by kernel_rfl⟩ fun l obs v h ho => ?_
  (unfold linesS at h; split at h; rotate_left; (focus (cases h)); rename_i s; simp only [Option.some.injEq, Prod.mk.injEq] at h; obtain ⟨rfl, rfl⟩ := h; simp only [List.mem_cons, List.not_mem_nil, or_false, forall_eq_or_imp, forall_eq, false_implies, implies_true] at ho)
  refine ⟨Nat.le_of_ble_eq_true rfl, ?_⟩
  by_cases hl : 65536 < s.length
  · have e1 : lsE s = 30 := if_pos hl
    have e2 : lsA s = 0 := if_pos hl
    have e3 : lsL s = [] := if_neg (by rw [e1]; decide)
    rw [e1, e2, e3]
    (repeat' (first | (refine xI (fun hfk => ?_) (fun hfk => ?_) <;> ((try (first | replace hfk := oT hfk | replace hfk := oF hfk | simp only [oD, ne_eq, reduceCtorEq] at hfk)); (try exact oX))) | (refine And.intro ?ob ?_; (case ob => (exact oZ))) | exact True.intro | (show _ = _; first | exact oY | (first | rfl | (intro j hj; exact absurd hj (Nat.not_lt_zero _)); done) | exact rfl) | exact oW | (apply And.intro)))
  obtain ⟨R, hR⟩ : ∃ R, lsT s = R := ⟨_, rfl⟩
  (repeat' (first | (refine xI (fun hfk => ?_) (fun hfk => ?_) <;> ((try (first | replace hfk := oT hfk | replace hfk := oF hfk | simp only [oD, ne_eq, reduceCtorEq] at hfk)); (try exact oX))) | (refine And.intro ?ob ?_; (case ob => (exact oZ))) | exact True.intro | (show _ = _; first | exact oY | exact rfl) | exact oW | (apply And.intro)))
  refine ⟨Nat × Nat × Nat × Nat × List Ln × Int × Int, fun g => [(0, .str s), (5, .sl 0 2 0 g.2.2.2.2.1.length), (6, .int .i64 g.2.2.2.2.2.2), (7, .int .i64 (g.2.1 : Int)), (8, .int .i64 (g.2.2.2.1 : Int)), (9, .int .i64 (g.2.2.1 : Int))],
    fun g => ⟨1, [(0, some (.recs 100 2 g.2.2.2.2.1.length (fun j => (g.2.2.2.2.1.getD j Ln.z).av)))]⟩,
    fun g => (g.2.1 ≤ g.2.2.1 ∧ g.2.2.1 ≤ s.length + 1 ∧ (g.2.2.1 = s.length + 1 → g.2.1 = g.2.2.1) ∧ s.length + 1 - g.2.1 < g.1 ∧ g.2.2.2.1 ≤ g.2.1 ∧ g.2.2.2.2.1.length ≤ g.2.1) ∧ (∀ j, g.2.1 ≤ j → j < g.2.2.1 → (s.getD j 0).toNat ≠ 10) ∧ ((g.2.2.2.2.1.length ≤ 4096 → g.2.2.2.2.2.2 = -1) ∧ (4096 < g.2.2.2.2.1.length → g.2.2.2.2.2.2 = g.2.2.2.2.2.1 ∧ 0 ≤ g.2.2.2.2.2.1)) ∧ lsV s g.1 g.2.1 g.2.2.2.1 g.2.2.2.2.1 g.2.2.2.2.2.1 = R,
    fun g => s.length + 1 - g.2.2.1,
    ⟨(s.length + 2, 0, 0, 0, [], 0, -1), [none], ⟨⟨Nat.le_refl _, Nat.zero_le _, fun _ => rfl, by show s.length + 1 - 0 < s.length + 2; omega, Nat.le_refl _, Nat.le_refl _⟩, fun j h1 h2 => absurd h2 (Nat.not_lt_zero _), ⟨fun _ => rfl, fun h => absurd (show 4096 < 0 from h) (by decide)⟩, hR⟩, ?_⟩, fun g hg => ?_⟩
  · (repeat' (first | (refine And.intro ?_ ?_) | exact True.intro | (show _ = _; with_reducible rfl) | exact Chk.mk (by kernel_rfl)))
    all_goals first | rfl | (intro j hj; rfl)
  obtain ⟨q, a, i, n, L, v, ov⟩ := g
  obtain ⟨⟨G1, G2, G2b, G3, G4, G5⟩, G6, ⟨G7, G8⟩, G9⟩ := hg
  have g1 : a ≤ i := G1
  have g2 : i ≤ s.length + 1 := G2
  have g2b : i = s.length + 1 → a = i := G2b
  have g3 : s.length + 1 - a < q := G3
  have g4 : n ≤ a := G4
  have g5 : L.length ≤ a := G5
  have g6 : ∀ j, a ≤ j → j < i → (s.getD j 0).toNat ≠ 10 := G6
  have g7 : L.length ≤ 4096 → ov = -1 := G7
  have g8 : 4096 < L.length → ov = v ∧ 0 ≤ v := G8
  have g9 : lsV s q a n L v = R := G9
  clear G1 G2 G2b G3 G4 G5 G6 G7 G8 G9
  dsimp only
  obtain ⟨q, rfl⟩ : ∃ q', q = q' + 1 := ⟨q - 1, by omega⟩
  by_cases hend : i = s.length + 1
  · have hai := g2b hend
    subst hend
    unfold lsV at g9
    rw [if_pos (by omega)] at g9
    have eb : R.bad = none := by rw [← g9]
    have eo : R.out = L := by rw [← g9]
    have ev : R.ov = v := by rw [← g9]
    by_cases h4 : 4096 < L.length
    · obtain ⟨o1, o2⟩ := g8 h4
      have e1 : lsE s = 30 := by unfold lsE; rw [if_neg hl, hR, eb]; show (if 4096 < R.out.length then _ else _) = _; rw [eo, if_pos h4]
      have e2 : lsA s = v := by unfold lsA; rw [if_neg hl, hR, eb]; show (if 4096 < R.out.length then R.ov else _) = _; rw [eo, ev, if_pos h4]
      have e3 : lsL s = [] := if_neg (by rw [e1]; decide)
      rw [e1, e2, e3, o1]
      clear g7 g8 e1 e2 e3 o1
      (repeat' (first | (refine xI (fun hfk => ?_) (fun hfk => ?_) <;> ((try (first | replace hfk := oT hfk | replace hfk := oF hfk | simp only [oD, ne_eq, reduceCtorEq] at hfk)); (try exact oX))) | (refine And.intro ?ob ?_; (case ob => (exact oZ))) | exact True.intro | (show _ = _; first | exact oY | (first | rfl | (intro j hj; exact absurd hj (Nat.not_lt_zero _)); done) | exact rfl) | exact oW | (apply And.intro)))
    · have o1 := g7 (by omega)
      have e1 : lsE s = 0 := by unfold lsE; rw [if_neg hl, hR, eb]; show (if 4096 < R.out.length then _ else _) = _; rw [eo, if_neg h4]
      have e2 : lsA s = 0 := by unfold lsA; rw [if_neg hl, hR, eb]; show (if 4096 < R.out.length then R.ov else _) = _; rw [eo, if_neg h4]
      have e3 : lsL s = L := by unfold lsL; rw [if_pos e1, hR, eo]
      rw [e1, e2, e3, o1]
      clear g7 g8 e1 e2 e3 o1
      (repeat' (first | (refine xI (fun hfk => ?_) (fun hfk => ?_) <;> ((try (first | replace hfk := oT hfk | replace hfk := oF hfk | simp only [oD, ne_eq, reduceCtorEq] at hfk)); (try exact oX))) | (refine And.intro ?ob ?_; (case ob => (exact oZ))) | exact True.intro | (show _ = _; first | exact oY | (first | rfl | (intro j hj; rfl); done) | exact rfl) | exact oW | (apply And.intro)))
      intro j hj
      show (L.getD (0 + j) Ln.z).av = (L.getD j Ln.z).av
      rw [Nat.zero_add]
  have hil : i ≤ s.length := by omega
  have ri : rngI .i64 ((i : Int) + 1) := rng64 (by omega) (by omega)
  have rn : rngI .i64 ((n : Int) + 1) := rng64 (by omega) (by omega)
  by_cases hgo : i < s.length ∧ (s.getD i 0).toNat ≠ 10
  · obtain ⟨k1, k2⟩ := hgo
    have k2' : ¬ ((s.getD (i : Int).toNat 0).toNat : Int) = 10 := by
      have : (s.getD (i : Int).toNat 0) = s.getD i 0 := rfl
      rw [this]; omega
    (repeat' (first | (refine xI (fun hfk => ?_) (fun hfk => ?_) <;> ((try (first | replace hfk := oT hfk | replace hfk := oF hfk | simp only [oD, ne_eq, reduceCtorEq] at hfk)); (try exact oX))) | (refine And.intro ?ob ?_; (case ob => (exact oZ))) | exact True.intro | (show _ = _; first | exact oY | exact rfl) | exact oW | (apply And.intro)))
    refine ⟨(q + 1, a, i + 1, n, L, v, ov), [some 0], ⟨⟨by show a ≤ i + 1; omega, by show i + 1 ≤ s.length + 1; omega, fun h => absurd (show i + 1 = s.length + 1 from h) (by omega), g3, g4, g5⟩, fun j h1 h2 => ?_, ⟨g7, g8⟩, g9⟩, ?mu, ?_⟩
    · by_cases e : j = i
      · rw [e]; exact k2
      · have h2 : j < i + 1 := h2
        exact g6 j h1 (by omega)
    case mu => (show s.length + 1 - (i + 1) < s.length + 1 - i; omega)
    (repeat' (first | (refine And.intro ?_ ?_) | exact True.intro | (show _ = _; with_reducible rfl) | exact Chk.mk (by kernel_rfl)))
    all_goals first | rfl | (intro j hj; rfl) | (show (_ : Int) = _; omega)
  have he : i = s.length ∨ (s.getD i 0).toNat = 10 := by
    by_cases k : i = s.length
    · exact .inl k
    · exact .inr (Classical.byContradiction fun k2 => hgo ⟨by omega, k2⟩)
  have hE := eol_at g1 hil g6 he
  have hdoc := line_doc (s.drop a)
  rw [hE] at hdoc
  have hsl : List.drop (a : Int).toNat (List.take (i : Int).toNat s) = (s.drop a).take (i - a) := by
    rw [Int.toNat_natCast, Int.toNat_natCast, List.drop_take]
  obtain ⟨D, hD⟩ : ∃ D, dwV ((s.drop a).take (i - a)) 0 [] [] = D := ⟨_, rfl⟩
  rw [hD] at hdoc
  have hsll : (List.drop (a : Int).toNat (List.take (i : Int).toNat s)).length ≤ 100000 := by
    rw [hsl, List.length_take, List.length_drop]
    omega
  have hD2 : dwV (List.drop (a : Int).toNat (List.take (i : Int).toNat s)) 0 [] [] = D := by rw [hsl]; exact hD
  have hD3 : (dwV (List.drop (a : Int).toNat (List.take (i : Int).toNat s)) 0 [] []).out.length = D.out.length := by rw [hD2]
  have hD4 : dwA (dwV (List.drop (a : Int).toNat (List.take (i : Int).toNat s)) 0 [] []) = dwA D := by rw [hD2]
  have b1 : i + 1 ≤ s.length + 1 := by omega
  have b2 : s.length + 1 - (i + 1) < q := by omega
  have b3 : n + 1 ≤ i + 1 := by omega
  have k2' : i < s.length → ((s.getD (i : Int).toNat 0).toNat : Int) = 10 := fun h => by
    have : (s.getD (i : Int).toNat 0) = s.getD i 0 := rfl
    rw [this]
    rcases he with k | k <;> omega
  have hae : a + (i - a) = i := by omega
  rw [lsV, if_neg (by omega)] at g9
  by_cases hi2 : i < s.length
  all_goals
    (try have k3 := k2' hi2)
    (repeat' (first | (refine xI (fun hfk => ?_) (fun hfk => ?_) <;> ((try (first | replace hfk := oT hfk | replace hfk := oF hfk | simp only [oD, ne_eq, reduceCtorEq] at hfk)); (try exact oX))) | (refine And.intro ?ob ?_; (case ob => (exact oZ))) | exact True.intro | (show _ = _; first | exact oY | exact rfl) | exact oW | (apply And.intro)))
    refine ⟨[(0, .str s), (5, .sl 0 2 0 L.length), (6, .int .i64 ov), (7, .int .i64 (a : Int)), (8, .int .i64 ((n : Int) + 1)), (9, .int .i64 (i : Int)), (10, wA D.out), (11, .int .i64 (dwA D))],
      ⟨1, [(0, some (.recs 100 2 L.length (fun j => (L.getD j Ln.z).av)))]⟩, [some 0], ?_, ?_⟩
    · (repeat' (first | (refine And.intro ?_ ?_) | exact True.intro | (show _ = _; with_reducible rfl) | exact Chk.mk (by kernel_rfl)))
      all_goals first | rfl | exact hD3 | exact hD4 | (intro j hj; exact congrArg (fun D => AV.str (D.out.getD j [])) hD2) | (intro j hj; rfl)
    rcases hdoc with ⟨d1, d2, d3, d4⟩ | ⟨d1, d2⟩
    rotate_left
    · rw [if_pos (by rw [d2]; decide)] at g9
      have eb : R.bad = some (a + lnE (s.drop a)) := by rw [← g9]
      have eA : dwA D = (lnE (s.drop a) : Int) := by unfold dwA; rw [d1]
      have e1 : lsE s = 21 := by unfold lsE; rw [if_neg hl, hR, eb]
      have e2 : lsA s = (a : Int) + (lnE (s.drop a) : Int) := by unfold lsA; rw [if_neg hl, hR, eb]; rfl
      have e3 : lsL s = [] := if_neg (by rw [e1]; decide)
      have hle := lnV_le ((s.drop a).length + 1) (s.drop a)
      have hle : lnE (s.drop a) ≤ (s.drop a).length := hle
      rw [List.length_drop] at hle
      rw [e1, e2, e3, eA]
      clear e1 e2 e3 eA eb g9
      (repeat' (first | (refine xI (fun hfk => ?_) (fun hfk => ?_) <;> ((try (first | replace hfk := oT hfk | replace hfk := oF hfk | simp only [oD, ne_eq, reduceCtorEq] at hfk)); (try exact oX))) | (refine And.intro ?ob ?_; (case ob => (exact oZ))) | exact True.intro | (show _ = _; first | exact oY | (first | rfl | (intro j hj; exact absurd hj (Nat.not_lt_zero _)); done) | exact rfl) | exact oW | (apply And.intro)))
    · have eA : dwA D = -1 := by unfold dwA; rw [d1]
      rw [eA]
      rw [if_neg (fun k => k d2), d3, hae, d4] at g9
      have en : (n : Int) + 1 = ((n + 1 : Nat) : Int) := by omega
      have ei : (i : Int) + 1 = ((i + 1 : Nat) : Int) := by omega
      by_cases hw : D.out = []
      · have hw0 : D.out.length = 0 := by rw [hw]; rfl
        have c0 : lnC (s.drop a) = 0 := if_neg (fun k => k.2 (by rw [d4]; exact hw))
        rw [if_neg (by rw [c0]; decide)] at g9
        rcases Nat.lt_or_ge 4096 L.length with c4 | c4
        all_goals
          have o4 : (4096 < L.length → 0 ≤ ov) ∧ (L.length ≤ 4096 → ov < 0) := ⟨fun h => by have := g8 h; omega, fun h => by have := g7 h; omega⟩
          have o5 : 0 ≤ ov ∨ ov < 0 := by omega
          first
            | have o6 := o4.1 c4
            | have o6 := o4.2 c4
          clear o4 o5
          (repeat' (first | (refine xI (fun hfk => ?_) (fun hfk => ?_) <;> ((try (first | replace hfk := oT hfk | replace hfk := oF hfk | simp only [oD, ne_eq, reduceCtorEq] at hfk)); (try exact oX))) | (refine And.intro ?ob ?_; (case ob => (exact oZ))) | exact True.intro | (show _ = _; first | exact oY | exact rfl) | exact oW | (apply And.intro)))
          refine ⟨(q, i + 1, i + 1, n + 1, L, v, ov), [some 0], ⟨⟨Nat.le_refl _, b1, fun _ => rfl, b2, b3, by show L.length ≤ i + 1; omega⟩, fun j h1 h2 => absurd (Nat.lt_of_le_of_lt h1 h2) (Nat.lt_irrefl _), ⟨g7, g8⟩, g9⟩, ?mu, ?_⟩
          case mu => (show s.length + 1 - (i + 1) < s.length + 1 - i; omega)
          (repeat' (first | (refine And.intro ?_ ?_) | exact True.intro | (show _ = _; with_reducible rfl) | exact Chk.mk (by kernel_rfl)))
          all_goals first | rfl | exact en | exact ei | (intro j hj; rfl)
      · have hw0 : 0 < D.out.length := List.length_pos_iff.2 hw
        have c1 : lnC (s.drop a) = 1 := if_pos ⟨d2, by rw [d4]; exact hw⟩
        rw [if_pos c1] at g9
        obtain ⟨P, hP⟩ : ∃ P, L ++ [(((n + 1 : Nat) : Int), D.out)] = P := ⟨_, rfl⟩
        have lP : P.length = L.length + 1 := by rw [← hP, List.length_append]; rfl
        rw [hP] at g9
        have eP : ∀ {F : Nat → AV}, F 0 = .agg [.int .i64 ((n : Int) + 1), wA D.out] → ∀ j, j < P.length → (if j < L.length then (L.getD j Ln.z).av else F (j - L.length)) = (P.getD j Ln.z).av := fun {F} hF j hj => by
          rw [← hP]
          by_cases z : j < L.length
          · rw [if_pos z, lsnoc1 z]
          · rw [if_neg z, lsnoc2 (show j = L.length by omega), show j - L.length = 0 by omega, hF]
            rfl
        rcases Nat.lt_trichotomy L.length 4096 with c4 | c4 | c4
        · have o6 := g7 (by omega)
          rw [if_neg (by omega)] at g9
          have g7' : P.length ≤ 4096 → ov = -1 := fun _ => o6
          have g8' : 4096 < P.length → ov = v ∧ 0 ≤ v := fun h => by omega
          clear g7 g8
          (repeat' (first | (refine xI (fun hfk => ?_) (fun hfk => ?_) <;> ((try (first | replace hfk := oT hfk | replace hfk := oF hfk | simp only [oD, ne_eq, reduceCtorEq] at hfk)); (try exact oX))) | (refine And.intro ?ob ?_; (case ob => (exact oZ))) | exact True.intro | (show _ = _; first | exact oY | exact rfl) | exact oW | (apply And.intro)))
          refine ⟨(q, i + 1, i + 1, n + 1, P, v, ov), [some 2], ⟨⟨Nat.le_refl _, b1, fun _ => rfl, b2, b3, by show P.length ≤ i + 1; omega⟩, fun j h1 h2 => absurd (Nat.lt_of_le_of_lt h1 h2) (Nat.lt_irrefl _), ⟨g7', g8'⟩, g9⟩, ?mu, ?_⟩
          case mu => (show s.length + 1 - (i + 1) < s.length + 1 - i; omega)
          (repeat' (first | (refine And.intro ?_ ?_) | exact True.intro | (show _ = _; with_reducible rfl) | exact Chk.mk (by kernel_rfl)))
          all_goals first | rfl | exact en | exact ei | exact lP.symm | exact And.intro rfl lP.symm | exact eP (F := fun j => chunkA _ _ (0 + j)) rfl | (intro j hj; rfl)
        · have o6 := g7 (by omega)
          rw [if_pos c4] at g9
          have g7' : P.length ≤ 4096 → (a : Int) = -1 := fun h => by omega
          have g8' : 4096 < P.length → (a : Int) = (a : Int) ∧ 0 ≤ (a : Int) := fun h => ⟨rfl, by omega⟩
          clear g7 g8
          (repeat' (first | (refine xI (fun hfk => ?_) (fun hfk => ?_) <;> ((try (first | replace hfk := oT hfk | replace hfk := oF hfk | simp only [oD, ne_eq, reduceCtorEq] at hfk)); (try exact oX))) | (refine And.intro ?ob ?_; (case ob => (exact oZ))) | exact True.intro | (show _ = _; first | exact oY | exact rfl) | exact oW | (apply And.intro)))
          refine ⟨(q, i + 1, i + 1, n + 1, P, (a : Int), (a : Int)), [some 2], ⟨⟨Nat.le_refl _, b1, fun _ => rfl, b2, b3, by show P.length ≤ i + 1; omega⟩, fun j h1 h2 => absurd (Nat.lt_of_le_of_lt h1 h2) (Nat.lt_irrefl _), ⟨g7', g8'⟩, g9⟩, ?mu, ?_⟩
          case mu => (show s.length + 1 - (i + 1) < s.length + 1 - i; omega)
          (repeat' (first | (refine And.intro ?_ ?_) | exact True.intro | (show _ = _; with_reducible rfl) | exact Chk.mk (by kernel_rfl)))
          all_goals first | rfl | exact en | exact ei | exact lP.symm | exact And.intro rfl lP.symm | exact eP (F := fun j => chunkA _ _ (0 + j)) rfl | (intro j hj; rfl)
        · obtain ⟨o6, o7⟩ := g8 c4
          have o8 : 0 ≤ ov := by omega
          rw [if_neg (by omega)] at g9
          have g7' : P.length ≤ 4096 → ov = -1 := fun h => by omega
          have g8' : 4096 < P.length → ov = v ∧ 0 ≤ v := fun h => ⟨o6, o7⟩
          clear g7 g8
          (repeat' (first | (refine xI (fun hfk => ?_) (fun hfk => ?_) <;> ((try (first | replace hfk := oT hfk | replace hfk := oF hfk | simp only [oD, ne_eq, reduceCtorEq] at hfk)); (try exact oX))) | (refine And.intro ?ob ?_; (case ob => (exact oZ))) | exact True.intro | (show _ = _; first | exact oY | exact rfl) | exact oW | (apply And.intro)))
          refine ⟨(q, i + 1, i + 1, n + 1, P, v, ov), [some 2], ⟨⟨Nat.le_refl _, b1, fun _ => rfl, b2, b3, by show P.length ≤ i + 1; omega⟩, fun j h1 h2 => absurd (Nat.lt_of_le_of_lt h1 h2) (Nat.lt_irrefl _), ⟨g7', g8'⟩, g9⟩, ?mu, ?_⟩
          case mu => (show s.length + 1 - (i + 1) < s.length + 1 - i; omega)
          (repeat' (first | (refine And.intro ?_ ?_) | exact True.intro | (show _ = _; with_reducible rfl) | exact Chk.mk (by kernel_rfl)))
          all_goals first | rfl | exact en | exact ei | exact lP.symm | exact And.intro rfl lP.symm | exact eP (F := fun j => chunkA _ _ (0 + j)) rfl | (intro j hj; rfl)
end Go.Proofs.Ytgbekbofeaoniaa

