/- Texts laid together. No condition. -/
import Derived.Test.YtblloaajiaoblaaDoorE21
import Derived.Test.YtblloaajiaoblaaDoorU
import Derived.Test.YtblloaajiaoblaaDoorE22
import Derived.Lib.ParseIntBTie
import Derived.Lib.ItoaLen
import Derived.Lib.ItoaMem
import Derived.Test.YtblloaajiaoblaaDoorE20
import Derived.WalkKit
import Derived.Test.YtblloaajiaoblaaDoorA
import Derived.Test.YtblloaajiaoblaaDoorFi
import Derived.Test.YtblloaajiaoblaaDoorRows
import Derived.SizedLaws
namespace Go.Proofs.YtblloaajiaoblaaDoor
theorem oT {p : Prop} [Decidable p] (h : decide p = true) : p := of_decide_eq_true h
theorem oF {p : Prop} [Decidable p] (h : decide p = false) : ¬ p := of_decide_eq_false h
theorem oA {p : Prop} [Decidable p] : (decide p = true) = p := decide_eq_true_eq
theorem oB {p : Prop} [Decidable p] : decide p = false ↔ ¬ p := decide_eq_false_iff_not
theorem oD : (∀ (p : Prop) [Decidable p], (decide p = true) = p) ∧ (∀ (p : Prop) [Decidable p], decide p = false ↔ ¬ p) ∧ ((∀ b : Bool, ((!b) = true) = (b = false)) ∧ (∀ b : Bool, ((!b) = false) = (b = true)) ∧ (∀ a b : Bool, ((a && b) = true) = (a = true ∧ b = true)) ∧ (∀ a b : Bool, ((a || b) = true) = (a = true ∨ b = true)) ∧ (∀ a b : Bool, ((a && b) = false) = (a = false ∨ b = false)) ∧ (∀ a b : Bool, ((a || b) = false) = (a = false ∧ b = false)) ∧ (∀ a b : Int, (¬ a < b) = (b ≤ a)) ∧ (∀ a b : Int, (¬ a ≤ b) = (b < a))) ∧ ((∀ p : Prop, (¬ ¬ p) = p) ∧ (true = false) = False ∧ (false = true) = False ∧ (∀ p : Prop, (p ∨ False) = p) ∧ (∀ p : Prop, (False ∨ p) = p) ∧ (∀ p : Prop, (p ∧ True) = p) ∧ (∀ p : Prop, (True ∧ p) = p) ∧ (¬ True) = False ∧ (¬ False) = True) := ⟨fun _ _ => oA, fun _ _ => oB, dh1, dh0⟩
theorem xF {x : Bool} (h : x = true) (k : x = false) : False := Bool.noConfusion (Eq.trans (Eq.symm h) k)
theorem xI {x : Bool} {A B : Prop} (f : x = true → A) (g : x = false → B) : (x = true → A) ∧ (x = false → B) := ⟨f, g⟩
theorem xT {x : Bool} (h : x = false) (k : x = true) : False := Bool.noConfusion (Eq.trans (Eq.symm h) k)
theorem oZ {p : Prop} (h : p := by (first | exact Chk.mk (by kernel_rfl) | exact True.intro | with_reducible assumption | exact rng64 (by omega) (by omega) | omega | (dsimp only; omega) | (show (_ : Nat) ≤ _; omega) | (simp only [ll1, ll2, ll0]; first | done | omega) | (dsimp only; simp only [ll1, ll2, ll0]; omega))) : p := h
theorem oX (h : False := by first | omega | contradiction | exact xF hfk (by with_reducible assumption) | exact xT hfk (by with_reducible assumption)) {p : Prop} : p := h.elim
theorem oY {p : Prop} (h : p := by first | with_reducible rfl | with_reducible assumption | omega | (simp only [ll1, ll2, ll0]; omega)) : p := h
theorem oW {p : Prop} (h : p := by first | with_reducible assumption | omega | (intro j hj; exact rfl)) : p := h
end Go.Proofs.YtblloaajiaoblaaDoor
set_option maxRecDepth 100000
set_option maxHeartbeats 4000000
set_option linter.unusedVariables false
set_option linter.unusedSimpArgs false
namespace Go.Proofs.YtblloaajiaoblaaDoor
open Go Go.RowKit
def cntN (p : Int → Bool) : List UInt8 → Nat
  | [] => 0
  | c :: r => if p (c.toNat : Int) = true then cntN p r + 1 else 0
theorem cnt_le (p : Int → Bool) : ∀ l, cntN p l ≤ l.length
  | [] => Nat.le_refl _
  | c :: r => by
    have := cnt_le p r
    unfold cntN
    split
    · rw [List.length_cons]; omega
    · exact Nat.zero_le _
theorem cnt_in {p : Int → Bool} : ∀ {l : List UInt8} {t : Nat}, t < cntN p l → p ((l.getD t 0).toNat : Int) = true
  | [], t, h => by simp [cntN] at h
  | c :: r, t, h => by
    unfold cntN at h
    split at h
    · rename_i k
      cases t with
      | zero => exact k
      | succ t => exact cnt_in (l := r) (by omega)
    · omega
theorem cnt_out {p : Int → Bool} : ∀ {l : List UInt8}, cntN p l < l.length → p ((l.getD (cntN p l) 0).toNat : Int) = false
  | [], h => by simp [cntN] at h
  | c :: r, h => by
    by_cases k : p (c.toNat : Int) = true
    · have e : cntN p (c :: r) = cntN p r + 1 := if_pos k
      rw [e] at h ⊢
      exact cnt_out (l := r) (by simpa using h)
    · have e : cntN p (c :: r) = 0 := if_neg k
      rw [e]
      simpa using k
theorem sdrop_getD {s : List UInt8} {a t : Nat} : (s.drop a).getD t 0 = s.getD (a + t) 0 := by simp [List.getD, List.getElem?_drop]
def mkP (x : Int) : Bool := decide (33 ≤ x ∧ x ≤ 126 ∧ x ≠ 35)
def bwP (x : Int) : Bool := decide (x = 9 ∨ x = 13 ∨ x = 32)
def nlP (x : Int) : Bool := decide (x ≠ 10)
abbrev markS : PSpec := fun l => match l with | [.int .u8 x] => some ([], .bool (decide (33 ≤ x ∧ x ≤ 126 ∧ x ≠ 35))) | _ => none
theorem mark_s : SOK Tryd.prog 95 markS := by
  refine sok_of (C := mkC 0 [] noG) (mkC_ok pok_nil noG_ok) rfl mixed ⟨Tryd.func95, by kernel_rfl, by kernel_rfl, by kernel_rfl⟩ fun l obs v h ho => ?_
  (unfold markS at h; split at h; rotate_left; (focus (cases h)); rename_i x; simp only [Option.some.injEq, Prod.mk.injEq] at h; obtain ⟨rfl, rfl⟩ := h; simp only [List.mem_cons, List.not_mem_nil, or_false, forall_eq_or_imp, forall_eq, false_implies, implies_true] at ho)
  refine ⟨Nat.le_of_ble_eq_true rfl, ?_⟩
  by_cases k : 33 ≤ x ∧ x ≤ 126 ∧ x ≠ 35
  · rw [decide_eq_true k]
    have e : decide (x ≠ 35) = true := decide_eq_true k.2.2
    (repeat' (first | (refine xI (fun hfk => ?_) (fun hfk => ?_) <;> ((try (first | replace hfk := oT hfk | replace hfk := oF hfk | simp only [oD, ne_eq, reduceCtorEq] at hfk)); (try exact oX))) | (refine And.intro ?ob ?_; (case ob => (exact oZ))) | exact True.intro | (show _ = _; first | exact oY | (first | exact e | exact e.symm; done) | exact rfl) | exact oW | (apply And.intro)))
  · rw [decide_eq_false k]
    have e : 33 ≤ x → x ≤ 126 → decide (x ≠ 35) = false := fun p q => decide_eq_false (by omega)
    (repeat' (first | (refine xI (fun hfk => ?_) (fun hfk => ?_) <;> ((try (first | replace hfk := oT hfk | replace hfk := oF hfk | simp only [oD, ne_eq, reduceCtorEq] at hfk)); (try exact oX))) | (refine And.intro ?ob ?_; (case ob => (exact oZ))) | exact True.intro | (show _ = _; first | exact oY | (first | exact e (by omega) (by omega) | exact (e (by omega) (by omega)).symm; done) | exact rfl) | exact oW | (apply And.intro)))
abbrev wblankS : PSpec := fun l => match l with | [.int .u8 x] => some ([], .bool (decide (x = 9 ∨ x = 13 ∨ x = 32))) | _ => none
theorem wblank_s : SOK Tryd.prog 25 wblankS := by
  refine sok_of (C := mkC 0 [] noG) (mkC_ok pok_nil noG_ok) rfl mixed ⟨Tryd.func25, by kernel_rfl, by kernel_rfl, by kernel_rfl⟩ fun l obs v h ho => ?_
  (unfold wblankS at h; split at h; rotate_left; (focus (cases h)); rename_i x; simp only [Option.some.injEq, Prod.mk.injEq] at h; obtain ⟨rfl, rfl⟩ := h; simp only [List.mem_cons, List.not_mem_nil, or_false, forall_eq_or_imp, forall_eq, false_implies, implies_true] at ho)
  refine ⟨Nat.le_of_ble_eq_true rfl, ?_⟩
  by_cases k : x = 9 ∨ x = 13 ∨ x = 32
  · rw [decide_eq_true k]
    have e : x ≠ 9 → x ≠ 13 → decide (x = 32) = true := fun p q => decide_eq_true (by omega)
    (repeat' (first | (refine xI (fun hfk => ?_) (fun hfk => ?_) <;> ((try (first | replace hfk := oT hfk | replace hfk := oF hfk | simp only [oD, ne_eq, reduceCtorEq] at hfk)); (try exact oX))) | (refine And.intro ?ob ?_; (case ob => (exact oZ))) | exact True.intro | (show _ = _; first | exact oY | (first | exact e (by omega) (by omega) | exact (e (by omega) (by omega)).symm; done) | exact rfl) | exact oW | (apply And.intro)))
  · rw [decide_eq_false k]
    have e : decide (x = 32) = false := decide_eq_false (by omega)
    (repeat' (first | (refine xI (fun hfk => ?_) (fun hfk => ?_) <;> ((try (first | replace hfk := oT hfk | replace hfk := oF hfk | simp only [oD, ne_eq, reduceCtorEq] at hfk)); (try exact oX))) | (refine And.intro ?ob ?_; (case ob => (exact oZ))) | exact True.intro | (show _ = _; first | exact oY | (first | exact e | exact e.symm; done) | exact rfl) | exact oW | (apply And.intro)))
def bkN (l : List UInt8) : Nat := if (l.drop (cntN bwP l)).length ≠ 0 ∧ ((l.drop (cntN bwP l)).getD 0 0).toNat = 35 then cntN bwP l + cntN nlP (l.drop (cntN bwP l)) else cntN bwP l
theorem bkN_le (l : List UInt8) : bkN l ≤ l.length := by
  have h1 := cnt_le bwP l
  have h2 := cnt_le nlP (l.drop (cntN bwP l))
  rw [List.length_drop] at h2
  unfold bkN
  split <;> omega
def mrkN (l : List UInt8) : Nat := cntN mkP l
def wordF : FSpec := fun l es => match l, es with
  | [.ptr 0 0], [.cells 103 [.str s, .int .i64 a, .int .i64 n, .nils, .int .i64 v]] =>
    some ([0 ≤ a, a ≤ s.length, s.length ≤ 100000], .str ((s.drop a.toNat).take (mrkN (s.drop a.toNat))), [some (.cells 103 [.str s, .int .i64 (a + (mrkN (s.drop a.toNat) : Int)), .int .i64 n, .nils, .int .i64 v])])
  | [.ptr 0 0], [.cells 103 [.str s, .int .i64 a, .int .i64 n, .sl 1 2 0 k, .int .i64 v], .recs 46 2 m f] =>
    some ([0 ≤ a, a ≤ s.length, s.length ≤ 100000], .str ((s.drop a.toNat).take (mrkN (s.drop a.toNat))), [some (.cells 103 [.str s, .int .i64 (a + (mrkN (s.drop a.toNat) : Int)), .int .i64 n, .sl 1 2 0 k, .int .i64 v]), some (.recs 46 2 m f)])
  | _, _ => none
theorem word_g : GSOK Tryd.prog 85 (fG wordF) := by
  refine fok (S := [(95, markS)]) (G := noG) (pok_cons mark_s pok_nil) noG_ok ⟨Tryd.func85, by kernel_rfl, by kernel_rfl, by kernel_rfl⟩ fun l es obs v es' h ho => ?_
  unfold wordF at h
  split at h
  · rename_i s a n v
    simp only [Option.some.injEq, Prod.mk.injEq] at h
    obtain ⟨rfl, rfl, rfl⟩ := h
    simp only [List.mem_cons, List.not_mem_nil, or_false, forall_eq_or_imp, forall_eq] at ho
    obtain ⟨ho1, ho2, ho3⟩ := ho
    refine ⟨Nat.le_of_ble_eq_true rfl, ?_⟩
    obtain ⟨A, rfl⟩ := Int.eq_ofNat_of_zero_le ho1
    have hA : A ≤ s.length := by omega
    obtain ⟨M, hM⟩ : ∃ M, mrkN (s.drop A) = M := ⟨_, rfl⟩
    have hMl := cnt_le mkP (s.drop A)
    rw [List.length_drop] at hMl
    have hM2 : mrkN (s.drop A) = cntN mkP (s.drop A) := rfl
    rw [Int.toNat_natCast, hM]
    (repeat' (first | (refine xI (fun hfk => ?_) (fun hfk => ?_) <;> ((try (first | replace hfk := oT hfk | replace hfk := oF hfk | simp only [oD, ne_eq, reduceCtorEq] at hfk)); (try exact oX))) | (refine And.intro ?ob ?_; (case ob => (exact oZ))) | exact True.intro | (show _ = _; first | exact oY | exact rfl) | exact oW | (apply And.intro)))
    refine ⟨Nat, fun t => [(0, .ptr 0 0), (2, .str ((ByteArray.mk #[]).data.toList)), (3, .int .i64 (A : Int))],
      fun t => ⟨1, [(0, some (.cells 103 [.str s, .int .i64 ((A + t : Nat) : Int), .int .i64 n, .nils, .int .i64 v]))]⟩,
      fun t => t ≤ M, fun t => M - t, ⟨0, [some 0], Nat.zero_le _, ?_⟩, fun t ht => ?_⟩
    · (repeat' (first | (refine And.intro ?_ ?_) | exact True.intro | (show _ = _; with_reducible rfl) | exact Chk.mk (by kernel_rfl)))
      all_goals first | rfl | (intro j hj; rfl) | (show (_ : Int) = _; omega)
    have ht : t ≤ M := ht
    have g1 : s.getD ((A + t : Nat) : Int).toNat 0 = (s.drop A).getD t 0 := by rw [sdrop_getD]; rfl
    have rt : rngI .i64 (((A + t : Nat) : Int) + 1) := rng64 (by omega) (by omega)
    by_cases hlt : t < M
    · have hm : mkP (((s.drop A).getD t 0).toNat : Int) = true := cnt_in (by omega)
      have hm := of_decide_eq_true hm
      rw [← g1] at hm
      (repeat' (first | (refine xI (fun hfk => ?_) (fun hfk => ?_) <;> ((try (first | replace hfk := oT hfk | replace hfk := oF hfk | simp only [oD, ne_eq, reduceCtorEq] at hfk)); (try exact oX))) | (refine And.intro ?ob ?_; (case ob => (exact oZ))) | exact True.intro | (show _ = _; first | exact oY | exact rfl) | exact oW | (apply And.intro)))
      refine ⟨t + 1, [some 0], hlt, ?mu, ?_⟩
      case mu => (show M - (t + 1) < M - t; omega)
      (repeat' (first | (refine And.intro ?_ ?_) | exact True.intro | (show _ = _; with_reducible rfl) | exact Chk.mk (by kernel_rfl)))
      all_goals first | rfl | (intro j hj; rfl) | (show (_ : Int) = _; omega)
    · obtain rfl : t = M := by omega
      have hm : A + t < s.length → ¬ (33 ≤ ((s.getD ((A + t : Nat) : Int).toNat 0).toNat : Int) ∧ ((s.getD ((A + t : Nat) : Int).toNat 0).toNat : Int) ≤ 126 ∧ ((s.getD ((A + t : Nat) : Int).toNat 0).toNat : Int) ≠ 35) := fun hl => by
        have := cnt_out (p := mkP) (l := s.drop A) (by rw [List.length_drop]; omega)
        rw [← hM2, hM, ← g1] at this
        exact of_decide_eq_false this
      have e1 : List.drop (A : Int).toNat (List.take ((A + t : Nat) : Int).toNat s) = List.take t (List.drop A s) := by
        rw [Int.toNat_natCast, Int.toNat_natCast, List.drop_take, Nat.add_sub_cancel_left]
      by_cases hl : A + t < s.length
      · have hm := hm hl
        (repeat' (first | (refine xI (fun hfk => ?_) (fun hfk => ?_) <;> ((try (first | replace hfk := oT hfk | replace hfk := oF hfk | simp only [oD, ne_eq, reduceCtorEq] at hfk)); (try exact oX))) | (refine And.intro ?ob ?_; (case ob => (exact oZ))) | exact True.intro | (show _ = _; first | exact oY | (first | exact e1 | rfl; done) | exact rfl) | exact oW | (apply And.intro)))
        refine ⟨[some 0], ?_⟩
        (repeat' (first | (refine xI (fun hfk => ?_) (fun hfk => ?_) <;> ((try (first | replace hfk := oT hfk | replace hfk := oF hfk | simp only [oD, ne_eq, reduceCtorEq] at hfk)); (try exact oX))) | (refine And.intro ?ob ?_; (case ob => (exact oZ))) | exact True.intro | (show _ = _; first | exact oY | (first | rfl | (intro j hj; rfl) | (show (_ : Int) = _; omega); done) | exact rfl) | exact oW | (apply And.intro)))
      · clear hm
        (repeat' (first | (refine xI (fun hfk => ?_) (fun hfk => ?_) <;> ((try (first | replace hfk := oT hfk | replace hfk := oF hfk | simp only [oD, ne_eq, reduceCtorEq] at hfk)); (try exact oX))) | (refine And.intro ?ob ?_; (case ob => (exact oZ))) | exact True.intro | (show _ = _; first | exact oY | (first | exact e1 | rfl; done) | exact rfl) | exact oW | (apply And.intro)))
        refine ⟨[some 0], ?_⟩
        (repeat' (first | (refine xI (fun hfk => ?_) (fun hfk => ?_) <;> ((try (first | replace hfk := oT hfk | replace hfk := oF hfk | simp only [oD, ne_eq, reduceCtorEq] at hfk)); (try exact oX))) | (refine And.intro ?ob ?_; (case ob => (exact oZ))) | exact True.intro | (show _ = _; first | exact oY | (first | rfl | (intro j hj; rfl) | (show (_ : Int) = _; omega); done) | exact rfl) | exact oW | (apply And.intro)))
  · rename_i s a n k v m f
    simp only [Option.some.injEq, Prod.mk.injEq] at h
    obtain ⟨rfl, rfl, rfl⟩ := h
    simp only [List.mem_cons, List.not_mem_nil, or_false, forall_eq_or_imp, forall_eq] at ho
    obtain ⟨ho1, ho2, ho3⟩ := ho
    refine ⟨Nat.le_of_ble_eq_true rfl, ?_⟩
    obtain ⟨A, rfl⟩ := Int.eq_ofNat_of_zero_le ho1
    have hA : A ≤ s.length := by omega
    obtain ⟨M, hM⟩ : ∃ M, mrkN (s.drop A) = M := ⟨_, rfl⟩
    have hMl := cnt_le mkP (s.drop A)
    rw [List.length_drop] at hMl
    have hM2 : mrkN (s.drop A) = cntN mkP (s.drop A) := rfl
    rw [Int.toNat_natCast, hM]
    (repeat' (first | (refine xI (fun hfk => ?_) (fun hfk => ?_) <;> ((try (first | replace hfk := oT hfk | replace hfk := oF hfk | simp only [oD, ne_eq, reduceCtorEq] at hfk)); (try exact oX))) | (refine And.intro ?ob ?_; (case ob => (exact oZ))) | exact True.intro | (show _ = _; first | exact oY | exact rfl) | exact oW | (apply And.intro)))
    refine ⟨Nat, fun t => [(0, .ptr 0 0), (2, .str ((ByteArray.mk #[]).data.toList)), (3, .int .i64 (A : Int))],
      fun t => ⟨2, [(0, some (.cells 103 [.str s, .int .i64 ((A + t : Nat) : Int), .int .i64 n, .sl 1 2 0 k, .int .i64 v])), (1, some (.recs 46 2 m f))]⟩,
      fun t => t ≤ M, fun t => M - t, ⟨0, [some 0, some 1], Nat.zero_le _, ?_⟩, fun t ht => ?_⟩
    · (repeat' (first | (refine And.intro ?_ ?_) | exact True.intro | (show _ = _; with_reducible rfl) | exact Chk.mk (by kernel_rfl)))
      all_goals first | rfl | (intro j hj; rfl) | (show (_ : Int) = _; omega)
    have ht : t ≤ M := ht
    have g1 : s.getD ((A + t : Nat) : Int).toNat 0 = (s.drop A).getD t 0 := by rw [sdrop_getD]; rfl
    have rt : rngI .i64 (((A + t : Nat) : Int) + 1) := rng64 (by omega) (by omega)
    by_cases hlt : t < M
    · have hm : mkP (((s.drop A).getD t 0).toNat : Int) = true := cnt_in (by omega)
      have hm := of_decide_eq_true hm
      rw [← g1] at hm
      (repeat' (first | (refine xI (fun hfk => ?_) (fun hfk => ?_) <;> ((try (first | replace hfk := oT hfk | replace hfk := oF hfk | simp only [oD, ne_eq, reduceCtorEq] at hfk)); (try exact oX))) | (refine And.intro ?ob ?_; (case ob => (exact oZ))) | exact True.intro | (show _ = _; first | exact oY | exact rfl) | exact oW | (apply And.intro)))
      refine ⟨t + 1, [some 0, some 1], hlt, ?mu, ?_⟩
      case mu => (show M - (t + 1) < M - t; omega)
      (repeat' (first | (refine And.intro ?_ ?_) | exact True.intro | (show _ = _; with_reducible rfl) | exact Chk.mk (by kernel_rfl)))
      all_goals first | rfl | (intro j hj; rfl) | (show (_ : Int) = _; omega)
    · obtain rfl : t = M := by omega
      have hm : A + t < s.length → ¬ (33 ≤ ((s.getD ((A + t : Nat) : Int).toNat 0).toNat : Int) ∧ ((s.getD ((A + t : Nat) : Int).toNat 0).toNat : Int) ≤ 126 ∧ ((s.getD ((A + t : Nat) : Int).toNat 0).toNat : Int) ≠ 35) := fun hl => by
        have := cnt_out (p := mkP) (l := s.drop A) (by rw [List.length_drop]; omega)
        rw [← hM2, hM, ← g1] at this
        exact of_decide_eq_false this
      have e1 : List.drop (A : Int).toNat (List.take ((A + t : Nat) : Int).toNat s) = List.take t (List.drop A s) := by
        rw [Int.toNat_natCast, Int.toNat_natCast, List.drop_take, Nat.add_sub_cancel_left]
      by_cases hl : A + t < s.length
      · have hm := hm hl
        (repeat' (first | (refine xI (fun hfk => ?_) (fun hfk => ?_) <;> ((try (first | replace hfk := oT hfk | replace hfk := oF hfk | simp only [oD, ne_eq, reduceCtorEq] at hfk)); (try exact oX))) | (refine And.intro ?ob ?_; (case ob => (exact oZ))) | exact True.intro | (show _ = _; first | exact oY | (first | exact e1 | rfl; done) | exact rfl) | exact oW | (apply And.intro)))
        refine ⟨[some 0, some 1], ?_⟩
        (repeat' (first | (refine xI (fun hfk => ?_) (fun hfk => ?_) <;> ((try (first | replace hfk := oT hfk | replace hfk := oF hfk | simp only [oD, ne_eq, reduceCtorEq] at hfk)); (try exact oX))) | (refine And.intro ?ob ?_; (case ob => (exact oZ))) | exact True.intro | (show _ = _; first | exact oY | (first | rfl | (intro j hj; rfl) | (show (_ : Int) = _; omega); done) | exact rfl) | exact oW | (apply And.intro)))
      · clear hm
        (repeat' (first | (refine xI (fun hfk => ?_) (fun hfk => ?_) <;> ((try (first | replace hfk := oT hfk | replace hfk := oF hfk | simp only [oD, ne_eq, reduceCtorEq] at hfk)); (try exact oX))) | (refine And.intro ?ob ?_; (case ob => (exact oZ))) | exact True.intro | (show _ = _; first | exact oY | (first | exact e1 | rfl; done) | exact rfl) | exact oW | (apply And.intro)))
        refine ⟨[some 0, some 1], ?_⟩
        (repeat' (first | (refine xI (fun hfk => ?_) (fun hfk => ?_) <;> ((try (first | replace hfk := oT hfk | replace hfk := oF hfk | simp only [oD, ne_eq, reduceCtorEq] at hfk)); (try exact oX))) | (refine And.intro ?ob ?_; (case ob => (exact oZ))) | exact True.intro | (show _ = _; first | exact oY | (first | rfl | (intro j hj; rfl) | (show (_ : Int) = _; omega); done) | exact rfl) | exact oW | (apply And.intro)))
  · cases h
def blanksF : FSpec := fun l es => match l, es with
  | [.ptr 0 0], [.cells 103 [.str s, .int .i64 a, .int .i64 n, .nils, .int .i64 v]] =>
    some ([0 ≤ a, a ≤ s.length, s.length ≤ 100000], .tup [], [some (.cells 103 [.str s, .int .i64 (a + (bkN (s.drop a.toNat) : Int)), .int .i64 n, .nils, .int .i64 v])])
  | [.ptr 0 0], [.cells 103 [.str s, .int .i64 a, .int .i64 n, .sl 1 2 0 k, .int .i64 v], .recs 46 2 m f] =>
    some ([0 ≤ a, a ≤ s.length, s.length ≤ 100000], .tup [], [some (.cells 103 [.str s, .int .i64 (a + (bkN (s.drop a.toNat) : Int)), .int .i64 n, .sl 1 2 0 k, .int .i64 v]), some (.recs 46 2 m f)])
  | _, _ => none
theorem blanks_g : GSOK Tryd.prog 84 (fG blanksF) := by
  refine fok (S := [(25, wblankS)]) (G := noG) (pok_cons wblank_s pok_nil) noG_ok ⟨Tryd.func84, by kernel_rfl, by kernel_rfl, by kernel_rfl⟩ fun l es obs v es' h ho => ?_
  unfold blanksF at h
  split at h
  · rename_i s a n v
    simp only [Option.some.injEq, Prod.mk.injEq] at h
    obtain ⟨rfl, rfl, rfl⟩ := h
    simp only [List.mem_cons, List.not_mem_nil, or_false, forall_eq_or_imp, forall_eq] at ho
    obtain ⟨ho1, ho2, ho3⟩ := ho
    refine ⟨Nat.le_of_ble_eq_true rfl, ?_⟩
    obtain ⟨A, rfl⟩ := Int.eq_ofNat_of_zero_le ho1
    have hA : A ≤ s.length := by omega
    obtain ⟨M, hM⟩ : ∃ M, cntN bwP (s.drop A) = M := ⟨_, rfl⟩
    have hMl := cnt_le bwP (s.drop A)
    rw [List.length_drop] at hMl
    rw [Int.toNat_natCast]
    (repeat' (first | (refine xI (fun hfk => ?_) (fun hfk => ?_) <;> ((try (first | replace hfk := oT hfk | replace hfk := oF hfk | simp only [oD, ne_eq, reduceCtorEq] at hfk)); (try exact oX))) | (refine And.intro ?ob ?_; (case ob => (exact oZ))) | exact True.intro | (show _ = _; first | exact oY | exact rfl) | exact oW | (apply And.intro)))
    refine ⟨Nat, fun t => [(0, .ptr 0 0)], fun t => ⟨1, [(0, some (.cells 103 [.str s, .int .i64 ((A + t : Nat) : Int), .int .i64 n, .nils, .int .i64 v]))]⟩,
      fun t => t ≤ M, fun t => M - t, ⟨0, [some 0], Nat.zero_le _, ?_⟩, fun t ht => ?_⟩
    · (repeat' (first | (refine And.intro ?_ ?_) | exact True.intro | (show _ = _; with_reducible rfl) | exact Chk.mk (by kernel_rfl)))
      all_goals first | rfl | (intro j hj; rfl) | (show (_ : Int) = _; omega)
    have ht : t ≤ M := ht
    have g1 : s.getD ((A + t : Nat) : Int).toNat 0 = (s.drop A).getD t 0 := by rw [sdrop_getD]; rfl
    have rt : rngI .i64 (((A + t : Nat) : Int) + 1) := rng64 (by omega) (by omega)
    by_cases hlt : t < M
    · have hm : bwP (((s.drop A).getD t 0).toNat : Int) = true := cnt_in (by omega)
      have hm := of_decide_eq_true hm
      rw [← g1] at hm
      (repeat' (first | (refine xI (fun hfk => ?_) (fun hfk => ?_) <;> ((try (first | replace hfk := oT hfk | replace hfk := oF hfk | simp only [oD, ne_eq, reduceCtorEq] at hfk)); (try exact oX))) | (refine And.intro ?ob ?_; (case ob => (exact oZ))) | exact True.intro | (show _ = _; first | exact oY | exact rfl) | exact oW | (apply And.intro)))
      refine ⟨t + 1, [some 0], hlt, ?mu, ?_⟩
      case mu => (show M - (t + 1) < M - t; omega)
      (repeat' (first | (refine And.intro ?_ ?_) | exact True.intro | (show _ = _; with_reducible rfl) | exact Chk.mk (by kernel_rfl)))
      all_goals first | rfl | (intro j hj; rfl) | (show (_ : Int) = _; omega)
    · obtain rfl : t = M := by omega
      have hdd : (s.drop A).drop t = s.drop (A + t) := by rw [List.drop_drop]
      by_cases hl : A + t < s.length
      · have hm := cnt_out (p := bwP) (l := s.drop A) (by rw [List.length_drop]; omega)
        rw [hM, ← g1] at hm
        have hm := of_decide_eq_false hm
        have hg2 : (s.drop (A + t)).getD 0 0 = s.getD ((A + t : Nat) : Int).toNat 0 := by rw [sdrop_getD]; rfl
        by_cases h35 : (s.getD ((A + t : Nat) : Int).toNat 0).toNat = 35
        · skip
          have eb : bkN (s.drop A) = t + cntN nlP (s.drop (A + t)) := by
            unfold bkN
            rw [hM, hdd, if_pos ⟨by rw [List.length_drop]; omega, by rw [hg2]; exact h35⟩]
          obtain ⟨K, hK⟩ : ∃ K, cntN nlP (s.drop (A + t)) = K := ⟨_, rfl⟩
          have hKl := cnt_le nlP (s.drop (A + t))
          rw [List.length_drop] at hKl
          rw [eb, hK]
          clear rt
          (repeat' (first | (refine xI (fun hfk => ?_) (fun hfk => ?_) <;> ((try (first | replace hfk := oT hfk | replace hfk := oF hfk | simp only [oD, ne_eq, reduceCtorEq] at hfk)); (try exact oX))) | (refine And.intro ?ob ?_; (case ob => (exact oZ))) | exact True.intro | (show _ = _; first | exact oY | exact rfl) | exact oW | (apply And.intro)))
          refine ⟨Nat, fun t2 => [(0, .ptr 0 0)], fun t2 => ⟨1, [(0, some (.cells 103 [.str s, .int .i64 ((A + t + t2 : Nat) : Int), .int .i64 n, .nils, .int .i64 v]))]⟩,
            fun t2 => t2 ≤ K, fun t2 => K - t2, ⟨0, [some 0], Nat.zero_le _, ?_⟩, fun t2 ht2 => ?_⟩
          · (repeat' (first | (refine And.intro ?_ ?_) | exact True.intro | (show _ = _; with_reducible rfl) | exact Chk.mk (by kernel_rfl)))
            all_goals first | rfl | (intro j hj; rfl) | (show (_ : Int) = _; omega)
          have ht2 : t2 ≤ K := ht2
          have g2 : s.getD ((A + t + t2 : Nat) : Int).toNat 0 = (s.drop (A + t)).getD t2 0 := by rw [sdrop_getD]; rfl
          have rt2 : rngI .i64 (((A + t + t2 : Nat) : Int) + 1) := rng64 (by omega) (by omega)
          clear hm h35 hg2
          by_cases hlt2 : t2 < K
          · have hm2 : nlP (((s.drop (A + t)).getD t2 0).toNat : Int) = true := cnt_in (by omega)
            have hm2 := of_decide_eq_true hm2
            rw [← g2] at hm2
            (repeat' (first | (refine xI (fun hfk => ?_) (fun hfk => ?_) <;> ((try (first | replace hfk := oT hfk | replace hfk := oF hfk | simp only [oD, ne_eq, reduceCtorEq] at hfk)); (try exact oX))) | (refine And.intro ?ob ?_; (case ob => (exact oZ))) | exact True.intro | (show _ = _; first | exact oY | exact rfl) | exact oW | (apply And.intro)))
            refine ⟨t2 + 1, [some 0], hlt2, ?mu2, ?_⟩
            case mu2 => (show K - (t2 + 1) < K - t2; omega)
            (repeat' (first | (refine And.intro ?_ ?_) | exact True.intro | (show _ = _; with_reducible rfl) | exact Chk.mk (by kernel_rfl)))
            all_goals first | rfl | (intro j hj; rfl) | (show (_ : Int) = _; omega)
          · obtain rfl : t2 = K := by omega
            by_cases hl2 : A + t + t2 < s.length
            · have hm2 := cnt_out (p := nlP) (l := s.drop (A + t)) (by rw [List.length_drop]; omega)
              rw [hK, ← g2] at hm2
              have hm2 := of_decide_eq_false hm2
              (repeat' (first | (refine xI (fun hfk => ?_) (fun hfk => ?_) <;> ((try (first | replace hfk := oT hfk | replace hfk := oF hfk | simp only [oD, ne_eq, reduceCtorEq] at hfk)); (try exact oX))) | (refine And.intro ?ob ?_; (case ob => (exact oZ))) | exact True.intro | (show _ = _; first | exact oY | exact rfl) | exact oW | (apply And.intro)))
              refine ⟨[some 0], ?_⟩
              (repeat' (first | (refine xI (fun hfk => ?_) (fun hfk => ?_) <;> ((try (first | replace hfk := oT hfk | replace hfk := oF hfk | simp only [oD, ne_eq, reduceCtorEq] at hfk)); (try exact oX))) | (refine And.intro ?ob ?_; (case ob => (exact oZ))) | exact True.intro | (show _ = _; first | exact oY | (first | rfl | (intro j hj; rfl) | (show (_ : Int) = _; omega); done) | exact rfl) | exact oW | (apply And.intro)))
            · (repeat' (first | (refine xI (fun hfk => ?_) (fun hfk => ?_) <;> ((try (first | replace hfk := oT hfk | replace hfk := oF hfk | simp only [oD, ne_eq, reduceCtorEq] at hfk)); (try exact oX))) | (refine And.intro ?ob ?_; (case ob => (exact oZ))) | exact True.intro | (show _ = _; first | exact oY | exact rfl) | exact oW | (apply And.intro)))
              refine ⟨[some 0], ?_⟩
              (repeat' (first | (refine xI (fun hfk => ?_) (fun hfk => ?_) <;> ((try (first | replace hfk := oT hfk | replace hfk := oF hfk | simp only [oD, ne_eq, reduceCtorEq] at hfk)); (try exact oX))) | (refine And.intro ?ob ?_; (case ob => (exact oZ))) | exact True.intro | (show _ = _; first | exact oY | (first | rfl | (intro j hj; rfl) | (show (_ : Int) = _; omega); done) | exact rfl) | exact oW | (apply And.intro)))
        · have eb : bkN (s.drop A) = t := by
            unfold bkN
            rw [hM, hdd, if_neg (fun q => h35 (by rw [← hg2]; exact q.2))]
          rw [eb]
          (repeat' (first | (refine xI (fun hfk => ?_) (fun hfk => ?_) <;> ((try (first | replace hfk := oT hfk | replace hfk := oF hfk | simp only [oD, ne_eq, reduceCtorEq] at hfk)); (try exact oX))) | (refine And.intro ?ob ?_; (case ob => (exact oZ))) | exact True.intro | (show _ = _; first | exact oY | exact rfl) | exact oW | (apply And.intro)))
          refine ⟨[some 0], ?_⟩
          (repeat' (first | (refine xI (fun hfk => ?_) (fun hfk => ?_) <;> ((try (first | replace hfk := oT hfk | replace hfk := oF hfk | simp only [oD, ne_eq, reduceCtorEq] at hfk)); (try exact oX))) | (refine And.intro ?ob ?_; (case ob => (exact oZ))) | exact True.intro | (show _ = _; first | exact oY | (first | rfl | (intro j hj; rfl) | (show (_ : Int) = _; omega); done) | exact rfl) | exact oW | (apply And.intro)))
      · have eb : bkN (s.drop A) = t := by
          unfold bkN
          rw [hM, hdd, if_neg (fun q => q.1 (by rw [List.length_drop]; omega))]
        rw [eb]
        (repeat' (first | (refine xI (fun hfk => ?_) (fun hfk => ?_) <;> ((try (first | replace hfk := oT hfk | replace hfk := oF hfk | simp only [oD, ne_eq, reduceCtorEq] at hfk)); (try exact oX))) | (refine And.intro ?ob ?_; (case ob => (exact oZ))) | exact True.intro | (show _ = _; first | exact oY | exact rfl) | exact oW | (apply And.intro)))
        refine ⟨[some 0], ?_⟩
        (repeat' (first | (refine xI (fun hfk => ?_) (fun hfk => ?_) <;> ((try (first | replace hfk := oT hfk | replace hfk := oF hfk | simp only [oD, ne_eq, reduceCtorEq] at hfk)); (try exact oX))) | (refine And.intro ?ob ?_; (case ob => (exact oZ))) | exact True.intro | (show _ = _; first | exact oY | (first | rfl | (intro j hj; rfl) | (show (_ : Int) = _; omega); done) | exact rfl) | exact oW | (apply And.intro)))
  · rename_i s a n k v m f
    simp only [Option.some.injEq, Prod.mk.injEq] at h
    obtain ⟨rfl, rfl, rfl⟩ := h
    simp only [List.mem_cons, List.not_mem_nil, or_false, forall_eq_or_imp, forall_eq] at ho
    obtain ⟨ho1, ho2, ho3⟩ := ho
    refine ⟨Nat.le_of_ble_eq_true rfl, ?_⟩
    obtain ⟨A, rfl⟩ := Int.eq_ofNat_of_zero_le ho1
    have hA : A ≤ s.length := by omega
    obtain ⟨M, hM⟩ : ∃ M, cntN bwP (s.drop A) = M := ⟨_, rfl⟩
    have hMl := cnt_le bwP (s.drop A)
    rw [List.length_drop] at hMl
    rw [Int.toNat_natCast]
    (repeat' (first | (refine xI (fun hfk => ?_) (fun hfk => ?_) <;> ((try (first | replace hfk := oT hfk | replace hfk := oF hfk | simp only [oD, ne_eq, reduceCtorEq] at hfk)); (try exact oX))) | (refine And.intro ?ob ?_; (case ob => (exact oZ))) | exact True.intro | (show _ = _; first | exact oY | exact rfl) | exact oW | (apply And.intro)))
    refine ⟨Nat, fun t => [(0, .ptr 0 0)], fun t => ⟨2, [(0, some (.cells 103 [.str s, .int .i64 ((A + t : Nat) : Int), .int .i64 n, .sl 1 2 0 k, .int .i64 v])), (1, some (.recs 46 2 m f))]⟩,
      fun t => t ≤ M, fun t => M - t, ⟨0, [some 0, some 1], Nat.zero_le _, ?_⟩, fun t ht => ?_⟩
    · (repeat' (first | (refine And.intro ?_ ?_) | exact True.intro | (show _ = _; with_reducible rfl) | exact Chk.mk (by kernel_rfl)))
      all_goals first | rfl | (intro j hj; rfl) | (show (_ : Int) = _; omega)
    have ht : t ≤ M := ht
    have g1 : s.getD ((A + t : Nat) : Int).toNat 0 = (s.drop A).getD t 0 := by rw [sdrop_getD]; rfl
    have rt : rngI .i64 (((A + t : Nat) : Int) + 1) := rng64 (by omega) (by omega)
    by_cases hlt : t < M
    · have hm : bwP (((s.drop A).getD t 0).toNat : Int) = true := cnt_in (by omega)
      have hm := of_decide_eq_true hm
      rw [← g1] at hm
      (repeat' (first | (refine xI (fun hfk => ?_) (fun hfk => ?_) <;> ((try (first | replace hfk := oT hfk | replace hfk := oF hfk | simp only [oD, ne_eq, reduceCtorEq] at hfk)); (try exact oX))) | (refine And.intro ?ob ?_; (case ob => (exact oZ))) | exact True.intro | (show _ = _; first | exact oY | exact rfl) | exact oW | (apply And.intro)))
      refine ⟨t + 1, [some 0, some 1], hlt, ?mu, ?_⟩
      case mu => (show M - (t + 1) < M - t; omega)
      (repeat' (first | (refine And.intro ?_ ?_) | exact True.intro | (show _ = _; with_reducible rfl) | exact Chk.mk (by kernel_rfl)))
      all_goals first | rfl | (intro j hj; rfl) | (show (_ : Int) = _; omega)
    · obtain rfl : t = M := by omega
      have hdd : (s.drop A).drop t = s.drop (A + t) := by rw [List.drop_drop]
      by_cases hl : A + t < s.length
      · have hm := cnt_out (p := bwP) (l := s.drop A) (by rw [List.length_drop]; omega)
        rw [hM, ← g1] at hm
        have hm := of_decide_eq_false hm
        have hg2 : (s.drop (A + t)).getD 0 0 = s.getD ((A + t : Nat) : Int).toNat 0 := by rw [sdrop_getD]; rfl
        by_cases h35 : (s.getD ((A + t : Nat) : Int).toNat 0).toNat = 35
        · skip
          have eb : bkN (s.drop A) = t + cntN nlP (s.drop (A + t)) := by
            unfold bkN
            rw [hM, hdd, if_pos ⟨by rw [List.length_drop]; omega, by rw [hg2]; exact h35⟩]
          obtain ⟨K, hK⟩ : ∃ K, cntN nlP (s.drop (A + t)) = K := ⟨_, rfl⟩
          have hKl := cnt_le nlP (s.drop (A + t))
          rw [List.length_drop] at hKl
          rw [eb, hK]
          clear rt
          (repeat' (first | (refine xI (fun hfk => ?_) (fun hfk => ?_) <;> ((try (first | replace hfk := oT hfk | replace hfk := oF hfk | simp only [oD, ne_eq, reduceCtorEq] at hfk)); (try exact oX))) | (refine And.intro ?ob ?_; (case ob => (exact oZ))) | exact True.intro | (show _ = _; first | exact oY | exact rfl) | exact oW | (apply And.intro)))
          refine ⟨Nat, fun t2 => [(0, .ptr 0 0)], fun t2 => ⟨2, [(0, some (.cells 103 [.str s, .int .i64 ((A + t + t2 : Nat) : Int), .int .i64 n, .sl 1 2 0 k, .int .i64 v])), (1, some (.recs 46 2 m f))]⟩,
            fun t2 => t2 ≤ K, fun t2 => K - t2, ⟨0, [some 0, some 1], Nat.zero_le _, ?_⟩, fun t2 ht2 => ?_⟩
          · (repeat' (first | (refine And.intro ?_ ?_) | exact True.intro | (show _ = _; with_reducible rfl) | exact Chk.mk (by kernel_rfl)))
            all_goals first | rfl | (intro j hj; rfl) | (show (_ : Int) = _; omega)
          have ht2 : t2 ≤ K := ht2
          have g2 : s.getD ((A + t + t2 : Nat) : Int).toNat 0 = (s.drop (A + t)).getD t2 0 := by rw [sdrop_getD]; rfl
          have rt2 : rngI .i64 (((A + t + t2 : Nat) : Int) + 1) := rng64 (by omega) (by omega)
          clear hm h35 hg2
          by_cases hlt2 : t2 < K
          · have hm2 : nlP (((s.drop (A + t)).getD t2 0).toNat : Int) = true := cnt_in (by omega)
            have hm2 := of_decide_eq_true hm2
            rw [← g2] at hm2
            (repeat' (first | (refine xI (fun hfk => ?_) (fun hfk => ?_) <;> ((try (first | replace hfk := oT hfk | replace hfk := oF hfk | simp only [oD, ne_eq, reduceCtorEq] at hfk)); (try exact oX))) | (refine And.intro ?ob ?_; (case ob => (exact oZ))) | exact True.intro | (show _ = _; first | exact oY | exact rfl) | exact oW | (apply And.intro)))
            refine ⟨t2 + 1, [some 0, some 1], hlt2, ?mu2, ?_⟩
            case mu2 => (show K - (t2 + 1) < K - t2; omega)
            (repeat' (first | (refine And.intro ?_ ?_) | exact True.intro | (show _ = _; with_reducible rfl) | exact Chk.mk (by kernel_rfl)))
            all_goals first | rfl | (intro j hj; rfl) | (show (_ : Int) = _; omega)
          · obtain rfl : t2 = K := by omega
            by_cases hl2 : A + t + t2 < s.length
            · have hm2 := cnt_out (p := nlP) (l := s.drop (A + t)) (by rw [List.length_drop]; omega)
              rw [hK, ← g2] at hm2
              have hm2 := of_decide_eq_false hm2
              (repeat' (first | (refine xI (fun hfk => ?_) (fun hfk => ?_) <;> ((try (first | replace hfk := oT hfk | replace hfk := oF hfk | simp only [oD, ne_eq, reduceCtorEq] at hfk)); (try exact oX))) | (refine And.intro ?ob ?_; (case ob => (exact oZ))) | exact True.intro | (show _ = _; first | exact oY | exact rfl) | exact oW | (apply And.intro)))
              refine ⟨[some 0, some 1], ?_⟩
              (repeat' (first | (refine xI (fun hfk => ?_) (fun hfk => ?_) <;> ((try (first | replace hfk := oT hfk | replace hfk := oF hfk | simp only [oD, ne_eq, reduceCtorEq] at hfk)); (try exact oX))) | (refine And.intro ?ob ?_; (case ob => (exact oZ))) | exact True.intro | (show _ = _; first | exact oY | (first | rfl | (intro j hj; rfl) | (show (_ : Int) = _; omega); done) | exact rfl) | exact oW | (apply And.intro)))
            · (repeat' (first | (refine xI (fun hfk => ?_) (fun hfk => ?_) <;> ((try (first | replace hfk := oT hfk | replace hfk := oF hfk | simp only [oD, ne_eq, reduceCtorEq] at hfk)); (try exact oX))) | (refine And.intro ?ob ?_; (case ob => (exact oZ))) | exact True.intro | (show _ = _; first | exact oY | exact rfl) | exact oW | (apply And.intro)))
              refine ⟨[some 0, some 1], ?_⟩
              (repeat' (first | (refine xI (fun hfk => ?_) (fun hfk => ?_) <;> ((try (first | replace hfk := oT hfk | replace hfk := oF hfk | simp only [oD, ne_eq, reduceCtorEq] at hfk)); (try exact oX))) | (refine And.intro ?ob ?_; (case ob => (exact oZ))) | exact True.intro | (show _ = _; first | exact oY | (first | rfl | (intro j hj; rfl) | (show (_ : Int) = _; omega); done) | exact rfl) | exact oW | (apply And.intro)))
        · have eb : bkN (s.drop A) = t := by
            unfold bkN
            rw [hM, hdd, if_neg (fun q => h35 (by rw [← hg2]; exact q.2))]
          rw [eb]
          (repeat' (first | (refine xI (fun hfk => ?_) (fun hfk => ?_) <;> ((try (first | replace hfk := oT hfk | replace hfk := oF hfk | simp only [oD, ne_eq, reduceCtorEq] at hfk)); (try exact oX))) | (refine And.intro ?ob ?_; (case ob => (exact oZ))) | exact True.intro | (show _ = _; first | exact oY | exact rfl) | exact oW | (apply And.intro)))
          refine ⟨[some 0, some 1], ?_⟩
          (repeat' (first | (refine xI (fun hfk => ?_) (fun hfk => ?_) <;> ((try (first | replace hfk := oT hfk | replace hfk := oF hfk | simp only [oD, ne_eq, reduceCtorEq] at hfk)); (try exact oX))) | (refine And.intro ?ob ?_; (case ob => (exact oZ))) | exact True.intro | (show _ = _; first | exact oY | (first | rfl | (intro j hj; rfl) | (show (_ : Int) = _; omega); done) | exact rfl) | exact oW | (apply And.intro)))
      · have eb : bkN (s.drop A) = t := by
          unfold bkN
          rw [hM, hdd, if_neg (fun q => q.1 (by rw [List.length_drop]; omega))]
        rw [eb]
        (repeat' (first | (refine xI (fun hfk => ?_) (fun hfk => ?_) <;> ((try (first | replace hfk := oT hfk | replace hfk := oF hfk | simp only [oD, ne_eq, reduceCtorEq] at hfk)); (try exact oX))) | (refine And.intro ?ob ?_; (case ob => (exact oZ))) | exact True.intro | (show _ = _; first | exact oY | exact rfl) | exact oW | (apply And.intro)))
        refine ⟨[some 0, some 1], ?_⟩
        (repeat' (first | (refine xI (fun hfk => ?_) (fun hfk => ?_) <;> ((try (first | replace hfk := oT hfk | replace hfk := oF hfk | simp only [oD, ne_eq, reduceCtorEq] at hfk)); (try exact oX))) | (refine And.intro ?ob ?_; (case ob => (exact oZ))) | exact True.intro | (show _ = _; first | exact oY | (first | rfl | (intro j hj; rfl) | (show (_ : Int) = _; omega); done) | exact rfl) | exact oW | (apply And.intro)))
  · cases h
end Go.Proofs.YtblloaajiaoblaaDoor
namespace Go.Proofs.YtblloaajiaoblaaDoor
open Go Go.RowKit
def lnV : Nat → List UInt8 → List (List UInt8) × Nat
  | 0, l => ([], bkN l)
  | k + 1, l => if mrkN (l.drop (bkN l)) = 0 then ([], bkN l) else
    (((l.drop (bkN l)).take (mrkN (l.drop (bkN l)))) :: (lnV k ((l.drop (bkN l)).drop (mrkN (l.drop (bkN l))))).1, bkN l + mrkN (l.drop (bkN l)) + (lnV k ((l.drop (bkN l)).drop (mrkN (l.drop (bkN l))))).2)
def lnW (l : List UInt8) : List (List UInt8) := (lnV (l.length + 1) l).1
def lnE (l : List UInt8) : Nat := (lnV (l.length + 1) l).2
theorem mkN_le (l : List UInt8) : mrkN l ≤ l.length := cnt_le _ _
theorem lnV_le : ∀ (k : Nat) (l : List UInt8), (lnV k l).2 ≤ l.length
  | 0, l => bkN_le l
  | k + 1, l => by
    have h1 := bkN_le l
    have h2 := mkN_le (l.drop (bkN l))
    have h3 := lnV_le k ((l.drop (bkN l)).drop (mrkN (l.drop (bkN l))))
    rw [List.length_drop, List.length_drop] at h3
    rw [List.length_drop] at h2
    unfold lnV
    split
    · exact h1
    · show bkN l + mrkN (l.drop (bkN l)) + _ ≤ _
      omega
def lnX (l : List UInt8) : Nat := if lnE l < l.length ∧ (l.getD (lnE l) 0).toNat ≠ 10 then 1 else 0
def lnC (l : List UInt8) : Nat := if lnX l = 0 ∧ lnW l ≠ [] then 1 else 0
abbrev wA (W : List (List UInt8)) : AV := .ro 1 W.length (fun j => .str (W.getD j []))
def lnA (n : Int) (W : List (List UInt8)) : AV := .agg [.int .i64 n, wA W]
theorem snoc1 {Wd : List (List UInt8)} {w : List UInt8} {j : Nat} (z : j < Wd.length) : (Wd ++ [w]).getD j [] = Wd.getD j [] := by
  rw [List.getD_eq_getElem?_getD, List.getD_eq_getElem?_getD, List.getElem?_append_left z]
theorem snoc2 {Wd : List (List UInt8)} {w : List UInt8} {j : Nat} (z : j = Wd.length) : (Wd ++ [w]).getD j [] = w := by
  subst z
  rw [List.getD_eq_getElem?_getD, List.getElem?_append_right (Nat.le_refl _), Nat.sub_self]; rfl
theorem wA_shift (n : Int) (W : List (List UInt8)) : AV.agg [AV.int .i64 n, AV.ro 1 W.length fun j => (fun j => AV.str (W.getD j [])) (0 + j)] = AV.agg [.int .i64 n, wA W] := by
  have : (fun j => (fun j => AV.str (W.getD j [])) (0 + j)) = fun j => AV.str (W.getD j []) := by funext j; show AV.str (W.getD (0 + j) []) = _; rw [Nat.zero_add]
  rw [this]
def gdis (s1 s2 : GSpec) : GSpec := fun l H K => s1 l H K ∨ s2 l H K
theorem gdis_ok {P : Program} {g : FuncId} {s1 s2 : GSpec} (h1 : GSOK P g s1) (h2 : GSOK P g s2) : GSOK P g (gdis s1 s2) := ⟨h1.1, fun l H K h => h.elim (h1.2 l H K) (h2.2 l H K)⟩
theorem lnC0 {l : List UInt8} (h : lnC l = 0) : lnX l ≠ 0 ∨ lnW l = [] := by
  by_cases a : lnX l = 0
  · by_cases b : lnW l = []
    · exact .inr b
    · unfold lnC at h; rw [if_pos ⟨a, b⟩] at h; cases h
  · exact .inl a
theorem lnC1 {l : List UInt8} (h : lnC l = 1) : lnX l = 0 ∧ lnW l ≠ [] := by
  unfold lnC at h
  split at h
  · assumption
  · cases h
def lineF1 : FSpec := fun l es => match l, es with
  | [.ptr 0 0], [.cells 103 [.str s, .int .i64 a, .int .i64 n, .sl 1 2 0 k, .int .i64 v], .recs 46 2 m f] =>
    some ([0 ≤ a, a ≤ s.length, s.length ≤ 100000, k = m, m ≤ 100000, lnC (s.drop a.toNat) = 0], .bool (decide (lnX (s.drop a.toNat) = 0)),
      [some (.cells 103 [.str s, .int .i64 (a + (lnE (s.drop a.toNat) : Int)), .int .i64 n, .sl 1 2 0 m, .int .i64 v]), some (.recs 46 2 m f)])
  | _, _ => none
def lineF2 : FSpec := fun l es => match l, es with
  | [.ptr 0 0], [.cells 103 [.str s, .int .i64 a, .int .i64 n, .sl 1 2 0 k, .int .i64 v], .recs 46 2 m f] =>
    some ([0 ≤ a, a ≤ s.length, s.length ≤ 100000, k = m, m ≤ 100000, lnC (s.drop a.toNat) = 1], .bool (decide (lnX (s.drop a.toNat) = 0)),
      [some (.cells 103 [.str s, .int .i64 (a + (lnE (s.drop a.toNat) : Int)), .int .i64 n, .sl 2 2 0 (m + 1), .int .i64 (if m = 4096 then a else v)]), none,
       some (.recs 46 2 (m + 1) (fun j => if j < m then f j else lnA n (lnW (s.drop a.toNat))))])
  | _, _ => none
theorem line_g1 : GSOK Tryd.prog 66 (fG lineF1) := by
  refine fokE (S := []) (G := glook [(84, fG blanksF), (85, fG wordF)]) [] [] [2, 3, 1000008] pok_nil (gl_cons blanks_g (gl_cons word_g gl_nil)) dl_nil ⟨Tryd.func66, by kernel_rfl, by kernel_rfl, by kernel_rfl⟩ fun l es obs v es' h ho => ?_
  (unfold lineF1 at h; split at h; rotate_left; (focus (cases h)); rename_i s a n k v m f; simp only [Option.some.injEq, Prod.mk.injEq] at h; obtain ⟨rfl, rfl, rfl⟩ := h; simp only [List.mem_cons, List.not_mem_nil, or_false, forall_eq_or_imp, forall_eq, false_implies, implies_true] at ho)
  obtain ⟨ho1, ho2, ho3, rfl, ho5, hC⟩ := ho
  obtain ⟨A, rfl⟩ := Int.eq_ofNat_of_zero_le ho1
  have hA : A ≤ s.length := by omega
  refine ⟨Nat.le_of_ble_eq_true rfl, ?_⟩
  rw [Int.toNat_natCast] at hC ⊢
  obtain ⟨r, hr⟩ : ∃ r, s.drop A = r := ⟨_, rfl⟩
  have hrl : r.length = s.length - A := by rw [← hr, List.length_drop]
  rw [hr] at hC ⊢
  (repeat' (first | (refine xI (fun hfk => ?_) (fun hfk => ?_) <;> ((try (first | replace hfk := oT hfk | replace hfk := oF hfk | simp only [oD, ne_eq, reduceCtorEq] at hfk)); (try exact oX))) | (refine And.intro ?ob ?_; (case ob => (exact oZ))) | exact True.intro | (show _ = _; first | exact oY | exact rfl) | exact oW | (apply And.intro)))
  refine ⟨Nat × Nat × List (List UInt8), fun g => [(0, .ptr 0 0), (2, .bool false), (3, .ptr 2 0), (4, .int .i64 (A : Int))],
    fun g => ⟨4, [(0, some (.cells 103 [.str s, .int .i64 ((A + g.2.1 : Nat) : Int), .int .i64 n, .sl 1 2 0 k, .int .i64 v])), (1, some (.recs 46 2 k f)), (2, some (.cells 46 [.int .i64 n, .sl 3 1 0 g.2.2.length])), (3, some (.recs 9 1 g.2.2.length (fun j => .str (g.2.2.getD j []))))]⟩,
    fun g => g.2.1 ≤ r.length ∧ r.length - g.2.1 < g.1 ∧ g.2.2.length ≤ g.2.1 ∧ g.2.2 ++ (lnV g.1 (r.drop g.2.1)).1 = lnW r ∧ g.2.1 + (lnV g.1 (r.drop g.2.1)).2 = lnE r, fun g => g.1,
    ⟨(r.length + 1, 0, []), [some 0, some 1, some 2, none], ⟨Nat.zero_le _, by show r.length - 0 < r.length + 1; omega, Nat.le_refl _, by rfl, by show 0 + _ = _; rw [Nat.zero_add]; rfl⟩, ?_⟩, fun g hg => ?_⟩
  · (repeat' (first | (refine And.intro ?_ ?_) | exact True.intro | (show _ = _; with_reducible rfl) | exact Chk.mk (by kernel_rfl)))
    all_goals first | rfl | (intro j hj; rfl) | (show (_ : Int) = _; omega)
  obtain ⟨q, t, Wd⟩ := g
  obtain ⟨g1, g2, g3, g4, g5⟩ := hg
  have g1 : t ≤ r.length := g1
  have g2 : r.length - t < q := g2
  have g3 : Wd.length ≤ t := g3
  have g4 : Wd ++ (lnV q (r.drop t)).1 = lnW r := g4
  have g5 : t + (lnV q (r.drop t)).2 = lnE r := g5
  dsimp only
  obtain ⟨q, rfl⟩ : ∃ q', q = q' + 1 := ⟨q - 1, by omega⟩
  have ed : List.drop ((A + t : Nat) : Int).toNat s = r.drop t := by rw [← hr, List.drop_drop]; rfl
  obtain ⟨b, hb⟩ : ∃ b, bkN (r.drop t) = b := ⟨_, rfl⟩
  have hbl := bkN_le (r.drop t)
  rw [List.length_drop, hb] at hbl
  obtain ⟨m, hm⟩ : ∃ m, mrkN (r.drop (t + b)) = m := ⟨_, rfl⟩
  have hml := mkN_le (r.drop (t + b))
  rw [List.length_drop, hm] at hml
  have hd2 : (r.drop t).drop b = r.drop (t + b) := List.drop_drop
  have hd3 : (r.drop (t + b)).drop m = r.drop (t + b + m) := List.drop_drop
  (repeat' (first | (refine xI (fun hfk => ?_) (fun hfk => ?_) <;> ((try (first | replace hfk := oT hfk | replace hfk := oF hfk | simp only [oD, ne_eq, reduceCtorEq] at hfk)); (try exact oX))) | (refine And.intro ?ob ?_; (case ob => (exact oZ))) | exact True.intro | (show _ = _; first | exact oY | exact rfl) | exact oW | (apply And.intro)))
  (refine ⟨[0, 1], ⟨by kernel_rfl⟩, ?_⟩)
  (repeat' (first | (refine xI (fun hfk => ?_) (fun hfk => ?_) <;> ((try (first | replace hfk := oT hfk | replace hfk := oF hfk | simp only [oD, ne_eq, reduceCtorEq] at hfk)); (try exact oX))) | (refine And.intro ?ob ?_; (case ob => (exact oZ))) | exact True.intro | (show _ = _; first | exact oY | exact rfl) | exact oW | (apply And.intro)))
  refine ⟨[(0, .ptr 0 0), (2, .bool false), (3, .ptr 2 0), (4, .int .i64 (A : Int))],
    ⟨4, [(0, some (.cells 103 [.str s, .int .i64 ((A + t + b : Nat) : Int), .int .i64 n, .sl 1 2 0 k, .int .i64 v])), (1, some (.recs 46 2 k f)), (2, some (.cells 46 [.int .i64 n, .sl 3 1 0 Wd.length])), (3, some (.recs 9 1 Wd.length (fun j => .str (Wd.getD j []))))]⟩, [some 0, some 1, some 2, some 3], ?_, ?_⟩
  · have e1 : ((A + t : Nat) : Int) + (bkN (List.drop ((A + t : Nat) : Int).toNat s) : Int) = ((A + t + b : Nat) : Int) := by rw [ed, hb]; omega
    (repeat' (first | (refine And.intro ?_ ?_) | exact True.intro | (show _ = _; with_reducible rfl) | exact Chk.mk (by kernel_rfl)))
    all_goals first | exact e1 | rfl | (intro j hj; rfl)
  have ed2 : List.drop ((A + t + b : Nat) : Int).toNat s = r.drop (t + b) := by rw [← hr, List.drop_drop, Nat.add_assoc]; rfl
  clear ed
  (repeat' (first | (refine xI (fun hfk => ?_) (fun hfk => ?_) <;> ((try (first | replace hfk := oT hfk | replace hfk := oF hfk | simp only [oD, ne_eq, reduceCtorEq] at hfk)); (try exact oX))) | (refine And.intro ?ob ?_; (case ob => (exact oZ))) | exact True.intro | (show _ = _; first | exact oY | exact rfl) | exact oW | (apply And.intro)))
  (refine ⟨[0, 1], ⟨by kernel_rfl⟩, ?_⟩)
  (repeat' (first | (refine xI (fun hfk => ?_) (fun hfk => ?_) <;> ((try (first | replace hfk := oT hfk | replace hfk := oF hfk | simp only [oD, ne_eq, reduceCtorEq] at hfk)); (try exact oX))) | (refine And.intro ?ob ?_; (case ob => (exact oZ))) | exact True.intro | (show _ = _; first | exact oY | exact rfl) | exact oW | (apply And.intro)))
  refine ⟨[(0, .ptr 0 0), (2, .bool false), (3, .ptr 2 0), (4, .int .i64 (A : Int)), (5, .str ((r.drop (t + b)).take m))],
    ⟨4, [(0, some (.cells 103 [.str s, .int .i64 ((A + t + b + m : Nat) : Int), .int .i64 n, .sl 1 2 0 k, .int .i64 v])), (1, some (.recs 46 2 k f)), (2, some (.cells 46 [.int .i64 n, .sl 3 1 0 Wd.length])), (3, some (.recs 9 1 Wd.length (fun j => .str (Wd.getD j []))))]⟩, [some 0, some 1, some 2, some 3], ?_, ?_⟩
  · have e1 : ((A + t + b : Nat) : Int) + (mrkN (List.drop ((A + t + b : Nat) : Int).toNat s) : Int) = ((A + t + b + m : Nat) : Int) := by rw [ed2, hm]; omega
    have e2 : List.take (mrkN (List.drop ((A + t + b : Nat) : Int).toNat s)) (List.drop ((A + t + b : Nat) : Int).toNat s) = (r.drop (t + b)).take m := by rw [ed2, hm]
    (repeat' (first | (refine And.intro ?_ ?_) | exact True.intro | (show _ = _; with_reducible rfl) | exact Chk.mk (by kernel_rfl)))
    all_goals first | exact e1 | exact e2 | rfl | (intro j hj; rfl)
  clear ed2
  by_cases hm0 : m = 0
  · have v1 : lnV (q + 1) (r.drop t) = ([], b) := by
      unfold lnV; rw [hb, hd2, hm, if_pos hm0]
    rw [v1] at g4 g5
    rw [List.append_nil] at g4
    have g6 : t + b = lnE r := g5
    clear g5
    obtain rfl : Wd = lnW r := g4
    have hem : List.take m (r.drop (t + b)) = (ByteArray.mk #[]).data.toList := by rw [hm0]; rfl
    have gE : s.getD ((A + t + b + m : Nat) : Int).toNat 0 = r.getD (lnE r) 0 := by
      have hq : ∀ j, r.getD j 0 = s.getD (A + j) 0 := fun j => by rw [← hr]; exact sdrop_getD
      rw [hq, ← g6, hm0, Int.toNat_natCast]
      show s.getD (A + t + b) 0 = _
      rw [Nat.add_assoc]
    have hE : A + t + b + m = A + lnE r := by omega
    clear hd2 hd3 v1 g3
    have hcs := lnC0 hC
    by_cases hx : lnX r = 0
    rotate_left
    · have hx2 : lnE r < r.length ∧ (r.getD (lnE r) 0).toNat ≠ 10 := by
        unfold lnX at hx
        split at hx
        · assumption
        · exact absurd rfl hx
      rw [← gE] at hx2
      have r1 : decide (lnX r = 0) = false := decide_eq_false hx
      rw [r1]
      (repeat' (first | (refine xI (fun hfk => ?_) (fun hfk => ?_) <;> ((try (first | replace hfk := oT hfk | replace hfk := oF hfk | simp only [oD, ne_eq, reduceCtorEq] at hfk)); (try exact oX))) | (refine And.intro ?ob ?_; (case ob => (exact oZ))) | exact True.intro | (show _ = _; first | exact oY | exact rfl) | exact oW | (apply And.intro)))
      refine ⟨[some 0, some 1], ?_⟩
      (repeat' (first | (refine xI (fun hfk => ?_) (fun hfk => ?_) <;> ((try (first | replace hfk := oT hfk | replace hfk := oF hfk | simp only [oD, ne_eq, reduceCtorEq] at hfk)); (try exact oX))) | (refine And.intro ?ob ?_; (case ob => (exact oZ))) | exact True.intro | (show _ = _; first | exact oY | (first | rfl | (intro j hj; rfl) | (show (_ : Int) = _; omega); done) | exact rfl) | exact oW | (apply And.intro)))
    · have hx2 : ¬ (lnE r < r.length ∧ (r.getD (lnE r) 0).toNat ≠ 10) := fun k => by
        unfold lnX at hx; rw [if_pos k] at hx; cases hx
      rw [← gE] at hx2
      have r1 : decide (lnX r = 0) = true := decide_eq_true hx
      rw [r1]
      have hW : lnW r = [] := hcs.resolve_left (fun k => k hx)
      have hWl : (lnW r).length = 0 := by rw [hW]; rfl
      by_cases hl : A + t + b + m < s.length
      all_goals
        (repeat' (first | (refine xI (fun hfk => ?_) (fun hfk => ?_) <;> ((try (first | replace hfk := oT hfk | replace hfk := oF hfk | simp only [oD, ne_eq, reduceCtorEq] at hfk)); (try exact oX))) | (refine And.intro ?ob ?_; (case ob => (exact oZ))) | exact True.intro | (show _ = _; first | exact oY | exact rfl) | exact oW | (apply And.intro)))
        refine ⟨[], ?_⟩
        (repeat' (first | (refine xI (fun hfk => ?_) (fun hfk => ?_) <;> ((try (first | replace hfk := oT hfk | replace hfk := oF hfk | simp only [oD, ne_eq, reduceCtorEq] at hfk)); (try exact oX))) | (refine And.intro ?ob ?_; (case ob => (exact oZ))) | exact True.intro | (show _ = _; first | exact oY | exact rfl) | exact oW | (apply And.intro)))
        refine ⟨[(0, .ptr 0 0), (2, .bool false), (3, .ptr 2 0), (4, .int .i64 (A : Int)), (52, .bool (decide (0 < ((lnW r).length : Int))))],
          ⟨4, [(0, some (.cells 103 [.str s, .int .i64 ((A + t + b + m : Nat) : Int), .int .i64 n, .sl 1 2 0 k, .int .i64 v])), (1, some (.recs 46 2 k f)), (2, some (.cells 46 [.int .i64 n, .sl 3 1 0 (lnW r).length])), (3, some (.recs 9 1 (lnW r).length (fun j => .str ((lnW r).getD j []))))]⟩, [some 0, some 1, some 2, some 3], ?_, ?_⟩
        · (repeat' (first | (refine And.intro ?_ ?_) | exact True.intro | (show _ = _; with_reducible rfl) | exact Chk.mk (by kernel_rfl)))
          all_goals first | rfl | (intro j hj; rfl)
        (repeat' (first | (refine xI (fun hfk => ?_) (fun hfk => ?_) <;> ((try (first | replace hfk := oT hfk | replace hfk := oF hfk | simp only [oD, ne_eq, reduceCtorEq] at hfk)); (try exact oX))) | (refine And.intro ?ob ?_; (case ob => (exact oZ))) | exact True.intro | (show _ = _; first | exact oY | exact rfl) | exact oW | (apply And.intro)))
        all_goals (refine ⟨[some 0, some 1], ?_⟩)
        (repeat' (first | (refine xI (fun hfk => ?_) (fun hfk => ?_) <;> ((try (first | replace hfk := oT hfk | replace hfk := oF hfk | simp only [oD, ne_eq, reduceCtorEq] at hfk)); (try exact oX))) | (refine And.intro ?ob ?_; (case ob => (exact oZ))) | exact True.intro | (show _ = _; first | exact oY | (first | rfl | (intro j hj; rfl) | (show (_ : Int) = _; omega); done) | exact rfl) | exact oW | (apply And.intro)))
  · have v1 : lnV (q + 1) (r.drop t) = ((r.drop (t + b)).take m :: (lnV q (r.drop (t + b + m))).1, b + m + (lnV q (r.drop (t + b + m))).2) := by
      have : lnV (q + 1) (r.drop t) = if mrkN ((r.drop t).drop (bkN (r.drop t))) = 0 then ([], bkN (r.drop t)) else (((r.drop t).drop (bkN (r.drop t))).take (mrkN ((r.drop t).drop (bkN (r.drop t)))) :: (lnV q (((r.drop t).drop (bkN (r.drop t))).drop (mrkN ((r.drop t).drop (bkN (r.drop t)))))).1, bkN (r.drop t) + mrkN ((r.drop t).drop (bkN (r.drop t))) + (lnV q (((r.drop t).drop (bkN (r.drop t))).drop (mrkN ((r.drop t).drop (bkN (r.drop t)))))).2) := rfl
      rw [this, hb, hd2, hm, if_neg hm0, hd3]
    rw [v1] at g4 g5
    have g6 : t + (b + m + (lnV q (r.drop (t + b + m))).2) = lnE r := g5
    clear g5
    have hne : ¬ List.take m (r.drop (t + b)) = (ByteArray.mk #[]).data.toList := fun k => hm0 (by
      have := congrArg List.length k
      rw [List.length_take, List.length_drop] at this
      have e0 : ((ByteArray.mk #[]).data.toList : List UInt8).length = 0 := rfl
      rw [e0] at this; omega)
    have g7 : (Wd ++ [(r.drop (t + b)).take m]).length = Wd.length + 1 := by simp
    clear v1
    (repeat' (first | (refine xI (fun hfk => ?_) (fun hfk => ?_) <;> ((try (first | replace hfk := oT hfk | replace hfk := oF hfk | simp only [oD, ne_eq, reduceCtorEq] at hfk)); (try exact oX))) | (refine And.intro ?ob ?_; (case ob => (exact oZ))) | exact True.intro | (show _ = _; first | exact oY | exact rfl) | exact oW | (apply And.intro)))
    have f1 : t + b + m ≤ r.length := by omega
    have f2 : r.length - (t + b + m) < q := by omega
    have f3 : (Wd ++ [(r.drop (t + b)).take m]).length ≤ t + b + m := by rw [g7]; omega
    have f4 : (Wd ++ [(r.drop (t + b)).take m]) ++ (lnV q (r.drop (t + b + m))).1 = lnW r := by rw [List.append_assoc]; exact g4
    have f5 : t + b + m + (lnV q (r.drop (t + b + m))).2 = lnE r := by omega
    have e8 : ((A + t + b + m : Nat) : Int) = ((A + (t + b + m) : Nat) : Int) := by omega
    refine ⟨(q, t + b + m, Wd ++ [(r.drop (t + b)).take m]), [some 0, some 1, some 2, some 5], ⟨f1, f2, f3, f4, f5⟩, Nat.lt_succ_self q, ?_⟩
    (repeat' (first | (refine And.intro ?_ ?_) | exact True.intro | (show _ = _; with_reducible rfl) | exact Chk.mk (by kernel_rfl)))
    all_goals first | rfl | exact e8 | exact g7.symm | (intro j hj; rfl) | (intro j hj; (have hj2 : j < (Wd ++ [(r.drop (t + b)).take m]).length := hj); rw [g7] at hj2; dsimp only; by_cases z : j < Wd.length; (rw [if_pos z, snoc1 z]); (have e : j - Wd.length = 0 := by omega); rw [if_neg z, snoc2 (show j = Wd.length by omega), e]; rfl)
theorem line_g2 : GSOK Tryd.prog 66 (fG lineF2) := by
  refine fokE (S := []) (G := glook [(84, fG blanksF), (85, fG wordF)]) [] [] [2, 3, 1000008] pok_nil (gl_cons blanks_g (gl_cons word_g gl_nil)) dl_nil ⟨Tryd.func66, by kernel_rfl, by kernel_rfl, by kernel_rfl⟩ fun l es obs v es' h ho => ?_
  (unfold lineF2 at h; split at h; rotate_left; (focus (cases h)); rename_i s a n k v m f; simp only [Option.some.injEq, Prod.mk.injEq] at h; obtain ⟨rfl, rfl, rfl⟩ := h; simp only [List.mem_cons, List.not_mem_nil, or_false, forall_eq_or_imp, forall_eq, false_implies, implies_true] at ho)
  obtain ⟨ho1, ho2, ho3, rfl, ho5, hC⟩ := ho
  obtain ⟨A, rfl⟩ := Int.eq_ofNat_of_zero_le ho1
  have hA : A ≤ s.length := by omega
  refine ⟨Nat.le_of_ble_eq_true rfl, ?_⟩
  rw [Int.toNat_natCast] at hC ⊢
  obtain ⟨r, hr⟩ : ∃ r, s.drop A = r := ⟨_, rfl⟩
  have hrl : r.length = s.length - A := by rw [← hr, List.length_drop]
  rw [hr] at hC ⊢
  (repeat' (first | (refine xI (fun hfk => ?_) (fun hfk => ?_) <;> ((try (first | replace hfk := oT hfk | replace hfk := oF hfk | simp only [oD, ne_eq, reduceCtorEq] at hfk)); (try exact oX))) | (refine And.intro ?ob ?_; (case ob => (exact oZ))) | exact True.intro | (show _ = _; first | exact oY | exact rfl) | exact oW | (apply And.intro)))
  refine ⟨Nat × Nat × List (List UInt8), fun g => [(0, .ptr 0 0), (2, .bool false), (3, .ptr 2 0), (4, .int .i64 (A : Int))],
    fun g => ⟨4, [(0, some (.cells 103 [.str s, .int .i64 ((A + g.2.1 : Nat) : Int), .int .i64 n, .sl 1 2 0 k, .int .i64 v])), (1, some (.recs 46 2 k f)), (2, some (.cells 46 [.int .i64 n, .sl 3 1 0 g.2.2.length])), (3, some (.recs 9 1 g.2.2.length (fun j => .str (g.2.2.getD j []))))]⟩,
    fun g => g.2.1 ≤ r.length ∧ r.length - g.2.1 < g.1 ∧ g.2.2.length ≤ g.2.1 ∧ g.2.2 ++ (lnV g.1 (r.drop g.2.1)).1 = lnW r ∧ g.2.1 + (lnV g.1 (r.drop g.2.1)).2 = lnE r, fun g => g.1,
    ⟨(r.length + 1, 0, []), [some 0, some 1, some 2, none], ⟨Nat.zero_le _, by show r.length - 0 < r.length + 1; omega, Nat.le_refl _, by rfl, by show 0 + _ = _; rw [Nat.zero_add]; rfl⟩, ?_⟩, fun g hg => ?_⟩
  · (repeat' (first | (refine And.intro ?_ ?_) | exact True.intro | (show _ = _; with_reducible rfl) | exact Chk.mk (by kernel_rfl)))
    all_goals first | rfl | (intro j hj; rfl) | (show (_ : Int) = _; omega)
  obtain ⟨q, t, Wd⟩ := g
  obtain ⟨g1, g2, g3, g4, g5⟩ := hg
  have g1 : t ≤ r.length := g1
  have g2 : r.length - t < q := g2
  have g3 : Wd.length ≤ t := g3
  have g4 : Wd ++ (lnV q (r.drop t)).1 = lnW r := g4
  have g5 : t + (lnV q (r.drop t)).2 = lnE r := g5
  dsimp only
  obtain ⟨q, rfl⟩ : ∃ q', q = q' + 1 := ⟨q - 1, by omega⟩
  have ed : List.drop ((A + t : Nat) : Int).toNat s = r.drop t := by rw [← hr, List.drop_drop]; rfl
  obtain ⟨b, hb⟩ : ∃ b, bkN (r.drop t) = b := ⟨_, rfl⟩
  have hbl := bkN_le (r.drop t)
  rw [List.length_drop, hb] at hbl
  obtain ⟨m, hm⟩ : ∃ m, mrkN (r.drop (t + b)) = m := ⟨_, rfl⟩
  have hml := mkN_le (r.drop (t + b))
  rw [List.length_drop, hm] at hml
  have hd2 : (r.drop t).drop b = r.drop (t + b) := List.drop_drop
  have hd3 : (r.drop (t + b)).drop m = r.drop (t + b + m) := List.drop_drop
  (repeat' (first | (refine xI (fun hfk => ?_) (fun hfk => ?_) <;> ((try (first | replace hfk := oT hfk | replace hfk := oF hfk | simp only [oD, ne_eq, reduceCtorEq] at hfk)); (try exact oX))) | (refine And.intro ?ob ?_; (case ob => (exact oZ))) | exact True.intro | (show _ = _; first | exact oY | exact rfl) | exact oW | (apply And.intro)))
  (refine ⟨[0, 1], ⟨by kernel_rfl⟩, ?_⟩)
  (repeat' (first | (refine xI (fun hfk => ?_) (fun hfk => ?_) <;> ((try (first | replace hfk := oT hfk | replace hfk := oF hfk | simp only [oD, ne_eq, reduceCtorEq] at hfk)); (try exact oX))) | (refine And.intro ?ob ?_; (case ob => (exact oZ))) | exact True.intro | (show _ = _; first | exact oY | exact rfl) | exact oW | (apply And.intro)))
  refine ⟨[(0, .ptr 0 0), (2, .bool false), (3, .ptr 2 0), (4, .int .i64 (A : Int))],
    ⟨4, [(0, some (.cells 103 [.str s, .int .i64 ((A + t + b : Nat) : Int), .int .i64 n, .sl 1 2 0 k, .int .i64 v])), (1, some (.recs 46 2 k f)), (2, some (.cells 46 [.int .i64 n, .sl 3 1 0 Wd.length])), (3, some (.recs 9 1 Wd.length (fun j => .str (Wd.getD j []))))]⟩, [some 0, some 1, some 2, some 3], ?_, ?_⟩
  · have e1 : ((A + t : Nat) : Int) + (bkN (List.drop ((A + t : Nat) : Int).toNat s) : Int) = ((A + t + b : Nat) : Int) := by rw [ed, hb]; omega
    (repeat' (first | (refine And.intro ?_ ?_) | exact True.intro | (show _ = _; with_reducible rfl) | exact Chk.mk (by kernel_rfl)))
    all_goals first | exact e1 | rfl | (intro j hj; rfl)
  have ed2 : List.drop ((A + t + b : Nat) : Int).toNat s = r.drop (t + b) := by rw [← hr, List.drop_drop, Nat.add_assoc]; rfl
  clear ed
  (repeat' (first | (refine xI (fun hfk => ?_) (fun hfk => ?_) <;> ((try (first | replace hfk := oT hfk | replace hfk := oF hfk | simp only [oD, ne_eq, reduceCtorEq] at hfk)); (try exact oX))) | (refine And.intro ?ob ?_; (case ob => (exact oZ))) | exact True.intro | (show _ = _; first | exact oY | exact rfl) | exact oW | (apply And.intro)))
  (refine ⟨[0, 1], ⟨by kernel_rfl⟩, ?_⟩)
  (repeat' (first | (refine xI (fun hfk => ?_) (fun hfk => ?_) <;> ((try (first | replace hfk := oT hfk | replace hfk := oF hfk | simp only [oD, ne_eq, reduceCtorEq] at hfk)); (try exact oX))) | (refine And.intro ?ob ?_; (case ob => (exact oZ))) | exact True.intro | (show _ = _; first | exact oY | exact rfl) | exact oW | (apply And.intro)))
  refine ⟨[(0, .ptr 0 0), (2, .bool false), (3, .ptr 2 0), (4, .int .i64 (A : Int)), (5, .str ((r.drop (t + b)).take m))],
    ⟨4, [(0, some (.cells 103 [.str s, .int .i64 ((A + t + b + m : Nat) : Int), .int .i64 n, .sl 1 2 0 k, .int .i64 v])), (1, some (.recs 46 2 k f)), (2, some (.cells 46 [.int .i64 n, .sl 3 1 0 Wd.length])), (3, some (.recs 9 1 Wd.length (fun j => .str (Wd.getD j []))))]⟩, [some 0, some 1, some 2, some 3], ?_, ?_⟩
  · have e1 : ((A + t + b : Nat) : Int) + (mrkN (List.drop ((A + t + b : Nat) : Int).toNat s) : Int) = ((A + t + b + m : Nat) : Int) := by rw [ed2, hm]; omega
    have e2 : List.take (mrkN (List.drop ((A + t + b : Nat) : Int).toNat s)) (List.drop ((A + t + b : Nat) : Int).toNat s) = (r.drop (t + b)).take m := by rw [ed2, hm]
    (repeat' (first | (refine And.intro ?_ ?_) | exact True.intro | (show _ = _; with_reducible rfl) | exact Chk.mk (by kernel_rfl)))
    all_goals first | exact e1 | exact e2 | rfl | (intro j hj; rfl)
  clear ed2
  by_cases hm0 : m = 0
  · have v1 : lnV (q + 1) (r.drop t) = ([], b) := by
      unfold lnV; rw [hb, hd2, hm, if_pos hm0]
    rw [v1] at g4 g5
    rw [List.append_nil] at g4
    have g6 : t + b = lnE r := g5
    clear g5
    obtain rfl : Wd = lnW r := g4
    have hem : List.take m (r.drop (t + b)) = (ByteArray.mk #[]).data.toList := by rw [hm0]; rfl
    have gE : s.getD ((A + t + b + m : Nat) : Int).toNat 0 = r.getD (lnE r) 0 := by
      have hq : ∀ j, r.getD j 0 = s.getD (A + j) 0 := fun j => by rw [← hr]; exact sdrop_getD
      rw [hq, ← g6, hm0, Int.toNat_natCast]
      show s.getD (A + t + b) 0 = _
      rw [Nat.add_assoc]
    have hE : A + t + b + m = A + lnE r := by omega
    clear hd2 hd3 v1 g3
    obtain ⟨hx, hW⟩ := lnC1 hC
    have hx2 : ¬ (lnE r < r.length ∧ (r.getD (lnE r) 0).toNat ≠ 10) := fun k => by
      unfold lnX at hx; rw [if_pos k] at hx; cases hx
    rw [← gE] at hx2
    have r1 : decide (lnX r = 0) = true := decide_eq_true hx
    rw [r1]
    have hWl : 0 < (lnW r).length := List.length_pos_iff.2 hW
    have fA : ∀ j, j < k + 1 → (if j < k then f j else lnA n (lnW r)) = (if j < k then f j else lnA n (lnW r)) := fun _ _ => rfl
    by_cases hl : A + t + b + m < s.length
    all_goals
      (repeat' (first | (refine xI (fun hfk => ?_) (fun hfk => ?_) <;> ((try (first | replace hfk := oT hfk | replace hfk := oF hfk | simp only [oD, ne_eq, reduceCtorEq] at hfk)); (try exact oX))) | (refine And.intro ?ob ?_; (case ob => (exact oZ))) | exact True.intro | (show _ = _; first | exact oY | exact rfl) | exact oW | (apply And.intro)))
      refine ⟨[3], ?_⟩
      (repeat' (first | (refine xI (fun hfk => ?_) (fun hfk => ?_) <;> ((try (first | replace hfk := oT hfk | replace hfk := oF hfk | simp only [oD, ne_eq, reduceCtorEq] at hfk)); (try exact oX))) | (refine And.intro ?ob ?_; (case ob => (exact oZ))) | exact True.intro | (show _ = _; first | exact oY | exact rfl) | exact oW | (apply And.intro)))
      refine ⟨[(0, .ptr 0 0), (2, .bool false), (3, .rop (.agg [.int .i64 n, wA (lnW r)])), (4, .int .i64 (A : Int)), (52, .bool (decide (0 < ((lnW r).length : Int))))],
        ⟨2, [(0, some (.cells 103 [.str s, .int .i64 ((A + t + b + m : Nat) : Int), .int .i64 n, .sl 1 2 0 k, .int .i64 v])), (1, some (.recs 46 2 k f))]⟩, [some 0, some 1], ?_, ?_⟩
      · (repeat' (first | (refine And.intro ?_ ?_) | exact True.intro | (show _ = _; with_reducible rfl) | exact Chk.mk (by kernel_rfl)))
        all_goals first | rfl | (intro j hj; rfl) | exact wA_shift n (lnW r)
      (repeat' (first | (refine xI (fun hfk => ?_) (fun hfk => ?_) <;> ((try (first | replace hfk := oT hfk | replace hfk := oF hfk | simp only [oD, ne_eq, reduceCtorEq] at hfk)); (try exact oX))) | (refine And.intro ?ob ?_; (case ob => (exact oZ))) | exact True.intro | (show _ = _; first | exact oY | exact rfl) | exact oW | (apply And.intro)))
      all_goals (refine ⟨[some 0, some 1, some 3], ?_⟩)
      (repeat' (first | (refine xI (fun hfk => ?_) (fun hfk => ?_) <;> ((try (first | replace hfk := oT hfk | replace hfk := oF hfk | simp only [oD, ne_eq, reduceCtorEq] at hfk)); (try exact oX))) | (refine And.intro ?ob ?_; (case ob => (exact oZ))) | exact True.intro | (show _ = _; first | exact oY | (first | rfl | exact (if_pos (by omega)).symm | exact (if_neg (by omega)).symm | (show (_ : Int) = _; omega); done) | exact rfl) | exact oW | (apply And.intro)))
      all_goals (intro j hj; dsimp only; by_cases z : j < k; (rw [if_pos z, if_pos z]); (have e : j - k = 0 := by omega); rw [if_neg z, if_neg z, e]; rfl)
  · have v1 : lnV (q + 1) (r.drop t) = ((r.drop (t + b)).take m :: (lnV q (r.drop (t + b + m))).1, b + m + (lnV q (r.drop (t + b + m))).2) := by
      have : lnV (q + 1) (r.drop t) = if mrkN ((r.drop t).drop (bkN (r.drop t))) = 0 then ([], bkN (r.drop t)) else (((r.drop t).drop (bkN (r.drop t))).take (mrkN ((r.drop t).drop (bkN (r.drop t)))) :: (lnV q (((r.drop t).drop (bkN (r.drop t))).drop (mrkN ((r.drop t).drop (bkN (r.drop t)))))).1, bkN (r.drop t) + mrkN ((r.drop t).drop (bkN (r.drop t))) + (lnV q (((r.drop t).drop (bkN (r.drop t))).drop (mrkN ((r.drop t).drop (bkN (r.drop t)))))).2) := rfl
      rw [this, hb, hd2, hm, if_neg hm0, hd3]
    rw [v1] at g4 g5
    have g6 : t + (b + m + (lnV q (r.drop (t + b + m))).2) = lnE r := g5
    clear g5
    have hne : ¬ List.take m (r.drop (t + b)) = (ByteArray.mk #[]).data.toList := fun k => hm0 (by
      have := congrArg List.length k
      rw [List.length_take, List.length_drop] at this
      have e0 : ((ByteArray.mk #[]).data.toList : List UInt8).length = 0 := rfl
      rw [e0] at this; omega)
    have g7 : (Wd ++ [(r.drop (t + b)).take m]).length = Wd.length + 1 := by simp
    clear v1
    (repeat' (first | (refine xI (fun hfk => ?_) (fun hfk => ?_) <;> ((try (first | replace hfk := oT hfk | replace hfk := oF hfk | simp only [oD, ne_eq, reduceCtorEq] at hfk)); (try exact oX))) | (refine And.intro ?ob ?_; (case ob => (exact oZ))) | exact True.intro | (show _ = _; first | exact oY | exact rfl) | exact oW | (apply And.intro)))
    have f1 : t + b + m ≤ r.length := by omega
    have f2 : r.length - (t + b + m) < q := by omega
    have f3 : (Wd ++ [(r.drop (t + b)).take m]).length ≤ t + b + m := by rw [g7]; omega
    have f4 : (Wd ++ [(r.drop (t + b)).take m]) ++ (lnV q (r.drop (t + b + m))).1 = lnW r := by rw [List.append_assoc]; exact g4
    have f5 : t + b + m + (lnV q (r.drop (t + b + m))).2 = lnE r := by omega
    have e8 : ((A + t + b + m : Nat) : Int) = ((A + (t + b + m) : Nat) : Int) := by omega
    have f1 : t + b + m ≤ r.length := by omega
    have f2 : r.length - (t + b + m) < q := by omega
    have f3 : (Wd ++ [(r.drop (t + b)).take m]).length ≤ t + b + m := by rw [g7]; omega
    have f4 : (Wd ++ [(r.drop (t + b)).take m]) ++ (lnV q (r.drop (t + b + m))).1 = lnW r := by rw [List.append_assoc]; exact g4
    have f5 : t + b + m + (lnV q (r.drop (t + b + m))).2 = lnE r := by omega
    have e8 : ((A + t + b + m : Nat) : Int) = ((A + (t + b + m) : Nat) : Int) := by omega
    refine ⟨(q, t + b + m, Wd ++ [(r.drop (t + b)).take m]), [some 0, some 1, some 2, some 5], ⟨f1, f2, f3, f4, f5⟩, Nat.lt_succ_self q, ?_⟩
    (repeat' (first | (refine And.intro ?_ ?_) | exact True.intro | (show _ = _; with_reducible rfl) | exact Chk.mk (by kernel_rfl)))
    all_goals first | rfl | exact e8 | exact g7.symm | (intro j hj; rfl) | (intro j hj; (have hj2 : j < (Wd ++ [(r.drop (t + b)).take m]).length := hj); rw [g7] at hj2; dsimp only; by_cases z : j < Wd.length; (rw [if_pos z, snoc1 z]); (have e : j - Wd.length = 0 := by omega); rw [if_neg z, snoc2 (show j = Wd.length by omega), e]; rfl)
end Go.Proofs.YtblloaajiaoblaaDoor
namespace Go.Proofs.YtblloaajiaoblaaDoor
open Go Go.RowKit
abbrev Ln : Type := Int × List (List UInt8)
def Ln.av (x : Ln) : AV := lnA x.1 x.2
abbrev Ln.z : Ln := (0, [])
abbrev lnsA (L : List Ln) : AV := .ro 2 L.length (fun j => (L.getD j Ln.z).av)
theorem lsnoc1 {L : List Ln} {x : Ln} {j : Nat} (z : j < L.length) : (L ++ [x]).getD j Ln.z = L.getD j Ln.z := by
  rw [List.getD_eq_getElem?_getD, List.getD_eq_getElem?_getD, List.getElem?_append_left z]
theorem lsnoc2 {L : List Ln} {x : Ln} {j : Nat} (z : j = L.length) : (L ++ [x]).getD j Ln.z = x := by
  subst z
  rw [List.getD_eq_getElem?_getD, List.getElem?_append_right (Nat.le_refl _), Nat.sub_self]; rfl
structure LsR where
  bad : Option Nat
  out : List Ln
  ov : Int
def lsV (s : List UInt8) : Nat → Nat → Nat → List Ln → Int → LsR
  | 0, a, n, out, v => ⟨none, out, v⟩
  | k + 1, a, n, out, v =>
    if s.length < a then ⟨none, out, v⟩
    else if lnX (s.drop a) ≠ 0 then ⟨some (a + lnE (s.drop a)), out, v⟩
    else if lnC (s.drop a) = 1 then lsV s k (a + lnE (s.drop a) + 1) (n + 1) (out ++ [(((n + 1 : Nat) : Int), lnW (s.drop a))]) (if out.length = 4096 then (a : Int) else v)
    else lsV s k (a + lnE (s.drop a) + 1) (n + 1) out v
def lsT (s : List UInt8) : LsR := lsV s (s.length + 2) 0 0 [] 0
def lsE (s : List UInt8) : Int := if 65536 < s.length then 30 else match (lsT s).bad with | some _ => 21 | none => if 4096 < (lsT s).out.length then 30 else 0
def lsA (s : List UInt8) : Int := if 65536 < s.length then 0 else match (lsT s).bad with | some p => (p : Int) | none => if 4096 < (lsT s).out.length then (lsT s).ov else 0
def lsL (s : List UInt8) : List Ln := if lsE s = 0 then (lsT s).out else []
abbrev linesS : PSpec := fun l => match l with | [.str s] => some ([s.length ≤ 140737488355328], .tup [lnsA (lsL s), .int .i64 (lsA s), .int .i64 (lsE s)]) | _ => none
theorem lines_s : SOK Tryd.prog 44 linesS := by
  refine sok_of (C := mkE 0 [] (glook [(66, gdis (fG lineF1) (fG lineF2))]) [] [] []) (mkE_ok pok_nil (gl_cons (gdis_ok line_g1 line_g2) gl_nil) dl_nil) rfl mixed ⟨Tryd.func44, by kernel_rfl, by kernel_rfl, by kernel_rfl⟩ fun l obs v h ho => ?_
  (unfold linesS at h; split at h; rotate_left; (focus (cases h)); rename_i s; simp only [Option.some.injEq, Prod.mk.injEq] at h; obtain ⟨rfl, rfl⟩ := h; simp only [List.mem_cons, List.not_mem_nil, or_false, forall_eq_or_imp, forall_eq, false_implies, implies_true] at ho)
  refine ⟨Nat.le_of_ble_eq_true rfl, ?_⟩
  by_cases hl : 65536 < s.length
  · have e1 : lsE s = 30 := if_pos hl
    have e2 : lsA s = 0 := if_pos hl
    have e3 : lsL s = [] := if_neg (by rw [e1]; decide)
    rw [e1, e2, e3]
    (repeat' (first | (refine xI (fun hfk => ?_) (fun hfk => ?_) <;> ((try (first | replace hfk := oT hfk | replace hfk := oF hfk | simp only [oD, ne_eq, reduceCtorEq] at hfk)); (try exact oX))) | (refine And.intro ?ob ?_; (case ob => (exact oZ))) | exact True.intro | (show _ = _; first | exact oY | (first | rfl | (intro j hj; exact absurd hj (Nat.not_lt_zero _)); done) | exact rfl) | exact oW | (apply And.intro)))
  obtain ⟨R, hR⟩ : ∃ R, lsT s = R := ⟨_, rfl⟩
  (repeat' (first | (refine xI (fun hfk => ?_) (fun hfk => ?_) <;> ((try (first | replace hfk := oT hfk | replace hfk := oF hfk | simp only [oD, ne_eq, reduceCtorEq] at hfk)); (try exact oX))) | (refine And.intro ?ob ?_; (case ob => (exact oZ))) | exact True.intro | (show _ = _; first | exact oY | exact rfl) | exact oW | (apply And.intro)))
  refine ⟨Nat × Nat × Nat × List Ln × Int, fun g => [(0, .str s), (2, .nils), (3, .int .i64 0), (4, .int .i64 0), (5, .ptr 0 0), (6, .fn 66 1 [.ptr 0 0])],
    fun g => ⟨2, [(0, some (.cells 103 [.str s, .int .i64 (g.2.1 : Int), .int .i64 (g.2.2.1 : Int), .sl 1 2 0 g.2.2.2.1.length, .int .i64 g.2.2.2.2])), (1, some (.recs 46 2 g.2.2.2.1.length (fun j => (g.2.2.2.1.getD j Ln.z).av)))]⟩,
    fun g => g.2.1 ≤ s.length + 1 ∧ s.length + 1 - g.2.1 < g.1 ∧ g.2.2.1 ≤ g.2.1 ∧ g.2.2.2.1.length ≤ g.2.1 ∧ lsV s g.1 g.2.1 g.2.2.1 g.2.2.2.1 g.2.2.2.2 = R, fun g => g.1,
    ⟨(s.length + 2, 0, 0, [], 0), [some 0, none], ⟨Nat.zero_le _, by show s.length + 1 - 0 < s.length + 2; omega, Nat.le_refl _, Nat.le_refl _, hR⟩, ?_⟩, fun g hg => ?_⟩
  · (repeat' (first | (refine And.intro ?_ ?_) | exact True.intro | (show _ = _; with_reducible rfl) | exact Chk.mk (by kernel_rfl)))
    all_goals first | rfl | (intro j hj; rfl)
  obtain ⟨q, a, n, L, v⟩ := g
  obtain ⟨g1, g2, g3, g4, g5⟩ := hg
  have g1 : a ≤ s.length + 1 := g1
  have g2 : s.length + 1 - a < q := g2
  have g3 : n ≤ a := g3
  have g4 : L.length ≤ a := g4
  have g5 : lsV s q a n L v = R := g5
  dsimp only
  obtain ⟨q, rfl⟩ : ∃ q', q = q' + 1 := ⟨q - 1, by omega⟩
  have rn : rngI .i64 ((n : Int) + 1) := rng64 (by omega) (by omega)
  by_cases ha : a ≤ s.length
  · have hE := lnV_le ((s.drop a).length + 1) (s.drop a)
    have hE : lnE (s.drop a) ≤ (s.drop a).length := hE
    rw [List.length_drop] at hE
    have tn : ((a : Nat) : Int).toNat = a := Int.toNat_natCast a
    have rE : rngI .i64 ((a : Int) + (lnE (List.drop (a : Int).toNat s) : Int) + 1) := rng64 (by omega) (by rw [tn]; omega)
    unfold lsV at g5
    rw [if_neg (by omega)] at g5
    by_cases hx : lnX (s.drop a) = 0
    rotate_left
    · rw [if_pos hx] at g5
      have hC : lnC (List.drop (a : Int).toNat s) = 0 := if_neg (fun k => hx k.1)
      have hx2 : ¬ lnX (List.drop (a : Int).toNat s) = 0 := hx
      have eb : R.bad = some (a + lnE (s.drop a)) := by rw [← g5]
      have e1 : lsE s = 21 := by unfold lsE; rw [if_neg hl, hR, eb]
      have e2 : lsA s = (a : Int) + (lnE (List.drop (a : Int).toNat s) : Int) := by unfold lsA; rw [if_neg hl, hR, eb]; rfl
      have e3 : lsL s = [] := if_neg (by rw [e1]; decide)
      rw [e1, e2, e3]
      clear e1 e2 e3 eb g5 hE
      (repeat' (first | (refine xI (fun hfk => ?_) (fun hfk => ?_) <;> ((try (first | replace hfk := oT hfk | replace hfk := oF hfk | simp only [oD, ne_eq, reduceCtorEq] at hfk)); (try exact oX))) | (refine And.intro ?ob ?_; (case ob => (exact oZ))) | exact True.intro | (show _ = _; first | exact oY | exact rfl) | exact oW | (apply And.intro)))
      left
      refine ⟨[0, 1], ⟨by kernel_rfl⟩, ?_⟩
      (repeat' (first | (refine xI (fun hfk => ?_) (fun hfk => ?_) <;> ((try (first | replace hfk := oT hfk | replace hfk := oF hfk | simp only [oD, ne_eq, reduceCtorEq] at hfk)); (try exact oX))) | (refine And.intro ?ob ?_; (case ob => (exact oZ))) | exact True.intro | (show _ = _; first | exact oY | (first | rfl | (intro j hj; exact absurd hj (Nat.not_lt_zero _)); done) | exact rfl) | exact oW | (apply And.intro)))
    rw [if_neg (fun k => k hx)] at g5
    have hx2 : lnX (List.drop (a : Int).toNat s) = 0 := hx
    by_cases hC : lnC (s.drop a) = 1
    · rw [if_pos hC] at g5
      have hC2 : lnC (List.drop (a : Int).toNat s) = 1 := hC
      have gl : (L ++ [(((n + 1 : Nat) : Int), lnW (s.drop a))]).length = L.length + 1 := by simp
      have b1 : a + lnE (s.drop a) + 1 ≤ s.length + 1 := by omega
      have b2 : s.length + 1 - (a + lnE (s.drop a) + 1) < q := by omega
      have b3 : n + 1 ≤ a + lnE (s.drop a) + 1 := by omega
      have b4 : (L ++ [(((n + 1 : Nat) : Int), lnW (s.drop a))]).length ≤ a + lnE (s.drop a) + 1 := by rw [gl]; omega
      have e8 : (a : Int) + (lnE (List.drop (a : Int).toNat s) : Int) + 1 = ((a + lnE (s.drop a) + 1 : Nat) : Int) := by rw [tn]; omega
      clear hE
      (repeat' (first | (refine xI (fun hfk => ?_) (fun hfk => ?_) <;> ((try (first | replace hfk := oT hfk | replace hfk := oF hfk | simp only [oD, ne_eq, reduceCtorEq] at hfk)); (try exact oX))) | (refine And.intro ?ob ?_; (case ob => (exact oZ))) | exact True.intro | (show _ = _; first | exact oY | exact rfl) | exact oW | (apply And.intro)))
      right
      refine ⟨[0, 1], ⟨by kernel_rfl⟩, ?_⟩
      (repeat' (first | (refine xI (fun hfk => ?_) (fun hfk => ?_) <;> ((try (first | replace hfk := oT hfk | replace hfk := oF hfk | simp only [oD, ne_eq, reduceCtorEq] at hfk)); (try exact oX))) | (refine And.intro ?ob ?_; (case ob => (exact oZ))) | exact True.intro | (show _ = _; first | exact oY | exact rfl) | exact oW | (apply And.intro)))
      refine ⟨(q, a + lnE (s.drop a) + 1, n + 1, L ++ [(((n + 1 : Nat) : Int), lnW (s.drop a))], if L.length = 4096 then (a : Int) else v), [some 0, some 2], ⟨b1, b2, b3, b4, g5⟩, Nat.lt_succ_self q, ?_⟩
      have en : (n : Int) + 1 = ((n + 1 : Nat) : Int) := by omega
      (repeat' (first | (refine And.intro ?_ ?_) | exact True.intro | (show _ = _; with_reducible rfl) | exact Chk.mk (by kernel_rfl)))
      all_goals first | rfl | exact e8 | exact en | exact gl.symm | (intro j hj; (have hj2 : j < (L ++ [(((n + 1 : Nat) : Int), lnW (s.drop a))]).length := hj); rw [gl] at hj2; dsimp only; by_cases z : j < L.length; (rw [if_pos z, lsnoc1 z]); rw [if_neg z, lsnoc2 (show j = L.length by omega)]; rfl)
    · rw [if_neg hC] at g5
      have hC2 : lnC (List.drop (a : Int).toNat s) = 0 := by
        have : lnC (s.drop a) = 0 := by unfold lnC at hC ⊢; split at hC; exact absurd rfl hC; rw [if_neg (by assumption)]
        exact this
      have b1 : a + lnE (s.drop a) + 1 ≤ s.length + 1 := by omega
      have b2 : s.length + 1 - (a + lnE (s.drop a) + 1) < q := by omega
      have b3 : n + 1 ≤ a + lnE (s.drop a) + 1 := by omega
      have b4 : L.length ≤ a + lnE (s.drop a) + 1 := by omega
      have e8 : (a : Int) + (lnE (List.drop (a : Int).toNat s) : Int) + 1 = ((a + lnE (s.drop a) + 1 : Nat) : Int) := by rw [tn]; omega
      clear hE hC
      (repeat' (first | (refine xI (fun hfk => ?_) (fun hfk => ?_) <;> ((try (first | replace hfk := oT hfk | replace hfk := oF hfk | simp only [oD, ne_eq, reduceCtorEq] at hfk)); (try exact oX))) | (refine And.intro ?ob ?_; (case ob => (exact oZ))) | exact True.intro | (show _ = _; first | exact oY | exact rfl) | exact oW | (apply And.intro)))
      left
      refine ⟨[0, 1], ⟨by kernel_rfl⟩, ?_⟩
      (repeat' (first | (refine xI (fun hfk => ?_) (fun hfk => ?_) <;> ((try (first | replace hfk := oT hfk | replace hfk := oF hfk | simp only [oD, ne_eq, reduceCtorEq] at hfk)); (try exact oX))) | (refine And.intro ?ob ?_; (case ob => (exact oZ))) | exact True.intro | (show _ = _; first | exact oY | exact rfl) | exact oW | (apply And.intro)))
      refine ⟨(q, a + lnE (s.drop a) + 1, n + 1, L, v), [some 0, some 1], ⟨b1, b2, b3, b4, g5⟩, Nat.lt_succ_self q, ?_⟩
      (repeat' (first | (refine And.intro ?_ ?_) | exact True.intro | (show _ = _; with_reducible rfl) | exact Chk.mk (by kernel_rfl)))
      all_goals first | rfl | exact e8 | (intro j hj; rfl) | (show (_ : Int) = _; omega)
  · unfold lsV at g5
    rw [if_pos (by omega)] at g5
    have eb : R.bad = none := by rw [← g5]
    have eo : R.out = L := by rw [← g5]
    have ev : R.ov = v := by rw [← g5]
    by_cases h4 : 4096 < L.length
    · have e1 : lsE s = 30 := by unfold lsE; rw [if_neg hl, hR, eb]; show (if 4096 < R.out.length then _ else _) = _; rw [eo, if_pos h4]
      have e2 : lsA s = v := by unfold lsA; rw [if_neg hl, hR, eb]; show (if 4096 < R.out.length then R.ov else _) = _; rw [eo, ev, if_pos h4]
      have e3 : lsL s = [] := if_neg (by rw [e1]; decide)
      rw [e1, e2, e3]
      (repeat' (first | (refine xI (fun hfk => ?_) (fun hfk => ?_) <;> ((try (first | replace hfk := oT hfk | replace hfk := oF hfk | simp only [oD, ne_eq, reduceCtorEq] at hfk)); (try exact oX))) | (refine And.intro ?ob ?_; (case ob => (exact oZ))) | exact True.intro | (show _ = _; first | exact oY | (first | rfl | (intro j hj; exact absurd hj (Nat.not_lt_zero _)); done) | exact rfl) | exact oW | (apply And.intro)))
    · have e1 : lsE s = 0 := by unfold lsE; rw [if_neg hl, hR, eb]; show (if 4096 < R.out.length then _ else _) = _; rw [eo, if_neg h4]
      have e2 : lsA s = 0 := by unfold lsA; rw [if_neg hl, hR, eb]; show (if 4096 < R.out.length then R.ov else _) = _; rw [eo, if_neg h4]
      have e3 : lsL s = L := by unfold lsL; rw [if_pos e1, hR, eo]
      rw [e1, e2, e3]
      (repeat' (first | (refine xI (fun hfk => ?_) (fun hfk => ?_) <;> ((try (first | replace hfk := oT hfk | replace hfk := oF hfk | simp only [oD, ne_eq, reduceCtorEq] at hfk)); (try exact oX))) | (refine And.intro ?ob ?_; (case ob => (exact oZ))) | exact True.intro | (show _ = _; first | exact oY | (first | rfl | (intro j hj; rfl); done) | exact rfl) | exact oW | (apply And.intro)))
      intro j hj
      show (L.getD (0 + j) Ln.z).av = (L.getD j Ln.z).av
      rw [Nat.zero_add]
end Go.Proofs.YtblloaajiaoblaaDoor
namespace Go.Proofs.YtblloaajiaoblaaDoor
open Go Go.RowKit
def nilB (o : Op) (e : Env) : Bool := match o with
  | .call { callee := .builtin .append, args, argTypes } => (match args.toList with
    | [d, s] => (match evA e d, evA e s with | some .nils, some (.str _) => true | _, _ => false)
    | _ => false)
  | _ => false
def appN (T : TypeId → Option TI) (H : AH) (t t' : TypeId) (z : List UInt8) (K : AV → AH → Prop) : Prop :=
  match tdq T t, tdq T t' with
  | .slice el, .str => (match T el, tdq T el with
    | some i, .int .u8 => bif Nat.beq i.sz 1 && Nat.beq i.by_ 1 && Nat.beq i.zero.length 1 then
        ((0 < z.length ∧ z.length ≤ 140737488355328) ∧ K (.sl H.nx 1 0 z.length) (H.push (.ints el .u8 (z.map fun c => (c.toNat : Int))))) else False
    | _, _ => False)
  | _, _ => False
noncomputable def appXN (T : TypeId → Option TI) (o : Op) (e : Env) (H : AH) (K : AV → AH → Prop) : Prop := match o with
  | .call { callee := .builtin .append, args, argTypes } => (match args.toList, argTypes.toList with
    | [d, s], [t, t'] => (match evA e d, evA e s with | some .nils, some (.str z) => appN T H t t' z K | _, _ => False)
    | _, _ => False)
  | _ => False
noncomputable def xop6 (T : TypeId → Option TI) (o : Op) (e : Env) (H : AH) (K : AV → AH → Prop) : Prop := match nilB o e with
  | true => appXN T o e H K
  | false => xop5 T o e H K
theorem run_append_nil_string {P : Program} {w : World} (t u ty e : TypeId) (i : TypeInfo) (z : Value) (ht : P.underlying t = some (.slice e)) (hu : P.underlying u = some .string) (hi : P.info? e = some i) (hz : i.zero = some z)
    (s : ByteArray) (hg : 0 < s.size) (h63 : ((s.size : Nat) : Int) ≤ 9223372036854775807) (hfit : Builtin.nextslicecap s.size 0 * i.bytes ≤ 281474976710656) :
    (Builtin.append_ #[t, u] ty #[.slice none 0 0, .string s]).run P w =
      .ok (.slice (some ⟨w.heap.size, 0, none⟩) s.size (grownCap w s.size 0 e))
        (w.drew.alloc (.cells ((Lib.strCells s).toArray ++ Builtin.zeroCells z.cells (grownCap w s.size 0 e - s.size)) e)) := by
  have hn : ¬ (s.size ≤ 0) := by omega
  have hn2 : ¬ s.size = 0 := by omega
  have h63' : ¬ (9223372036854775807 < (s.size : Int)) := by omega
  have h48' : ¬ (281474976710656 < Builtin.nextslicecap s.size 0 * i.bytes) := by omega
  have hf := Lib.run_firstCells_string (P := P) w.drew i.size s
  simp [Builtin.append_, run_underlying ht, run_underlying hu, sizeOf, typeInfo, zeroValue, hi, hz, Builtin.lenOf, hn, hn2, h63', h48', Question.forced, hf, Builtin.firstCells, newRow, grownCap]
  have hx : (Array.map (fun b : UInt8 => Value.int IntKind.u8 (b.toNat : Int)) s.data).extract 0 s.size = (Lib.strCells s).toArray := by
    have e1 : s.size = (Array.map (fun b : UInt8 => Value.int IntKind.u8 (b.toNat : Int)) s.data).size := by rw [Array.size_map]; rfl
    rw [e1, Array.extract_size]
    apply Array.ext'
    simp [Lib.strCells]
  rw [hx]
section
variable {P : Program} {F Ob : Nat → Prop} {W0 : World} {R : PN} {H : AH} {w : World} {T : TypeId → Option TI}
theorem appXN_ok (hT : TOK P T) {o : Oper} {a : Act} {e : Env} {K : AV → AH → Prop} {args : Array Operand} {ts : Array TypeId} (ho : o.op = .call { callee := .builtin .append, args, argTypes := ts }) (h : appXN T o.op e H K) (hH : HRel F Ob W0 R H w) (hE : ERel R w (Wr F R H) e a.tmps) : o.wp P a w (GP F Ob W0 R H o a e K) NoWay := by
  rw [ho] at h
  unfold appXN at h
  simp only at h
  split at h
  rotate_left
  · exact h.elim
  rename_i d s t t' hargs hts
  obtain rfl : args = #[d, s] := by rw [← Array.toArray_toList (xs := args), hargs]
  obtain rfl : ts = #[t, t'] := by rw [← Array.toArray_toList (xs := ts), hts]
  split at h
  rotate_left
  · exact h.elim
  rename_i z hvd hvs
  have hrd := evA_rep hE hvd
  have hrs := evA_rep hE hvs
  unfold appN at h
  split at h
  rotate_left
  · exact h.elim
  rename_i el hd hstr
  have hu := tdq_slice hT hd
  have hus := tdq_str hT hstr
  split at h
  rotate_left
  · exact h.elim
  rename_i i hti hde
  obtain ⟨de, hue, hdeb⟩ := und_td hT hde (by simp)
  obtain ⟨inf, ds, z0, g1i, g2i, g3i, rfl⟩ := probe_inv (hT _ i hti)
  replace h := bif_true h; obtain ⟨hc4, h⟩ := h
  simp only [Bool.and_eq_true] at hc4
  obtain ⟨⟨hz1, hz2⟩, hz3⟩ := hc4
  have hs1 : inf.size = 1 := beq_iff.1 hz1
  have hb1 : inf.bytes = 1 := beq_iff.1 hz2
  have hzl : z0.cells.size = 1 := by have := beq_iff.1 hz3; simpa using this
  obtain ⟨⟨hn0, hle⟩, hK⟩ := h
  generalize hgd : a.eval d = cd at hrd
  generalize hgs : a.eval s = cs at hrs
  cases hrs
  cases hrd
  have hzs : (⟨z.toArray⟩ : ByteArray).size = z.length := by simp [ByteArray.size]
  have hsc : Lib.strCells ⟨z.toArray⟩ = z.map fun (x : UInt8) => Value.int .u8 (x.toNat : Int) := by simp [Lib.strCells]
  have hzb : ∀ q, (Builtin.zeroCells z0.cells q).size = q := fun q => by rw [size_zeroCells, hzl, Nat.mul_one]
  have hrun0 := run_append_nil_string (P := P) (w := w) t t' o.type el inf z0 hu hus g1i g3i ⟨z.toArray⟩ (by rw [hzs]; omega) (by rw [hzs]; omega) (by rw [hzs]; exact growslice_fits (by omega) (by rw [hb1, Nat.mul_one]; omega))
  rw [hzs, hsc] at hrun0
  have hcap := grownCap_ge w z.length 0 el
  have hcm := grownCap_le_maxLen w z.length 0 el (by simp only [maxLen]; omega)
  generalize hcc : grownCap w z.length 0 el = cap at hrun0 hcap hcm
  generalize hus' : (z.map fun (x : UInt8) => Value.int .u8 (x.toNat : Int)) ++ (Builtin.zeroCells z0.cells (cap - z.length)).toList = us
  have hul : us.length = cap := by rw [← hus']; simp only [List.length_append, List.length_map, Array.length_toList, hzb]; omega
  have hbl : (z.map fun (x : UInt8) => Value.int .u8 (x.toNat : Int)).toArray ++ Builtin.zeroCells z0.cells (cap - z.length) = us.toArray := by
    rw [← hus', ← List.append_toArray (l₂ := (Builtin.zeroCells _ _).toList), Array.toArray_toList]
  rw [hbl] at hrun0
  have hrun := run_appendOpS ho (a := a) (by rw [hgd, hgs]; exact hrun0)
  have hp : (w.drew.alloc (.cells us.toArray el)).heap[w.heap.size]? = some (.cells us.toArray el (0, 0)) := heap_push w.drew _
  have hxn : Ext (fun _ => False) w (w.drew.alloc (.cells us.toArray el)) := (Ext.drew _ w).trans (Ext.alloc (fun _ => False) w.drew _) (fun _ _ k => k)
  obtain ⟨p1, p2⟩ := hH.push (b := some w.heap.size) (en := .ints el .u8 (z.map fun c => (c.toNat : Int))) hxn (fun g hg => by cases hg; exact Nat.le_refl _) (fun O' hO' =>
    ⟨us, _, hp, nf0 _, by rw [hul, List.length_map]; omega, fun i y hi => by
      have hlt : i < z.length := by have := (List.getElem?_eq_some_iff.1 hi).1; simpa using this
      rw [← hus', List.getElem?_append_left (by simpa using hlt)]
      rw [List.getElem?_map] at hi ⊢
      obtain ⟨q, hq, rfl⟩ := opt_map hi
      rw [hq]; rfl⟩)
  refine gp_run hrun hE hK hH.len (fun i hi => pre_nx _ i hi) (hxn.weaken fun _ _ k => k.elim) p1 p2 ?_
  exact .sl _ _ _ _ w.heap.size cap 0 (el, us.length) (by exact app_last _ _ _) hcap hcm (fun _ => by simp) (by unfold World.shape?; rw [hp]; simp) (by rw [hul]; simp)
theorem xok6 {C : Ctx} (hT : TOK P C.T) (hC : C.X = xop6 C.T) : XOK P C := by
  intro o a e F Ob W0 R H w K h hH hE
  rw [hC] at h
  unfold xop6 at h
  split at h
  · rename_i hb
    unfold nilB at hb
    split at hb
    · rename_i args ts ho
      exact appXN_ok hT ho h hH hE
    · cases hb
  · exact xok5 (C := { C with X := xop5 C.T }) hT rfl o a e F Ob W0 R H w K h hH hE
end
noncomputable def mkN (p : Nat) (S : List (FuncId × PSpec)) (G : FuncId → Option GSpec) (cuts : List Nat) : Ctx := ⟨p, tlook tt, slook S, G, xsA (tlook tt), xop6 (tlook tt), fun i => cuts.any (Nat.beq i), fun _ _ _ => none, fun _ => 0, fun _ _ _ => none⟩
theorem mkN_ok {p : Nat} {S : List (FuncId × PSpec)} {G : FuncId → Option GSpec} {cuts : List Nat} (hS : POK Tryd.prog (slook S)) (hG : ∀ g s, G g = some s → GSOK Tryd.prog g s) : COK Tryd.prog (mkN p S G cuts) :=
  ⟨ttok, hS, gok_of ttok (xok6 ttok rfl) hG, (fun g l H obs v δ nx K h => by cases h), ⟨fun _ _ _ _ _ => rfl, fun o e H obs v δ nx K h => by cases h⟩⟩
theorem fokN {S : List (FuncId × PSpec)} {G : FuncId → Option GSpec} (cuts : List Nat) (hS : POK Tryd.prog (slook S)) (hG : ∀ g s, G g = some s → GSOK Tryd.prog g s) {g : FuncId} {fn : Func} (hf : FnOK Tryd.prog g fn) {FS : FSpec}
    (h : ∀ l es obs v es', FS l es = some (obs, v, es') → (∀ p ∈ obs, p) → l.length ≤ fn.ntmps ∧ vcFn (mkN es.length S G cuts) fn l ⟨es.length, num 0 (es.map some)⟩ (RetF es.length v es')) : GSOK Tryd.prog g (fG FS) :=
  fok_of (T := tlook tt) (S := slook S) (G := G) (xs := xsA (tlook tt)) (X := xop6 (tlook tt)) (cut := fun i => cuts.any (Nat.beq i)) (XD := fun _ _ _ => none) (XN := fun _ => 0) (DX := fun _ _ _ => none) (fun p => mkN_ok (p := p) (cuts := cuts) hS hG) mixed hf h
end Go.Proofs.YtblloaajiaoblaaDoor
namespace Go.Proofs.YtblloaajiaoblaaDoor
open Go Go.RowKit
def dv (l : List UInt8) : Nat := l.foldl (fun a c => a * 10 + (c.toNat - 48)) 0
def isd (c : UInt8) : Prop := 48 ≤ c.toNat ∧ c.toNat ≤ 57
theorem dv_app (l : List UInt8) (c : UInt8) : dv (l ++ [c]) = dv l * 10 + (c.toNat - 48) := by
  unfold dv
  rw [List.foldl_append]
  rfl
theorem d48 {d : Nat} (h : d < 10) : (UInt8.ofNat (48 + d)).toNat = 48 + d := by
  rw [UInt8.toNat_ofNat', Nat.mod_eq_of_lt (show 48 + d < 2 ^ 8 by omega)]
theorem dd_big {u : Nat} (h : ¬ u < 10) : Lib.decDigits u = Lib.decDigits (u / 10) ++ [UInt8.ofNat (48 + u % 10)] := by
  rw [Lib.decDigits, dif_neg h]
theorem dd_all (u : Nat) : (∀ c ∈ Lib.decDigits u, isd c) ∧ dv (Lib.decDigits u) = u ∧ 0 < (Lib.decDigits u).length := by
  induction u using Nat.strongRecOn with
  | _ u ih =>
    by_cases h : u < 10
    · rw [Lib.decDigits_one h]
      have e := d48 h
      refine ⟨fun c hc => ?_, ?_, Nat.one_pos⟩
      · rw [List.mem_singleton.1 hc]
        unfold isd
        omega
      · show 0 * 10 + ((UInt8.ofNat (48 + u)).toNat - 48) = u
        omega
    · obtain ⟨h1, h2, h3⟩ := ih (u / 10) (by omega)
      have e := d48 (Nat.mod_lt u (by decide : 0 < 10))
      rw [dd_big h]
      refine ⟨fun c hc => ?_, ?_, by rw [List.length_append]; omega⟩
      · rcases List.mem_append.1 hc with k | k
        · exact h1 c k
        · rw [List.mem_singleton.1 k]
          unfold isd
          omega
      · rw [dv_app, h2]
        omega
theorem pum_app (M : Nat) : ∀ (l : List UInt8) (a : Nat) (c : UInt8) {b : Nat}, Lib.parseUintM M a l = .ok b → Lib.parseUintM M a (l ++ [c]) = Lib.parseUintM M b [c]
  | [], a, c, b, h => by
    have : a = b := by injection h
    subst this; rfl
  | x :: l, a, c, b, h => by
    show Lib.parseUintM M a (x :: (l ++ [c])) = _
    unfold Lib.parseUintM at h ⊢
    split at h
    · rename_i k
      rw [if_pos k]
      split at h
      · cases h
      · rename_i k2
        rw [if_neg k2]
        split at h
        · cases h
        · rename_i k3
          rw [if_neg k3]
          exact pum_app M l _ c h
    · cases h
theorem pum_dd {M u : Nat} (hM : M = 18446744073709551615) (h : u ≤ M) : Lib.parseUintM M 0 (Lib.decDigits u) = .ok u := by
  induction u using Nat.strongRecOn with
  | _ u ih =>
    by_cases k : u < 10
    · rw [Lib.decDigits_one k]
      have e := d48 k
      unfold Lib.parseUintM
      rw [if_pos (by omega), if_neg (by omega), if_neg (by omega)]
      unfold Lib.parseUintM
      congr 1
      omega
    · have h1 := ih (u / 10) (by omega) (by omega)
      have e := d48 (Nat.mod_lt u (by decide : 0 < 10))
      rw [dd_big k, pum_app M _ _ _ h1]
      unfold Lib.parseUintM
      rw [if_pos (by omega), if_neg (by omega), if_neg (by omega)]
      unfold Lib.parseUintM
      congr 1
      omega
def ngT (s : List UInt8) : Prop := 0 < s.length ∧ (s.getD 0 0).toNat = 45
instance (s : List UInt8) : Decidable (ngT s) := by unfold ngT; exact inferInstance
def tnT (s : List UInt8) : List UInt8 := if ngT s then s.drop 1 else s
def dxT (s : List UInt8) : Int := if ngT s then -(dv (tnT s) : Int) else (dv (tnT s) : Int)
structure NuC (s : List UInt8) : Prop where
  pos : 0 < (tnT s).length
  le : (tnT s).length ≤ 25
  dig : ∀ c ∈ tnT s, isd c
  lo : -9223372036854775808 ≤ dxT s
  hi : dxT s ≤ 9223372036854775807
  eq : Lib.itoa (dxT s) = s
noncomputable instance (s : List UInt8) : Decidable (NuC s) := Classical.propDecidable _
noncomputable def nuX (s : List UInt8) : Int := if NuC s then dxT s else 0
noncomputable def nuB (s : List UInt8) : Bool := decide (NuC s)
theorem nu_yes {s : List UInt8} (h : NuC s) : nuX s = dxT s ∧ nuB s = true := ⟨if_pos h, decide_eq_true h⟩
theorem nu_no {s : List UInt8} (h : ¬ NuC s) : nuX s = 0 ∧ nuB s = false := ⟨if_neg h, decide_eq_false h⟩
theorem nu_itoa {v : Int} (h0 : -9223372036854775808 ≤ v) (h1 : v ≤ 9223372036854775807) : NuC (Lib.itoa v) ∧ dxT (Lib.itoa v) = v ∧ Lib.parseIntB 64 (Lib.itoa v) = .ok v := by
  have hl := Lib.itoa_length_le v h0 h1
  by_cases hv : 0 ≤ v
  · obtain ⟨u, rfl⟩ := Int.eq_ofNat_of_zero_le hv
    rw [Lib.itoa_nonneg] at hl ⊢
    obtain ⟨d1, d2, d3⟩ := dd_all u
    have hd := pum_dd (M := 18446744073709551615) (u := u) rfl (by omega)
    generalize hD : Lib.decDigits u = D at hl d1 d2 d3 hd ⊢
    have ng : ¬ ngT D := fun k => by
      have := d1 (D.getD 0 0) (by rw [List.getD_eq_getElem?_getD, List.getElem?_eq_getElem d3]; exact List.getElem_mem d3)
      have h2 := k.2
      unfold isd at this
      omega
    have et : tnT D = D := if_neg ng
    have ex : dxT D = (u : Int) := by unfold dxT; rw [if_neg ng, et, d2]
    refine ⟨⟨by rw [et]; exact d3, by rw [et]; omega, by rw [et]; exact d1, by rw [ex]; exact h0, by rw [ex]; exact h1, by rw [ex, Lib.itoa_nonneg, hD]⟩, ex, ?_⟩
    match D, d3 with
    | c :: r, _ =>
      have hc := d1 c List.mem_cons_self
      unfold isd at hc
      unfold Lib.parseIntB
      have e1 : ¬ (c.toNat = 43 ∨ c.toNat = 45) := by omega
      have e2 : ¬ c.toNat = 45 := by omega
      simp only [if_neg e1]
      unfold Lib.parseUintB
      rw [if_neg (by simp), show 2 ^ 64 - 1 = 18446744073709551615 from by decide, hd]
      simp only
      rw [if_neg (by have : 2 ^ (64 - 1) = 9223372036854775808 := by decide
                     omega), if_neg (fun k => e2 k.1), if_neg e2]
  · obtain ⟨u, rfl⟩ : ∃ u : Nat, v = -(u : Int) := ⟨v.natAbs, by omega⟩
    rw [Lib.itoa_neg u (by omega)] at hl ⊢
    obtain ⟨d1, d2, d3⟩ := dd_all u
    have hd := pum_dd (M := 18446744073709551615) (u := u) rfl (by omega)
    generalize hD : Lib.decDigits u = D at hl d1 d2 d3 hd ⊢
    have ng : ngT (45 :: D) := ⟨Nat.succ_pos _, rfl⟩
    have et : tnT (45 :: D) = D := if_pos ng
    have ex : dxT (45 :: D) = -(u : Int) := by unfold dxT; rw [if_pos ng, et, d2]
    rw [List.length_cons] at hl
    refine ⟨⟨by rw [et]; exact d3, by rw [et]; omega, by rw [et]; exact d1, by rw [ex]; exact h0, by rw [ex]; exact h1, by rw [ex, Lib.itoa_neg u (by omega), hD]⟩, ex, ?_⟩
    unfold Lib.parseIntB
    have e1 : ((45 : UInt8).toNat = 43 ∨ (45 : UInt8).toNat = 45) := .inr rfl
    have e2 : (45 : UInt8).toNat = 45 := rfl
    simp only [if_pos e1]
    unfold Lib.parseUintB
    rw [if_neg (fun k => by rw [k] at d3; cases d3), show 2 ^ 64 - 1 = 18446744073709551615 from by decide, hd]
    simp only
    rw [if_neg (fun k => k.1 e2), if_neg (fun k => by
      have h3 := k.2
      have : 2 ^ (64 - 1) = 9223372036854775808 := by decide
      omega), if_pos e2]
theorem nu_ok {s : List UInt8} {v : Int} (h : Lib.parseIntB 64 s = .ok v) (e : Lib.itoa v = s) : nuX s = v ∧ nuB s = true := by
  obtain ⟨b0, b1⟩ := Lib.parseIntB_bounds h
  have e63 : ((2 ^ (64 - 1) : Nat) : Int) = 9223372036854775808 := by decide
  obtain ⟨c1, c2, c3⟩ := nu_itoa (v := v) (by omega) (by omega)
  rw [e] at c1 c2
  obtain ⟨k1, k2⟩ := nu_yes c1
  exact ⟨k1.trans c2, k2⟩
theorem nu_bad {s : List UInt8} (h : ∀ v, Lib.parseIntB 64 s = .ok v → Lib.itoa v ≠ s) : nuX s = 0 ∧ nuB s = false := nu_no fun k => by
  obtain ⟨c1, c2, c3⟩ := nu_itoa k.lo k.hi
  rw [k.eq] at c3
  exact h _ c3 k.eq
end Go.Proofs.YtblloaajiaoblaaDoor
namespace Go.Proofs.YtblloaajiaoblaaDoor
def valD : List Int → Int
  | [] => 0
  | d :: l => d + 32768 * valD l
structure Dg (d : Int) : Prop where
  lo : 0 ≤ d
  hi : d < 32768
def Dig (l : List Int) : Prop := ∀ d ∈ l, Dg d
theorem Dig.nil : Dig [] := fun d h => by cases h
theorem Dig.cons {d : Int} {l : List Int} (h : Dg d) (k : Dig l) : Dig (d :: l) := fun x hx => by
  rcases List.mem_cons.1 hx with rfl | hx
  · exact h
  · exact k x hx
theorem Dig.head {d : Int} {l : List Int} (h : Dig (d :: l)) : Dg d := h d List.mem_cons_self
theorem Dig.tail {d : Int} {l : List Int} (h : Dig (d :: l)) : Dig l := fun x hx => h x (List.mem_cons_of_mem _ hx)
theorem Dig.app {l m : List Int} (h : Dig l) (k : Dig m) : Dig (l ++ m) := fun x hx => (List.mem_append.1 hx).elim (h x) (k x)
theorem Dig.take {l : List Int} (h : Dig l) (n : Nat) : Dig (l.take n) := fun x hx => h x (List.mem_of_mem_take hx)
theorem Dig.drop {l : List Int} (h : Dig l) (n : Nat) : Dig (l.drop n) := fun x hx => h x (List.mem_of_mem_drop hx)
theorem valD_nn : ∀ {l : List Int}, Dig l → 0 ≤ valD l
  | [], _ => by unfold valD; omega
  | d :: l, h => by
    have h1 := h.head.lo
    have h2 := valD_nn h.tail
    unfold valD
    omega
def dgs (n : Nat) : List Int := if h : n = 0 then [] else ((n % 32768 : Nat) : Int) :: dgs (n / 32768)
termination_by n
decreasing_by omega
theorem dgs_0 : dgs 0 = [] := by unfold dgs; simp
theorem dgs_pos {n : Nat} (h : n ≠ 0) : dgs n = ((n % 32768 : Nat) : Int) :: dgs (n / 32768) := by rw [dgs, dif_neg h]
theorem valD_dgs (n : Nat) : valD (dgs n) = n := by
  induction n using Nat.strongRecOn with
  | ind n ih =>
    by_cases h : n = 0
    · subst h; rw [dgs_0]; rfl
    · rw [dgs_pos h, valD, ih (n / 32768) (by omega)]
      omega
theorem Dig_dgs (n : Nat) : Dig (dgs n) := by
  induction n using Nat.strongRecOn with
  | ind n ih =>
    by_cases h : n = 0
    · subst h; rw [dgs_0]; exact Dig.nil
    · rw [dgs_pos h]
      exact Dig.cons ⟨by omega, by omega⟩ (ih _ (by omega))
def trimL : List Int → List Int
  | [] => []
  | d :: l => match trimL l with
    | [] => if d = 0 then [] else [d]
    | x :: r => d :: x :: r
theorem trim_dgs : ∀ {l : List Int}, Dig l → trimL l = dgs (valD l).toNat
  | [], _ => by unfold trimL valD; rw [show (0 : Int).toNat = 0 from rfl, dgs_0]
  | d :: l, h => by
    have hd := h.head
    have hv := valD_nn h.tail
    have ih := trim_dgs h.tail
    have h1 := hd.lo
    have h2 := hd.hi
    obtain ⟨V, hV⟩ := Int.eq_ofNat_of_zero_le hv
    obtain ⟨D, hD⟩ := Int.eq_ofNat_of_zero_le h1
    have e : (valD (d :: l)).toNat = D + 32768 * V := by unfold valD; omega
    have eV : (valD l).toNat = V := by omega
    rw [e]
    rw [eV] at ih
    unfold trimL
    rw [ih]
    by_cases hz : V = 0
    · subst hz
      rw [dgs_0]
      by_cases hd0 : d = 0
      · have : D = 0 := by omega
        subst this
        rw [if_pos hd0, dgs_0]
      · rw [if_neg hd0, dgs_pos (by omega)]
        have e1 : (D + 32768 * 0) / 32768 = 0 := by omega
        have e2 : (D + 32768 * 0) % 32768 = D := by omega
        rw [e1, e2, dgs_0, hD]
    · have e1 : (D + 32768 * V) / 32768 = V := by omega
      have e2 : (D + 32768 * V) % 32768 = D := by omega
      rw [dgs_pos (n := D + 32768 * V) (by omega), e1, e2, ← hD]
      generalize hq : dgs V = q
      cases q with
      | nil => rw [dgs_pos hz] at hq; cases hq
      | cons x r => rfl
theorem trimL_snoc0 (l : List Int) : trimL (l ++ [0]) = trimL l := by
  induction l with
  | nil => rfl
  | cons d l ih => rw [List.cons_append, trimL, ih]; rfl
theorem trimL_snoc {l : List Int} {d : Int} (h : d ≠ 0) : trimL (l ++ [d]) = l ++ [d] := by
  induction l with
  | nil => simp [trimL, h]
  | cons x l ih =>
    rw [List.cons_append, trimL, ih]
    cases l <;> rfl
def hd0 (l : List Int) : Int := match l with | [] => 0 | d :: _ => d
def sumR : List Int → List Int → Int → List Int
  | [], [], c => [c]
  | [], y :: b, c => (y + c) % 32768 :: sumR [] b ((y + c) / 32768)
  | x :: a, [], c => (x + c) % 32768 :: sumR a [] ((x + c) / 32768)
  | x :: a, y :: b, c => (x + y + c) % 32768 :: sumR a b ((x + y + c) / 32768)
theorem sumR_val : ∀ (a b : List Int) (c : Int), valD (sumR a b c) = valD a + valD b + c
  | [], [], c => by simp [sumR, valD]
  | [], y :: b, c => by
    have := sumR_val [] b ((y + c) / 32768)
    simp only [sumR, valD] at *
    omega
  | x :: a, [], c => by
    have := sumR_val a [] ((x + c) / 32768)
    simp only [sumR, valD] at *
    omega
  | x :: a, y :: b, c => by
    have := sumR_val a b ((x + y + c) / 32768)
    simp only [sumR, valD] at *
    omega
theorem sumR_dig : ∀ {a b : List Int} {c : Int}, Dig a → Dig b → 0 ≤ c → c ≤ 1 → Dig (sumR a b c)
  | [], [], c, _, _, h0, h1 => by
    rw [sumR]
    exact Dig.cons ⟨h0, by omega⟩ Dig.nil
  | [], y :: b, c, _, hb, h0, h1 => by
    have h2 := hb.head.lo; have h3 := hb.head.hi
    rw [sumR]
    exact Dig.cons ⟨by omega, by omega⟩ (sumR_dig Dig.nil hb.tail (by omega) (by omega))
  | x :: a, [], c, ha, _, h0, h1 => by
    have h2 := ha.head.lo; have h3 := ha.head.hi
    rw [sumR]
    exact Dig.cons ⟨by omega, by omega⟩ (sumR_dig ha.tail Dig.nil (by omega) (by omega))
  | x :: a, y :: b, c, ha, hb, h0, h1 => by
    have h2 := ha.head.lo; have h3 := ha.head.hi; have h4 := hb.head.lo; have h5 := hb.head.hi
    rw [sumR]
    exact Dig.cons ⟨by omega, by omega⟩ (sumR_dig ha.tail hb.tail (by omega) (by omega))
def dgAt (l : List Int) (i : Int) : Int := if 0 ≤ i ∧ i < (l.length : Int) then l.getD i.toNat 0 else 0
theorem dgAt_in {l : List Int} {i : Nat} (h : i < l.length) : dgAt l i = l.getD i 0 := by unfold dgAt; rw [if_pos (by omega)]; rfl
theorem dgAt_out {l : List Int} {i : Nat} (h : l.length ≤ i) : dgAt l i = 0 := if_neg (by omega)
theorem dgAt_bd {l : List Int} (hl : Dig l) (i : Int) : 0 ≤ dgAt l i ∧ dgAt l i < 32768 := by
  unfold dgAt
  split
  · rename_i h
    have hlt : i.toNat < l.length := by omega
    simp only [List.getD, List.getElem?_eq_getElem hlt, Option.getD_some]
    have := hl _ (List.getElem_mem hlt)
    exact ⟨this.lo, this.hi⟩
  · omega
theorem drop_dg {l : List Int} {i : Nat} (h : i < l.length) : l.drop i = dgAt l i :: l.drop (i + 1) := by
  rw [dgAt_in h, List.drop_eq_getElem_cons h]
  simp [List.getD, List.getElem?_eq_getElem h]
theorem drop_out {l : List Int} {i : Nat} (h : l.length ≤ i) : l.drop i = [] := List.drop_of_length_le h
theorem sumR_step {a b : List Int} {i : Nat} {c : Int} (h : i < max a.length b.length) :
    sumR (a.drop i) (b.drop i) c = (dgAt a i + dgAt b i + c) % 32768 :: sumR (a.drop (i + 1)) (b.drop (i + 1)) ((dgAt a i + dgAt b i + c) / 32768) := by
  by_cases ha : i < a.length
  · by_cases hb : i < b.length
    · rw [drop_dg ha, drop_dg hb, sumR]
    · rw [drop_dg ha, drop_out (l := b) (by omega), drop_out (l := b) (i := i + 1) (by omega), dgAt_out (l := b) (by omega), Int.add_zero, sumR]
  · have hb : i < b.length := by omega
    rw [drop_dg hb, drop_out (l := a) (by omega), drop_out (l := a) (i := i + 1) (by omega), dgAt_out (l := a) (by omega), Int.zero_add, sumR]
theorem sumR_end {a b : List Int} {i : Nat} {c : Int} (h : ¬ i < max a.length b.length) : sumR (a.drop i) (b.drop i) c = [c] := by
  rw [drop_out (l := a) (by omega), drop_out (l := b) (by omega), sumR]
def restR : List Int → List Int → Int → List Int
  | [], _, _ => []
  | x :: a, b, c => (if x - hd0 b - c < 0 then x - hd0 b - c + 32768 else x - hd0 b - c) :: restR a b.tail (if x - hd0 b - c < 0 then 1 else 0)
theorem valD_hd (l : List Int) : valD l = hd0 l + 32768 * valD l.tail := by cases l <;> simp [valD, hd0]
theorem restR_dig : ∀ {a b : List Int} {c : Int}, Dig a → Dig b → 0 ≤ c → c ≤ 1 → Dig (restR a b c)
  | [], b, c, _, _, _, _ => Dig.nil
  | x :: a, b, c, ha, hb, h0, h1 => by
    have h2 := ha.head.lo; have h3 := ha.head.hi
    have h4 : 0 ≤ hd0 b ∧ hd0 b < 32768 := by cases b with | nil => simp [hd0] | cons y b => exact ⟨hb.head.lo, hb.head.hi⟩
    have hbt : Dig b.tail := by cases b with | nil => exact Dig.nil | cons y b => exact hb.tail
    unfold restR
    refine Dig.cons ?_ (restR_dig ha.tail hbt (by split <;> omega) (by split <;> omega))
    split
    · exact ⟨by omega, by omega⟩
    · exact ⟨by omega, by omega⟩
theorem hd0_bd {b : List Int} (h : Dig b) : 0 ≤ hd0 b ∧ hd0 b < 32768 ∧ Dig b.tail := by
  cases b with
  | nil => exact ⟨by decide, by decide, Dig.nil⟩
  | cons y b => exact ⟨h.head.lo, h.head.hi, h.tail⟩
theorem restR_val : ∀ {a b : List Int} {c : Int}, Dig a → Dig b → 0 ≤ c → c ≤ 1 → valD b + c ≤ valD a → valD (restR a b c) = valD a - valD b - c
  | [], b, c, ha, hb, h0, h1, h => by
    have := valD_nn hb
    simp only [restR, valD] at *
    omega
  | x :: a, b, c, ha, hb, h0, h1, h => by
    have h2 := ha.head.lo; have h3 := ha.head.hi
    obtain ⟨h4, h5, h6⟩ := hd0_bd hb
    have e := valD_hd b
    rw [restR, valD, valD]
    rw [valD] at h
    by_cases hs : x - hd0 b - c < 0
    · rw [if_pos hs, if_pos hs, restR_val ha.tail h6 (by omega) (by omega) (by omega)]
      omega
    · rw [if_neg hs, if_neg hs, restR_val ha.tail h6 (by omega) (by omega) (by omega)]
      omega
theorem hd0_drop (l : List Int) (i : Nat) : hd0 (l.drop i) = dgAt l i := by
  by_cases h : i < l.length
  · rw [drop_dg h]; rfl
  · rw [drop_out (by omega), dgAt_out (by omega)]; rfl
theorem tail_drop (l : List Int) (i : Nat) : (l.drop i).tail = l.drop (i + 1) := by rw [List.tail_drop]
theorem restR_step {a b : List Int} {i : Nat} {c : Int} (h : i < a.length) :
    restR (a.drop i) (b.drop i) c = (if dgAt a i - dgAt b i - c < 0 then dgAt a i - dgAt b i - c + 32768 else dgAt a i - dgAt b i - c) :: restR (a.drop (i + 1)) (b.drop (i + 1)) (if dgAt a i - dgAt b i - c < 0 then 1 else 0) := by
  rw [drop_dg h, restR, hd0_drop, tail_drop]
theorem valD_drop (l : List Int) (i : Nat) : valD (l.drop i) = dgAt l i + 32768 * valD (l.drop (i + 1)) := by
  rw [valD_hd, hd0_drop, tail_drop]
theorem lt_drop : ∀ {i : Nat} {a b : List Int}, Dig a → Dig b → valD (a.drop i) < valD (b.drop i) → valD a < valD b
  | 0, a, b, _, _, h => by rwa [List.drop_zero, List.drop_zero] at h
  | i + 1, a, b, ha, hb, h => by
    obtain ⟨h1, h2, h3⟩ := hd0_bd ha
    obtain ⟨h4, h5, h6⟩ := hd0_bd hb
    have e1 : a.drop (i + 1) = a.tail.drop i := by cases a <;> simp
    have e2 : b.drop (i + 1) = b.tail.drop i := by cases b <;> simp
    rw [e1, e2] at h
    have := lt_drop h3 h6 h
    rw [valD_hd a, valD_hd b]
    omega
def amR : List Int → Int → List Int → Int → List Int
  | [], _, _, _ => []
  | o :: os, x, [], c => (o + c) :: os
  | o :: os, x, y :: b, c => (o + x * y + c) % 32768 :: amR os x b ((o + x * y + c) / 32768)
theorem amR_val : ∀ (o : List Int) (x : Int) (b : List Int) (c : Int), b.length < o.length → valD (amR o x b c) = valD o + x * valD b + c
  | [], x, b, c, h => by simp at h
  | o :: os, x, [], c, h => by simp only [amR, valD, Int.mul_zero]; omega
  | o :: os, x, y :: b, c, h => by
    have ih := amR_val os x b ((o + x * y + c) / 32768) (by simpa using h)
    simp only [amR, valD]
    have e : x * (y + 32768 * valD b) = x * y + 32768 * (x * valD b) := by rw [Int.mul_add, Int.mul_left_comm]
    rw [ih, e]
    omega
theorem amR_len : ∀ (o : List Int) (x : Int) (b : List Int) (c : Int), (amR o x b c).length = o.length
  | [], _, _, _ => rfl
  | o :: os, x, [], c => rfl
  | o :: os, x, y :: b, c => by simp [amR, amR_len]
theorem amR_dig : ∀ {o : List Int} {x : Int} {b : List Int} {c : Int}, Dig o → Dg x → Dig b → 0 ≤ c → c < 32768 → (∀ i, b.length ≤ i → o.getD i 0 = 0) → Dig (amR o x b c)
  | [], _, _, _, _, _, _, _, _, _ => by rw [amR]; exact Dig.nil
  | o :: os, x, [], c, ho, hx, hb, h0, h1, hz => by
    have : o = 0 := hz 0 (Nat.zero_le _)
    rw [amR, this]
    exact Dig.cons ⟨by omega, by omega⟩ ho.tail
  | o :: os, x, y :: b, c, ho, hx, hb, h0, h1, hz => by
    have h2 := ho.head.lo; have h3 := ho.head.hi; have h4 := hb.head.lo; have h5 := hb.head.hi; have h6 := hx.lo; have h7 := hx.hi
    have p0 : 0 ≤ x * y := Int.mul_nonneg h6 h4
    have p1 : x * y ≤ 32767 * 32767 := Int.mul_le_mul (by omega) (by omega) h4 (by omega)
    rw [amR]
    refine Dig.cons ⟨by omega, by omega⟩ (amR_dig ho.tail hx hb.tail (by omega) (by omega) fun i hi => ?_)
    have := hz (i + 1) (by simp; omega)
    simpa using this
theorem amR_zero : ∀ (o : List Int) (x : Int) (b : List Int) (c : Int) (i : Nat), b.length < i → (amR o x b c).getD i 0 = o.getD i 0
  | [], _, _, _, _, _ => by rw [amR]
  | o :: os, x, [], c, i, h => by
    rw [amR]
    cases i with
    | zero => simp at h
    | succ i => simp
  | o :: os, x, y :: b, c, i, h => by
    rw [amR]
    cases i with
    | zero => simp at h
    | succ i =>
      have := amR_zero os x b ((o + x * y + c) / 32768) i (by simpa using h)
      simpa using this
def mulR : List Int → List Int → List Int → List Int
  | o, [], _ => o
  | o, x :: a, b => hd0 (amR o x b 0) :: mulR (amR o x b 0).tail a b
theorem mulR_val : ∀ (a o b : List Int), a.length + b.length < o.length → valD (mulR o a b) = valD o + valD a * valD b
  | [], o, b, h => by simp [mulR, valD]
  | x :: a, o, b, h => by
    have h1 := amR_val o x b 0 (by simp at h; omega)
    have h2 := amR_len o x b 0
    have e := valD_hd (amR o x b 0)
    have ih := mulR_val a (amR o x b 0).tail b (by rw [List.length_tail, h2]; simp at h; omega)
    rw [mulR, valD, valD, ih, Int.add_mul, Int.mul_assoc]
    omega
end Go.Proofs.YtblloaajiaoblaaDoor
namespace Go.Proofs.YtblloaajiaoblaaDoor
open Go Go.RowKit
abbrev sL1 (ob : List Int → List Prop) (f : List Int → AV) : PSpec := fun l => match l with | [.roi .i64 d] => some (ob d, f d) | _ => none
abbrev sL2 (ob : List Int → List Int → List Prop) (f : List Int → List Int → AV) : PSpec := fun l => match l with | [.roi .i64 a, .roi .i64 b] => some (ob a b, f a b) | _ => none
structure Sh (l : List Int) : Prop where
  le : l.length ≤ 1000000
structure ShT (l : List Int) : Prop where
  le : l.length ≤ 4000000
abbrev digitS : PSpec := fun l => match l with | [.roi .i64 d, .int .i64 i] => some ([], .int .i64 (dgAt d i)) | _ => none
theorem digit_s : SOK Tryd.prog 81 digitS := by
  refine sok_of (C := mkC 0 [] noG) (mkC_ok pok_nil noG_ok) rfl mixed ⟨Tryd.func81, by kernel_rfl, by kernel_rfl, by kernel_rfl⟩ fun l obs v h ho => ?_
  (unfold digitS at h; split at h; rotate_left; (focus (cases h)); rename_i d i; simp only [Option.some.injEq, Prod.mk.injEq] at h; obtain ⟨rfl, rfl⟩ := h; simp only [List.mem_cons, List.not_mem_nil, or_false, forall_eq_or_imp, forall_eq, false_implies, implies_true] at ho)
  refine ⟨Nat.le_of_ble_eq_true rfl, ?_⟩
  by_cases hi : 0 ≤ i ∧ i < (d.length : Int)
  · have e : dgAt d i = d.getD i.toNat 0 := if_pos hi
    obtain ⟨i0, i1⟩ := hi
    (repeat' (first | (refine xI (fun hfk => ?_) (fun hfk => ?_) <;> ((try (first | replace hfk := oT hfk | replace hfk := oF hfk | simp only [oD, ne_eq, reduceCtorEq] at hfk)); (try exact oX))) | (refine And.intro ?ob ?_; (case ob => (exact oZ))) | exact True.intro | (show _ = _; first | exact oY | (exact e.symm; done) | exact rfl) | exact oW | (apply And.intro)))
  · have e : dgAt d i = 0 := if_neg hi
    by_cases h0 : 0 ≤ i
    · have h1 : ¬ i < (d.length : Int) := fun k => hi ⟨h0, k⟩
      (repeat' (first | (refine xI (fun hfk => ?_) (fun hfk => ?_) <;> ((try (first | replace hfk := oT hfk | replace hfk := oF hfk | simp only [oD, ne_eq, reduceCtorEq] at hfk)); (try exact oX))) | (refine And.intro ?ob ?_; (case ob => (exact oZ))) | exact True.intro | (show _ = _; first | exact oY | (exact e.symm; done) | exact rfl) | exact oW | (apply And.intro)))
    · (repeat' (first | (refine xI (fun hfk => ?_) (fun hfk => ?_) <;> ((try (first | replace hfk := oT hfk | replace hfk := oF hfk | simp only [oD, ne_eq, reduceCtorEq] at hfk)); (try exact oX))) | (refine And.intro ?ob ?_; (case ob => (exact oZ))) | exact True.intro | (show _ = _; first | exact oY | (exact e.symm; done) | exact rfl) | exact oW | (apply And.intro)))
abbrev trimS : PSpec := sL1 (fun d => [ShT d]) fun d => .roi .i64 (trimL d)
theorem trim_s : SOK Tryd.prog 59 trimS := by
  refine sok_of (C := mkC 0 [] noG) (mkC_ok pok_nil noG_ok) rfl mixed ⟨Tryd.func59, by kernel_rfl, by kernel_rfl, by kernel_rfl⟩ fun l obs v h ho => ?_
  unfold trimS at h
  (unfold sL1 at h; split at h; rotate_left; (focus (cases h)); rename_i d; simp only [Option.some.injEq, Prod.mk.injEq] at h; obtain ⟨rfl, rfl⟩ := h; simp only [List.mem_cons, List.not_mem_nil, or_false, forall_eq_or_imp, forall_eq, false_implies, implies_true] at ho)
  have hsh := ho.le
  refine ⟨Nat.le_of_ble_eq_true rfl, ?_⟩
  (repeat' (first | (refine xI (fun hfk => ?_) (fun hfk => ?_) <;> ((try (first | replace hfk := oT hfk | replace hfk := oF hfk | simp only [oD, ne_eq, reduceCtorEq] at hfk)); (try exact oX))) | (refine And.intro ?ob ?_; (case ob => (exact oZ))) | exact True.intro | (show _ = _; first | exact oY | exact rfl) | exact oW | (apply And.intro)))
  refine ⟨Nat, fun i => [(0, .roi .i64 d), (3, .int .i64 (i : Int))], fun i => ⟨0, []⟩, fun i => i ≤ d.length ∧ trimL (d.take i) = trimL d, fun i => i, ⟨d.length, [], ⟨Nat.le_refl _, by rw [List.take_length]⟩, ?_⟩, fun i hi => ?_⟩
  · (repeat' (first | (refine xI (fun hfk => ?_) (fun hfk => ?_) <;> ((try (first | replace hfk := oT hfk | replace hfk := oF hfk | simp only [oD, ne_eq, reduceCtorEq] at hfk)); (try exact oX))) | (refine And.intro ?ob ?_; (case ob => (exact oZ))) | exact True.intro | (show _ = _; first | exact oY | exact rfl) | exact oW | (apply And.intro)))
  obtain ⟨hi, ht⟩ := hi
  cases i with
  | zero =>
    have e : List.drop 0 (List.take ((0 : Nat) : Int).toNat d) = trimL d := by rw [← ht]; rfl
    (repeat' (first | (refine xI (fun hfk => ?_) (fun hfk => ?_) <;> ((try (first | replace hfk := oT hfk | replace hfk := oF hfk | simp only [oD, ne_eq, reduceCtorEq] at hfk)); (try exact oX))) | (refine And.intro ?ob ?_; (case ob => (exact oZ))) | exact True.intro | (show _ = _; first | exact oY | (exact e; done) | exact rfl) | exact oW | (apply And.intro)))
  | succ j =>
    have hj : j < d.length := hi
    have et : d.take (j + 1) = d.take j ++ [d.getD j 0] := by
      rw [List.take_add_one]
      simp [List.getD, List.getElem?_eq_getElem hj]
    have ej : (((j + 1 : Nat) : Int) - 1).toNat = j := by omega
    have rj : rngI .i64 (((j + 1 : Nat) : Int) - 1) := rng64 (by omega) (by omega)
    by_cases hz : d.getD j 0 = 0
    · have hz' : d.getD (((j + 1 : Nat) : Int) - 1).toNat 0 = 0 := by rw [ej]; exact hz
      (repeat' (first | (refine xI (fun hfk => ?_) (fun hfk => ?_) <;> ((try (first | replace hfk := oT hfk | replace hfk := oF hfk | simp only [oD, ne_eq, reduceCtorEq] at hfk)); (try exact oX))) | (refine And.intro ?ob ?_; (case ob => (exact oZ))) | exact True.intro | (show _ = _; first | exact oY | exact rfl) | exact oW | (apply And.intro)))
      (refine ⟨j, [], ?_, ?mu, ?_⟩; (case mu => ((try dsimp only); omega)))
      · refine ⟨by omega, ?_⟩
        rw [← ht, et, hz, trimL_snoc0]
      (repeat' (first | (refine xI (fun hfk => ?_) (fun hfk => ?_) <;> ((try (first | replace hfk := oT hfk | replace hfk := oF hfk | simp only [oD, ne_eq, reduceCtorEq] at hfk)); (try exact oX))) | (refine And.intro ?ob ?_; (case ob => (exact oZ))) | exact True.intro | (show _ = _; first | exact oY | exact rfl) | exact oW | (apply And.intro)))
    · have hz' : ¬ d.getD (((j + 1 : Nat) : Int) - 1).toNat 0 = 0 := by rw [ej]; exact hz
      have e : List.drop 0 (List.take ((j + 1 : Nat) : Int).toNat d) = trimL d := by
        rw [List.drop_zero, Int.toNat_natCast, ← ht, et, trimL_snoc hz]
      (repeat' (first | (refine xI (fun hfk => ?_) (fun hfk => ?_) <;> ((try (first | replace hfk := oT hfk | replace hfk := oF hfk | simp only [oD, ne_eq, reduceCtorEq] at hfk)); (try exact oX))) | (refine And.intro ?ob ?_; (case ob => (exact oZ))) | exact True.intro | (show _ = _; first | exact oY | (exact e; done) | exact rfl) | exact oW | (apply And.intro)))
abbrev madeS : PSpec := fun l => match l with | [.bool s, .roi .i64 d] => some ([], .agg [.bool (s && decide (0 < (d.length : Int))), .roi .i64 d]) | _ => none
theorem made_s : SOK Tryd.prog 55 madeS := by
  refine sok_of (C := mkC 0 [] noG) (mkC_ok pok_nil noG_ok) rfl mixed ⟨Tryd.func55, by kernel_rfl, by kernel_rfl, by kernel_rfl⟩ fun l obs v h ho => ?_
  (unfold madeS at h; split at h; rotate_left; (focus (cases h)); rename_i s d; simp only [Option.some.injEq, Prod.mk.injEq] at h; obtain ⟨rfl, rfl⟩ := h; simp only [List.mem_cons, List.not_mem_nil, or_false, forall_eq_or_imp, forall_eq, false_implies, implies_true] at ho)
  refine ⟨Nat.le_of_ble_eq_true rfl, ?_⟩
  cases s with
  | true =>
    (repeat' (first | (refine xI (fun hfk => ?_) (fun hfk => ?_) <;> ((try (first | replace hfk := oT hfk | replace hfk := oF hfk | simp only [oD, ne_eq, reduceCtorEq] at hfk)); (try exact oX))) | (refine And.intro ?ob ?_; (case ob => (exact oZ))) | exact True.intro | (show _ = _; first | exact oY | exact rfl) | exact oW | (apply And.intro)))
  | false =>
    (repeat' (first | (refine xI (fun hfk => ?_) (fun hfk => ?_) <;> ((try (first | replace hfk := oT hfk | replace hfk := oF hfk | simp only [oD, ne_eq, reduceCtorEq] at hfk)); (try exact oX))) | (refine And.intro ?ob ?_; (case ob => (exact oZ))) | exact True.intro | (show _ = _; first | exact oY | exact rfl) | exact oW | (apply And.intro)))
abbrev sumS : PSpec := sL2 (fun a b => [Sh a, Sh b, Dig a, Dig b]) fun a b => .roi .i64 (dgs (valD a + valD b).toNat)
theorem sum_s : SOK Tryd.prog 56 sumS := by
  refine sok_of (C := mkC 0 [(81, digitS)] (glook [(59, frzP trimS)])) (mkC_ok (pok_cons digit_s pok_nil) (gl_cons (gfrzP trim_s) gl_nil)) rfl mixed ⟨Tryd.func56, by kernel_rfl, by kernel_rfl, by kernel_rfl⟩ fun l obs v h ho => ?_
  unfold sumS at h
  (unfold sL2 at h; split at h; rotate_left; (focus (cases h)); rename_i a b; simp only [Option.some.injEq, Prod.mk.injEq] at h; obtain ⟨rfl, rfl⟩ := h; simp only [List.mem_cons, List.not_mem_nil, or_false, forall_eq_or_imp, forall_eq, false_implies, implies_true] at ho)
  obtain ⟨sa, sb, da, db⟩ := ho
  have la := sa.le
  have lb := sb.le
  refine ⟨Nat.le_of_ble_eq_true rfl, ?_⟩
  (repeat' (first | (refine xI (fun hfk => ?_) (fun hfk => ?_) <;> ((try (first | replace hfk := oT hfk | replace hfk := oF hfk | simp only [oD, ne_eq, reduceCtorEq] at hfk)); (try exact oX))) | (refine And.intro ?ob ?_; (case ob => (exact oZ))) | exact True.intro | (show _ = _; first | exact oY | exact rfl) | exact oW | (apply And.intro)))
  refine ⟨Nat × List Int × Int, fun g => [(0, .roi .i64 a), (1, .roi .i64 b), (5, .sl 0 1 0 g.1), (6, .int .i64 g.2.2), (7, .int .i64 (g.1 : Int))], fun g => ⟨1, [(0, some (.ints 3 .i64 g.2.1))]⟩,
    fun g => g.1 ≤ max a.length b.length ∧ g.2.1.length = g.1 ∧ 0 ≤ g.2.2 ∧ g.2.2 ≤ 1 ∧ g.2.1 ++ sumR (a.drop g.1) (b.drop g.1) g.2.2 = sumR a b 0, fun g => max a.length b.length - g.1, ⟨(0, [], 0), [none], ⟨Nat.zero_le _, rfl, by decide, by decide, rfl⟩, ?_⟩, fun g hg => ?_⟩
  · (repeat' (first | (refine And.intro ?_ ?_) | exact True.intro | (show _ = _; with_reducible rfl) | exact Chk.mk (by kernel_rfl)))
    all_goals rfl
  obtain ⟨i, out, c⟩ := g
  obtain ⟨g1, g2, g3, g4, g5⟩ := hg
  have g1 : i ≤ max a.length b.length := g1
  have g2 : out.length = i := g2
  have g3 : 0 ≤ c := g3
  have g4 : c ≤ 1 := g4
  have g5 : out ++ sumR (a.drop i) (b.drop i) c = sumR a b 0 := g5
  by_cases hlt : i < max a.length b.length
  · obtain ⟨a1, a2⟩ := dgAt_bd da (i : Int)
    obtain ⟨b1, b2⟩ := dgAt_bd db (i : Int)
    have hm : Int.tmod (dgAt a i + dgAt b i + c) 32768 = (dgAt a i + dgAt b i + c) % 32768 := Int.tmod_eq_emod_of_nonneg (by omega)
    have hd : Int.tdiv (dgAt a i + dgAt b i + c) 32768 = (dgAt a i + dgAt b i + c) / 32768 := Int.tdiv_eq_ediv_of_nonneg (by omega)
    have rd : rngI .i64 (Int.tdiv (dgAt a i + dgAt b i + c) 32768) := by rw [hd]; exact rng64 (by omega) (by omega)
    have r1 : rngI .i64 (dgAt a i + dgAt b i) := rng64 (by omega) (by omega)
    have r2 : rngI .i64 (dgAt a i + dgAt b i + c) := rng64 (by omega) (by omega)
    (repeat' (first | (refine xI (fun hfk => ?_) (fun hfk => ?_) <;> ((try (first | replace hfk := oT hfk | replace hfk := oF hfk | simp only [oD, ne_eq, reduceCtorEq] at hfk)); (try exact oX))) | (refine And.intro ?ob ?_; (case ob => (exact oZ))) | exact True.intro | (show _ = _; first | exact oY | exact rfl) | exact oW | (apply And.intro)))
    all_goals
      refine ⟨(i + 1, out ++ [(dgAt a i + dgAt b i + c) % 32768], (dgAt a i + dgAt b i + c) / 32768), [some 2], ?_, ?mu, ?_⟩
      case mu => (show max a.length b.length - (i + 1) < max a.length b.length - i; omega)
      · refine ⟨hlt, by simp [g2], by show 0 ≤ (dgAt a i + dgAt b i + c) / 32768; omega, by show (dgAt a i + dgAt b i + c) / 32768 ≤ 1; omega, ?_⟩
        show (out ++ [_]) ++ sumR (a.drop (i + 1)) (b.drop (i + 1)) _ = _
        rw [← g5, sumR_step hlt, List.append_assoc]; rfl
      have qa : out ++ List.take 1 (List.drop 0 [Int.tmod (dgAt a i + dgAt b i + c) 32768]) = out ++ [(dgAt a i + dgAt b i + c) % 32768] := by rw [hm]; rfl
      (repeat' (first | (refine And.intro ?_ ?_) | exact True.intro | (show _ = _; with_reducible rfl) | exact Chk.mk (by kernel_rfl)))
      all_goals first | exact hd | exact qa | (show (_ : Int) = _; omega) | (show out.length + 1 = i + 1; omega)
  · have ge := sumR_end (c := c) hlt
    rw [ge] at g5
    have gd : Dig (out ++ [c]) := by rw [g5]; exact sumR_dig da db (by decide) (by decide)
    have gv : trimL (out ++ [c]) = dgs (valD a + valD b).toNat := by
      rw [trim_dgs gd, g5, sumR_val, Int.add_zero]
    have qv : List.take (out.length + (List.take 1 (List.drop 0 [c])).length) (List.drop 0 (out ++ List.take 1 (List.drop 0 [c]))) = out ++ [c] := by
      show List.take (out.length + 1) (out ++ [c]) = _
      rw [List.take_of_length_le (by simp)]
    have qs : ShT (List.take (out.length + (List.take 1 (List.drop 0 [c])).length) (List.drop 0 (out ++ List.take 1 (List.drop 0 [c])))) := by
      rw [qv]
      exact ⟨by rw [List.length_append, List.length_singleton]; omega⟩
    have qt : trimL (List.take (out.length + (List.take 1 (List.drop 0 [c])).length) (List.drop 0 (out ++ List.take 1 (List.drop 0 [c])))) = dgs (valD a + valD b).toNat := by rw [qv]; exact gv
    (repeat' (first | (refine xI (fun hfk => ?_) (fun hfk => ?_) <;> ((try (first | replace hfk := oT hfk | replace hfk := oF hfk | simp only [oD, ne_eq, reduceCtorEq] at hfk)); (try exact oX))) | (refine And.intro ?ob ?_; (case ob => (exact oZ))) | exact True.intro | (show _ = _; first | exact oY | (exact qt; done) | exact rfl) | exact oW | (apply And.intro)))
end Go.Proofs.YtblloaajiaoblaaDoor

