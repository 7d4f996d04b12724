/- Texts laid together. No condition. -/
import Derived.Test.YtljdahepmmgfeaaGreatDoorS2
set_option maxRecDepth 100000
set_option linter.unusedVariables false
set_option linter.unusedSimpArgs false
namespace Go.Proofs.YtljdahepmmgfeaaGreatDoor
open Go Go.RowKit
set_option maxHeartbeats 4000000
def wordN (r : List Int) (s : List UInt8) : Int := if wordC r (strI s) = 0 then (s.length : Int) else 0
theorem wordC_le : ∀ {b s : List Int}, wordC b s = 0 → s.length ≤ b.length
  | _, [], _ => Nat.zero_le _
  | [], _ :: _, h => by simp [wordC] at h
  | d :: b, c :: s, h => by
    unfold wordC at h
    split at h
    · have := wordC_le h; simp; omega
    · simp at h
def cwordF : FSpec := fun l es => match l, es with
  | [.ptr 0 0, .str s], [.cells 120 [.sl 1 1 0 n, .int .i64 a], .ints 5 .u8 b] =>
    some ([n = b.length, 0 ≤ a, a ≤ b.length, b.length ≤ 140737488355328, s.length ≤ 140737488355328], .int .i64 (wordC (cR b a) (strI s)), [some (cutE n (a + wordN (cR b a) s)), some (bE b)])
  | _, _ => none
theorem cword_g : GSOK Tryz.prog 89 (fG cwordF) := by
  refine fok (S := []) (G := glook [(87, fG restF), (88, fG passF)]) pok_nil (gl_cons rest_g (gl_cons pass_g gl_nil)) ⟨Tryz.func89, by kernel_rfl, by kernel_rfl, by kernel_rfl⟩ fun l es obs v es' h ho => ?_
  (unfold cwordF at h; split at h; rotate_left; (focus (cases h)); rename_i s n a b; simp only [Option.some.injEq, Prod.mk.injEq] at h; obtain ⟨rfl, rfl, rfl⟩ := h; simp only [List.mem_cons, List.not_mem_nil, or_false, forall_eq_or_imp, forall_eq, false_implies, implies_true] at ho)
  obtain ⟨rfl, ho1, ho2, ho3, ho4⟩ := ho
  refine ⟨Nat.le_of_ble_eq_true rfl, ?_⟩
  have el : (cR b a).length = b.length - a.toNat := by simp
  (repeat' (first | (refine xI (fun hfk => ?_) (fun hfk => ?_) <;> ((try (first | replace hfk := oT hfk | replace hfk := oF hfk | simp only [oA, oB, dh1, dh0, ne_eq, reduceCtorEq] at hfk)); (try exact oX))) | (refine And.intro ?ob ?_; (case ob => (exact oZ))) | exact True.intro | (show _ = _; first | exact oY | (skip; done) | exact rfl) | exact oW | (apply And.intro)))
  (refine ⟨[0, 1], ⟨by kernel_rfl⟩, ?_⟩)
  (repeat' (first | (refine xI (fun hfk => ?_) (fun hfk => ?_) <;> ((try (first | replace hfk := oT hfk | replace hfk := oF hfk | simp only [oA, oB, dh1, dh0, ne_eq, reduceCtorEq] at hfk)); (try exact oX))) | (refine And.intro ?ob ?_; (case ob => (exact oZ))) | exact True.intro | (show _ = _; first | exact oY | (skip; done) | exact rfl) | exact oW | (apply And.intro)))
  refine ⟨Nat, fun i => [(0, .ptr 0 0), (1, .str s), (5, .sl 1 1 a.toNat (b.length - a.toNat)), (13, .int .i64 (min (s.length : Int) ((b.length - a.toNat : Nat) : Int))), (14, .int .i64 (i : Int))],
      fun i => ⟨2, [(0, some (.cells 120 [.sl 1 1 0 b.length, .int .i64 a])), (1, some (.ints 5 .u8 b))]⟩,
      fun i => i ≤ s.length ∧ i ≤ (cR b a).length ∧ wordC ((cR b a).drop i) ((strI s).drop i) = wordC (cR b a) (strI s), fun i => s.length - i, ⟨0, [some 0, some 1], ⟨Nat.zero_le _, Nat.zero_le _, rfl⟩, ?_⟩, fun i hi => ?_⟩
  · (repeat' (first | (refine And.intro ?_ ?_) | exact True.intro | (show _ = _; with_reducible rfl) | exact Chk.mk (by kernel_rfl)))
    all_goals rfl
  obtain ⟨i1, i2, i3⟩ := hi
  have i1 : i ≤ s.length := i1
  have i2 : i ≤ (cR b a).length := i2
  have i3 : wordC ((cR b a).drop i) ((strI s).drop i) = wordC (cR b a) (strI s) := i3
  have tl : (strI s).length = s.length := List.length_map ..
  by_cases hs : i < s.length
  · by_cases hb : i < (cR b a).length
    · have hlt : (i : Int) < min (s.length : Int) ((b.length - a.toNat : Nat) : Int) := by omega
      have st : wordC ((cR b a).drop i) ((strI s).drop i) = if (cR b a).getD i 0 = (strI s).getD i 0 then wordC ((cR b a).drop (i + 1)) ((strI s).drop (i + 1)) else 21 := by
        rw [drop_cons hb, drop_cons (b := strI s) (i := i) (by omega), wordC]
      have sg : (strI s).getD i 0 = ((s.getD i 0).toNat : Int) := by
        simp [strI, List.getD, List.getElem?_map, List.getElem?_eq_getElem hs]
      have eg : b.getD (a.toNat + (i : Int).toNat) 0 = (cR b a).getD i 0 := cR_get (i := i) hb
      rw [i3, sg, ← eg] at st
      by_cases hd : b.getD (a.toNat + (i : Int).toNat) 0 = ((s.getD (i : Int).toNat 0).toNat : Int)
      · have hdn : ¬ b.getD (a.toNat + (i : Int).toNat) 0 ≠ ((s.getD (i : Int).toNat 0).toNat : Int) := fun k => k hd
        rw [if_pos (show b.getD (a.toNat + (i : Int).toNat) 0 = ((s.getD i 0).toNat : Int) from hd)] at st
        have ri : rngI .i64 ((i : Int) + 1) := rng64 (by omega) (by omega)
        (repeat' (first | (refine xI (fun hfk => ?_) (fun hfk => ?_) <;> ((try (first | replace hfk := oT hfk | replace hfk := oF hfk | simp only [oA, oB, dh1, dh0, ne_eq, reduceCtorEq] at hfk)); (try exact oX))) | (refine And.intro ?ob ?_; (case ob => (exact oZ))) | exact True.intro | (show _ = _; first | exact oY | (skip; done) | exact rfl) | exact oW | (apply And.intro)))
        refine ⟨i + 1, [some 0, some 1], ⟨by omega, by omega, st.symm⟩, ?mu, ?_⟩
        case mu => (show s.length - (i + 1) < s.length - i; omega)
        (repeat' (first | (refine And.intro ?_ ?_) | exact True.intro | (show _ = _; with_reducible rfl) | exact Chk.mk (by kernel_rfl)))
        all_goals first | rfl | (show (_ : Int) = _; omega)
      · have e : wordC (cR b a) (strI s) = 21 := by rw [st, if_neg (show ¬ b.getD (a.toNat + (i : Int).toNat) 0 = ((s.getD i 0).toNat : Int) from hd)]
        have e2 : wordN (cR b a) s = 0 := by unfold wordN; rw [e, if_neg (by decide)]
        rw [e, e2]
        (repeat' (first | (refine xI (fun hfk => ?_) (fun hfk => ?_) <;> ((try (first | replace hfk := oT hfk | replace hfk := oF hfk | simp only [oA, oB, dh1, dh0, ne_eq, reduceCtorEq] at hfk)); (try exact oX))) | (refine And.intro ?ob ?_; (case ob => (exact oZ))) | exact True.intro | (show _ = _; first | exact oY | (skip; done) | exact rfl) | exact oW | (apply And.intro)))
        refine ⟨[some 0, some 1], ?_⟩
        (repeat' (first | (refine xI (fun hfk => ?_) (fun hfk => ?_) <;> ((try (first | replace hfk := oT hfk | replace hfk := oF hfk | simp only [oA, oB, dh1, dh0, ne_eq, reduceCtorEq] at hfk)); (try exact oX))) | (refine And.intro ?ob ?_; (case ob => (exact oZ))) | exact True.intro | (show _ = _; first | exact oY | (first | rfl | (show (_ : Int) = _; omega); done) | exact rfl) | exact oW | (apply And.intro)))
    · have hlt : ¬ (i : Int) < min (s.length : Int) ((b.length - a.toNat : Nat) : Int) := by omega
      have hbl : ((b.length - a.toNat : Nat) : Int) < (s.length : Int) := by omega
      have e : wordC (cR b a) (strI s) = 20 := by
        rw [← i3, List.drop_of_length_le (l := cR b a) (by omega), drop_cons (b := strI s) (i := i) (by omega), wordC]
      have e2 : wordN (cR b a) s = 0 := by unfold wordN; rw [e, if_neg (by decide)]
      rw [e, e2]
      (repeat' (first | (refine xI (fun hfk => ?_) (fun hfk => ?_) <;> ((try (first | replace hfk := oT hfk | replace hfk := oF hfk | simp only [oA, oB, dh1, dh0, ne_eq, reduceCtorEq] at hfk)); (try exact oX))) | (refine And.intro ?ob ?_; (case ob => (exact oZ))) | exact True.intro | (show _ = _; first | exact oY | (skip; done) | exact rfl) | exact oW | (apply And.intro)))
      refine ⟨[some 0, some 1], ?_⟩
      (repeat' (first | (refine xI (fun hfk => ?_) (fun hfk => ?_) <;> ((try (first | replace hfk := oT hfk | replace hfk := oF hfk | simp only [oA, oB, dh1, dh0, ne_eq, reduceCtorEq] at hfk)); (try exact oX))) | (refine And.intro ?ob ?_; (case ob => (exact oZ))) | exact True.intro | (show _ = _; first | exact oY | (first | rfl | (show (_ : Int) = _; omega); done) | exact rfl) | exact oW | (apply And.intro)))
  · have hlt : ¬ (i : Int) < min (s.length : Int) ((b.length - a.toNat : Nat) : Int) := by omega
    have hbl : ¬ ((b.length - a.toNat : Nat) : Int) < (s.length : Int) := by omega
    have e : wordC (cR b a) (strI s) = 0 := by rw [← i3, List.drop_of_length_le (l := strI s) (by omega), wordC]
    have e2 : wordN (cR b a) s = s.length := by unfold wordN; rw [e, if_pos rfl]
    have ra : rngI .i64 (a + (s.length : Int)) := rng64 (by omega) (by omega)
    rw [e, e2]
    (repeat' (first | (refine xI (fun hfk => ?_) (fun hfk => ?_) <;> ((try (first | replace hfk := oT hfk | replace hfk := oF hfk | simp only [oA, oB, dh1, dh0, ne_eq, reduceCtorEq] at hfk)); (try exact oX))) | (refine And.intro ?ob ?_; (case ob => (exact oZ))) | exact True.intro | (show _ = _; first | exact oY | (skip; done) | exact rfl) | exact oW | (apply And.intro)))
    (refine ⟨[0, 1], ⟨by kernel_rfl⟩, ?_⟩)
    (repeat' (first | (refine xI (fun hfk => ?_) (fun hfk => ?_) <;> ((try (first | replace hfk := oT hfk | replace hfk := oF hfk | simp only [oA, oB, dh1, dh0, ne_eq, reduceCtorEq] at hfk)); (try exact oX))) | (refine And.intro ?ob ?_; (case ob => (exact oZ))) | exact True.intro | (show _ = _; first | exact oY | (skip; done) | exact rfl) | exact oW | (apply And.intro)))
    refine ⟨[some 0, some 1], ?_⟩
    (repeat' (first | (refine xI (fun hfk => ?_) (fun hfk => ?_) <;> ((try (first | replace hfk := oT hfk | replace hfk := oF hfk | simp only [oA, oB, dh1, dh0, ne_eq, reduceCtorEq] at hfk)); (try exact oX))) | (refine And.intro ?ob ?_; (case ob => (exact oZ))) | exact True.intro | (show _ = _; first | exact oY | (first | rfl | (show (_ : Int) = _; omega); done) | exact rfl) | exact oW | (apply And.intro)))
end Go.Proofs.YtljdahepmmgfeaaGreatDoor
namespace Go.Proofs.YtljdahepmmgfeaaGreatDoor
open Go Go.RowKit
theorem dgN_eq : ∀ l : List Int, dgN l = digN l
  | [] => rfl
  | d :: l => by
    have ih := dgN_eq l
    unfold dgN digN isDec
    simp only [Bool.and_eq_true, decide_eq_true_eq, ih] <;> rfl
theorem numV_eq (l : List Int) : numV l = decV l := by
  unfold numV decV
  congr 1
  funext x d
  omega
theorem decV_lo {l : List Int} (h : 49 ≤ l.getD 0 0) : ∀ n : Nat, n + 1 ≤ digN l → 10 ^ n ≤ decV (l.take (n + 1))
  | 0, k => by
    rw [decV_step (digN_in (n := 0) k).1, List.take_zero]
    show (1 : Int) ≤ 0 * 10 + (l.getD 0 0 - 48)
    omega
  | n + 1, k => by
    have ih := decV_lo h n (by omega)
    obtain ⟨a, b, c⟩ := digN_in (l := l) (n := n + 1) (by omega)
    rw [decV_step a, Int.pow_succ]
    omega
theorem rn_numC {b : List Int} {m : Int} (hm : m < 9223372036854775808) : (rnV b m).2.2 = numC b m := by
  unfold rnV numC
  rw [dgN_eq, numV_eq]
  by_cases h0 : b.length = 0
  · rw [if_pos h0, if_pos h0]
  rw [if_neg h0, if_neg h0]
  by_cases h1 : digN b = 0 ∨ (1 < digN b ∧ b.getD 0 0 = 48)
  · rw [if_pos h1, if_pos h1]
  rw [if_neg h1, if_neg h1]
  obtain ⟨n, hn⟩ : ∃ n, digN b = n + 1 := ⟨digN b - 1, by omega⟩
  obtain ⟨z0, _⟩ := decV_bd (l := b) (digN b) (Nat.le_refl _)
  by_cases h2 : 19 < digN b
  · rw [if_pos h2]
    obtain ⟨a, c, d⟩ := digN_in (l := b) (n := 0) (by omega)
    have lo : (10 : Int) ^ 19 ≤ decV (b.take 20) := decV_lo (l := b) (by omega) 19 (by omega)
    have up : decV (b.take 20) ≤ decV (b.take (digN b)) := by
      have : ∀ k, 20 + k ≤ digN b → decV (b.take 20) ≤ decV (b.take (20 + k)) := by
        intro k
        induction k with
        | zero => intro _; exact Int.le_refl _
        | succ k ih =>
          intro hk
          have ih := ih (by omega)
          obtain ⟨p, q, r⟩ := digN_in (l := b) (n := 20 + k) (by omega)
          obtain ⟨y0, _⟩ := decV_bd (l := b) (20 + k) (by omega)
          have := decV_step p
          rw [show 20 + (k + 1) = 20 + k + 1 from rfl, this]
          omega
      have := this (digN b - 20) (by omega)
      rwa [show 20 + (digN b - 20) = digN b from by omega] at this
    have t19 : (10 : Int) ^ 19 = 10000000000000000000 := by decide
    rw [t19] at lo
    rw [if_pos (show m < decV (b.take (digN b)) by omega)]
  · rw [if_neg h2]
    by_cases h3 : m < decV (b.take (digN b))
    · rw [if_pos h3, if_pos (Or.inr h3)]
    · rw [if_neg h3, if_neg (show ¬ (m < 0 ∨ m < decV (b.take (digN b))) from fun k => k.elim (fun k => h3 (by omega)) h3)]
end Go.Proofs.YtljdahepmmgfeaaGreatDoor
namespace Go.Proofs.YtljdahepmmgfeaaGreatDoor
open Go Go.RowKit
set_option maxHeartbeats 4000000
theorem cR_eq {b : List Int} {a : Int} : cR b a = b.drop a.toNat := List.take_of_length_le (by rw [List.length_drop]; exact Nat.le_refl _)
theorem cR_add {b : List Int} {a : Int} {n : Nat} (h0 : 0 ≤ a) : cR b (a + (n : Int)) = (cR b a).drop n := by
  rw [cR_eq, cR_eq, List.drop_drop, show (a + (n : Int)).toNat = a.toNat + n by omega]
def nbC (r : List Int) (m : Int) : Int := if blC r ≠ 0 then blC r else numC (r.drop (bkG false r)) m
def nbN (r : List Int) : Nat := bkG false r + dgN (r.drop (bkG false r))
def nbV (r : List Int) (m : Int) : Int := if nbC r m = 0 then numV ((r.drop (bkG false r)).take (dgN (r.drop (bkG false r)))) else 0
def nbP (r : List Int) (m : Int) : Nat := if nbC r m = 0 then nbN r else bkG false r
theorem nbP_le (r : List Int) (m : Int) : nbP r m ≤ r.length := by
  have h1 := bkG_le false r
  have h2 := dgN_le (r.drop (bkG false r))
  rw [List.length_drop] at h2
  unfold nbP nbN
  split <;> omega
theorem blC0 {r : List Int} (h : blC r ≠ 0) : bkG false r = 0 := by
  unfold blC at h
  split at h
  · rename_i k; rw [List.length_eq_zero_iff.1 k]; rfl
  · split at h
    · assumption
    · exact absurd rfl h
theorem numC_rng {r : List Int} {m : Int} (h : numC r m = 0) : 0 ≤ numV (r.take (dgN r)) ∧ numV (r.take (dgN r)) ≤ m := by
  have hb := (numV_bd (l := r) (dgN r) (Nat.le_refl _)).1
  unfold numC at h
  split at h
  · cases h
  split at h
  · cases h
  split at h
  · cases h
  split at h
  · cases h
  omega
theorem nbV_rng (r : List Int) {m : Int} (hm : 0 ≤ m) : 0 ≤ nbV r m ∧ nbV r m ≤ m := by
  unfold nbV
  split
  · rename_i h
    unfold nbC at h
    split at h
    · rename_i k; exact absurd h k
    · exact numC_rng h
  · omega
def pnumF : FSpec := fun l es => match l, es with
  | [.ptr 0 0, .int .i64 m], [.cells 120 [.sl 1 1 0 n, .int .i64 a], .ints 5 .u8 b] =>
    some ([n = b.length, 0 ≤ a, a ≤ b.length, b.length ≤ 140737488355328, 0 ≤ m ∧ m ≤ 4294967296], .tup [.int .i64 (nbV (cR b a) m), .int .i64 (nbC (cR b a) m)], [some (cutE n (a + (nbP (cR b a) m : Int))), some (bE b)])
  | _, _ => none
theorem pnum_g : GSOK Tryz.prog 116 (fG pnumF) := by
  refine fok (S := []) (G := glook [(125, fG blkF), (126, fG numF)]) pok_nil (gl_cons blk_g (gl_cons num_g gl_nil)) ⟨Tryz.func116, by kernel_rfl, by kernel_rfl, by kernel_rfl⟩ fun l es obs v es' h ho => ?_
  (unfold pnumF at h; split at h; rotate_left; (focus (cases h)); rename_i m n a b; simp only [Option.some.injEq, Prod.mk.injEq] at h; obtain ⟨rfl, rfl, rfl⟩ := h; simp only [List.mem_cons, List.not_mem_nil, or_false, forall_eq_or_imp, forall_eq, false_implies, implies_true] at ho)
  obtain ⟨rfl, ho1, ho2, ho3, ho4⟩ := ho
  refine ⟨Nat.le_of_ble_eq_true rfl, ?_⟩
  have el : (cR b a).length = b.length - a.toNat := by simp
  have hk := bkG_le false (cR b a)
  by_cases k1 : blC (cR b a) = 0
  · have e : nbC (cR b a) m = numC ((cR b a).drop (bkG false (cR b a))) m := if_neg (fun k => k k1)
    have ec := cR_add (b := b) (a := a) (n := bkG false (cR b a)) ho1
    have e1 : nbV (cR b a) m = if numC (cR b (a + (bkG false (cR b a) : Int))) m = 0 then numV ((cR b (a + (bkG false (cR b a) : Int))).take (dgN (cR b (a + (bkG false (cR b a) : Int))))) else 0 := by rw [ec]; unfold nbV; rw [e]
    have e2 : a + (nbP (cR b a) m : Int) = a + (bkG false (cR b a) : Int) + if numC (cR b (a + (bkG false (cR b a) : Int))) m = 0 then (dgN (cR b (a + (bkG false (cR b a) : Int))) : Int) else 0 := by
      rw [ec]; unfold nbP nbN; rw [e]
      by_cases z : numC ((cR b a).drop (bkG false (cR b a))) m = 0
      · rw [if_pos z, if_pos z]; omega
      · rw [if_neg z, if_neg z]; omega
    have e3 : nbC (cR b a) m = numC (cR b (a + (bkG false (cR b a) : Int))) m := by rw [e, ec]
    rw [e1, e2, e3]
    clear e1 e2 e3 e ec
    (repeat' (first | (refine xI (fun hfk => ?_) (fun hfk => ?_) <;> ((try (first | replace hfk := oT hfk | replace hfk := oF hfk | simp only [oA, oB, dh1, dh0, ne_eq, reduceCtorEq] at hfk)); (try exact oX))) | (refine And.intro ?ob ?_; (case ob => (exact oZ))) | exact True.intro | (show _ = _; first | exact oY | (skip; done) | exact rfl) | exact oW | (apply And.intro)))
    (refine ⟨[0, 1], ⟨by kernel_rfl⟩, ?_⟩)
    (repeat' (first | (refine xI (fun hfk => ?_) (fun hfk => ?_) <;> ((try (first | replace hfk := oT hfk | replace hfk := oF hfk | simp only [oA, oB, dh1, dh0, ne_eq, reduceCtorEq] at hfk)); (try exact oX))) | (refine And.intro ?ob ?_; (case ob => (exact oZ))) | exact True.intro | (show _ = _; first | exact oY | (skip; done) | exact rfl) | exact oW | (apply And.intro)))
    (refine ⟨[0, 1], ⟨by kernel_rfl⟩, ?_⟩)
    (repeat' (first | (refine xI (fun hfk => ?_) (fun hfk => ?_) <;> ((try (first | replace hfk := oT hfk | replace hfk := oF hfk | simp only [oA, oB, dh1, dh0, ne_eq, reduceCtorEq] at hfk)); (try exact oX))) | (refine And.intro ?ob ?_; (case ob => (exact oZ))) | exact True.intro | (show _ = _; first | exact oY | (skip; done) | exact rfl) | exact oW | (apply And.intro)))
    refine ⟨[some 0, some 1], ?_⟩
    (repeat' (first | (refine xI (fun hfk => ?_) (fun hfk => ?_) <;> ((try (first | replace hfk := oT hfk | replace hfk := oF hfk | simp only [oA, oB, dh1, dh0, ne_eq, reduceCtorEq] at hfk)); (try exact oX))) | (refine And.intro ?ob ?_; (case ob => (exact oZ))) | exact True.intro | (show _ = _; first | exact oY | (first | rfl | (show (_ : Int) = _; omega); done) | exact rfl) | exact oW | (apply And.intro)))
  · have e : nbC (cR b a) m = blC (cR b a) := if_pos k1
    have e0 := blC0 k1
    have e1 : nbV (cR b a) m = 0 := if_neg (by rw [e]; exact k1)
    have e2 : nbP (cR b a) m = 0 := by unfold nbP; rw [if_neg (by rw [e]; exact k1), e0]
    rw [e, e1, e2]
    (repeat' (first | (refine xI (fun hfk => ?_) (fun hfk => ?_) <;> ((try (first | replace hfk := oT hfk | replace hfk := oF hfk | simp only [oA, oB, dh1, dh0, ne_eq, reduceCtorEq] at hfk)); (try exact oX))) | (refine And.intro ?ob ?_; (case ob => (exact oZ))) | exact True.intro | (show _ = _; first | exact oY | (skip; done) | exact rfl) | exact oW | (apply And.intro)))
    (refine ⟨[0, 1], ⟨by kernel_rfl⟩, ?_⟩)
    (repeat' (first | (refine xI (fun hfk => ?_) (fun hfk => ?_) <;> ((try (first | replace hfk := oT hfk | replace hfk := oF hfk | simp only [oA, oB, dh1, dh0, ne_eq, reduceCtorEq] at hfk)); (try exact oX))) | (refine And.intro ?ob ?_; (case ob => (exact oZ))) | exact True.intro | (show _ = _; first | exact oY | (skip; done) | exact rfl) | exact oW | (apply And.intro)))
    refine ⟨[some 0, some 1], ?_⟩
    (repeat' (first | (refine xI (fun hfk => ?_) (fun hfk => ?_) <;> ((try (first | replace hfk := oT hfk | replace hfk := oF hfk | simp only [oA, oB, dh1, dh0, ne_eq, reduceCtorEq] at hfk)); (try exact oX))) | (refine And.intro ?ob ?_; (case ob => (exact oZ))) | exact True.intro | (show _ = _; first | exact oY | (first | rfl | (show (_ : Int) = _; omega); done) | exact rfl) | exact oW | (apply And.intro)))
def szC (r : List Int) : Int :=
  if nbC r 32768 ≠ 0 then nbC r 32768
  else if nbC (r.drop (nbP r 32768)) 32768 ≠ 0 then nbC (r.drop (nbP r 32768)) 32768
  else if nbV r 32768 < 1 ∨ nbV (r.drop (nbP r 32768)) 32768 < 1 then 12
  else if 4194304 < nbV r 32768 * nbV (r.drop (nbP r 32768)) 32768 then 30 else 0
def szW (r : List Int) : Int := if szC r = 0 then nbV r 32768 else 0
def szH (r : List Int) : Int := if szC r = 0 then nbV (r.drop (nbP r 32768)) 32768 else 0
def szP (r : List Int) : Nat := if nbC r 32768 = 0 then nbP r 32768 + nbP (r.drop (nbP r 32768)) 32768 else nbP r 32768
theorem szP_le (r : List Int) : szP r ≤ r.length := by
  have h1 := nbP_le r 32768
  have h2 := nbP_le (r.drop (nbP r 32768)) 32768
  rw [List.length_drop] at h2
  unfold szP
  split <;> omega
def psizeF : FSpec := fun l es => match l, es with
  | [.ptr 0 0], [.cells 120 [.sl 1 1 0 n, .int .i64 a], .ints 5 .u8 b] =>
    some ([n = b.length, 0 ≤ a, a ≤ b.length, b.length ≤ 140737488355328], .tup [.int .i64 (szW (cR b a)), .int .i64 (szH (cR b a)), .int .i64 (szC (cR b a))], [some (cutE n (a + (szP (cR b a) : Int))), some (bE b)])
  | _, _ => none
theorem psize_g : GSOK Tryz.prog 85 (fG psizeF) := by
  refine fok (S := []) (G := glook [(116, fG pnumF)]) pok_nil (gl_cons pnum_g gl_nil) ⟨Tryz.func85, by kernel_rfl, by kernel_rfl, by kernel_rfl⟩ fun l es obs v es' h ho => ?_
  (unfold psizeF at h; split at h; rotate_left; (focus (cases h)); rename_i n a b; simp only [Option.some.injEq, Prod.mk.injEq] at h; obtain ⟨rfl, rfl, rfl⟩ := h; simp only [List.mem_cons, List.not_mem_nil, or_false, forall_eq_or_imp, forall_eq, false_implies, implies_true] at ho)
  obtain ⟨rfl, ho1, ho2, ho3⟩ := ho
  refine ⟨Nat.le_of_ble_eq_true rfl, ?_⟩
  have el : (cR b a).length = b.length - a.toNat := by simp
  have hk := nbP_le (cR b a) 32768
  by_cases k1 : nbC (cR b a) 32768 = 0
  rotate_left
  · have e : szC (cR b a) = nbC (cR b a) 32768 := if_pos k1
    have e1 : szW (cR b a) = 0 := if_neg (by rw [e]; exact k1)
    have e2 : szH (cR b a) = 0 := if_neg (by rw [e]; exact k1)
    have e3 : szP (cR b a) = nbP (cR b a) 32768 := if_neg k1
    rw [e, e1, e2, e3]
    clear e e1 e2 e3
    (repeat' (first | (refine xI (fun hfk => ?_) (fun hfk => ?_) <;> ((try (first | replace hfk := oT hfk | replace hfk := oF hfk | simp only [oA, oB, dh1, dh0, ne_eq, reduceCtorEq] at hfk)); (try exact oX))) | (refine And.intro ?ob ?_; (case ob => (exact oZ))) | exact True.intro | (show _ = _; first | exact oY | (skip; done) | exact rfl) | exact oW | (apply And.intro)))
    (refine ⟨[0, 1], ⟨by kernel_rfl⟩, ?_⟩)
    (repeat' (first | (refine xI (fun hfk => ?_) (fun hfk => ?_) <;> ((try (first | replace hfk := oT hfk | replace hfk := oF hfk | simp only [oA, oB, dh1, dh0, ne_eq, reduceCtorEq] at hfk)); (try exact oX))) | (refine And.intro ?ob ?_; (case ob => (exact oZ))) | exact True.intro | (show _ = _; first | exact oY | (skip; done) | exact rfl) | exact oW | (apply And.intro)))
    refine ⟨[some 0, some 1], ?_⟩
    (repeat' (first | (refine xI (fun hfk => ?_) (fun hfk => ?_) <;> ((try (first | replace hfk := oT hfk | replace hfk := oF hfk | simp only [oA, oB, dh1, dh0, ne_eq, reduceCtorEq] at hfk)); (try exact oX))) | (refine And.intro ?ob ?_; (case ob => (exact oZ))) | exact True.intro | (show _ = _; first | exact oY | (first | rfl | (show (_ : Int) = _; omega); done) | exact rfl) | exact oW | (apply And.intro)))
  have ec := cR_add (b := b) (a := a) (n := nbP (cR b a) 32768) ho1
  have e3 : a + (szP (cR b a) : Int) = a + (nbP (cR b a) 32768 : Int) + (nbP (cR b (a + (nbP (cR b a) 32768 : Int))) 32768 : Int) := by rw [ec]; unfold szP; rw [if_pos k1]; omega
  have r1 := nbV_rng (cR b a) (m := 32768) (by decide)
  have r2 := nbV_rng (cR b (a + (nbP (cR b a) 32768 : Int))) (m := 32768) (by decide)
  have eC : szC (cR b a) = if nbC (cR b (a + (nbP (cR b a) 32768 : Int))) 32768 ≠ 0 then nbC (cR b (a + (nbP (cR b a) 32768 : Int))) 32768 else if nbV (cR b a) 32768 < 1 ∨ nbV (cR b (a + (nbP (cR b a) 32768 : Int))) 32768 < 1 then 12 else if 4194304 < nbV (cR b a) 32768 * nbV (cR b (a + (nbP (cR b a) 32768 : Int))) 32768 then 30 else 0 := by
    rw [ec]; unfold szC; rw [if_neg (fun k => k k1)]
  have eW : szW (cR b a) = if szC (cR b a) = 0 then nbV (cR b a) 32768 else 0 := rfl
  have eH : szH (cR b a) = if szC (cR b a) = 0 then nbV (cR b (a + (nbP (cR b a) 32768 : Int))) 32768 else 0 := by rw [ec]; rfl
  rw [e3, eW, eH]
  clear e3 eW eH ec
  have w0 : 0 ≤ nbV (cR b a) 32768 * nbV (cR b (a + (nbP (cR b a) 32768 : Int))) 32768 := Int.mul_nonneg r1.1 r2.1
  have w1 : nbV (cR b a) 32768 * nbV (cR b (a + (nbP (cR b a) 32768 : Int))) 32768 ≤ 32768 * 32768 := Int.le_trans (Int.mul_le_mul_of_nonneg_right r1.2 r2.1) (Int.mul_le_mul_of_nonneg_left r2.2 (by omega))
  have rg : rngI .i64 (nbV (cR b a) 32768 * nbV (cR b (a + (nbP (cR b a) 32768 : Int))) 32768) := rng64 (by omega) (by omega)
  clear w0 w1
  by_cases k2 : nbC (cR b (a + (nbP (cR b a) 32768 : Int))) 32768 = 0
  rotate_left
  · rw [if_pos k2] at eC
    rw [eC, if_neg k2, if_neg k2]
    clear eC
    (repeat' (first | (refine xI (fun hfk => ?_) (fun hfk => ?_) <;> ((try (first | replace hfk := oT hfk | replace hfk := oF hfk | simp only [oA, oB, dh1, dh0, ne_eq, reduceCtorEq] at hfk)); (try exact oX))) | (refine And.intro ?ob ?_; (case ob => (exact oZ))) | exact True.intro | (show _ = _; first | exact oY | (skip; done) | exact rfl) | exact oW | (apply And.intro)))
    (refine ⟨[0, 1], ⟨by kernel_rfl⟩, ?_⟩)
    (repeat' (first | (refine xI (fun hfk => ?_) (fun hfk => ?_) <;> ((try (first | replace hfk := oT hfk | replace hfk := oF hfk | simp only [oA, oB, dh1, dh0, ne_eq, reduceCtorEq] at hfk)); (try exact oX))) | (refine And.intro ?ob ?_; (case ob => (exact oZ))) | exact True.intro | (show _ = _; first | exact oY | (skip; done) | exact rfl) | exact oW | (apply And.intro)))
    (refine ⟨[0, 1], ⟨by kernel_rfl⟩, ?_⟩)
    (repeat' (first | (refine xI (fun hfk => ?_) (fun hfk => ?_) <;> ((try (first | replace hfk := oT hfk | replace hfk := oF hfk | simp only [oA, oB, dh1, dh0, ne_eq, reduceCtorEq] at hfk)); (try exact oX))) | (refine And.intro ?ob ?_; (case ob => (exact oZ))) | exact True.intro | (show _ = _; first | exact oY | (skip; done) | exact rfl) | exact oW | (apply And.intro)))
    refine ⟨[some 0, some 1], ?_⟩
    (repeat' (first | (refine xI (fun hfk => ?_) (fun hfk => ?_) <;> ((try (first | replace hfk := oT hfk | replace hfk := oF hfk | simp only [oA, oB, dh1, dh0, ne_eq, reduceCtorEq] at hfk)); (try exact oX))) | (refine And.intro ?ob ?_; (case ob => (exact oZ))) | exact True.intro | (show _ = _; first | exact oY | (first | rfl | (show (_ : Int) = _; omega); done) | exact rfl) | exact oW | (apply And.intro)))
  rw [if_neg (fun k => k k2)] at eC
  by_cases k3 : nbV (cR b a) 32768 < 1 ∨ nbV (cR b (a + (nbP (cR b a) 32768 : Int))) 32768 < 1
  · rw [if_pos k3] at eC
    rw [eC, if_neg (by decide), if_neg (by decide)]
    clear eC
    (repeat' (first | (refine xI (fun hfk => ?_) (fun hfk => ?_) <;> ((try (first | replace hfk := oT hfk | replace hfk := oF hfk | simp only [oA, oB, dh1, dh0, ne_eq, reduceCtorEq] at hfk)); (try exact oX))) | (refine And.intro ?ob ?_; (case ob => (exact oZ))) | exact True.intro | (show _ = _; first | exact oY | (skip; done) | exact rfl) | exact oW | (apply And.intro)))
    (refine ⟨[0, 1], ⟨by kernel_rfl⟩, ?_⟩)
    (repeat' (first | (refine xI (fun hfk => ?_) (fun hfk => ?_) <;> ((try (first | replace hfk := oT hfk | replace hfk := oF hfk | simp only [oA, oB, dh1, dh0, ne_eq, reduceCtorEq] at hfk)); (try exact oX))) | (refine And.intro ?ob ?_; (case ob => (exact oZ))) | exact True.intro | (show _ = _; first | exact oY | (skip; done) | exact rfl) | exact oW | (apply And.intro)))
    (refine ⟨[0, 1], ⟨by kernel_rfl⟩, ?_⟩)
    (repeat' (first | (refine xI (fun hfk => ?_) (fun hfk => ?_) <;> ((try (first | replace hfk := oT hfk | replace hfk := oF hfk | simp only [oA, oB, dh1, dh0, ne_eq, reduceCtorEq] at hfk)); (try exact oX))) | (refine And.intro ?ob ?_; (case ob => (exact oZ))) | exact True.intro | (show _ = _; first | exact oY | (skip; done) | exact rfl) | exact oW | (apply And.intro)))
    all_goals (refine ⟨[some 0, some 1], ?_⟩)
    (repeat' (first | (refine xI (fun hfk => ?_) (fun hfk => ?_) <;> ((try (first | replace hfk := oT hfk | replace hfk := oF hfk | simp only [oA, oB, dh1, dh0, ne_eq, reduceCtorEq] at hfk)); (try exact oX))) | (refine And.intro ?ob ?_; (case ob => (exact oZ))) | exact True.intro | (show _ = _; first | exact oY | (first | rfl | (show (_ : Int) = _; omega); done) | exact rfl) | exact oW | (apply And.intro)))
  rw [if_neg k3] at eC
  by_cases k4 : 4194304 < nbV (cR b a) 32768 * nbV (cR b (a + (nbP (cR b a) 32768 : Int))) 32768
  · rw [if_pos k4] at eC
    rw [eC, if_neg (by decide), if_neg (by decide)]
    clear eC
    (repeat' (first | (refine xI (fun hfk => ?_) (fun hfk => ?_) <;> ((try (first | replace hfk := oT hfk | replace hfk := oF hfk | simp only [oA, oB, dh1, dh0, ne_eq, reduceCtorEq] at hfk)); (try exact oX))) | (refine And.intro ?ob ?_; (case ob => (exact oZ))) | exact True.intro | (show _ = _; first | exact oY | (skip; done) | exact rfl) | exact oW | (apply And.intro)))
    (refine ⟨[0, 1], ⟨by kernel_rfl⟩, ?_⟩)
    (repeat' (first | (refine xI (fun hfk => ?_) (fun hfk => ?_) <;> ((try (first | replace hfk := oT hfk | replace hfk := oF hfk | simp only [oA, oB, dh1, dh0, ne_eq, reduceCtorEq] at hfk)); (try exact oX))) | (refine And.intro ?ob ?_; (case ob => (exact oZ))) | exact True.intro | (show _ = _; first | exact oY | (skip; done) | exact rfl) | exact oW | (apply And.intro)))
    (refine ⟨[0, 1], ⟨by kernel_rfl⟩, ?_⟩)
    (repeat' (first | (refine xI (fun hfk => ?_) (fun hfk => ?_) <;> ((try (first | replace hfk := oT hfk | replace hfk := oF hfk | simp only [oA, oB, dh1, dh0, ne_eq, reduceCtorEq] at hfk)); (try exact oX))) | (refine And.intro ?ob ?_; (case ob => (exact oZ))) | exact True.intro | (show _ = _; first | exact oY | (skip; done) | exact rfl) | exact oW | (apply And.intro)))
    refine ⟨[some 0, some 1], ?_⟩
    (repeat' (first | (refine xI (fun hfk => ?_) (fun hfk => ?_) <;> ((try (first | replace hfk := oT hfk | replace hfk := oF hfk | simp only [oA, oB, dh1, dh0, ne_eq, reduceCtorEq] at hfk)); (try exact oX))) | (refine And.intro ?ob ?_; (case ob => (exact oZ))) | exact True.intro | (show _ = _; first | exact oY | (first | rfl | (show (_ : Int) = _; omega); done) | exact rfl) | exact oW | (apply And.intro)))
  rw [if_neg k4] at eC
  rw [eC, if_pos rfl, if_pos rfl]
  clear eC
  (repeat' (first | (refine xI (fun hfk => ?_) (fun hfk => ?_) <;> ((try (first | replace hfk := oT hfk | replace hfk := oF hfk | simp only [oA, oB, dh1, dh0, ne_eq, reduceCtorEq] at hfk)); (try exact oX))) | (refine And.intro ?ob ?_; (case ob => (exact oZ))) | exact True.intro | (show _ = _; first | exact oY | (skip; done) | exact rfl) | exact oW | (apply And.intro)))
  (refine ⟨[0, 1], ⟨by kernel_rfl⟩, ?_⟩)
  (repeat' (first | (refine xI (fun hfk => ?_) (fun hfk => ?_) <;> ((try (first | replace hfk := oT hfk | replace hfk := oF hfk | simp only [oA, oB, dh1, dh0, ne_eq, reduceCtorEq] at hfk)); (try exact oX))) | (refine And.intro ?ob ?_; (case ob => (exact oZ))) | exact True.intro | (show _ = _; first | exact oY | (skip; done) | exact rfl) | exact oW | (apply And.intro)))
  (refine ⟨[0, 1], ⟨by kernel_rfl⟩, ?_⟩)
  (repeat' (first | (refine xI (fun hfk => ?_) (fun hfk => ?_) <;> ((try (first | replace hfk := oT hfk | replace hfk := oF hfk | simp only [oA, oB, dh1, dh0, ne_eq, reduceCtorEq] at hfk)); (try exact oX))) | (refine And.intro ?ob ?_; (case ob => (exact oZ))) | exact True.intro | (show _ = _; first | exact oY | (skip; done) | exact rfl) | exact oW | (apply And.intro)))
  refine ⟨[some 0, some 1], ?_⟩
  (repeat' (first | (refine xI (fun hfk => ?_) (fun hfk => ?_) <;> ((try (first | replace hfk := oT hfk | replace hfk := oF hfk | simp only [oA, oB, dh1, dh0, ne_eq, reduceCtorEq] at hfk)); (try exact oX))) | (refine And.intro ?ob ?_; (case ob => (exact oZ))) | exact True.intro | (show _ = _; first | exact oY | (first | rfl | (show (_ : Int) = _; omega); done) | exact rfl) | exact oW | (apply And.intro)))
def dpC (r : List Int) : Int := if nbC r 255 ≠ 0 then nbC r 255 else if nbV r 255 ≠ 255 then 21 else (oneV (r.drop (nbP r 255))).2
def dpP (r : List Int) : Int := if nbC r 255 = 0 ∧ nbV r 255 = 255 then (nbP r 255 : Int) + (oneV (r.drop (nbP r 255))).1 else nbP r 255
def pdepF : FSpec := fun l es => match l, es with
  | [.ptr 0 0], [.cells 120 [.sl 1 1 0 n, .int .i64 a], .ints 5 .u8 b] =>
    some ([n = b.length, 0 ≤ a, a ≤ b.length, b.length ≤ 140737488355328], .int .i64 (dpC (cR b a)), [some (cutE n (a + dpP (cR b a))), some (bE b)])
  | _, _ => none
theorem pdep_g : GSOK Tryz.prog 86 (fG pdepF) := by
  refine fok (S := []) (G := glook [(116, fG pnumF), (117, fG coneF)]) pok_nil (gl_cons pnum_g (gl_cons cone_g gl_nil)) ⟨Tryz.func86, by kernel_rfl, by kernel_rfl, by kernel_rfl⟩ fun l es obs v es' h ho => ?_
  (unfold pdepF at h; split at h; rotate_left; (focus (cases h)); rename_i n a b; simp only [Option.some.injEq, Prod.mk.injEq] at h; obtain ⟨rfl, rfl, rfl⟩ := h; simp only [List.mem_cons, List.not_mem_nil, or_false, forall_eq_or_imp, forall_eq, false_implies, implies_true] at ho)
  obtain ⟨rfl, ho1, ho2, ho3⟩ := ho
  refine ⟨Nat.le_of_ble_eq_true rfl, ?_⟩
  have el : (cR b a).length = b.length - a.toNat := by simp
  have hk := nbP_le (cR b a) 255
  by_cases k1 : nbC (cR b a) 255 = 0
  rotate_left
  · have e : dpC (cR b a) = nbC (cR b a) 255 := if_pos k1
    have e1 : dpP (cR b a) = nbP (cR b a) 255 := if_neg (fun k => k1 k.1)
    rw [e, e1]
    clear e e1
    (repeat' (first | (refine xI (fun hfk => ?_) (fun hfk => ?_) <;> ((try (first | replace hfk := oT hfk | replace hfk := oF hfk | simp only [oA, oB, dh1, dh0, ne_eq, reduceCtorEq] at hfk)); (try exact oX))) | (refine And.intro ?ob ?_; (case ob => (exact oZ))) | exact True.intro | (show _ = _; first | exact oY | (skip; done) | exact rfl) | exact oW | (apply And.intro)))
    (refine ⟨[0, 1], ⟨by kernel_rfl⟩, ?_⟩)
    (repeat' (first | (refine xI (fun hfk => ?_) (fun hfk => ?_) <;> ((try (first | replace hfk := oT hfk | replace hfk := oF hfk | simp only [oA, oB, dh1, dh0, ne_eq, reduceCtorEq] at hfk)); (try exact oX))) | (refine And.intro ?ob ?_; (case ob => (exact oZ))) | exact True.intro | (show _ = _; first | exact oY | (skip; done) | exact rfl) | exact oW | (apply And.intro)))
    refine ⟨[some 0, some 1], ?_⟩
    (repeat' (first | (refine xI (fun hfk => ?_) (fun hfk => ?_) <;> ((try (first | replace hfk := oT hfk | replace hfk := oF hfk | simp only [oA, oB, dh1, dh0, ne_eq, reduceCtorEq] at hfk)); (try exact oX))) | (refine And.intro ?ob ?_; (case ob => (exact oZ))) | exact True.intro | (show _ = _; first | exact oY | (first | rfl | (show (_ : Int) = _; omega); done) | exact rfl) | exact oW | (apply And.intro)))
  by_cases k2 : nbV (cR b a) 255 = 255
  rotate_left
  · have e : dpC (cR b a) = 21 := by unfold dpC; rw [if_neg (fun k => k k1), if_pos k2]
    have e1 : dpP (cR b a) = nbP (cR b a) 255 := if_neg (fun k => k2 k.2)
    rw [e, e1]
    clear e e1
    (repeat' (first | (refine xI (fun hfk => ?_) (fun hfk => ?_) <;> ((try (first | replace hfk := oT hfk | replace hfk := oF hfk | simp only [oA, oB, dh1, dh0, ne_eq, reduceCtorEq] at hfk)); (try exact oX))) | (refine And.intro ?ob ?_; (case ob => (exact oZ))) | exact True.intro | (show _ = _; first | exact oY | (skip; done) | exact rfl) | exact oW | (apply And.intro)))
    (refine ⟨[0, 1], ⟨by kernel_rfl⟩, ?_⟩)
    (repeat' (first | (refine xI (fun hfk => ?_) (fun hfk => ?_) <;> ((try (first | replace hfk := oT hfk | replace hfk := oF hfk | simp only [oA, oB, dh1, dh0, ne_eq, reduceCtorEq] at hfk)); (try exact oX))) | (refine And.intro ?ob ?_; (case ob => (exact oZ))) | exact True.intro | (show _ = _; first | exact oY | (skip; done) | exact rfl) | exact oW | (apply And.intro)))
    refine ⟨[some 0, some 1], ?_⟩
    (repeat' (first | (refine xI (fun hfk => ?_) (fun hfk => ?_) <;> ((try (first | replace hfk := oT hfk | replace hfk := oF hfk | simp only [oA, oB, dh1, dh0, ne_eq, reduceCtorEq] at hfk)); (try exact oX))) | (refine And.intro ?ob ?_; (case ob => (exact oZ))) | exact True.intro | (show _ = _; first | exact oY | (first | rfl | (show (_ : Int) = _; omega); done) | exact rfl) | exact oW | (apply And.intro)))
  have ec := cR_add (b := b) (a := a) (n := nbP (cR b a) 255) ho1
  have e : dpC (cR b a) = (oneV (cR b (a + (nbP (cR b a) 255 : Int)))).2 := by rw [ec]; unfold dpC; rw [if_neg (fun k => k k1), if_neg (fun k => k k2)]
  have e1 : a + dpP (cR b a) = a + (nbP (cR b a) 255 : Int) + (oneV (cR b (a + (nbP (cR b a) 255 : Int)))).1 := by rw [ec]; unfold dpP; rw [if_pos ⟨k1, k2⟩]; omega
  rw [e, e1]
  clear e e1 ec
  (repeat' (first | (refine xI (fun hfk => ?_) (fun hfk => ?_) <;> ((try (first | replace hfk := oT hfk | replace hfk := oF hfk | simp only [oA, oB, dh1, dh0, ne_eq, reduceCtorEq] at hfk)); (try exact oX))) | (refine And.intro ?ob ?_; (case ob => (exact oZ))) | exact True.intro | (show _ = _; first | exact oY | (skip; done) | exact rfl) | exact oW | (apply And.intro)))
  (refine ⟨[0, 1], ⟨by kernel_rfl⟩, ?_⟩)
  (repeat' (first | (refine xI (fun hfk => ?_) (fun hfk => ?_) <;> ((try (first | replace hfk := oT hfk | replace hfk := oF hfk | simp only [oA, oB, dh1, dh0, ne_eq, reduceCtorEq] at hfk)); (try exact oX))) | (refine And.intro ?ob ?_; (case ob => (exact oZ))) | exact True.intro | (show _ = _; first | exact oY | (skip; done) | exact rfl) | exact oW | (apply And.intro)))
  (refine ⟨[0, 1], ⟨by kernel_rfl⟩, ?_⟩)
  (repeat' (first | (refine xI (fun hfk => ?_) (fun hfk => ?_) <;> ((try (first | replace hfk := oT hfk | replace hfk := oF hfk | simp only [oA, oB, dh1, dh0, ne_eq, reduceCtorEq] at hfk)); (try exact oX))) | (refine And.intro ?ob ?_; (case ob => (exact oZ))) | exact True.intro | (show _ = _; first | exact oY | (skip; done) | exact rfl) | exact oW | (apply And.intro)))
  refine ⟨[some 0, some 1], ?_⟩
  (repeat' (first | (refine xI (fun hfk => ?_) (fun hfk => ?_) <;> ((try (first | replace hfk := oT hfk | replace hfk := oF hfk | simp only [oA, oB, dh1, dh0, ne_eq, reduceCtorEq] at hfk)); (try exact oX))) | (refine And.intro ?ob ?_; (case ob => (exact oZ))) | exact True.intro | (show _ = _; first | exact oY | (first | rfl | (show (_ : Int) = _; omega); done) | exact rfl) | exact oW | (apply And.intro)))
def kdC (r : List Int) : Int := if wordC r [80, 53] = 0 then 0 else wordC r [80, 54]
def kdV (r : List Int) : Int := if wordC r [80, 53] = 0 then 1 else 3
def kdP (r : List Int) : Nat := if kdC r = 0 then 2 else 0
end Go.Proofs.YtljdahepmmgfeaaGreatDoor
namespace Go.Proofs.YtljdahepmmgfeaaGreatDoor
open Go Go.RowKit
set_option maxHeartbeats 4000000
theorem kdP_le (r : List Int) : kdP r ≤ r.length := by
  unfold kdP
  split
  · rename_i h
    unfold kdC at h
    split at h
    · rename_i k; exact wordC_le (s := [80, 53]) k
    · exact wordC_le (s := [80, 54]) h
  · omega
def pkindF : FSpec := fun l es => match l, es with
  | [.ptr 0 0], [.cells 120 [.sl 1 1 0 n, .int .i64 a], .ints 5 .u8 b] =>
    some ([n = b.length, 0 ≤ a, a ≤ b.length, b.length ≤ 140737488355328], .tup [.int .i64 (kdV (cR b a)), .int .i64 (kdC (cR b a))], [some (cutE n (a + (kdP (cR b a) : Int))), some (bE b)])
  | _, _ => none
theorem pkind_g : GSOK Tryz.prog 84 (fG pkindF) := by
  refine fok (S := []) (G := glook [(89, fG cwordF)]) pok_nil (gl_cons cword_g gl_nil) ⟨Tryz.func84, by kernel_rfl, by kernel_rfl, by kernel_rfl⟩ fun l es obs v es' h ho => ?_
  (unfold pkindF at h; split at h; rotate_left; (focus (cases h)); rename_i n a b; simp only [Option.some.injEq, Prod.mk.injEq] at h; obtain ⟨rfl, rfl, rfl⟩ := h; simp only [List.mem_cons, List.not_mem_nil, or_false, forall_eq_or_imp, forall_eq, false_implies, implies_true] at ho)
  obtain ⟨rfl, ho1, ho2, ho3⟩ := ho
  refine ⟨Nat.le_of_ble_eq_true rfl, ?_⟩
  have el : (cR b a).length = b.length - a.toNat := by simp
  have q5 : wordC (cR b a) (strI (ByteArray.mk #[80, 53]).data.toList) = wordC (cR b a) [80, 53] := rfl
  have q6 : wordC (cR b a) (strI (ByteArray.mk #[80, 54]).data.toList) = wordC (cR b a) [80, 54] := rfl
  have l5 : (ByteArray.mk #[80, 53]).data.toList.length ≤ 140737488355328 := by decide
  have l6 : (ByteArray.mk #[80, 54]).data.toList.length ≤ 140737488355328 := by decide
  by_cases k1 : wordC (cR b a) [80, 53] = 0
  · have e : kdC (cR b a) = wordC (cR b a) (strI (ByteArray.mk #[80, 53]).data.toList) := by rw [q5]; unfold kdC; rw [if_pos k1, k1]
    have e1 : kdV (cR b a) = 1 := if_pos k1
    have e2 : (kdP (cR b a) : Int) = wordN (cR b a) (ByteArray.mk #[80, 53]).data.toList := by
      unfold kdP wordN; rw [e, q5, if_pos k1, if_pos k1]; rfl
    have k2 : wordC (cR b a) (strI (ByteArray.mk #[80, 53]).data.toList) = 0 := k1
    rw [e, e1, e2]
    clear e e1 e2 q5 q6
    (repeat' (first | (refine xI (fun hfk => ?_) (fun hfk => ?_) <;> ((try (first | replace hfk := oT hfk | replace hfk := oF hfk | simp only [oA, oB, dh1, dh0, ne_eq, reduceCtorEq] at hfk)); (try exact oX))) | (refine And.intro ?ob ?_; (case ob => (exact oZ))) | exact True.intro | (show _ = _; first | exact oY | (skip; done) | exact rfl) | exact oW | (apply And.intro)))
    (refine ⟨[0, 1], ⟨by kernel_rfl⟩, ?_⟩)
    (repeat' (first | (refine xI (fun hfk => ?_) (fun hfk => ?_) <;> ((try (first | replace hfk := oT hfk | replace hfk := oF hfk | simp only [oA, oB, dh1, dh0, ne_eq, reduceCtorEq] at hfk)); (try exact oX))) | (refine And.intro ?ob ?_; (case ob => (exact oZ))) | exact True.intro | (show _ = _; first | exact oY | (skip; done) | exact rfl) | exact oW | (apply And.intro)))
    refine ⟨[some 0, some 1], ?_⟩
    (repeat' (first | (refine xI (fun hfk => ?_) (fun hfk => ?_) <;> ((try (first | replace hfk := oT hfk | replace hfk := oF hfk | simp only [oA, oB, dh1, dh0, ne_eq, reduceCtorEq] at hfk)); (try exact oX))) | (refine And.intro ?ob ?_; (case ob => (exact oZ))) | exact True.intro | (show _ = _; first | exact oY | (first | rfl | (show (_ : Int) = _; omega); done) | exact rfl) | exact oW | (apply And.intro)))
  · have z : wordN (cR b a) (ByteArray.mk #[80, 53]).data.toList = 0 := by unfold wordN; rw [q5, if_neg k1]
    have ea : a + wordN (cR b a) (ByteArray.mk #[80, 53]).data.toList = a := by rw [z]; omega
    have e : kdC (cR b a) = wordC (cR b (a + wordN (cR b a) (ByteArray.mk #[80, 53]).data.toList)) (strI (ByteArray.mk #[80, 54]).data.toList) := by rw [ea, q6]; unfold kdC; rw [if_neg k1]
    have e1 : kdV (cR b a) = 3 := if_neg k1
    have e2 : a + (kdP (cR b a) : Int) = a + wordN (cR b a) (ByteArray.mk #[80, 53]).data.toList + wordN (cR b (a + wordN (cR b a) (ByteArray.mk #[80, 53]).data.toList)) (ByteArray.mk #[80, 54]).data.toList := by
      rw [ea]
      unfold kdP wordN
      have : kdC (cR b a) = wordC (cR b a) [80, 54] := if_neg k1
      rw [this, q6]
      by_cases k : wordC (cR b a) [80, 54] = 0
      · rw [if_pos k, if_pos k]; rfl
      · rw [if_neg k, if_neg k]; rfl
    have k2 : ¬ wordC (cR b a) (strI (ByteArray.mk #[80, 53]).data.toList) = 0 := k1
    rw [e, e1, e2]
    clear e e1 e2 q5 q6
    (repeat' (first | (refine xI (fun hfk => ?_) (fun hfk => ?_) <;> ((try (first | replace hfk := oT hfk | replace hfk := oF hfk | simp only [oA, oB, dh1, dh0, ne_eq, reduceCtorEq] at hfk)); (try exact oX))) | (refine And.intro ?ob ?_; (case ob => (exact oZ))) | exact True.intro | (show _ = _; first | exact oY | (skip; done) | exact rfl) | exact oW | (apply And.intro)))
    (refine ⟨[0, 1], ⟨by kernel_rfl⟩, ?_⟩)
    (repeat' (first | (refine xI (fun hfk => ?_) (fun hfk => ?_) <;> ((try (first | replace hfk := oT hfk | replace hfk := oF hfk | simp only [oA, oB, dh1, dh0, ne_eq, reduceCtorEq] at hfk)); (try exact oX))) | (refine And.intro ?ob ?_; (case ob => (exact oZ))) | exact True.intro | (show _ = _; first | exact oY | (skip; done) | exact rfl) | exact oW | (apply And.intro)))
    (refine ⟨[0, 1], ⟨by kernel_rfl⟩, ?_⟩)
    (repeat' (first | (refine xI (fun hfk => ?_) (fun hfk => ?_) <;> ((try (first | replace hfk := oT hfk | replace hfk := oF hfk | simp only [oA, oB, dh1, dh0, ne_eq, reduceCtorEq] at hfk)); (try exact oX))) | (refine And.intro ?ob ?_; (case ob => (exact oZ))) | exact True.intro | (show _ = _; first | exact oY | (skip; done) | exact rfl) | exact oW | (apply And.intro)))
    refine ⟨[some 0, some 1], ?_⟩
    (repeat' (first | (refine xI (fun hfk => ?_) (fun hfk => ?_) <;> ((try (first | replace hfk := oT hfk | replace hfk := oF hfk | simp only [oA, oB, dh1, dh0, ne_eq, reduceCtorEq] at hfk)); (try exact oX))) | (refine And.intro ?ob ?_; (case ob => (exact oZ))) | exact True.intro | (show _ = _; first | exact oY | (first | rfl | (show (_ : Int) = _; omega); done) | exact rfl) | exact oW | (apply And.intro)))
def pgE (r : List Int) : Int := if kdC r ≠ 0 then kdC r else if szC (r.drop 2) ≠ 0 then szC (r.drop 2) else dpC ((r.drop 2).drop (szP (r.drop 2)))
def pgW (r : List Int) : Int := if kdC r = 0 then szW (r.drop 2) else 0
def pgH (r : List Int) : Int := if kdC r = 0 then szH (r.drop 2) else 0
def pgP (r : List Int) : Int := if kdC r ≠ 0 then 0 else if szC (r.drop 2) ≠ 0 then 2 + (szP (r.drop 2) : Int) else 2 + (szP (r.drop 2) : Int) + dpP ((r.drop 2).drop (szP (r.drop 2)))
def pheadF : FSpec := fun l es => match l, es with
  | [.ptr 0 0], [.cells 120 [.sl 1 1 0 n, .int .i64 a], .ints 5 .u8 b] =>
    some ([n = b.length, 0 ≤ a, a ≤ b.length, b.length ≤ 140737488355328], .tup [.agg [.int .i64 (pgW (cR b a)), .int .i64 (pgH (cR b a)), .int .i64 (kdV (cR b a)), .nils], .int .i64 (pgE (cR b a))], [some (cutE n (a + pgP (cR b a))), some (bE b)])
  | _, _ => none
theorem phead_g : GSOK Tryz.prog 51 (fG pheadF) := by
  refine fokE (S := []) (G := glook [(84, fG pkindF), (85, fG psizeF)]) [(86, pdepF)] [] [] pok_nil (gl_cons pkind_g (gl_cons psize_g gl_nil)) (dl_cons pdep_g dl_nil) ⟨Tryz.func51, by kernel_rfl, by kernel_rfl, by kernel_rfl⟩ fun l es obs v es' h ho => ?_
  (unfold pheadF at h; split at h; rotate_left; (focus (cases h)); rename_i n a b; simp only [Option.some.injEq, Prod.mk.injEq] at h; obtain ⟨rfl, rfl, rfl⟩ := h; simp only [List.mem_cons, List.not_mem_nil, or_false, forall_eq_or_imp, forall_eq, false_implies, implies_true] at ho)
  obtain ⟨rfl, ho1, ho2, ho3⟩ := ho
  refine ⟨Nat.le_of_ble_eq_true rfl, ?_⟩
  have el : (cR b a).length = b.length - a.toNat := by simp
  have hk := kdP_le (cR b a)
  by_cases k1 : kdC (cR b a) = 0
  rotate_left
  · have e : pgE (cR b a) = kdC (cR b a) := if_pos k1
    have e1 : pgW (cR b a) = 0 := if_neg k1
    have e2 : pgH (cR b a) = 0 := if_neg k1
    have e3 : a + pgP (cR b a) = a + (kdP (cR b a) : Int) := by unfold pgP kdP; rw [if_pos k1, if_neg k1]; rfl
    rw [e, e1, e2, e3]
    clear e e1 e2 e3
    (repeat' (first | (refine xI (fun hfk => ?_) (fun hfk => ?_) <;> ((try (first | replace hfk := oT hfk | replace hfk := oF hfk | simp only [oA, oB, dh1, dh0, ne_eq, reduceCtorEq] at hfk)); (try exact oX))) | (refine And.intro ?ob ?_; (case ob => (exact oZ))) | exact True.intro | (show _ = _; first | exact oY | (skip; done) | exact rfl) | exact oW | (apply And.intro)))
    (refine ⟨[0, 1], ⟨by kernel_rfl⟩, ?_⟩)
    (repeat' (first | (refine xI (fun hfk => ?_) (fun hfk => ?_) <;> ((try (first | replace hfk := oT hfk | replace hfk := oF hfk | simp only [oA, oB, dh1, dh0, ne_eq, reduceCtorEq] at hfk)); (try exact oX))) | (refine And.intro ?ob ?_; (case ob => (exact oZ))) | exact True.intro | (show _ = _; first | exact oY | (skip; done) | exact rfl) | exact oW | (apply And.intro)))
    refine ⟨[some 0, some 1], ?_⟩
    (repeat' (first | (refine xI (fun hfk => ?_) (fun hfk => ?_) <;> ((try (first | replace hfk := oT hfk | replace hfk := oF hfk | simp only [oA, oB, dh1, dh0, ne_eq, reduceCtorEq] at hfk)); (try exact oX))) | (refine And.intro ?ob ?_; (case ob => (exact oZ))) | exact True.intro | (show _ = _; first | exact oY | (first | rfl | (show (_ : Int) = _; omega); done) | exact rfl) | exact oW | (apply And.intro)))
  have hp2 : kdP (cR b a) = 2 := if_pos k1
  have ec := cR_add (b := b) (a := a) (n := kdP (cR b a)) ho1
  have hs := szP_le (cR b (a + (kdP (cR b a) : Int)))
  have hl2 : (cR b (a + (kdP (cR b a) : Int))).length = b.length - (a + (kdP (cR b a) : Int)).toNat := by simp
  have e1 : pgW (cR b a) = szW (cR b (a + (kdP (cR b a) : Int))) := by rw [ec, hp2]; exact if_pos k1
  have e2 : pgH (cR b a) = szH (cR b (a + (kdP (cR b a) : Int))) := by rw [ec, hp2]; exact if_pos k1
  rw [e1, e2]
  clear e1 e2
  by_cases k2 : szC (cR b (a + (kdP (cR b a) : Int))) = 0
  rotate_left
  · have e : pgE (cR b a) = szC (cR b (a + (kdP (cR b a) : Int))) := by
      rw [ec, hp2] at k2 ⊢; unfold pgE; rw [if_neg (fun k => k k1), if_pos k2]
    have e3 : a + pgP (cR b a) = a + (kdP (cR b a) : Int) + (szP (cR b (a + (kdP (cR b a) : Int))) : Int) := by
      rw [ec, hp2] at k2 ⊢; unfold pgP; rw [if_neg (fun k => k k1), if_pos k2]; omega
    rw [e, e3]
    clear e e3 ec
    (repeat' (first | (refine xI (fun hfk => ?_) (fun hfk => ?_) <;> ((try (first | replace hfk := oT hfk | replace hfk := oF hfk | simp only [oA, oB, dh1, dh0, ne_eq, reduceCtorEq] at hfk)); (try exact oX))) | (refine And.intro ?ob ?_; (case ob => (exact oZ))) | exact True.intro | (show _ = _; first | exact oY | (skip; done) | exact rfl) | exact oW | (apply And.intro)))
    (refine ⟨[0, 1], ⟨by kernel_rfl⟩, ?_⟩)
    (repeat' (first | (refine xI (fun hfk => ?_) (fun hfk => ?_) <;> ((try (first | replace hfk := oT hfk | replace hfk := oF hfk | simp only [oA, oB, dh1, dh0, ne_eq, reduceCtorEq] at hfk)); (try exact oX))) | (refine And.intro ?ob ?_; (case ob => (exact oZ))) | exact True.intro | (show _ = _; first | exact oY | (skip; done) | exact rfl) | exact oW | (apply And.intro)))
    (refine ⟨[0, 1], ⟨by kernel_rfl⟩, ?_⟩)
    (repeat' (first | (refine xI (fun hfk => ?_) (fun hfk => ?_) <;> ((try (first | replace hfk := oT hfk | replace hfk := oF hfk | simp only [oA, oB, dh1, dh0, ne_eq, reduceCtorEq] at hfk)); (try exact oX))) | (refine And.intro ?ob ?_; (case ob => (exact oZ))) | exact True.intro | (show _ = _; first | exact oY | (skip; done) | exact rfl) | exact oW | (apply And.intro)))
    refine ⟨[some 0, some 1], ?_⟩
    (repeat' (first | (refine xI (fun hfk => ?_) (fun hfk => ?_) <;> ((try (first | replace hfk := oT hfk | replace hfk := oF hfk | simp only [oA, oB, dh1, dh0, ne_eq, reduceCtorEq] at hfk)); (try exact oX))) | (refine And.intro ?ob ?_; (case ob => (exact oZ))) | exact True.intro | (show _ = _; first | exact oY | (first | rfl | (show (_ : Int) = _; omega); done) | exact rfl) | exact oW | (apply And.intro)))
  have ed := cR_add (b := b) (a := a + (kdP (cR b a) : Int)) (n := szP (cR b (a + (kdP (cR b a) : Int)))) (by omega)
  have e : pgE (cR b a) = dpC (cR b (a + (kdP (cR b a) : Int) + (szP (cR b (a + (kdP (cR b a) : Int))) : Int))) := by
    rw [ed]
    rw [ec, hp2] at k2 ⊢; unfold pgE; rw [if_neg (fun k => k k1), if_neg (fun k => k k2)]
  have e3 : a + pgP (cR b a) = a + (kdP (cR b a) : Int) + (szP (cR b (a + (kdP (cR b a) : Int))) : Int) + dpP (cR b (a + (kdP (cR b a) : Int) + (szP (cR b (a + (kdP (cR b a) : Int))) : Int))) := by
    rw [ed]
    rw [ec, hp2] at k2 ⊢; unfold pgP; rw [if_neg (fun k => k k1), if_neg (fun k => k k2)]; omega
  rw [e, e3]
  clear e e3 ec ed
  (repeat' (first | (refine xI (fun hfk => ?_) (fun hfk => ?_) <;> ((try (first | replace hfk := oT hfk | replace hfk := oF hfk | simp only [oA, oB, dh1, dh0, ne_eq, reduceCtorEq] at hfk)); (try exact oX))) | (refine And.intro ?ob ?_; (case ob => (exact oZ))) | exact True.intro | (show _ = _; first | exact oY | (skip; done) | exact rfl) | exact oW | (apply And.intro)))
  (refine ⟨[0, 1], ⟨by kernel_rfl⟩, ?_⟩)
  (repeat' (first | (refine xI (fun hfk => ?_) (fun hfk => ?_) <;> ((try (first | replace hfk := oT hfk | replace hfk := oF hfk | simp only [oA, oB, dh1, dh0, ne_eq, reduceCtorEq] at hfk)); (try exact oX))) | (refine And.intro ?ob ?_; (case ob => (exact oZ))) | exact True.intro | (show _ = _; first | exact oY | (skip; done) | exact rfl) | exact oW | (apply And.intro)))
  (refine ⟨[0, 1], ⟨by kernel_rfl⟩, ?_⟩)
  (repeat' (first | (refine xI (fun hfk => ?_) (fun hfk => ?_) <;> ((try (first | replace hfk := oT hfk | replace hfk := oF hfk | simp only [oA, oB, dh1, dh0, ne_eq, reduceCtorEq] at hfk)); (try exact oX))) | (refine And.intro ?ob ?_; (case ob => (exact oZ))) | exact True.intro | (show _ = _; first | exact oY | (skip; done) | exact rfl) | exact oW | (apply And.intro)))
  refine ⟨[some 0, some 1], ?_⟩
  (repeat' (first | (refine xI (fun hfk => ?_) (fun hfk => ?_) <;> ((try (first | replace hfk := oT hfk | replace hfk := oF hfk | simp only [oA, oB, dh1, dh0, ne_eq, reduceCtorEq] at hfk)); (try exact oX))) | (refine And.intro ?ob ?_; (case ob => (exact oZ))) | exact True.intro | (show _ = _; first | exact oY | (first | rfl | (show (_ : Int) = _; omega); done) | exact rfl) | exact oW | (apply And.intro)))
end Go.Proofs.YtljdahepmmgfeaaGreatDoor
namespace Go.Proofs.YtljdahepmmgfeaaGreatDoor
open Go Go.RowKit
set_option maxHeartbeats 4000000
theorem oneV_bd (r : List Int) : 0 ≤ (oneV r).1 ∧ (oneV r).1 ≤ r.length := by
  unfold oneV
  (repeat' split) <;> simp <;> omega
theorem dpP_bd (r : List Int) : 0 ≤ dpP r ∧ dpP r ≤ r.length := by
  have h1 := nbP_le r 255
  have h2 := oneV_bd (r.drop (nbP r 255))
  rw [List.length_drop] at h2
  unfold dpP
  split <;> omega
theorem pgP_bd (r : List Int) : 0 ≤ pgP r ∧ pgP r ≤ r.length := by
  have h1 := szP_le (r.drop 2)
  have h2 := dpP_bd ((r.drop 2).drop (szP (r.drop 2)))
  have h3 := kdP_le r
  rw [List.length_drop, List.length_drop] at h2
  rw [List.length_drop] at h1
  unfold pgP
  unfold kdP at h3
  split
  · omega
  · rename_i k
    rw [if_pos (Classical.not_not.1 k)] at h3
    split <;> omega
def pnN (r : List Int) : Int := pgW r * pgH r * kdV r
def pnE (b : List Int) : Int := if pgE b ≠ 0 then pgE b else if (b.length : Int) - pgP b < pnN b then 20 else if pnN b < (b.length : Int) - pgP b then 22 else 0
def pnL (b : List Int) : List Int := if pnE b = 0 then b.drop (pgP b).toNat else []
def pnK (b : List Int) (x : Int) : Int := if pnE b = 0 then x else 0
theorem pn_bad {b : List Int} (h : pnE b ≠ 0) : (∀ x, pnK b x = 0) ∧ pnL b = [] := ⟨fun x => if_neg h, if_neg h⟩
theorem szC0 {r : List Int} (h : szC r = 0) : 1 ≤ szW r ∧ szW r ≤ 32768 ∧ 1 ≤ szH r ∧ szH r ≤ 32768 ∧ szW r * szH r ≤ 4194304 := by
  have e1 : szW r = nbV r 32768 := if_pos h
  have e2 : szH r = nbV (r.drop (nbP r 32768)) 32768 := if_pos h
  have r1 := nbV_rng r (m := 32768) (by decide)
  have r2 := nbV_rng (r.drop (nbP r 32768)) (m := 32768) (by decide)
  rw [e1, e2]
  unfold szC at h
  split at h
  · rename_i k; exact absurd h k
  split at h
  · rename_i k; exact absurd h k
  split at h
  · cases h
  split at h
  · cases h
  omega
theorem kdV_cs (r : List Int) : kdV r = 1 ∨ kdV r = 3 := by unfold kdV; split <;> simp
theorem pgE0 {b : List Int} (h : pgE b = 0) : kdC b = 0 ∧ szC (b.drop 2) = 0 ∧ dpC ((b.drop 2).drop (szP (b.drop 2))) = 0 := by
  unfold pgE at h
  split at h
  · rename_i k; exact absurd h k
  rename_i k
  split at h
  · rename_i k2; exact absurd h k2
  rename_i k2
  exact ⟨Classical.not_not.1 k, Classical.not_not.1 k2, h⟩
theorem pn_sz {b : List Int} (h : pgE b = 0) : 1 ≤ pgW b ∧ pgW b ≤ 32768 ∧ 1 ≤ pgH b ∧ pgH b ≤ 32768 ∧ pgW b * pgH b ≤ 4194304 ∧ 0 ≤ pgW b * pgH b ∧ 0 ≤ pnN b ∧ pnN b ≤ 16777216 := by
  obtain ⟨k1, k2, _⟩ := pgE0 h
  have e1 : pgW b = szW (b.drop 2) := if_pos k1
  have e2 : pgH b = szH (b.drop 2) := if_pos k1
  obtain ⟨a1, a2, a3, a4, a5⟩ := szC0 k2
  have h0 : 0 ≤ pgW b * pgH b := Int.mul_nonneg (by omega) (by omega)
  rw [← e1, ← e2] at a5
  unfold pnN
  rcases kdV_cs b with k | k <;> rw [k] <;> exact ⟨by omega, by omega, by omega, by omega, by omega, by omega, by omega, by omega⟩
abbrev pnmS : PSpec := fun l => match l with
  | [.roi .u8 b] => some ([Byt b], .tup [imA (pnK b (pgW b)) (pnK b (pgH b)) (pnK b (kdV b)) (pnL b), .int .i64 (pnE b)])
  | _ => none
theorem pread_s : SOK Tryz.prog 31 pnmS := by
  refine sok_of (C := mkC 0 [(52, leftS)] (glook [(50, fG newcF), (51, fG pheadF), (53, fG takeF)])) (mkC_ok (pok_cons left_s pok_nil) (gl_cons newc_g (gl_cons phead_g (gl_cons take_g gl_nil)))) rfl mixed ⟨Tryz.func31, by kernel_rfl, by kernel_rfl, by kernel_rfl⟩ fun l obs v h ho => ?_
  (unfold pnmS at h; split at h; rotate_left; (focus (cases h)); rename_i b; simp only [Option.some.injEq, Prod.mk.injEq] at h; obtain ⟨rfl, rfl⟩ := h; simp only [List.mem_cons, List.not_mem_nil, or_false, forall_eq_or_imp, forall_eq, false_implies, implies_true] at ho)
  refine ⟨Nat.le_of_ble_eq_true rfl, ?_⟩
  have bl := ho.le
  have c0 : cR b 0 = b := by rw [cR_eq]; rfl
  have hp := pgP_bd b
  by_cases k1 : pgE b = 0
  rotate_left
  · have e : pnE b = pgE b := if_pos k1
    obtain ⟨z1, z2⟩ := pn_bad (b := b) (by rw [e]; exact k1)
    rw [z1, z1, z1, z2, e]
    rw [← c0] at k1
    have ee : pgE (cR b 0) = pgE b := by rw [c0]
    (repeat' (first | (refine xI (fun hfk => ?_) (fun hfk => ?_) <;> ((try (first | replace hfk := oT hfk | replace hfk := oF hfk | simp only [oA, oB, dh1, dh0, ne_eq, reduceCtorEq] at hfk)); (try exact oX))) | (refine And.intro ?ob ?_; (case ob => (exact oZ))) | exact True.intro | (show _ = _; first | exact oY | (skip; done) | exact rfl) | exact oW | (apply And.intro)))
    (refine ⟨[], ⟨by kernel_rfl⟩, ?_⟩)
    (repeat' (first | (refine xI (fun hfk => ?_) (fun hfk => ?_) <;> ((try (first | replace hfk := oT hfk | replace hfk := oF hfk | simp only [oA, oB, dh1, dh0, ne_eq, reduceCtorEq] at hfk)); (try exact oX))) | (refine And.intro ?ob ?_; (case ob => (exact oZ))) | exact True.intro | (show _ = _; first | exact oY | (skip; done) | exact rfl) | exact oW | (apply And.intro)))
    (refine ⟨[1, 2], ⟨by kernel_rfl⟩, ?_⟩)
    (repeat' (first | (refine xI (fun hfk => ?_) (fun hfk => ?_) <;> ((try (first | replace hfk := oT hfk | replace hfk := oF hfk | simp only [oA, oB, dh1, dh0, ne_eq, reduceCtorEq] at hfk)); (try exact oX))) | (refine And.intro ?ob ?_; (case ob => (exact oZ))) | exact True.intro | (show _ = _; first | exact oY | (exact ee; done) | exact rfl) | exact oW | (apply And.intro)))
  obtain ⟨a1, a2, a3, a4, a5, a6, a7, a8⟩ := pn_sz k1
  have k0 : pgE (cR b 0) = 0 := by rw [c0]; exact k1
  have eW : pgW (cR b 0) = pgW b := by rw [c0]
  have eH : pgH (cR b 0) = pgH b := by rw [c0]
  have eC : kdV (cR b 0) = kdV b := by rw [c0]
  have eP : pgP (cR b 0) = pgP b := by rw [c0]
  have eN : pgW (cR b 0) * pgH (cR b 0) * kdV (cR b 0) = pnN b := by rw [c0]; rfl
  have eM : pgW (cR b 0) * pgH (cR b 0) = pgW b * pgH b := by rw [c0]
  have r1 : rngI .i64 (pgW (cR b 0) * pgH (cR b 0)) := by rw [eM]; exact rng64 (by omega) (by omega)
  have r2 : rngI .i64 (pgW (cR b 0) * pgH (cR b 0) * kdV (cR b 0)) := by rw [eN]; exact rng64 (by omega) (by omega)
  have tl : (List.take b.length (List.drop 0 b)).length = b.length := by simp
  by_cases k2 : (b.length : Int) - pgP b < pnN b
  · have e : pnE b = 20 := by unfold pnE; rw [if_neg (fun k => k k1), if_pos k2]
    obtain ⟨z1, z2⟩ := pn_bad (b := b) (by rw [e]; decide)
    rw [z1, z1, z1, z2, e]
    clear eW eH eC eM z1 z2 e
    (repeat' (first | (refine xI (fun hfk => ?_) (fun hfk => ?_) <;> ((try (first | replace hfk := oT hfk | replace hfk := oF hfk | simp only [oA, oB, dh1, dh0, ne_eq, reduceCtorEq] at hfk)); (try exact oX))) | (refine And.intro ?ob ?_; (case ob => (exact oZ))) | exact True.intro | (show _ = _; first | exact oY | (skip; done) | exact rfl) | exact oW | (apply And.intro)))
    (refine ⟨[], ⟨by kernel_rfl⟩, ?_⟩)
    (repeat' (first | (refine xI (fun hfk => ?_) (fun hfk => ?_) <;> ((try (first | replace hfk := oT hfk | replace hfk := oF hfk | simp only [oA, oB, dh1, dh0, ne_eq, reduceCtorEq] at hfk)); (try exact oX))) | (refine And.intro ?ob ?_; (case ob => (exact oZ))) | exact True.intro | (show _ = _; first | exact oY | (skip; done) | exact rfl) | exact oW | (apply And.intro)))
    (refine ⟨[1, 2], ⟨by kernel_rfl⟩, ?_⟩)
    (repeat' (first | (refine xI (fun hfk => ?_) (fun hfk => ?_) <;> ((try (first | replace hfk := oT hfk | replace hfk := oF hfk | simp only [oA, oB, dh1, dh0, ne_eq, reduceCtorEq] at hfk)); (try exact oX))) | (refine And.intro ?ob ?_; (case ob => (exact oZ))) | exact True.intro | (show _ = _; first | exact oY | (rfl; done) | exact rfl) | exact oW | (apply And.intro)))
  by_cases k3 : pnN b < (b.length : Int) - pgP b
  · have e : pnE b = 22 := by unfold pnE; rw [if_neg (fun k => k k1), if_neg k2, if_pos k3]
    obtain ⟨z1, z2⟩ := pn_bad (b := b) (by rw [e]; decide)
    rw [z1, z1, z1, z2, e]
    clear eW eH eC eM z1 z2 e
    (repeat' (first | (refine xI (fun hfk => ?_) (fun hfk => ?_) <;> ((try (first | replace hfk := oT hfk | replace hfk := oF hfk | simp only [oA, oB, dh1, dh0, ne_eq, reduceCtorEq] at hfk)); (try exact oX))) | (refine And.intro ?ob ?_; (case ob => (exact oZ))) | exact True.intro | (show _ = _; first | exact oY | (skip; done) | exact rfl) | exact oW | (apply And.intro)))
    (refine ⟨[], ⟨by kernel_rfl⟩, ?_⟩)
    (repeat' (first | (refine xI (fun hfk => ?_) (fun hfk => ?_) <;> ((try (first | replace hfk := oT hfk | replace hfk := oF hfk | simp only [oA, oB, dh1, dh0, ne_eq, reduceCtorEq] at hfk)); (try exact oX))) | (refine And.intro ?ob ?_; (case ob => (exact oZ))) | exact True.intro | (show _ = _; first | exact oY | (skip; done) | exact rfl) | exact oW | (apply And.intro)))
    (refine ⟨[1, 2], ⟨by kernel_rfl⟩, ?_⟩)
    (repeat' (first | (refine xI (fun hfk => ?_) (fun hfk => ?_) <;> ((try (first | replace hfk := oT hfk | replace hfk := oF hfk | simp only [oA, oB, dh1, dh0, ne_eq, reduceCtorEq] at hfk)); (try exact oX))) | (refine And.intro ?ob ?_; (case ob => (exact oZ))) | exact True.intro | (show _ = _; first | exact oY | (rfl; done) | exact rfl) | exact oW | (apply And.intro)))
  have e : pnE b = 0 := by unfold pnE; rw [if_neg (fun k => k k1), if_neg k2, if_neg k3]
  have f1 : pnK b (pgW b) = pgW (cR b 0) := (if_pos e).trans eW.symm
  have f2 : pnK b (pgH b) = pgH (cR b 0) := (if_pos e).trans eH.symm
  have f3 : pnK b (kdV b) = kdV (cR b 0) := (if_pos e).trans eC.symm
  have f4 : pnL b = b.drop (pgP b).toNat := if_pos e
  rw [f1, f2, f3, f4, e]
  have tk : takeC ((b.length : Int) - (0 + pgP (cR b 0))) (pgW (cR b 0) * pgH (cR b 0) * kdV (cR b 0)) = 0 := by
    unfold takeC; rw [if_neg (by omega), if_neg (by omega)]
  have tL : takeL (cR b (0 + pgP (cR b 0))) (pgW (cR b 0) * pgH (cR b 0) * kdV (cR b 0)) = b.drop (pgP b).toNat := by
    have h1 : cR b (0 + pgP (cR b 0)) = b.drop (pgP b).toNat := by rw [cR_eq, eP, Int.zero_add]
    rw [h1]
    unfold takeL
    rw [List.length_drop, show ((b.length - (pgP b).toNat : Nat) : Int) = (b.length : Int) - (0 + pgP (cR b 0)) by omega, if_pos tk, List.take_of_length_le (by rw [List.length_drop]; omega)]
  have tM : List.take (takeL (cR b (0 + pgP (cR b 0))) (pgW (cR b 0) * pgH (cR b 0) * kdV (cR b 0))).length (List.drop 0 (takeL (cR b (0 + pgP (cR b 0))) (pgW (cR b 0) * pgH (cR b 0) * kdV (cR b 0)))) = b.drop (pgP b).toNat := by
    rw [tL, List.drop_zero, List.take_length]
  clear f1 f2 f3 f4 eW eH eC eM tL
  (repeat' (first | (refine xI (fun hfk => ?_) (fun hfk => ?_) <;> ((try (first | replace hfk := oT hfk | replace hfk := oF hfk | simp only [oA, oB, dh1, dh0, ne_eq, reduceCtorEq] at hfk)); (try exact oX))) | (refine And.intro ?ob ?_; (case ob => (exact oZ))) | exact True.intro | (show _ = _; first | exact oY | (skip; done) | exact rfl) | exact oW | (apply And.intro)))
  (refine ⟨[], ⟨by kernel_rfl⟩, ?_⟩)
  (repeat' (first | (refine xI (fun hfk => ?_) (fun hfk => ?_) <;> ((try (first | replace hfk := oT hfk | replace hfk := oF hfk | simp only [oA, oB, dh1, dh0, ne_eq, reduceCtorEq] at hfk)); (try exact oX))) | (refine And.intro ?ob ?_; (case ob => (exact oZ))) | exact True.intro | (show _ = _; first | exact oY | (skip; done) | exact rfl) | exact oW | (apply And.intro)))
  (refine ⟨[1, 2], ⟨by kernel_rfl⟩, ?_⟩)
  (repeat' (first | (refine xI (fun hfk => ?_) (fun hfk => ?_) <;> ((try (first | replace hfk := oT hfk | replace hfk := oF hfk | simp only [oA, oB, dh1, dh0, ne_eq, reduceCtorEq] at hfk)); (try exact oX))) | (refine And.intro ?ob ?_; (case ob => (exact oZ))) | exact True.intro | (show _ = _; first | exact oY | (skip; done) | exact rfl) | exact oW | (apply And.intro)))
  (refine ⟨[1, 2], ⟨by kernel_rfl⟩, ?_⟩)
  (repeat' (first | (refine xI (fun hfk => ?_) (fun hfk => ?_) <;> ((try (first | replace hfk := oT hfk | replace hfk := oF hfk | simp only [oA, oB, dh1, dh0, ne_eq, reduceCtorEq] at hfk)); (try exact oX))) | (refine And.intro ?ob ?_; (case ob => (exact oZ))) | exact True.intro | (show _ = _; first | exact oY | (first | exact tM | exact tk | rfl; done) | exact rfl) | exact oW | (apply And.intro)))
end Go.Proofs.YtljdahepmmgfeaaGreatDoor
namespace Go.Proofs.YtljdahepmmgfeaaGreatDoor
open Go Go.RowKit
set_option maxHeartbeats 4000000
theorem rn_all {r : List Int} {m : Int} (hm : m < 9223372036854775808) : (rnV r m).2.2 = numC r m ∧ (numC r m = 0 → (rnV r m).1 = numV (r.take (dgN r)) ∧ (rnV r m).2.1 = dgN r) := by
  have h := rn_numC (b := r) hm
  refine ⟨h, fun k => ?_⟩
  rw [k] at h
  rw [dgN_eq, numV_eq]
  unfold rnV at h ⊢
  split at h
  · cases h
  rename_i k1
  split at h
  · cases h
  rename_i k2
  split at h
  · cases h
  rename_i k3
  rw [if_neg k1, if_neg k2, if_neg k3]
  exact ⟨rfl, rfl⟩
theorem rn_nb {b : List Int} {a m : Int} (h0 : 0 ≤ a) (hm : m < 9223372036854775808) (hk : blC (b.drop a.toNat) = 0) :
    (rnV (b.drop (a + (bkG false (b.drop a.toNat) : Int)).toNat) m).2.2 = nbC (b.drop a.toNat) m ∧
    (nbC (b.drop a.toNat) m = 0 → (rnV (b.drop (a + (bkG false (b.drop a.toNat) : Int)).toNat) m).1 = nbV (b.drop a.toNat) m ∧ a + (bkG false (b.drop a.toNat) : Int) + (rnV (b.drop (a + (bkG false (b.drop a.toNat) : Int)).toNat) m).2.1 = a + (nbP (b.drop a.toNat) m : Int)) := by
  have e : b.drop (a + (bkG false (b.drop a.toNat) : Int)).toNat = (b.drop a.toNat).drop (bkG false (b.drop a.toNat)) := by
    rw [List.drop_drop, show (a + (bkG false (b.drop a.toNat) : Int)).toNat = a.toNat + bkG false (b.drop a.toNat) by omega]
  rw [e]
  obtain ⟨q1, q2⟩ := rn_all (r := (b.drop a.toNat).drop (bkG false (b.drop a.toNat))) hm
  have e2 : nbC (b.drop a.toNat) m = numC ((b.drop a.toNat).drop (bkG false (b.drop a.toNat))) m := if_neg (fun k => k hk)
  rw [e2]
  refine ⟨q1, fun k => ?_⟩
  obtain ⟨q3, q4⟩ := q2 k
  have e3 : nbV (b.drop a.toNat) m = numV (((b.drop a.toNat).drop (bkG false (b.drop a.toNat))).take (dgN ((b.drop a.toNat).drop (bkG false (b.drop a.toNat))))) := if_pos (by rw [e2]; exact k)
  have e4 : nbP (b.drop a.toNat) m = nbN (b.drop a.toNat) := if_pos (by rw [e2]; exact k)
  refine ⟨by rw [q3, e3], ?_⟩
  rw [q4, e4]; unfold nbN; omega
abbrev p1 (b : List Int) : List Int := b.drop 2
abbrev p2 (b : List Int) : List Int := (p1 b).drop (nbP (p1 b) 32768)
abbrev p3 (b : List Int) : List Int := (p1 b).drop (szP (p1 b))
def dhW (b : List Int) : Int := if kdC b = 0 then nbV (p1 b) 32768 else 0
def dhH (b : List Int) : Int := if kdC b = 0 ∧ nbC (p1 b) 32768 = 0 then nbV (p2 b) 32768 else 0
def dhC (b : List Int) : Int := if kdC b = 0 then kdV b else 0
def dhA (b : List Int) : Int := if kdC b = 0 ∧ szC (p1 b) = 0 ∧ nbC (p3 b) 255 = 0 ∧ nbV (p3 b) 255 = 255 then pgP b else 0
abbrev rheadS : PSpec := fun l => match l with
  | [.roi .u8 b] => some ([Byt b], .tup [.int .i64 (dhA b), .agg [.int .i64 (dhW b), .int .i64 (dhH b), .int .i64 (dhC b), .nils], .int .i64 (pgE b)])
  | _ => none
def atI (b : List Int) : Nat → Int
  | 0 => 2
  | 1 => 2 + (nbP (p1 b) 32768 : Int)
  | 2 => 2 + (szP (p1 b) : Int)
  | _ => 2 + (szP (p1 b) : Int) + (nbP (p3 b) 255 : Int)
def wI (b : List Int) : Nat → Int
  | 0 => 0
  | _ => nbV (p1 b) 32768
def hI (b : List Int) : Nat → Int
  | 0 => 0
  | 1 => 0
  | _ => nbV (p2 b) 32768
theorem pg_e0 {b : List Int} (k : kdC b = 0) (h : nbC (p1 b) 32768 ≠ 0) : pgE b = nbC (p1 b) 32768 ∧ 0 = dhW b ∧ 0 = dhH b ∧ 0 = dhA b := by
  have e : szC (p1 b) = nbC (p1 b) 32768 := if_pos h
  refine ⟨?_, ?_, ?_, ?_⟩
  · unfold pgE; rw [if_neg (fun q => q k), if_pos (by rw [e]; exact h), e]
  · unfold dhW; rw [if_pos k]; exact (if_neg h).symm
  · exact (if_neg (fun q => h q.2)).symm
  · exact (if_neg (fun q => h (by rw [← e]; exact q.2.1))).symm
theorem pg_e1 {b : List Int} (k : kdC b = 0) (h0 : nbC (p1 b) 32768 = 0) (h : nbC (p2 b) 32768 ≠ 0) : pgE b = nbC (p2 b) 32768 ∧ nbV (p1 b) 32768 = dhW b ∧ 0 = dhH b ∧ 0 = dhA b := by
  have e : szC (p1 b) = nbC (p2 b) 32768 := by unfold szC; rw [if_neg (fun q => q h0), if_pos h]
  refine ⟨?_, (if_pos k).symm, ?_, ?_⟩
  · unfold pgE; rw [if_neg (fun q => q k), if_pos (by rw [e]; exact h), e]
  · unfold dhH; rw [if_pos ⟨k, h0⟩]; exact (if_neg h).symm
  · exact (if_neg (fun q => h (by rw [← e]; exact q.2.1))).symm
theorem pg_wh {b : List Int} (k : kdC b = 0) (h0 : nbC (p1 b) 32768 = 0) : nbV (p1 b) 32768 = dhW b ∧ nbV (p2 b) 32768 = dhH b := ⟨(if_pos k).symm, (if_pos ⟨k, h0⟩).symm⟩
theorem pg_s1 {b : List Int} (k : kdC b = 0) (h0 : nbC (p1 b) 32768 = 0) (h1 : nbC (p2 b) 32768 = 0) (h : nbV (p1 b) 32768 < 1 ∨ nbV (p2 b) 32768 < 1) : pgE b = 12 ∧ 0 = dhA b := by
  have e : szC (p1 b) = 12 := by unfold szC; rw [if_neg (fun q => q h0), if_neg (fun q => q h1), if_pos h]
  refine ⟨?_, (if_neg (fun q => by rw [e] at q; exact absurd q.2.1 (by decide))).symm⟩
  unfold pgE; rw [if_neg (fun q => q k), if_pos (by rw [e]; decide), e]
theorem pg_s2 {b : List Int} (k : kdC b = 0) (h0 : nbC (p1 b) 32768 = 0) (h1 : nbC (p2 b) 32768 = 0) (h2 : ¬ (nbV (p1 b) 32768 < 1 ∨ nbV (p2 b) 32768 < 1)) (h : 4194304 < nbV (p1 b) 32768 * nbV (p2 b) 32768) : pgE b = 30 ∧ 0 = dhA b := by
  have e : szC (p1 b) = 30 := by unfold szC; rw [if_neg (fun q => q h0), if_neg (fun q => q h1), if_neg h2, if_pos h]
  refine ⟨?_, (if_neg (fun q => by rw [e] at q; exact absurd q.2.1 (by decide))).symm⟩
  unfold pgE; rw [if_neg (fun q => q k), if_pos (by rw [e]; decide), e]
theorem pg_s3 {b : List Int} (h0 : nbC (p1 b) 32768 = 0) (h1 : nbC (p2 b) 32768 = 0) (h2 : ¬ (nbV (p1 b) 32768 < 1 ∨ nbV (p2 b) 32768 < 1)) (h : ¬ 4194304 < nbV (p1 b) 32768 * nbV (p2 b) 32768) : szC (p1 b) = 0 ∧ szP (p1 b) = nbP (p1 b) 32768 + nbP (p2 b) 32768 :=
  ⟨by unfold szC; rw [if_neg (fun q => q h0), if_neg (fun q => q h1), if_neg h2, if_neg h], if_pos h0⟩
theorem pg_e3 {b : List Int} (k : kdC b = 0) (h0 : szC (p1 b) = 0) (h : nbC (p3 b) 255 ≠ 0) : pgE b = nbC (p3 b) 255 ∧ 0 = dhA b := by
  refine ⟨?_, (if_neg (fun q => h q.2.2.1)).symm⟩
  unfold pgE; rw [if_neg (fun q => q k), if_neg (fun q => q h0)]; exact if_pos h
theorem pg_e4 {b : List Int} (k : kdC b = 0) (h0 : szC (p1 b) = 0) (h1 : nbC (p3 b) 255 = 0) (h : nbV (p3 b) 255 ≠ 255) : pgE b = 21 ∧ 0 = dhA b := by
  refine ⟨?_, (if_neg (fun q => h q.2.2.2)).symm⟩
  unfold pgE; rw [if_neg (fun q => q k), if_neg (fun q => q h0)]
  unfold dpC; rw [if_neg (fun q => q h1), if_pos h]
theorem pg_end {b : List Int} (k : kdC b = 0) (h0 : szC (p1 b) = 0) (h1 : nbC (p3 b) 255 = 0) (h : nbV (p3 b) 255 = 255) :
    (oneV (b.drop (atI b 3).toNat)).2 = pgE b ∧ atI b 3 + (oneV (b.drop (atI b 3).toNat)).1 = dhA b := by
  have ed : b.drop (atI b 3).toNat = (p3 b).drop (nbP (p3 b) 255) := by
    show b.drop (2 + (szP (p1 b) : Int) + (nbP (p3 b) 255 : Int)).toNat = ((b.drop 2).drop (szP (p1 b))).drop (nbP (p3 b) 255)
    rw [List.drop_drop, List.drop_drop, show (2 + (szP (p1 b) : Int) + (nbP (p3 b) 255 : Int)).toNat = 2 + (szP (p1 b) + nbP (p3 b) 255) by omega]
  rw [ed]
  refine ⟨?_, ?_⟩
  · unfold pgE; rw [if_neg (fun q => q k), if_neg (fun q => q h0)]
    unfold dpC; rw [if_neg (fun q => q h1), if_neg (fun q => q h)]
  · unfold dhA; rw [if_pos ⟨k, h0, h1, h⟩]
    unfold pgP; rw [if_neg (fun q => q k), if_neg (fun q => q h0)]
    unfold dpP; rw [if_pos ⟨h1, h⟩]
    exact Int.add_assoc _ _ _
structure HdI (b : List Int) (i : Nat) : Prop where
  le : i ≤ 3
  c1 : 1 ≤ i → nbC (p1 b) 32768 = 0
  c2 : 2 ≤ i → szC (p1 b) = 0
  c3 : 3 ≤ i → nbC (p3 b) 255 = 0 ∧ nbV (p3 b) 255 = 255
theorem kd_cs (b : List Int) : (b.length = 0 ∧ kdC b = 20) ∨ (b.length = 1 ∧ b.getD 0 0 = 80 ∧ kdC b = 20) ∨ (1 ≤ b.length ∧ b.getD 0 0 ≠ 80 ∧ kdC b = 21) ∨ (2 ≤ b.length ∧ b.getD 0 0 = 80 ∧ b.getD 1 0 ≠ 53 ∧ b.getD 1 0 ≠ 54 ∧ kdC b = 21)
    ∨ (2 ≤ b.length ∧ b.getD 0 0 = 80 ∧ b.getD 1 0 = 53 ∧ kdC b = 0 ∧ kdV b = 1) ∨ (2 ≤ b.length ∧ b.getD 0 0 = 80 ∧ b.getD 1 0 = 54 ∧ kdC b = 0 ∧ kdV b = 3) := by
  match b with
  | [] => exact .inl ⟨rfl, rfl⟩
  | [x] =>
    by_cases hx : x = 80
    · exact .inr (.inl ⟨rfl, hx, by rw [hx]; rfl⟩)
    · refine .inr (.inr (.inl ⟨Nat.le_refl _, hx, ?_⟩))
      simp [kdC, wordC, hx]
  | x :: y :: r =>
    have hl : 2 ≤ (x :: y :: r).length := by simp
    by_cases hx : x = 80
    · by_cases h5 : y = 53
      · refine .inr (.inr (.inr (.inr (.inl ⟨hl, hx, h5, ?_, ?_⟩)))) <;> simp [kdC, kdV, wordC, hx, h5]
      · by_cases h6 : y = 54
        · refine .inr (.inr (.inr (.inr (.inr ⟨hl, hx, h6, ?_, ?_⟩)))) <;> simp [kdC, kdV, wordC, hx, h6]
        · refine .inr (.inr (.inr (.inl ⟨hl, hx, h5, h6, ?_⟩)))
          simp [kdC, wordC, hx, h5, h6]
    · refine .inr (.inr (.inl ⟨by omega, hx, ?_⟩))
      simp [kdC, wordC, hx]
noncomputable def rhCx : Ctx := mkK 0 [(98, rblkS), (99, numberS), (100, roneS)] noG []
theorem rhCx_ok : COK Tryz.prog rhCx := mkK_ok (pok_cons rblk_s (pok_cons number_s (pok_cons rone_s pok_nil))) noG_ok
theorem rh_bad {b : List Int} (hb : Byt b) (k : kdC b ≠ 0) : vcFn rhCx Tryz.f68 [.roi .u8 b] ⟨0, []⟩ (Ret (.tup [.int .i64 (dhA b), .agg [.int .i64 (dhW b), .int .i64 (dhH b), .int .i64 (dhC b), .nils], .int .i64 (pgE b)])) := by
  have bl := hb.le
  have e1 : dhA b = 0 := if_neg (fun q => k q.1)
  have e2 : dhW b = 0 := if_neg k
  have e3 : dhH b = 0 := if_neg (fun q => k q.1)
  have e4 : dhC b = 0 := if_neg k
  have e5 : pgE b = kdC b := if_pos k
  rw [e1, e2, e3, e4, e5]
  clear e1 e2 e3 e4 e5
  rcases kd_cs b with ⟨a1, a2⟩ | ⟨a1, a2, a3⟩ | ⟨a1, a2, a3⟩ | ⟨a1, a2, a3, a4, a5⟩ | ⟨_, _, _, a, _⟩ | ⟨_, _, _, a, _⟩
  · rw [a2]
    clear a2
    (repeat' (first | (refine xI (fun hfk => ?_) (fun hfk => ?_) <;> ((try (first | replace hfk := oT hfk | replace hfk := oF hfk | simp only [oA, oB, dh1, dh0, ne_eq, reduceCtorEq] at hfk)); (try exact oX))) | (refine And.intro ?ob ?_; (case ob => (exact oZ))) | exact True.intro | (show _ = _; first | exact oY | (rfl; done) | exact rfl) | exact oW | (apply And.intro)))
  · rw [a3]
    clear a3
    (repeat' (first | (refine xI (fun hfk => ?_) (fun hfk => ?_) <;> ((try (first | replace hfk := oT hfk | replace hfk := oF hfk | simp only [oA, oB, dh1, dh0, ne_eq, reduceCtorEq] at hfk)); (try exact oX))) | (refine And.intro ?ob ?_; (case ob => (exact oZ))) | exact True.intro | (show _ = _; first | exact oY | (rfl; done) | exact rfl) | exact oW | (apply And.intro)))
  · rw [a3]
    clear a3
    (repeat' (first | (refine xI (fun hfk => ?_) (fun hfk => ?_) <;> ((try (first | replace hfk := oT hfk | replace hfk := oF hfk | simp only [oA, oB, dh1, dh0, ne_eq, reduceCtorEq] at hfk)); (try exact oX))) | (refine And.intro ?ob ?_; (case ob => (exact oZ))) | exact True.intro | (show _ = _; first | exact oY | (rfl; done) | exact rfl) | exact oW | (apply And.intro)))
  · rw [a5]
    clear a5
    (repeat' (first | (refine xI (fun hfk => ?_) (fun hfk => ?_) <;> ((try (first | replace hfk := oT hfk | replace hfk := oF hfk | simp only [oA, oB, dh1, dh0, ne_eq, reduceCtorEq] at hfk)); (try exact oX))) | (refine And.intro ?ob ?_; (case ob => (exact oZ))) | exact True.intro | (show _ = _; first | exact oY | (rfl; done) | exact rfl) | exact oW | (apply And.intro)))
  · exact absurd a k
  · exact absurd a k
theorem wh_iv (b : List Int) : wI b 0 = 0 ∧ hI b 0 = 0 ∧ hI b 1 = 0 ∧ wI b 1 = nbV (p1 b) 32768 ∧ wI b 2 = nbV (p1 b) 32768 ∧ wI b 3 = nbV (p1 b) 32768 ∧ hI b 2 = nbV (p2 b) 32768 ∧ hI b 3 = nbV (p2 b) 32768 := ⟨rfl, rfl, rfl, rfl, rfl, rfl, rfl, rfl⟩
theorem at_iv (b : List Int) : atI b 0 = 2 ∧ atI b 1 = 2 + (nbP (p1 b) 32768 : Int) ∧ atI b 2 = 2 + (szP (p1 b) : Int) ∧ atI b 3 = 2 + (szP (p1 b) : Int) + (nbP (p3 b) 255 : Int) := ⟨rfl, rfl, rfl, rfl⟩
theorem at_dr (b : List Int) : b.drop (atI b 0).toNat = p1 b ∧ b.drop (atI b 1).toNat = p2 b ∧ b.drop (atI b 2).toNat = p3 b := by
  refine ⟨rfl, ?_, ?_⟩
  · show b.drop (2 + (nbP (p1 b) 32768 : Int)).toNat = (b.drop 2).drop (nbP (p1 b) 32768)
    rw [List.drop_drop, show (2 + (nbP (p1 b) 32768 : Int)).toNat = 2 + nbP (p1 b) 32768 by omega]
  · show b.drop (2 + (szP (p1 b) : Int)).toNat = (b.drop 2).drop (szP (p1 b))
    rw [List.drop_drop, show (2 + (szP (p1 b) : Int)).toNat = 2 + szP (p1 b) by omega]
theorem nb_bl {r : List Int} {m : Int} (k : blC r ≠ 0) : nbC r m = blC r := if_pos k
attribute [local irreducible] pgE dhA dhW dhH atI wI hI rnV nbC nbV nbP blC bkG szC szP numC kdV kdC oneV
theorem rh_good {b : List Int} (hb : Byt b) (k : kdC b = 0) : vcFn rhCx Tryz.f68 [.roi .u8 b] ⟨0, []⟩ (Ret (.tup [.int .i64 (dhA b), .agg [.int .i64 (dhW b), .int .i64 (dhH b), .int .i64 (dhC b), .nils], .int .i64 (pgE b)])) := by
  have bl := hb.le
  have e4 : dhC b = kdV b := if_pos k
  have hg : 2 ≤ b.length ∧ b.getD 0 0 = 80 ∧ ((b.getD 1 0 = 53 ∧ kdV b = 1) ∨ (b.getD 1 0 = 54 ∧ kdV b = 3)) := by
    rcases kd_cs b with ⟨a1, a2⟩ | ⟨a1, a2, a3⟩ | ⟨a1, a2, a3⟩ | ⟨a1, a2, a3, a4, a5⟩ | ⟨a1, a2, a3, a4, a5⟩ | ⟨a1, a2, a3, a4, a5⟩
    · rw [a2] at k; cases k
    · rw [a3] at k; cases k
    · rw [a3] at k; cases k
    · rw [a5] at k; cases k
    · exact ⟨a1, a2, .inl ⟨a3, a5⟩⟩
    · exact ⟨a1, a2, .inr ⟨a3, a5⟩⟩
  obtain ⟨gl, g0, g1⟩ := hg
  rw [e4]
  clear e4
  have hl1 : (p1 b).length = b.length - 2 := List.length_drop
  have n1 := nbP_le (p1 b) 32768
  have n2 := szP_le (p1 b)
  have hl3 : (p3 b).length = (p1 b).length - szP (p1 b) := List.length_drop
  have n3 := nbP_le (p3 b) 255
  obtain ⟨t0, t1, t2⟩ := at_dr b
  obtain ⟨u0, u1, u2, u3⟩ := at_iv b
  obtain ⟨x1, x2, x3, x4, x5, x6, x7, x8⟩ := wh_iv b
  have hdB : ∀ n : Nat, Byt (b.drop n) := fun n => ⟨by rw [List.length_drop]; omega, fun i => by rw [drop_getD]; exact hb.bd _⟩
  rcases g1 with ⟨g1, gv⟩ | ⟨g1, gv⟩
  all_goals (
    (repeat' (first | (refine xI (fun hfk => ?_) (fun hfk => ?_) <;> ((try (first | replace hfk := oT hfk | replace hfk := oF hfk | simp only [oA, oB, dh1, dh0, ne_eq, reduceCtorEq] at hfk)); (try exact oX))) | (refine And.intro ?ob ?_; (case ob => (exact oZ))) | exact True.intro | (show _ = _; first | exact oY | (rfl; done) | exact rfl) | exact oW | (apply And.intro)))
    refine ⟨Nat, fun i => [(0, .roi .u8 b), (2, .int .i64 0), (3, .ptr 0 0), (4, .int .i64 0), (5, .ptr 1 0), (6, .int .i64 (atI b i)), (7, .int .i64 (i : Int))],
      fun i => ⟨2, [(0, some (.cells 42 [.int .i64 0, .int .i64 0, .int .i64 0, .nils])), (1, some (.cells 42 [.int .i64 (wI b i), .int .i64 (hI b i), .int .i64 (kdV b), .nils]))]⟩,
      fun i => HdI b i, fun i => 3 - i, ⟨0, [some 0, some 1], ⟨by decide, fun q => by omega, fun q => by omega, fun q => by omega⟩, ?_⟩, fun i hi => ?_⟩
    · (repeat' (first | (refine And.intro ?_ ?_) | exact True.intro | (show _ = _; with_reducible rfl) | exact Chk.mk (by kernel_rfl)))
      all_goals first | rfl | exact gv.symm | exact u0.symm | exact x1.symm | exact x2.symm
    have hi : HdI b i := hi
    obtain ⟨hle, c1, c2, c3⟩ := hi
    clear g0 g1
    have hi4 : i = 0 ∨ i = 1 ∨ i = 2 ∨ i = 3 := by omega
    rcases hi4 with rfl | rfl | rfl | rfl
    · have ra : (atI b 0).toNat ≤ b.length := by omega
      have ra0 : 0 ≤ atI b 0 := by omega
      have hk := bkG_le false (List.drop (atI b 0).toNat (List.take b.length b))
      have hlS : (List.drop (atI b 0).toNat (List.take b.length b)).length = b.length - (atI b 0).toNat := by rw [List.length_drop, List.take_length]
      have tS : (List.drop (atI b 0).toNat (List.take b.length b)) = p1 b := by rw [List.take_length]; exact t0
      by_cases kb : blC (List.drop (atI b 0).toNat (List.take b.length b)) = 0
      rotate_left
      · have e : nbC (p1 b) 32768 = blC (List.drop (atI b 0).toNat (List.take b.length b)) := by rw [tS] at kb ⊢; exact nb_bl kb
        have en : nbC (p1 b) 32768 ≠ 0 := by rw [e]; exact kb
        obtain ⟨f1, f2, f3, f4⟩ := pg_e0 k en
        replace f2 := x1.trans f2
        replace f3 := x2.trans f3
        rw [e] at f1
        clear e en t0 t1 t2 tS n1 n2 n3 hl1 hl3 u0 u1 u2 u3 hdB gv gl x1 x2 x3 x4 x5 x6 x7 x8
        (repeat' (first | (refine xI (fun hfk => ?_) (fun hfk => ?_) <;> ((try (first | replace hfk := oT hfk | replace hfk := oF hfk | simp only [oA, oB, dh1, dh0, ne_eq, reduceCtorEq] at hfk)); (try exact oX))) | (refine And.intro ?ob ?_; (case ob => (exact oZ))) | exact True.intro | (show _ = _; first | exact oY | (first | exact f1.symm | exact f2 | exact f3 | exact f4 | rfl; done) | exact rfl) | exact oW | (apply And.intro)))
      have hD : Byt (List.drop (atI b 0 + (bkG false (List.drop (atI b 0).toNat (List.take b.length b)) : Int)).toNat (List.take b.length b)) := by rw [List.take_length]; exact hdB _
      have q12 := rn_nb (b := b) (a := atI b 0) (m := 32768) ra0 (by decide) (by rw [t0, ← tS]; exact kb)
      have qD : (List.drop (atI b 0 + (bkG false (List.drop (atI b 0).toNat (List.take b.length b)) : Int)).toNat (List.take b.length b)) = b.drop (atI b 0 + (bkG false (b.drop (atI b 0).toNat) : Int)).toNat := by rw [List.take_length]
      rw [← qD, t0] at q12
      obtain ⟨q1, q2⟩ := q12
      by_cases kn : nbC (p1 b) 32768 = 0
      rotate_left
      · have en : nbC (p1 b) 32768 ≠ 0 := kn
        obtain ⟨f1, f2, f3, f4⟩ := pg_e0 k en
        replace f2 := x1.trans f2
        replace f3 := x2.trans f3
        have f5 : (rnV (List.drop (atI b 0 + (bkG false (List.drop (atI b 0).toNat (List.take b.length b)) : Int)).toNat (List.take b.length b)) 32768).2.2 = pgE b := by rw [q1, f1]
        have f6 : ¬ (rnV (List.drop (atI b 0 + (bkG false (List.drop (atI b 0).toNat (List.take b.length b)) : Int)).toNat (List.take b.length b)) 32768).2.2 = 0 := by rw [q1]; exact kn
        clear en f1 q1 q2 qD t0 t1 t2 tS n1 n2 n3 hl1 hl3 u0 u1 u2 u3 hdB gv gl x1 x2 x3 x4 x5 x6 x7 x8
        (repeat' (first | (refine xI (fun hfk => ?_) (fun hfk => ?_) <;> ((try (first | replace hfk := oT hfk | replace hfk := oF hfk | simp only [oA, oB, dh1, dh0, ne_eq, reduceCtorEq] at hfk)); (try exact oX))) | (refine And.intro ?ob ?_; (case ob => (exact oZ))) | exact True.intro | (show _ = _; first | exact oY | (first | exact hD | exact f5 | exact f2 | exact f3 | exact f4 | rfl; done) | exact rfl) | exact oW | (apply And.intro)))
      obtain ⟨q3, q4⟩ := q2 kn
      rw [kn] at q1
      have q5 : atI b 0 + (bkG false (List.drop (atI b 0).toNat (List.take b.length b)) : Int) + (rnV (List.drop (atI b 0 + (bkG false (List.drop (atI b 0).toNat (List.take b.length b)) : Int)).toNat (List.take b.length b)) 32768).2.1 = atI b 1 := (congrArg (fun x : List Int => atI b 0 + (bkG false x : Int) + (rnV (List.drop (atI b 0 + (bkG false (List.drop (atI b 0).toNat (List.take b.length b)) : Int)).toNat (List.take b.length b)) 32768).2.1) tS).trans (q4.trans (by rw [u1, u0]))
      have q6 : (rnV (List.drop (atI b 0 + (bkG false (List.drop (atI b 0).toNat (List.take b.length b)) : Int)).toNat (List.take b.length b)) 32768).1 = wI b 1 := by rw [q3, x4]
      have y1 : hI b 0 = hI b 1 := by rw [x2, x3]
      have h1 : HdI b 1 := ⟨by decide, fun _ => kn, fun q => by omega, fun q => by omega⟩
      have rb : 0 ≤ atI b 1 ∧ atI b 1 ≤ 100002 := by omega
      clear q2 q3 q4 qD t0 t1 t2 tS kn n1 n2 n3 hl1 hl3 u0 u1 u2 u3 hdB gv gl x1 x2 x3 x4 x5 x6 x7 x8
      (repeat' (first | (refine xI (fun hfk => ?_) (fun hfk => ?_) <;> ((try (first | replace hfk := oT hfk | replace hfk := oF hfk | simp only [oA, oB, dh1, dh0, ne_eq, reduceCtorEq] at hfk)); (try exact oX))) | (refine And.intro ?ob ?_; (case ob => (exact oZ))) | exact True.intro | (show _ = _; first | exact oY | (first | exact hD | rfl; done) | exact rfl) | exact oW | (apply And.intro)))
      refine ⟨1, [some 0, some 1], h1, by decide, ?_⟩
      (repeat' (first | (refine And.intro ?_ ?_) | exact True.intro | (show _ = _; with_reducible rfl) | exact Chk.mk (by kernel_rfl)))
      all_goals first | rfl | exact q5 | exact q6 | exact y1 | (show (_ : Int) = _; omega)
    · have ra : (atI b 1).toNat ≤ b.length := by omega
      have ra0 : 0 ≤ atI b 1 := by omega
      have hk := bkG_le false (List.drop (atI b 1).toNat (List.take b.length b))
      have hlS : (List.drop (atI b 1).toNat (List.take b.length b)).length = b.length - (atI b 1).toNat := by rw [List.length_drop, List.take_length]
      have tS : (List.drop (atI b 1).toNat (List.take b.length b)) = p2 b := by rw [List.take_length]; exact t1
      by_cases kb : blC (List.drop (atI b 1).toNat (List.take b.length b)) = 0
      rotate_left
      · have e : nbC (p2 b) 32768 = blC (List.drop (atI b 1).toNat (List.take b.length b)) := by rw [tS] at kb ⊢; exact nb_bl kb
        have en : nbC (p2 b) 32768 ≠ 0 := by rw [e]; exact kb
        obtain ⟨f1, f2, f3, f4⟩ := pg_e1 k (c1 (by decide)) en
        replace f2 := x4.trans f2
        replace f3 := x3.trans f3
        rw [e] at f1
        clear e en t0 t1 t2 tS n1 n2 n3 hl1 hl3 u0 u1 u2 u3 hdB gv gl x1 x2 x3 x4 x5 x6 x7 x8
        (repeat' (first | (refine xI (fun hfk => ?_) (fun hfk => ?_) <;> ((try (first | replace hfk := oT hfk | replace hfk := oF hfk | simp only [oA, oB, dh1, dh0, ne_eq, reduceCtorEq] at hfk)); (try exact oX))) | (refine And.intro ?ob ?_; (case ob => (exact oZ))) | exact True.intro | (show _ = _; first | exact oY | (first | exact f1.symm | exact f2 | exact f3 | exact f4 | rfl; done) | exact rfl) | exact oW | (apply And.intro)))
      have hD : Byt (List.drop (atI b 1 + (bkG false (List.drop (atI b 1).toNat (List.take b.length b)) : Int)).toNat (List.take b.length b)) := by rw [List.take_length]; exact hdB _
      have q12 := rn_nb (b := b) (a := atI b 1) (m := 32768) ra0 (by decide) (by rw [t1, ← tS]; exact kb)
      have qD : (List.drop (atI b 1 + (bkG false (List.drop (atI b 1).toNat (List.take b.length b)) : Int)).toNat (List.take b.length b)) = b.drop (atI b 1 + (bkG false (b.drop (atI b 1).toNat) : Int)).toNat := by rw [List.take_length]
      rw [← qD, t1] at q12
      obtain ⟨q1, q2⟩ := q12
      by_cases kn : nbC (p2 b) 32768 = 0
      rotate_left
      · have en : nbC (p2 b) 32768 ≠ 0 := kn
        obtain ⟨f1, f2, f3, f4⟩ := pg_e1 k (c1 (by decide)) en
        replace f2 := x4.trans f2
        replace f3 := x3.trans f3
        have f5 : (rnV (List.drop (atI b 1 + (bkG false (List.drop (atI b 1).toNat (List.take b.length b)) : Int)).toNat (List.take b.length b)) 32768).2.2 = pgE b := by rw [q1, f1]
        have f6 : ¬ (rnV (List.drop (atI b 1 + (bkG false (List.drop (atI b 1).toNat (List.take b.length b)) : Int)).toNat (List.take b.length b)) 32768).2.2 = 0 := by rw [q1]; exact kn
        clear en f1 q1 q2 qD t0 t1 t2 tS n1 n2 n3 hl1 hl3 u0 u1 u2 u3 hdB gv gl x1 x2 x3 x4 x5 x6 x7 x8
        (repeat' (first | (refine xI (fun hfk => ?_) (fun hfk => ?_) <;> ((try (first | replace hfk := oT hfk | replace hfk := oF hfk | simp only [oA, oB, dh1, dh0, ne_eq, reduceCtorEq] at hfk)); (try exact oX))) | (refine And.intro ?ob ?_; (case ob => (exact oZ))) | exact True.intro | (show _ = _; first | exact oY | (first | exact hD | exact f5 | exact f2 | exact f3 | exact f4 | rfl; done) | exact rfl) | exact oW | (apply And.intro)))
      obtain ⟨q3, q4⟩ := q2 kn
      rw [kn] at q1
      have h0 := c1 (by decide)
      have q5 : atI b 1 + (bkG false (List.drop (atI b 1).toNat (List.take b.length b)) : Int) + (rnV (List.drop (atI b 1 + (bkG false (List.drop (atI b 1).toNat (List.take b.length b)) : Int)).toNat (List.take b.length b)) 32768).2.1 = atI b 1 + (nbP (p2 b) 32768 : Int) := (congrArg (fun x : List Int => atI b 1 + (bkG false x : Int) + (rnV (List.drop (atI b 1 + (bkG false (List.drop (atI b 1).toNat (List.take b.length b)) : Int)).toNat (List.take b.length b)) 32768).2.1) tS).trans (q4.trans (rfl))
      have q6 : (rnV (List.drop (atI b 1 + (bkG false (List.drop (atI b 1).toNat (List.take b.length b)) : Int)).toNat (List.take b.length b)) 32768).1 = nbV (p2 b) 32768 := q3
      have hl2 : (p2 b).length = (p1 b).length - nbP (p1 b) 32768 := List.length_drop
      have n4 := nbP_le (p2 b) 32768
      obtain ⟨w1, w2⟩ := pg_wh k h0
      have v1 := nbV_rng (p1 b) (m := 32768) (by decide)
      have v2 := nbV_rng (p2 b) (m := 32768) (by decide)
      have v3 : 0 ≤ nbV (p1 b) 32768 * nbV (p2 b) 32768 := Int.mul_nonneg v1.1 v2.1
      have v4 : nbV (p1 b) 32768 * nbV (p2 b) 32768 ≤ 32768 * 32768 := Int.le_trans (Int.mul_le_mul_of_nonneg_right v1.2 v2.1) (Int.mul_le_mul_of_nonneg_left v2.2 (by omega))
      have w5 : wI b 1 = nbV (p1 b) 32768 := x4
      have rm : rngI .i64 (wI b 1 * (rnV (List.drop (atI b 1 + (bkG false (List.drop (atI b 1).toNat (List.take b.length b)) : Int)).toNat (List.take b.length b)) 32768).1) := by rw [w5, q6]; exact rng64 (by omega) (by omega)
      have em : wI b 1 * (rnV (List.drop (atI b 1 + (bkG false (List.drop (atI b 1).toNat (List.take b.length b)) : Int)).toNat (List.take b.length b)) 32768).1 = nbV (p1 b) 32768 * nbV (p2 b) 32768 := by rw [w5, q6]
      have wD : wI b 1 = dhW b := x4.trans w1
      have hD2 : (rnV (List.drop (atI b 1 + (bkG false (List.drop (atI b 1).toNat (List.take b.length b)) : Int)).toNat (List.take b.length b)) 32768).1 = dhH b := q6.trans w2
      have rq : rngI .i64 (atI b 1 + (bkG false (List.drop (atI b 1).toNat (List.take b.length b)) : Int) + (rnV (List.drop (atI b 1 + (bkG false (List.drop (atI b 1).toNat (List.take b.length b)) : Int)).toNat (List.take b.length b)) 32768).2.1) := by rw [q5]; exact rng64 (by omega) (by omega)
      by_cases z1 : nbV (p1 b) 32768 < 1 ∨ nbV (p2 b) 32768 < 1
      · obtain ⟨f1, f2⟩ := pg_s1 k h0 kn z1
        clear q2 q3 q4 qD t0 t1 t2 tS kn w1 w2 v3 v4 rm em n1 n2 n3 n4 hl1 hl2 hl3 u0 u1 u2 u3 hdB gv gl x1 x2 x3 x4 x5 x6 x7 x8
        (repeat' (first | (refine xI (fun hfk => ?_) (fun hfk => ?_) <;> ((try (first | replace hfk := oT hfk | replace hfk := oF hfk | simp only [oA, oB, dh1, dh0, ne_eq, reduceCtorEq] at hfk)); (try exact oX))) | (refine And.intro ?ob ?_; (case ob => (exact oZ))) | exact True.intro | (show _ = _; first | exact oY | (first | exact hD | exact f1.symm | exact f2 | exact wD | exact hD2 | exact rq | rfl; done) | exact rfl) | exact oW | (apply And.intro)))
      by_cases z2 : 4194304 < nbV (p1 b) 32768 * nbV (p2 b) 32768
      · obtain ⟨f1, f2⟩ := pg_s2 k h0 kn z1 z2
        clear q2 q3 q4 qD t0 t1 t2 tS kn w1 w2 n1 n2 n3 n4 hl1 hl2 hl3 u0 u1 u2 u3 hdB gv gl x1 x2 x3 x4 x5 x6 x7 x8
        (repeat' (first | (refine xI (fun hfk => ?_) (fun hfk => ?_) <;> ((try (first | replace hfk := oT hfk | replace hfk := oF hfk | simp only [oA, oB, dh1, dh0, ne_eq, reduceCtorEq] at hfk)); (try exact oX))) | (refine And.intro ?ob ?_; (case ob => (exact oZ))) | exact True.intro | (show _ = _; first | exact oY | (first | exact hD | exact f1.symm | exact f2 | exact wD | exact hD2 | exact rq | exact rm | rfl; done) | exact rfl) | exact oW | (apply And.intro)))
      obtain ⟨s1, s2⟩ := pg_s3 h0 kn z1 z2
      have h1 : HdI b 2 := ⟨by decide, fun _ => h0, fun q => s1, fun q => by omega⟩
      have q7 : atI b 1 + (bkG false (List.drop (atI b 1).toNat (List.take b.length b)) : Int) + (rnV (List.drop (atI b 1 + (bkG false (List.drop (atI b 1).toNat (List.take b.length b)) : Int)).toNat (List.take b.length b)) 32768).2.1 = atI b 2 := by rw [q5, u1, u2, s2]; omega
      have q8 : (rnV (List.drop (atI b 1 + (bkG false (List.drop (atI b 1).toNat (List.take b.length b)) : Int)).toNat (List.take b.length b)) 32768).1 = hI b 2 := q6.trans x7.symm
      have y1 : wI b 1 = wI b 2 := by rw [x4, x5]
      have rb : 0 ≤ atI b 2 ∧ atI b 2 ≤ 100002 := by omega
      clear q2 q3 q4 qD t0 t1 t2 tS kn w1 w2 n1 n2 n3 n4 hl1 hl2 hl3 u0 u1 u2 u3 hdB gv gl x1 x2 x3 x4 x5 x6 x7 x8
      (repeat' (first | (refine xI (fun hfk => ?_) (fun hfk => ?_) <;> ((try (first | replace hfk := oT hfk | replace hfk := oF hfk | simp only [oA, oB, dh1, dh0, ne_eq, reduceCtorEq] at hfk)); (try exact oX))) | (refine And.intro ?ob ?_; (case ob => (exact oZ))) | exact True.intro | (show _ = _; first | exact oY | (first | exact hD | exact rm | exact rq | rfl; done) | exact rfl) | exact oW | (apply And.intro)))
      refine ⟨2, [some 0, some 1], h1, by decide, ?_⟩
      (repeat' (first | (refine And.intro ?_ ?_) | exact True.intro | (show _ = _; with_reducible rfl) | exact Chk.mk (by kernel_rfl)))
      all_goals first | rfl | exact q7 | exact q8 | exact y1 | (show (_ : Int) = _; omega)
    · have h0 := c2 (by decide)
      obtain ⟨w1, w2⟩ := pg_wh k (c1 (by decide))
      have f3 : wI b 2 = dhW b := x5.trans w1
      have f4 : hI b 2 = dhH b := x7.trans w2
      have ra : (atI b 2).toNat ≤ b.length := by omega
      have ra0 : 0 ≤ atI b 2 := by omega
      have hk := bkG_le false (List.drop (atI b 2).toNat (List.take b.length b))
      have hlS : (List.drop (atI b 2).toNat (List.take b.length b)).length = b.length - (atI b 2).toNat := by rw [List.length_drop, List.take_length]
      have tS : (List.drop (atI b 2).toNat (List.take b.length b)) = p3 b := by rw [List.take_length]; exact t2
      by_cases kb : blC (List.drop (atI b 2).toNat (List.take b.length b)) = 0
      rotate_left
      · have e : nbC (p3 b) 255 = blC (List.drop (atI b 2).toNat (List.take b.length b)) := by rw [tS] at kb ⊢; exact nb_bl kb
        have en : nbC (p3 b) 255 ≠ 0 := by rw [e]; exact kb
        obtain ⟨f1, f2⟩ := pg_e3 k h0 en
        rw [e] at f1
        clear e en t0 t1 t2 tS n1 n2 n3 hl1 hl3 u0 u1 u2 u3 hdB gv gl x1 x2 x3 x4 x5 x6 x7 x8
        (repeat' (first | (refine xI (fun hfk => ?_) (fun hfk => ?_) <;> ((try (first | replace hfk := oT hfk | replace hfk := oF hfk | simp only [oA, oB, dh1, dh0, ne_eq, reduceCtorEq] at hfk)); (try exact oX))) | (refine And.intro ?ob ?_; (case ob => (exact oZ))) | exact True.intro | (show _ = _; first | exact oY | (first | exact f1.symm | exact f2 | exact f3 | exact f4 | rfl; done) | exact rfl) | exact oW | (apply And.intro)))
      have hD : Byt (List.drop (atI b 2 + (bkG false (List.drop (atI b 2).toNat (List.take b.length b)) : Int)).toNat (List.take b.length b)) := by rw [List.take_length]; exact hdB _
      have q12 := rn_nb (b := b) (a := atI b 2) (m := 255) ra0 (by decide) (by rw [t2, ← tS]; exact kb)
      have qD : (List.drop (atI b 2 + (bkG false (List.drop (atI b 2).toNat (List.take b.length b)) : Int)).toNat (List.take b.length b)) = b.drop (atI b 2 + (bkG false (b.drop (atI b 2).toNat) : Int)).toNat := by rw [List.take_length]
      rw [← qD, t2] at q12
      obtain ⟨q1, q2⟩ := q12
      by_cases kn : nbC (p3 b) 255 = 0
      rotate_left
      · have en : nbC (p3 b) 255 ≠ 0 := kn
        obtain ⟨f1, f2⟩ := pg_e3 k h0 en
        have f5 : (rnV (List.drop (atI b 2 + (bkG false (List.drop (atI b 2).toNat (List.take b.length b)) : Int)).toNat (List.take b.length b)) 255).2.2 = pgE b := by rw [q1, f1]
        have f6 : ¬ (rnV (List.drop (atI b 2 + (bkG false (List.drop (atI b 2).toNat (List.take b.length b)) : Int)).toNat (List.take b.length b)) 255).2.2 = 0 := by rw [q1]; exact kn
        clear en f1 q1 q2 qD t0 t1 t2 tS n1 n2 n3 hl1 hl3 u0 u1 u2 u3 hdB gv gl x1 x2 x3 x4 x5 x6 x7 x8
        (repeat' (first | (refine xI (fun hfk => ?_) (fun hfk => ?_) <;> ((try (first | replace hfk := oT hfk | replace hfk := oF hfk | simp only [oA, oB, dh1, dh0, ne_eq, reduceCtorEq] at hfk)); (try exact oX))) | (refine And.intro ?ob ?_; (case ob => (exact oZ))) | exact True.intro | (show _ = _; first | exact oY | (first | exact hD | exact f5 | exact f2 | exact f3 | exact f4 | rfl; done) | exact rfl) | exact oW | (apply And.intro)))
      obtain ⟨q3, q4⟩ := q2 kn
      rw [kn] at q1
      have q5 : atI b 2 + (bkG false (List.drop (atI b 2).toNat (List.take b.length b)) : Int) + (rnV (List.drop (atI b 2 + (bkG false (List.drop (atI b 2).toNat (List.take b.length b)) : Int)).toNat (List.take b.length b)) 255).2.1 = atI b 3 := (congrArg (fun x : List Int => atI b 2 + (bkG false x : Int) + (rnV (List.drop (atI b 2 + (bkG false (List.drop (atI b 2).toNat (List.take b.length b)) : Int)).toNat (List.take b.length b)) 255).2.1) tS).trans (q4.trans (by rw [u3, u2]))
      have q6 : (rnV (List.drop (atI b 2 + (bkG false (List.drop (atI b 2).toNat (List.take b.length b)) : Int)).toNat (List.take b.length b)) 255).1 = nbV (p3 b) 255 := q3
      have rb : 0 ≤ atI b 3 ∧ atI b 3 ≤ 100002 := by omega
      have y1 : wI b 2 = wI b 3 := by rw [x5, x6]
      have y2 : hI b 2 = hI b 3 := by rw [x7, x8]
      by_cases z1 : nbV (p3 b) 255 = 255
      · have h1 : HdI b 3 := ⟨by decide, fun _ => c1 (by decide), fun _ => h0, fun q => ⟨kn, z1⟩⟩
        clear q2 q3 q4 qD t0 t1 t2 tS kn n1 n2 n3 hl1 hl3 u0 u1 u2 u3 hdB gv gl x1 x2 x3 x4 x5 x6 x7 x8
        (repeat' (first | (refine xI (fun hfk => ?_) (fun hfk => ?_) <;> ((try (first | replace hfk := oT hfk | replace hfk := oF hfk | simp only [oA, oB, dh1, dh0, ne_eq, reduceCtorEq] at hfk)); (try exact oX))) | (refine And.intro ?ob ?_; (case ob => (exact oZ))) | exact True.intro | (show _ = _; first | exact oY | (first | exact hD | rfl; done) | exact rfl) | exact oW | (apply And.intro)))
        refine ⟨3, [some 0, some 1], h1, by decide, ?_⟩
        (repeat' (first | (refine And.intro ?_ ?_) | exact True.intro | (show _ = _; with_reducible rfl) | exact Chk.mk (by kernel_rfl)))
        all_goals first | rfl | exact q5 | exact y1 | exact y2 | (show (_ : Int) = _; omega)
      · obtain ⟨f1, f2⟩ := pg_e4 k h0 kn z1
        clear q2 q3 q4 qD t0 t1 t2 tS kn n1 n2 n3 hl1 hl3 u0 u1 u2 u3 hdB gv gl x1 x2 x3 x4 x5 x6 x7 x8
        (repeat' (first | (refine xI (fun hfk => ?_) (fun hfk => ?_) <;> ((try (first | replace hfk := oT hfk | replace hfk := oF hfk | simp only [oA, oB, dh1, dh0, ne_eq, reduceCtorEq] at hfk)); (try exact oX))) | (refine And.intro ?ob ?_; (case ob => (exact oZ))) | exact True.intro | (show _ = _; first | exact oY | (first | exact hD | exact f1.symm | exact f2 | exact f3 | exact f4 | rfl; done) | exact rfl) | exact oW | (apply And.intro)))
    · obtain ⟨d1, d2⟩ := c3 (by decide)
      have d3 := c2 (by decide)
      obtain ⟨w1, w2⟩ := pg_wh k (c1 (by decide))
      obtain ⟨w3, w4⟩ := pg_end k d3 d1 d2
      have w5 : wI b 3 = dhW b := x6.trans w1
      have w6 : hI b 3 = dhH b := x8.trans w2
      have ob := oneV_bd (b.drop (atI b 3).toNat)
      rw [List.length_drop] at ob
      have hbt : List.take b.length b = b := List.take_length
      have w3' : (oneV (List.drop (atI b 3).toNat (List.take b.length b))).2 = pgE b := by rw [hbt]; exact w3
      have w4' : atI b 3 + (oneV (List.drop (atI b 3).toNat (List.take b.length b))).1 = dhA b := by rw [hbt]; exact w4
      have rr : rngI .i64 (atI b 3 + (oneV (List.drop (atI b 3).toNat (List.take b.length b))).1) := by rw [hbt]; exact rng64 (by omega) (by omega)
      clear c1 c2 c3 t0 t1 t2 u0 u1 u2 w1 w2 w3 w4 hbt
      (repeat' (first | (refine xI (fun hfk => ?_) (fun hfk => ?_) <;> ((try (first | replace hfk := oT hfk | replace hfk := oF hfk | simp only [oA, oB, dh1, dh0, ne_eq, reduceCtorEq] at hfk)); (try exact oX))) | (refine And.intro ?ob ?_; (case ob => (exact oZ))) | exact True.intro | (show _ = _; first | exact oY | (first | exact w3' | exact w4' | exact w5 | exact w6 | exact rr | rfl; done) | exact rfl) | exact oW | (apply And.intro))))
theorem rhead_s : SOK Tryz.prog 68 rheadS := by
  refine sok_of (C := rhCx) rhCx_ok rfl mixed ⟨Tryz.func68, by kernel_rfl, by kernel_rfl, by kernel_rfl⟩ fun l obs v h ho => ?_
  (unfold rheadS at h; split at h; rotate_left; (focus (cases h)); rename_i b; simp only [Option.some.injEq, Prod.mk.injEq] at h; obtain ⟨rfl, rfl⟩ := h; simp only [List.mem_cons, List.not_mem_nil, or_false, forall_eq_or_imp, forall_eq, false_implies, implies_true] at ho)
  refine ⟨Nat.le_of_ble_eq_true rfl, ?_⟩
  by_cases k : kdC b = 0
  · exact rh_good ho k
  · exact rh_bad ho k
end Go.Proofs.YtljdahepmmgfeaaGreatDoor
namespace Go.Proofs.YtljdahepmmgfeaaGreatDoor
open Go Go.RowKit
set_option maxHeartbeats 4000000
abbrev madeRS : PSpec := fun l => match l with | [.int .i64 w, .int .i64 h, .int .i64 c, .roi .u8 p] => some ([], imA w h c p) | _ => none
theorem madeR_s : SOK Tryz.prog 69 madeRS := by
  refine sok_of (C := mkC 0 [] noG) (mkC_ok pok_nil noG_ok) rfl mixed ⟨Tryz.func69, by kernel_rfl, by kernel_rfl, by kernel_rfl⟩ fun l obs v h ho => ?_
  (unfold madeRS at h; split at h; rotate_left; (focus (cases h)); rename_i w hh c p; simp only [Option.some.injEq, Prod.mk.injEq] at h; obtain ⟨rfl, rfl⟩ := h; simp only [List.mem_cons, List.not_mem_nil, or_false, forall_eq_or_imp, forall_eq, false_implies, implies_true] at ho)
  refine ⟨Nat.le_of_ble_eq_true rfl, ?_⟩
  (repeat' (first | (refine xI (fun hfk => ?_) (fun hfk => ?_) <;> ((try (first | replace hfk := oT hfk | replace hfk := oF hfk | simp only [oA, oB, dh1, dh0, ne_eq, reduceCtorEq] at hfk)); (try exact oX))) | (refine And.intro ?ob ?_; (case ob => (exact oZ))) | exact True.intro | (show _ = _; first | exact oY | (rfl; done) | exact rfl) | exact oW | (apply And.intro)))
theorem pg_good {b : List Int} (h : pgE b = 0) : pgW b = dhW b ∧ pgH b = dhH b ∧ kdV b = dhC b ∧ dhA b = pgP b := by
  obtain ⟨k1, k2, k3⟩ := pgE0 h
  have e1 : szC (p1 b) = 0 := k2
  have n0 : nbC (p1 b) 32768 = 0 := by
    by_cases z : nbC (p1 b) 32768 = 0
    · exact z
    · unfold szC at e1; rw [if_pos z] at e1; exact absurd e1 z
  have n1 : nbC (p3 b) 255 = 0 := by
    by_cases z : nbC (p3 b) 255 = 0
    · exact z
    · unfold dpC at k3; rw [if_pos (show nbC ((b.drop 2).drop (szP (b.drop 2))) 255 ≠ 0 from z)] at k3; exact absurd k3 z
  have n2 : nbV (p3 b) 255 = 255 := by
    by_cases z : nbV (p3 b) 255 = 255
    · exact z
    · unfold dpC at k3
      rw [if_neg (show ¬ nbC ((b.drop 2).drop (szP (b.drop 2))) 255 ≠ 0 from fun q => q n1), if_pos (show nbV ((b.drop 2).drop (szP (b.drop 2))) 255 ≠ 255 from z)] at k3
      cases k3
  obtain ⟨w1, w2⟩ := pg_wh k1 n0
  have e2 : pgW b = nbV (p1 b) 32768 := (if_pos k1).trans (if_pos e1)
  have e3 : pgH b = nbV (p2 b) 32768 := (if_pos k1).trans (if_pos e1)
  exact ⟨e2.trans w1, e3.trans w2, (if_pos k1).symm, if_pos ⟨k1, e1, n1, n2⟩⟩
attribute [local irreducible] pgE dhA dhW dhH dhC kdV kdC pgW pgH pgP
theorem rread15_s : SOK Tryz.prog 42 pnmS := by
  refine sok_of (C := mkC 0 [(68, rheadS), (69, madeRS)] noG) (mkC_ok (pok_cons rhead_s (pok_cons madeR_s pok_nil)) noG_ok) rfl mixed ⟨Tryz.func42, by kernel_rfl, by kernel_rfl, by kernel_rfl⟩ fun l obs v h ho => ?_
  (unfold pnmS at h; split at h; rotate_left; (focus (cases h)); rename_i b; simp only [Option.some.injEq, Prod.mk.injEq] at h; obtain ⟨rfl, rfl⟩ := h; simp only [List.mem_cons, List.not_mem_nil, or_false, forall_eq_or_imp, forall_eq, false_implies, implies_true] at ho)
  refine ⟨Nat.le_of_ble_eq_true rfl, ?_⟩
  have bl := ho.le
  by_cases k1 : pgE b = 0
  rotate_left
  · have e : pnE b = pgE b := if_pos k1
    obtain ⟨z1, z2⟩ := pn_bad (b := b) (by rw [e]; exact k1)
    rw [z1, z1, z1, z2, e]
    clear e z1 z2
    (repeat' (first | (refine xI (fun hfk => ?_) (fun hfk => ?_) <;> ((try (first | replace hfk := oT hfk | replace hfk := oF hfk | simp only [oA, oB, dh1, dh0, ne_eq, reduceCtorEq] at hfk)); (try exact oX))) | (refine And.intro ?ob ?_; (case ob => (exact oZ))) | exact True.intro | (show _ = _; first | exact oY | (first | exact ho | rfl; done) | exact rfl) | exact oW | (apply And.intro)))
  obtain ⟨a1, a2, a3, a4, a5, a6, a7, a8⟩ := pn_sz k1
  obtain ⟨g1, g2, g3, g4⟩ := pg_good k1
  have eN : dhW b * dhH b * dhC b = pnN b := by rw [← g1, ← g2, ← g3]; rfl
  have hp := pgP_bd b
  rw [g1, g2] at a6
  have r1 : rngI .i64 (dhW b * dhH b) := rng64 (by omega) (by rw [← g1, ← g2]; omega)
  have r2 : rngI .i64 (dhW b * dhH b * dhC b) := by rw [eN]; exact rng64 (by omega) (by omega)
  by_cases k2 : (b.length : Int) - pgP b < pnN b
  · have e : pnE b = 20 := by unfold pnE; rw [if_neg (fun k => k k1), if_pos k2]
    obtain ⟨z1, z2⟩ := pn_bad (b := b) (by rw [e]; decide)
    rw [z1, z1, z1, z2, e]
    clear e z1 z2 g1 g2 g3
    (repeat' (first | (refine xI (fun hfk => ?_) (fun hfk => ?_) <;> ((try (first | replace hfk := oT hfk | replace hfk := oF hfk | simp only [oA, oB, dh1, dh0, ne_eq, reduceCtorEq] at hfk)); (try exact oX))) | (refine And.intro ?ob ?_; (case ob => (exact oZ))) | exact True.intro | (show _ = _; first | exact oY | (first | exact ho | exact r1 | exact r2 | rfl; done) | exact rfl) | exact oW | (apply And.intro)))
  by_cases k3 : pnN b < (b.length : Int) - pgP b
  · have e : pnE b = 22 := by unfold pnE; rw [if_neg (fun k => k k1), if_neg k2, if_pos k3]
    obtain ⟨z1, z2⟩ := pn_bad (b := b) (by rw [e]; decide)
    rw [z1, z1, z1, z2, e]
    clear e z1 z2 g1 g2 g3
    (repeat' (first | (refine xI (fun hfk => ?_) (fun hfk => ?_) <;> ((try (first | replace hfk := oT hfk | replace hfk := oF hfk | simp only [oA, oB, dh1, dh0, ne_eq, reduceCtorEq] at hfk)); (try exact oX))) | (refine And.intro ?ob ?_; (case ob => (exact oZ))) | exact True.intro | (show _ = _; first | exact oY | (first | exact ho | exact r1 | exact r2 | rfl; done) | exact rfl) | exact oW | (apply And.intro)))
  have e : pnE b = 0 := by unfold pnE; rw [if_neg (fun k => k k1), if_neg k2, if_neg k3]
  have f1 : pnK b (pgW b) = dhW b := (if_pos e).trans g1
  have f2 : pnK b (pgH b) = dhH b := (if_pos e).trans g2
  have f3 : pnK b (kdV b) = dhC b := (if_pos e).trans g3
  have f4 : pnL b = b.drop (pgP b).toNat := if_pos e
  have f5 : List.drop (dhA b).toNat (List.take b.length b) = b.drop (pgP b).toNat := by rw [List.take_length, g4]
  rw [f1, f2, f3, f4, e]
  clear e f1 f2 f3 f4 g1 g2 g3
  (repeat' (first | (refine xI (fun hfk => ?_) (fun hfk => ?_) <;> ((try (first | replace hfk := oT hfk | replace hfk := oF hfk | simp only [oA, oB, dh1, dh0, ne_eq, reduceCtorEq] at hfk)); (try exact oX))) | (refine And.intro ?ob ?_; (case ob => (exact oZ))) | exact True.intro | (show _ = _; first | exact oY | (first | exact ho | exact r1 | exact r2 | exact f5 | rfl; done) | exact rfl) | exact oW | (apply And.intro)))
end Go.Proofs.YtljdahepmmgfeaaGreatDoor

