/- Texts laid together. No condition. -/
import Derived.Test.YtocboijpmmlegaaDoorS1
set_option maxRecDepth 100000
set_option linter.unusedVariables false
set_option linter.unusedSimpArgs false
namespace Go.Proofs.YtocboijpmmlegaaDoor
open Go Go.RowKit
set_option maxHeartbeats 4000000
theorem cR_eq {b : List Int} {a : Int} : cR b a = b.drop a.toNat := List.take_of_length_le (by rw [List.length_drop]; exact Nat.le_refl _)
theorem cR_add {b : List Int} {a : Int} {n : Nat} (h0 : 0 ≤ a) : cR b (a + (n : Int)) = (cR b a).drop n := by
  rw [cR_eq, cR_eq, List.drop_drop, show (a + (n : Int)).toNat = a.toNat + n by omega]
def nbC (r : List Int) (m : Int) : Int := if blC r ≠ 0 then blC r else numC (r.drop (bkG false r)) m
def nbN (r : List Int) : Nat := bkG false r + dgN (r.drop (bkG false r))
def nbV (r : List Int) (m : Int) : Int := if nbC r m = 0 then numV ((r.drop (bkG false r)).take (dgN (r.drop (bkG false r)))) else 0
def nbP (r : List Int) (m : Int) : Nat := if nbC r m = 0 then nbN r else bkG false r
theorem nbP_le (r : List Int) (m : Int) : nbP r m ≤ r.length := by
  have h1 := bkG_le false r
  have h2 := dgN_le (r.drop (bkG false r))
  rw [List.length_drop] at h2
  unfold nbP nbN
  split <;> omega
theorem blC0 {r : List Int} (h : blC r ≠ 0) : bkG false r = 0 := by
  unfold blC at h
  split at h
  · rename_i k; rw [List.length_eq_zero_iff.1 k]; rfl
  · split at h
    · assumption
    · exact absurd rfl h
theorem numC_rng {r : List Int} {m : Int} (h : numC r m = 0) : 0 ≤ numV (r.take (dgN r)) ∧ numV (r.take (dgN r)) ≤ m := by
  have hb := (numV_bd (l := r) (dgN r) (Nat.le_refl _)).1
  unfold numC at h
  split at h
  · cases h
  split at h
  · cases h
  split at h
  · cases h
  split at h
  · cases h
  omega
theorem nbV_rng (r : List Int) {m : Int} (hm : 0 ≤ m) : 0 ≤ nbV r m ∧ nbV r m ≤ m := by
  unfold nbV
  split
  · rename_i h
    unfold nbC at h
    split at h
    · rename_i k; exact absurd h k
    · exact numC_rng h
  · omega
def pnumF : FSpec := fun l es => match l, es with
  | [.ptr 0 0, .int .i64 m], [.cells 69 [.sl 1 1 0 n, .int .i64 a], .ints 5 .u8 b] =>
    some ([n = b.length, 0 ≤ a, a ≤ b.length, b.length ≤ 140737488355328, 0 ≤ m ∧ m ≤ 4294967296], .tup [.int .i64 (nbV (cR b a) m), .int .i64 (nbC (cR b a) m)], [some (cutE n (a + (nbP (cR b a) m : Int))), some (bE b)])
  | _, _ => none
theorem pnum_g : GSOK Tryd.prog 75 (fG pnumF) := by
  refine fok (S := []) (G := glook [(89, fG blkF), (90, fG numF)]) pok_nil (gl_cons blk_g (gl_cons num_g gl_nil)) ⟨Tryd.func75, by kernel_rfl, by kernel_rfl, by kernel_rfl⟩ fun l es obs v es' h ho => ?_
  (unfold pnumF at h; split at h; rotate_left; (focus (cases h)); rename_i m n a b; simp only [Option.some.injEq, Prod.mk.injEq] at h; obtain ⟨rfl, rfl, rfl⟩ := h; simp only [List.mem_cons, List.not_mem_nil, or_false, forall_eq_or_imp, forall_eq, false_implies, implies_true] at ho)
  obtain ⟨rfl, ho1, ho2, ho3, ho4⟩ := ho
  refine ⟨Nat.le_of_ble_eq_true rfl, ?_⟩
  have el : (cR b a).length = b.length - a.toNat := by simp
  have hk := bkG_le false (cR b a)
  by_cases k1 : blC (cR b a) = 0
  · have e : nbC (cR b a) m = numC ((cR b a).drop (bkG false (cR b a))) m := if_neg (fun k => k k1)
    have ec := cR_add (b := b) (a := a) (n := bkG false (cR b a)) ho1
    have e1 : nbV (cR b a) m = if numC (cR b (a + (bkG false (cR b a) : Int))) m = 0 then numV ((cR b (a + (bkG false (cR b a) : Int))).take (dgN (cR b (a + (bkG false (cR b a) : Int))))) else 0 := by rw [ec]; unfold nbV; rw [e]
    have e2 : a + (nbP (cR b a) m : Int) = a + (bkG false (cR b a) : Int) + if numC (cR b (a + (bkG false (cR b a) : Int))) m = 0 then (dgN (cR b (a + (bkG false (cR b a) : Int))) : Int) else 0 := by
      rw [ec]; unfold nbP nbN; rw [e]
      by_cases z : numC ((cR b a).drop (bkG false (cR b a))) m = 0
      · rw [if_pos z, if_pos z]; omega
      · rw [if_neg z, if_neg z]; omega
    have e3 : nbC (cR b a) m = numC (cR b (a + (bkG false (cR b a) : Int))) m := by rw [e, ec]
    rw [e1, e2, e3]
    clear e1 e2 e3 e ec
    (repeat' (first | (refine xI (fun hfk => ?_) (fun hfk => ?_) <;> ((try (first | replace hfk := oT hfk | replace hfk := oF hfk | simp only [oA, oB, dh1, dh0, ne_eq, reduceCtorEq] at hfk)); (try (exfalso; first | omega | contradiction | exact xF hfk (by with_reducible assumption) | exact xT hfk (by with_reducible assumption))))) | (refine And.intro ?ob ?_; (case ob => (first | exact Chk.mk (by kernel_rfl) | exact True.intro | with_reducible assumption | exact rng64 (by omega) (by omega) | omega | (dsimp only; omega) | (show (_ : Nat) ≤ _; omega) | (simp only [ll1, ll2, ll0]; first | done | omega) | (dsimp only; simp only [ll1, ll2, ll0]; omega)))) | exact True.intro | (show _ = _; first | with_reducible rfl | with_reducible assumption | omega | (simp only [ll1, ll2, ll0]; omega) | (skip; done) | exact rfl) | with_reducible assumption | (apply And.intro) | omega | (intro j hj; exact rfl)))
    (refine ⟨[0, 1], ⟨by kernel_rfl⟩, ?_⟩)
    (repeat' (first | (refine xI (fun hfk => ?_) (fun hfk => ?_) <;> ((try (first | replace hfk := oT hfk | replace hfk := oF hfk | simp only [oA, oB, dh1, dh0, ne_eq, reduceCtorEq] at hfk)); (try (exfalso; first | omega | contradiction | exact xF hfk (by with_reducible assumption) | exact xT hfk (by with_reducible assumption))))) | (refine And.intro ?ob ?_; (case ob => (first | exact Chk.mk (by kernel_rfl) | exact True.intro | with_reducible assumption | exact rng64 (by omega) (by omega) | omega | (dsimp only; omega) | (show (_ : Nat) ≤ _; omega) | (simp only [ll1, ll2, ll0]; first | done | omega) | (dsimp only; simp only [ll1, ll2, ll0]; omega)))) | exact True.intro | (show _ = _; first | with_reducible rfl | with_reducible assumption | omega | (simp only [ll1, ll2, ll0]; omega) | (skip; done) | exact rfl) | with_reducible assumption | (apply And.intro) | omega | (intro j hj; exact rfl)))
    (refine ⟨[0, 1], ⟨by kernel_rfl⟩, ?_⟩)
    (repeat' (first | (refine xI (fun hfk => ?_) (fun hfk => ?_) <;> ((try (first | replace hfk := oT hfk | replace hfk := oF hfk | simp only [oA, oB, dh1, dh0, ne_eq, reduceCtorEq] at hfk)); (try (exfalso; first | omega | contradiction | exact xF hfk (by with_reducible assumption) | exact xT hfk (by with_reducible assumption))))) | (refine And.intro ?ob ?_; (case ob => (first | exact Chk.mk (by kernel_rfl) | exact True.intro | with_reducible assumption | exact rng64 (by omega) (by omega) | omega | (dsimp only; omega) | (show (_ : Nat) ≤ _; omega) | (simp only [ll1, ll2, ll0]; first | done | omega) | (dsimp only; simp only [ll1, ll2, ll0]; omega)))) | exact True.intro | (show _ = _; first | with_reducible rfl | with_reducible assumption | omega | (simp only [ll1, ll2, ll0]; omega) | (skip; done) | exact rfl) | with_reducible assumption | (apply And.intro) | omega | (intro j hj; exact rfl)))
    refine ⟨[some 0, some 1], ?_⟩
    (repeat' (first | (refine xI (fun hfk => ?_) (fun hfk => ?_) <;> ((try (first | replace hfk := oT hfk | replace hfk := oF hfk | simp only [oA, oB, dh1, dh0, ne_eq, reduceCtorEq] at hfk)); (try (exfalso; first | omega | contradiction | exact xF hfk (by with_reducible assumption) | exact xT hfk (by with_reducible assumption))))) | (refine And.intro ?ob ?_; (case ob => (first | exact Chk.mk (by kernel_rfl) | exact True.intro | with_reducible assumption | exact rng64 (by omega) (by omega) | omega | (dsimp only; omega) | (show (_ : Nat) ≤ _; omega) | (simp only [ll1, ll2, ll0]; first | done | omega) | (dsimp only; simp only [ll1, ll2, ll0]; omega)))) | exact True.intro | (show _ = _; first | with_reducible rfl | with_reducible assumption | omega | (simp only [ll1, ll2, ll0]; omega) | (first | rfl | (show (_ : Int) = _; omega); done) | exact rfl) | with_reducible assumption | (apply And.intro) | omega | (intro j hj; exact rfl)))
  · have e : nbC (cR b a) m = blC (cR b a) := if_pos k1
    have e0 := blC0 k1
    have e1 : nbV (cR b a) m = 0 := if_neg (by rw [e]; exact k1)
    have e2 : nbP (cR b a) m = 0 := by unfold nbP; rw [if_neg (by rw [e]; exact k1), e0]
    rw [e, e1, e2]
    (repeat' (first | (refine xI (fun hfk => ?_) (fun hfk => ?_) <;> ((try (first | replace hfk := oT hfk | replace hfk := oF hfk | simp only [oA, oB, dh1, dh0, ne_eq, reduceCtorEq] at hfk)); (try (exfalso; first | omega | contradiction | exact xF hfk (by with_reducible assumption) | exact xT hfk (by with_reducible assumption))))) | (refine And.intro ?ob ?_; (case ob => (first | exact Chk.mk (by kernel_rfl) | exact True.intro | with_reducible assumption | exact rng64 (by omega) (by omega) | omega | (dsimp only; omega) | (show (_ : Nat) ≤ _; omega) | (simp only [ll1, ll2, ll0]; first | done | omega) | (dsimp only; simp only [ll1, ll2, ll0]; omega)))) | exact True.intro | (show _ = _; first | with_reducible rfl | with_reducible assumption | omega | (simp only [ll1, ll2, ll0]; omega) | (skip; done) | exact rfl) | with_reducible assumption | (apply And.intro) | omega | (intro j hj; exact rfl)))
    (refine ⟨[0, 1], ⟨by kernel_rfl⟩, ?_⟩)
    (repeat' (first | (refine xI (fun hfk => ?_) (fun hfk => ?_) <;> ((try (first | replace hfk := oT hfk | replace hfk := oF hfk | simp only [oA, oB, dh1, dh0, ne_eq, reduceCtorEq] at hfk)); (try (exfalso; first | omega | contradiction | exact xF hfk (by with_reducible assumption) | exact xT hfk (by with_reducible assumption))))) | (refine And.intro ?ob ?_; (case ob => (first | exact Chk.mk (by kernel_rfl) | exact True.intro | with_reducible assumption | exact rng64 (by omega) (by omega) | omega | (dsimp only; omega) | (show (_ : Nat) ≤ _; omega) | (simp only [ll1, ll2, ll0]; first | done | omega) | (dsimp only; simp only [ll1, ll2, ll0]; omega)))) | exact True.intro | (show _ = _; first | with_reducible rfl | with_reducible assumption | omega | (simp only [ll1, ll2, ll0]; omega) | (skip; done) | exact rfl) | with_reducible assumption | (apply And.intro) | omega | (intro j hj; exact rfl)))
    refine ⟨[some 0, some 1], ?_⟩
    (repeat' (first | (refine xI (fun hfk => ?_) (fun hfk => ?_) <;> ((try (first | replace hfk := oT hfk | replace hfk := oF hfk | simp only [oA, oB, dh1, dh0, ne_eq, reduceCtorEq] at hfk)); (try (exfalso; first | omega | contradiction | exact xF hfk (by with_reducible assumption) | exact xT hfk (by with_reducible assumption))))) | (refine And.intro ?ob ?_; (case ob => (first | exact Chk.mk (by kernel_rfl) | exact True.intro | with_reducible assumption | exact rng64 (by omega) (by omega) | omega | (dsimp only; omega) | (show (_ : Nat) ≤ _; omega) | (simp only [ll1, ll2, ll0]; first | done | omega) | (dsimp only; simp only [ll1, ll2, ll0]; omega)))) | exact True.intro | (show _ = _; first | with_reducible rfl | with_reducible assumption | omega | (simp only [ll1, ll2, ll0]; omega) | (first | rfl | (show (_ : Int) = _; omega); done) | exact rfl) | with_reducible assumption | (apply And.intro) | omega | (intro j hj; exact rfl)))
def szC (r : List Int) : Int :=
  if nbC r 32768 ≠ 0 then nbC r 32768
  else if nbC (r.drop (nbP r 32768)) 32768 ≠ 0 then nbC (r.drop (nbP r 32768)) 32768
  else if nbV r 32768 < 1 ∨ nbV (r.drop (nbP r 32768)) 32768 < 1 then 12
  else if 4194304 < nbV r 32768 * nbV (r.drop (nbP r 32768)) 32768 then 30 else 0
def szW (r : List Int) : Int := if szC r = 0 then nbV r 32768 else 0
def szH (r : List Int) : Int := if szC r = 0 then nbV (r.drop (nbP r 32768)) 32768 else 0
def szP (r : List Int) : Nat := if nbC r 32768 = 0 then nbP r 32768 + nbP (r.drop (nbP r 32768)) 32768 else nbP r 32768
theorem szP_le (r : List Int) : szP r ≤ r.length := by
  have h1 := nbP_le r 32768
  have h2 := nbP_le (r.drop (nbP r 32768)) 32768
  rw [List.length_drop] at h2
  unfold szP
  split <;> omega
def psizeF : FSpec := fun l es => match l, es with
  | [.ptr 0 0], [.cells 69 [.sl 1 1 0 n, .int .i64 a], .ints 5 .u8 b] =>
    some ([n = b.length, 0 ≤ a, a ≤ b.length, b.length ≤ 140737488355328], .tup [.int .i64 (szW (cR b a)), .int .i64 (szH (cR b a)), .int .i64 (szC (cR b a))], [some (cutE n (a + (szP (cR b a) : Int))), some (bE b)])
  | _, _ => none
theorem psize_g : GSOK Tryd.prog 47 (fG psizeF) := by
  refine fok (S := []) (G := glook [(75, fG pnumF)]) pok_nil (gl_cons pnum_g gl_nil) ⟨Tryd.func47, by kernel_rfl, by kernel_rfl, by kernel_rfl⟩ fun l es obs v es' h ho => ?_
  (unfold psizeF at h; split at h; rotate_left; (focus (cases h)); rename_i n a b; simp only [Option.some.injEq, Prod.mk.injEq] at h; obtain ⟨rfl, rfl, rfl⟩ := h; simp only [List.mem_cons, List.not_mem_nil, or_false, forall_eq_or_imp, forall_eq, false_implies, implies_true] at ho)
  obtain ⟨rfl, ho1, ho2, ho3⟩ := ho
  refine ⟨Nat.le_of_ble_eq_true rfl, ?_⟩
  have el : (cR b a).length = b.length - a.toNat := by simp
  have hk := nbP_le (cR b a) 32768
  by_cases k1 : nbC (cR b a) 32768 = 0
  rotate_left
  · have e : szC (cR b a) = nbC (cR b a) 32768 := if_pos k1
    have e1 : szW (cR b a) = 0 := if_neg (by rw [e]; exact k1)
    have e2 : szH (cR b a) = 0 := if_neg (by rw [e]; exact k1)
    have e3 : szP (cR b a) = nbP (cR b a) 32768 := if_neg k1
    rw [e, e1, e2, e3]
    clear e e1 e2 e3
    (repeat' (first | (refine xI (fun hfk => ?_) (fun hfk => ?_) <;> ((try (first | replace hfk := oT hfk | replace hfk := oF hfk | simp only [oA, oB, dh1, dh0, ne_eq, reduceCtorEq] at hfk)); (try (exfalso; first | omega | contradiction | exact xF hfk (by with_reducible assumption) | exact xT hfk (by with_reducible assumption))))) | (refine And.intro ?ob ?_; (case ob => (first | exact Chk.mk (by kernel_rfl) | exact True.intro | with_reducible assumption | exact rng64 (by omega) (by omega) | omega | (dsimp only; omega) | (show (_ : Nat) ≤ _; omega) | (simp only [ll1, ll2, ll0]; first | done | omega) | (dsimp only; simp only [ll1, ll2, ll0]; omega)))) | exact True.intro | (show _ = _; first | with_reducible rfl | with_reducible assumption | omega | (simp only [ll1, ll2, ll0]; omega) | (skip; done) | exact rfl) | with_reducible assumption | (apply And.intro) | omega | (intro j hj; exact rfl)))
    (refine ⟨[0, 1], ⟨by kernel_rfl⟩, ?_⟩)
    (repeat' (first | (refine xI (fun hfk => ?_) (fun hfk => ?_) <;> ((try (first | replace hfk := oT hfk | replace hfk := oF hfk | simp only [oA, oB, dh1, dh0, ne_eq, reduceCtorEq] at hfk)); (try (exfalso; first | omega | contradiction | exact xF hfk (by with_reducible assumption) | exact xT hfk (by with_reducible assumption))))) | (refine And.intro ?ob ?_; (case ob => (first | exact Chk.mk (by kernel_rfl) | exact True.intro | with_reducible assumption | exact rng64 (by omega) (by omega) | omega | (dsimp only; omega) | (show (_ : Nat) ≤ _; omega) | (simp only [ll1, ll2, ll0]; first | done | omega) | (dsimp only; simp only [ll1, ll2, ll0]; omega)))) | exact True.intro | (show _ = _; first | with_reducible rfl | with_reducible assumption | omega | (simp only [ll1, ll2, ll0]; omega) | (skip; done) | exact rfl) | with_reducible assumption | (apply And.intro) | omega | (intro j hj; exact rfl)))
    refine ⟨[some 0, some 1], ?_⟩
    (repeat' (first | (refine xI (fun hfk => ?_) (fun hfk => ?_) <;> ((try (first | replace hfk := oT hfk | replace hfk := oF hfk | simp only [oA, oB, dh1, dh0, ne_eq, reduceCtorEq] at hfk)); (try (exfalso; first | omega | contradiction | exact xF hfk (by with_reducible assumption) | exact xT hfk (by with_reducible assumption))))) | (refine And.intro ?ob ?_; (case ob => (first | exact Chk.mk (by kernel_rfl) | exact True.intro | with_reducible assumption | exact rng64 (by omega) (by omega) | omega | (dsimp only; omega) | (show (_ : Nat) ≤ _; omega) | (simp only [ll1, ll2, ll0]; first | done | omega) | (dsimp only; simp only [ll1, ll2, ll0]; omega)))) | exact True.intro | (show _ = _; first | with_reducible rfl | with_reducible assumption | omega | (simp only [ll1, ll2, ll0]; omega) | (first | rfl | (show (_ : Int) = _; omega); done) | exact rfl) | with_reducible assumption | (apply And.intro) | omega | (intro j hj; exact rfl)))
  have ec := cR_add (b := b) (a := a) (n := nbP (cR b a) 32768) ho1
  have e3 : a + (szP (cR b a) : Int) = a + (nbP (cR b a) 32768 : Int) + (nbP (cR b (a + (nbP (cR b a) 32768 : Int))) 32768 : Int) := by rw [ec]; unfold szP; rw [if_pos k1]; omega
  have r1 := nbV_rng (cR b a) (m := 32768) (by decide)
  have r2 := nbV_rng (cR b (a + (nbP (cR b a) 32768 : Int))) (m := 32768) (by decide)
  have eC : szC (cR b a) = if nbC (cR b (a + (nbP (cR b a) 32768 : Int))) 32768 ≠ 0 then nbC (cR b (a + (nbP (cR b a) 32768 : Int))) 32768 else if nbV (cR b a) 32768 < 1 ∨ nbV (cR b (a + (nbP (cR b a) 32768 : Int))) 32768 < 1 then 12 else if 4194304 < nbV (cR b a) 32768 * nbV (cR b (a + (nbP (cR b a) 32768 : Int))) 32768 then 30 else 0 := by
    rw [ec]; unfold szC; rw [if_neg (fun k => k k1)]
  have eW : szW (cR b a) = if szC (cR b a) = 0 then nbV (cR b a) 32768 else 0 := rfl
  have eH : szH (cR b a) = if szC (cR b a) = 0 then nbV (cR b (a + (nbP (cR b a) 32768 : Int))) 32768 else 0 := by rw [ec]; rfl
  rw [e3, eW, eH]
  clear e3 eW eH ec
  have w0 : 0 ≤ nbV (cR b a) 32768 * nbV (cR b (a + (nbP (cR b a) 32768 : Int))) 32768 := Int.mul_nonneg r1.1 r2.1
  have w1 : nbV (cR b a) 32768 * nbV (cR b (a + (nbP (cR b a) 32768 : Int))) 32768 ≤ 32768 * 32768 := Int.le_trans (Int.mul_le_mul_of_nonneg_right r1.2 r2.1) (Int.mul_le_mul_of_nonneg_left r2.2 (by omega))
  have rg : rngI .i64 (nbV (cR b a) 32768 * nbV (cR b (a + (nbP (cR b a) 32768 : Int))) 32768) := rng64 (by omega) (by omega)
  clear w0 w1
  by_cases k2 : nbC (cR b (a + (nbP (cR b a) 32768 : Int))) 32768 = 0
  rotate_left
  · rw [if_pos k2] at eC
    rw [eC, if_neg k2, if_neg k2]
    clear eC
    (repeat' (first | (refine xI (fun hfk => ?_) (fun hfk => ?_) <;> ((try (first | replace hfk := oT hfk | replace hfk := oF hfk | simp only [oA, oB, dh1, dh0, ne_eq, reduceCtorEq] at hfk)); (try (exfalso; first | omega | contradiction | exact xF hfk (by with_reducible assumption) | exact xT hfk (by with_reducible assumption))))) | (refine And.intro ?ob ?_; (case ob => (first | exact Chk.mk (by kernel_rfl) | exact True.intro | with_reducible assumption | exact rng64 (by omega) (by omega) | omega | (dsimp only; omega) | (show (_ : Nat) ≤ _; omega) | (simp only [ll1, ll2, ll0]; first | done | omega) | (dsimp only; simp only [ll1, ll2, ll0]; omega)))) | exact True.intro | (show _ = _; first | with_reducible rfl | with_reducible assumption | omega | (simp only [ll1, ll2, ll0]; omega) | (skip; done) | exact rfl) | with_reducible assumption | (apply And.intro) | omega | (intro j hj; exact rfl)))
    (refine ⟨[0, 1], ⟨by kernel_rfl⟩, ?_⟩)
    (repeat' (first | (refine xI (fun hfk => ?_) (fun hfk => ?_) <;> ((try (first | replace hfk := oT hfk | replace hfk := oF hfk | simp only [oA, oB, dh1, dh0, ne_eq, reduceCtorEq] at hfk)); (try (exfalso; first | omega | contradiction | exact xF hfk (by with_reducible assumption) | exact xT hfk (by with_reducible assumption))))) | (refine And.intro ?ob ?_; (case ob => (first | exact Chk.mk (by kernel_rfl) | exact True.intro | with_reducible assumption | exact rng64 (by omega) (by omega) | omega | (dsimp only; omega) | (show (_ : Nat) ≤ _; omega) | (simp only [ll1, ll2, ll0]; first | done | omega) | (dsimp only; simp only [ll1, ll2, ll0]; omega)))) | exact True.intro | (show _ = _; first | with_reducible rfl | with_reducible assumption | omega | (simp only [ll1, ll2, ll0]; omega) | (skip; done) | exact rfl) | with_reducible assumption | (apply And.intro) | omega | (intro j hj; exact rfl)))
    (refine ⟨[0, 1], ⟨by kernel_rfl⟩, ?_⟩)
    (repeat' (first | (refine xI (fun hfk => ?_) (fun hfk => ?_) <;> ((try (first | replace hfk := oT hfk | replace hfk := oF hfk | simp only [oA, oB, dh1, dh0, ne_eq, reduceCtorEq] at hfk)); (try (exfalso; first | omega | contradiction | exact xF hfk (by with_reducible assumption) | exact xT hfk (by with_reducible assumption))))) | (refine And.intro ?ob ?_; (case ob => (first | exact Chk.mk (by kernel_rfl) | exact True.intro | with_reducible assumption | exact rng64 (by omega) (by omega) | omega | (dsimp only; omega) | (show (_ : Nat) ≤ _; omega) | (simp only [ll1, ll2, ll0]; first | done | omega) | (dsimp only; simp only [ll1, ll2, ll0]; omega)))) | exact True.intro | (show _ = _; first | with_reducible rfl | with_reducible assumption | omega | (simp only [ll1, ll2, ll0]; omega) | (skip; done) | exact rfl) | with_reducible assumption | (apply And.intro) | omega | (intro j hj; exact rfl)))
    refine ⟨[some 0, some 1], ?_⟩
    (repeat' (first | (refine xI (fun hfk => ?_) (fun hfk => ?_) <;> ((try (first | replace hfk := oT hfk | replace hfk := oF hfk | simp only [oA, oB, dh1, dh0, ne_eq, reduceCtorEq] at hfk)); (try (exfalso; first | omega | contradiction | exact xF hfk (by with_reducible assumption) | exact xT hfk (by with_reducible assumption))))) | (refine And.intro ?ob ?_; (case ob => (first | exact Chk.mk (by kernel_rfl) | exact True.intro | with_reducible assumption | exact rng64 (by omega) (by omega) | omega | (dsimp only; omega) | (show (_ : Nat) ≤ _; omega) | (simp only [ll1, ll2, ll0]; first | done | omega) | (dsimp only; simp only [ll1, ll2, ll0]; omega)))) | exact True.intro | (show _ = _; first | with_reducible rfl | with_reducible assumption | omega | (simp only [ll1, ll2, ll0]; omega) | (first | rfl | (show (_ : Int) = _; omega); done) | exact rfl) | with_reducible assumption | (apply And.intro) | omega | (intro j hj; exact rfl)))
  rw [if_neg (fun k => k k2)] at eC
  by_cases k3 : nbV (cR b a) 32768 < 1 ∨ nbV (cR b (a + (nbP (cR b a) 32768 : Int))) 32768 < 1
  · rw [if_pos k3] at eC
    rw [eC, if_neg (by decide), if_neg (by decide)]
    clear eC
    (repeat' (first | (refine xI (fun hfk => ?_) (fun hfk => ?_) <;> ((try (first | replace hfk := oT hfk | replace hfk := oF hfk | simp only [oA, oB, dh1, dh0, ne_eq, reduceCtorEq] at hfk)); (try (exfalso; first | omega | contradiction | exact xF hfk (by with_reducible assumption) | exact xT hfk (by with_reducible assumption))))) | (refine And.intro ?ob ?_; (case ob => (first | exact Chk.mk (by kernel_rfl) | exact True.intro | with_reducible assumption | exact rng64 (by omega) (by omega) | omega | (dsimp only; omega) | (show (_ : Nat) ≤ _; omega) | (simp only [ll1, ll2, ll0]; first | done | omega) | (dsimp only; simp only [ll1, ll2, ll0]; omega)))) | exact True.intro | (show _ = _; first | with_reducible rfl | with_reducible assumption | omega | (simp only [ll1, ll2, ll0]; omega) | (skip; done) | exact rfl) | with_reducible assumption | (apply And.intro) | omega | (intro j hj; exact rfl)))
    (refine ⟨[0, 1], ⟨by kernel_rfl⟩, ?_⟩)
    (repeat' (first | (refine xI (fun hfk => ?_) (fun hfk => ?_) <;> ((try (first | replace hfk := oT hfk | replace hfk := oF hfk | simp only [oA, oB, dh1, dh0, ne_eq, reduceCtorEq] at hfk)); (try (exfalso; first | omega | contradiction | exact xF hfk (by with_reducible assumption) | exact xT hfk (by with_reducible assumption))))) | (refine And.intro ?ob ?_; (case ob => (first | exact Chk.mk (by kernel_rfl) | exact True.intro | with_reducible assumption | exact rng64 (by omega) (by omega) | omega | (dsimp only; omega) | (show (_ : Nat) ≤ _; omega) | (simp only [ll1, ll2, ll0]; first | done | omega) | (dsimp only; simp only [ll1, ll2, ll0]; omega)))) | exact True.intro | (show _ = _; first | with_reducible rfl | with_reducible assumption | omega | (simp only [ll1, ll2, ll0]; omega) | (skip; done) | exact rfl) | with_reducible assumption | (apply And.intro) | omega | (intro j hj; exact rfl)))
    (refine ⟨[0, 1], ⟨by kernel_rfl⟩, ?_⟩)
    (repeat' (first | (refine xI (fun hfk => ?_) (fun hfk => ?_) <;> ((try (first | replace hfk := oT hfk | replace hfk := oF hfk | simp only [oA, oB, dh1, dh0, ne_eq, reduceCtorEq] at hfk)); (try (exfalso; first | omega | contradiction | exact xF hfk (by with_reducible assumption) | exact xT hfk (by with_reducible assumption))))) | (refine And.intro ?ob ?_; (case ob => (first | exact Chk.mk (by kernel_rfl) | exact True.intro | with_reducible assumption | exact rng64 (by omega) (by omega) | omega | (dsimp only; omega) | (show (_ : Nat) ≤ _; omega) | (simp only [ll1, ll2, ll0]; first | done | omega) | (dsimp only; simp only [ll1, ll2, ll0]; omega)))) | exact True.intro | (show _ = _; first | with_reducible rfl | with_reducible assumption | omega | (simp only [ll1, ll2, ll0]; omega) | (skip; done) | exact rfl) | with_reducible assumption | (apply And.intro) | omega | (intro j hj; exact rfl)))
    all_goals (refine ⟨[some 0, some 1], ?_⟩)
    (repeat' (first | (refine xI (fun hfk => ?_) (fun hfk => ?_) <;> ((try (first | replace hfk := oT hfk | replace hfk := oF hfk | simp only [oA, oB, dh1, dh0, ne_eq, reduceCtorEq] at hfk)); (try (exfalso; first | omega | contradiction | exact xF hfk (by with_reducible assumption) | exact xT hfk (by with_reducible assumption))))) | (refine And.intro ?ob ?_; (case ob => (first | exact Chk.mk (by kernel_rfl) | exact True.intro | with_reducible assumption | exact rng64 (by omega) (by omega) | omega | (dsimp only; omega) | (show (_ : Nat) ≤ _; omega) | (simp only [ll1, ll2, ll0]; first | done | omega) | (dsimp only; simp only [ll1, ll2, ll0]; omega)))) | exact True.intro | (show _ = _; first | with_reducible rfl | with_reducible assumption | omega | (simp only [ll1, ll2, ll0]; omega) | (first | rfl | (show (_ : Int) = _; omega); done) | exact rfl) | with_reducible assumption | (apply And.intro) | omega | (intro j hj; exact rfl)))
  rw [if_neg k3] at eC
  by_cases k4 : 4194304 < nbV (cR b a) 32768 * nbV (cR b (a + (nbP (cR b a) 32768 : Int))) 32768
  · rw [if_pos k4] at eC
    rw [eC, if_neg (by decide), if_neg (by decide)]
    clear eC
    (repeat' (first | (refine xI (fun hfk => ?_) (fun hfk => ?_) <;> ((try (first | replace hfk := oT hfk | replace hfk := oF hfk | simp only [oA, oB, dh1, dh0, ne_eq, reduceCtorEq] at hfk)); (try (exfalso; first | omega | contradiction | exact xF hfk (by with_reducible assumption) | exact xT hfk (by with_reducible assumption))))) | (refine And.intro ?ob ?_; (case ob => (first | exact Chk.mk (by kernel_rfl) | exact True.intro | with_reducible assumption | exact rng64 (by omega) (by omega) | omega | (dsimp only; omega) | (show (_ : Nat) ≤ _; omega) | (simp only [ll1, ll2, ll0]; first | done | omega) | (dsimp only; simp only [ll1, ll2, ll0]; omega)))) | exact True.intro | (show _ = _; first | with_reducible rfl | with_reducible assumption | omega | (simp only [ll1, ll2, ll0]; omega) | (skip; done) | exact rfl) | with_reducible assumption | (apply And.intro) | omega | (intro j hj; exact rfl)))
    (refine ⟨[0, 1], ⟨by kernel_rfl⟩, ?_⟩)
    (repeat' (first | (refine xI (fun hfk => ?_) (fun hfk => ?_) <;> ((try (first | replace hfk := oT hfk | replace hfk := oF hfk | simp only [oA, oB, dh1, dh0, ne_eq, reduceCtorEq] at hfk)); (try (exfalso; first | omega | contradiction | exact xF hfk (by with_reducible assumption) | exact xT hfk (by with_reducible assumption))))) | (refine And.intro ?ob ?_; (case ob => (first | exact Chk.mk (by kernel_rfl) | exact True.intro | with_reducible assumption | exact rng64 (by omega) (by omega) | omega | (dsimp only; omega) | (show (_ : Nat) ≤ _; omega) | (simp only [ll1, ll2, ll0]; first | done | omega) | (dsimp only; simp only [ll1, ll2, ll0]; omega)))) | exact True.intro | (show _ = _; first | with_reducible rfl | with_reducible assumption | omega | (simp only [ll1, ll2, ll0]; omega) | (skip; done) | exact rfl) | with_reducible assumption | (apply And.intro) | omega | (intro j hj; exact rfl)))
    (refine ⟨[0, 1], ⟨by kernel_rfl⟩, ?_⟩)
    (repeat' (first | (refine xI (fun hfk => ?_) (fun hfk => ?_) <;> ((try (first | replace hfk := oT hfk | replace hfk := oF hfk | simp only [oA, oB, dh1, dh0, ne_eq, reduceCtorEq] at hfk)); (try (exfalso; first | omega | contradiction | exact xF hfk (by with_reducible assumption) | exact xT hfk (by with_reducible assumption))))) | (refine And.intro ?ob ?_; (case ob => (first | exact Chk.mk (by kernel_rfl) | exact True.intro | with_reducible assumption | exact rng64 (by omega) (by omega) | omega | (dsimp only; omega) | (show (_ : Nat) ≤ _; omega) | (simp only [ll1, ll2, ll0]; first | done | omega) | (dsimp only; simp only [ll1, ll2, ll0]; omega)))) | exact True.intro | (show _ = _; first | with_reducible rfl | with_reducible assumption | omega | (simp only [ll1, ll2, ll0]; omega) | (skip; done) | exact rfl) | with_reducible assumption | (apply And.intro) | omega | (intro j hj; exact rfl)))
    refine ⟨[some 0, some 1], ?_⟩
    (repeat' (first | (refine xI (fun hfk => ?_) (fun hfk => ?_) <;> ((try (first | replace hfk := oT hfk | replace hfk := oF hfk | simp only [oA, oB, dh1, dh0, ne_eq, reduceCtorEq] at hfk)); (try (exfalso; first | omega | contradiction | exact xF hfk (by with_reducible assumption) | exact xT hfk (by with_reducible assumption))))) | (refine And.intro ?ob ?_; (case ob => (first | exact Chk.mk (by kernel_rfl) | exact True.intro | with_reducible assumption | exact rng64 (by omega) (by omega) | omega | (dsimp only; omega) | (show (_ : Nat) ≤ _; omega) | (simp only [ll1, ll2, ll0]; first | done | omega) | (dsimp only; simp only [ll1, ll2, ll0]; omega)))) | exact True.intro | (show _ = _; first | with_reducible rfl | with_reducible assumption | omega | (simp only [ll1, ll2, ll0]; omega) | (first | rfl | (show (_ : Int) = _; omega); done) | exact rfl) | with_reducible assumption | (apply And.intro) | omega | (intro j hj; exact rfl)))
  rw [if_neg k4] at eC
  rw [eC, if_pos rfl, if_pos rfl]
  clear eC
  (repeat' (first | (refine xI (fun hfk => ?_) (fun hfk => ?_) <;> ((try (first | replace hfk := oT hfk | replace hfk := oF hfk | simp only [oA, oB, dh1, dh0, ne_eq, reduceCtorEq] at hfk)); (try (exfalso; first | omega | contradiction | exact xF hfk (by with_reducible assumption) | exact xT hfk (by with_reducible assumption))))) | (refine And.intro ?ob ?_; (case ob => (first | exact Chk.mk (by kernel_rfl) | exact True.intro | with_reducible assumption | exact rng64 (by omega) (by omega) | omega | (dsimp only; omega) | (show (_ : Nat) ≤ _; omega) | (simp only [ll1, ll2, ll0]; first | done | omega) | (dsimp only; simp only [ll1, ll2, ll0]; omega)))) | exact True.intro | (show _ = _; first | with_reducible rfl | with_reducible assumption | omega | (simp only [ll1, ll2, ll0]; omega) | (skip; done) | exact rfl) | with_reducible assumption | (apply And.intro) | omega | (intro j hj; exact rfl)))
  (refine ⟨[0, 1], ⟨by kernel_rfl⟩, ?_⟩)
  (repeat' (first | (refine xI (fun hfk => ?_) (fun hfk => ?_) <;> ((try (first | replace hfk := oT hfk | replace hfk := oF hfk | simp only [oA, oB, dh1, dh0, ne_eq, reduceCtorEq] at hfk)); (try (exfalso; first | omega | contradiction | exact xF hfk (by with_reducible assumption) | exact xT hfk (by with_reducible assumption))))) | (refine And.intro ?ob ?_; (case ob => (first | exact Chk.mk (by kernel_rfl) | exact True.intro | with_reducible assumption | exact rng64 (by omega) (by omega) | omega | (dsimp only; omega) | (show (_ : Nat) ≤ _; omega) | (simp only [ll1, ll2, ll0]; first | done | omega) | (dsimp only; simp only [ll1, ll2, ll0]; omega)))) | exact True.intro | (show _ = _; first | with_reducible rfl | with_reducible assumption | omega | (simp only [ll1, ll2, ll0]; omega) | (skip; done) | exact rfl) | with_reducible assumption | (apply And.intro) | omega | (intro j hj; exact rfl)))
  (refine ⟨[0, 1], ⟨by kernel_rfl⟩, ?_⟩)
  (repeat' (first | (refine xI (fun hfk => ?_) (fun hfk => ?_) <;> ((try (first | replace hfk := oT hfk | replace hfk := oF hfk | simp only [oA, oB, dh1, dh0, ne_eq, reduceCtorEq] at hfk)); (try (exfalso; first | omega | contradiction | exact xF hfk (by with_reducible assumption) | exact xT hfk (by with_reducible assumption))))) | (refine And.intro ?ob ?_; (case ob => (first | exact Chk.mk (by kernel_rfl) | exact True.intro | with_reducible assumption | exact rng64 (by omega) (by omega) | omega | (dsimp only; omega) | (show (_ : Nat) ≤ _; omega) | (simp only [ll1, ll2, ll0]; first | done | omega) | (dsimp only; simp only [ll1, ll2, ll0]; omega)))) | exact True.intro | (show _ = _; first | with_reducible rfl | with_reducible assumption | omega | (simp only [ll1, ll2, ll0]; omega) | (skip; done) | exact rfl) | with_reducible assumption | (apply And.intro) | omega | (intro j hj; exact rfl)))
  refine ⟨[some 0, some 1], ?_⟩
  (repeat' (first | (refine xI (fun hfk => ?_) (fun hfk => ?_) <;> ((try (first | replace hfk := oT hfk | replace hfk := oF hfk | simp only [oA, oB, dh1, dh0, ne_eq, reduceCtorEq] at hfk)); (try (exfalso; first | omega | contradiction | exact xF hfk (by with_reducible assumption) | exact xT hfk (by with_reducible assumption))))) | (refine And.intro ?ob ?_; (case ob => (first | exact Chk.mk (by kernel_rfl) | exact True.intro | with_reducible assumption | exact rng64 (by omega) (by omega) | omega | (dsimp only; omega) | (show (_ : Nat) ≤ _; omega) | (simp only [ll1, ll2, ll0]; first | done | omega) | (dsimp only; simp only [ll1, ll2, ll0]; omega)))) | exact True.intro | (show _ = _; first | with_reducible rfl | with_reducible assumption | omega | (simp only [ll1, ll2, ll0]; omega) | (first | rfl | (show (_ : Int) = _; omega); done) | exact rfl) | with_reducible assumption | (apply And.intro) | omega | (intro j hj; exact rfl)))
def dpC (r : List Int) : Int := if nbC r 255 ≠ 0 then nbC r 255 else if nbV r 255 ≠ 255 then 21 else (oneV (r.drop (nbP r 255))).2
def dpP (r : List Int) : Int := if nbC r 255 = 0 ∧ nbV r 255 = 255 then (nbP r 255 : Int) + (oneV (r.drop (nbP r 255))).1 else nbP r 255
def pdepF : FSpec := fun l es => match l, es with
  | [.ptr 0 0], [.cells 69 [.sl 1 1 0 n, .int .i64 a], .ints 5 .u8 b] =>
    some ([n = b.length, 0 ≤ a, a ≤ b.length, b.length ≤ 140737488355328], .int .i64 (dpC (cR b a)), [some (cutE n (a + dpP (cR b a))), some (bE b)])
  | _, _ => none
theorem pdep_g : GSOK Tryd.prog 48 (fG pdepF) := by
  refine fok (S := []) (G := glook [(75, fG pnumF), (76, fG coneF)]) pok_nil (gl_cons pnum_g (gl_cons cone_g gl_nil)) ⟨Tryd.func48, by kernel_rfl, by kernel_rfl, by kernel_rfl⟩ fun l es obs v es' h ho => ?_
  (unfold pdepF at h; split at h; rotate_left; (focus (cases h)); rename_i n a b; simp only [Option.some.injEq, Prod.mk.injEq] at h; obtain ⟨rfl, rfl, rfl⟩ := h; simp only [List.mem_cons, List.not_mem_nil, or_false, forall_eq_or_imp, forall_eq, false_implies, implies_true] at ho)
  obtain ⟨rfl, ho1, ho2, ho3⟩ := ho
  refine ⟨Nat.le_of_ble_eq_true rfl, ?_⟩
  have el : (cR b a).length = b.length - a.toNat := by simp
  have hk := nbP_le (cR b a) 255
  by_cases k1 : nbC (cR b a) 255 = 0
  rotate_left
  · have e : dpC (cR b a) = nbC (cR b a) 255 := if_pos k1
    have e1 : dpP (cR b a) = nbP (cR b a) 255 := if_neg (fun k => k1 k.1)
    rw [e, e1]
    clear e e1
    (repeat' (first | (refine xI (fun hfk => ?_) (fun hfk => ?_) <;> ((try (first | replace hfk := oT hfk | replace hfk := oF hfk | simp only [oA, oB, dh1, dh0, ne_eq, reduceCtorEq] at hfk)); (try (exfalso; first | omega | contradiction | exact xF hfk (by with_reducible assumption) | exact xT hfk (by with_reducible assumption))))) | (refine And.intro ?ob ?_; (case ob => (first | exact Chk.mk (by kernel_rfl) | exact True.intro | with_reducible assumption | exact rng64 (by omega) (by omega) | omega | (dsimp only; omega) | (show (_ : Nat) ≤ _; omega) | (simp only [ll1, ll2, ll0]; first | done | omega) | (dsimp only; simp only [ll1, ll2, ll0]; omega)))) | exact True.intro | (show _ = _; first | with_reducible rfl | with_reducible assumption | omega | (simp only [ll1, ll2, ll0]; omega) | (skip; done) | exact rfl) | with_reducible assumption | (apply And.intro) | omega | (intro j hj; exact rfl)))
    (refine ⟨[0, 1], ⟨by kernel_rfl⟩, ?_⟩)
    (repeat' (first | (refine xI (fun hfk => ?_) (fun hfk => ?_) <;> ((try (first | replace hfk := oT hfk | replace hfk := oF hfk | simp only [oA, oB, dh1, dh0, ne_eq, reduceCtorEq] at hfk)); (try (exfalso; first | omega | contradiction | exact xF hfk (by with_reducible assumption) | exact xT hfk (by with_reducible assumption))))) | (refine And.intro ?ob ?_; (case ob => (first | exact Chk.mk (by kernel_rfl) | exact True.intro | with_reducible assumption | exact rng64 (by omega) (by omega) | omega | (dsimp only; omega) | (show (_ : Nat) ≤ _; omega) | (simp only [ll1, ll2, ll0]; first | done | omega) | (dsimp only; simp only [ll1, ll2, ll0]; omega)))) | exact True.intro | (show _ = _; first | with_reducible rfl | with_reducible assumption | omega | (simp only [ll1, ll2, ll0]; omega) | (skip; done) | exact rfl) | with_reducible assumption | (apply And.intro) | omega | (intro j hj; exact rfl)))
    refine ⟨[some 0, some 1], ?_⟩
    (repeat' (first | (refine xI (fun hfk => ?_) (fun hfk => ?_) <;> ((try (first | replace hfk := oT hfk | replace hfk := oF hfk | simp only [oA, oB, dh1, dh0, ne_eq, reduceCtorEq] at hfk)); (try (exfalso; first | omega | contradiction | exact xF hfk (by with_reducible assumption) | exact xT hfk (by with_reducible assumption))))) | (refine And.intro ?ob ?_; (case ob => (first | exact Chk.mk (by kernel_rfl) | exact True.intro | with_reducible assumption | exact rng64 (by omega) (by omega) | omega | (dsimp only; omega) | (show (_ : Nat) ≤ _; omega) | (simp only [ll1, ll2, ll0]; first | done | omega) | (dsimp only; simp only [ll1, ll2, ll0]; omega)))) | exact True.intro | (show _ = _; first | with_reducible rfl | with_reducible assumption | omega | (simp only [ll1, ll2, ll0]; omega) | (first | rfl | (show (_ : Int) = _; omega); done) | exact rfl) | with_reducible assumption | (apply And.intro) | omega | (intro j hj; exact rfl)))
  by_cases k2 : nbV (cR b a) 255 = 255
  rotate_left
  · have e : dpC (cR b a) = 21 := by unfold dpC; rw [if_neg (fun k => k k1), if_pos k2]
    have e1 : dpP (cR b a) = nbP (cR b a) 255 := if_neg (fun k => k2 k.2)
    rw [e, e1]
    clear e e1
    (repeat' (first | (refine xI (fun hfk => ?_) (fun hfk => ?_) <;> ((try (first | replace hfk := oT hfk | replace hfk := oF hfk | simp only [oA, oB, dh1, dh0, ne_eq, reduceCtorEq] at hfk)); (try (exfalso; first | omega | contradiction | exact xF hfk (by with_reducible assumption) | exact xT hfk (by with_reducible assumption))))) | (refine And.intro ?ob ?_; (case ob => (first | exact Chk.mk (by kernel_rfl) | exact True.intro | with_reducible assumption | exact rng64 (by omega) (by omega) | omega | (dsimp only; omega) | (show (_ : Nat) ≤ _; omega) | (simp only [ll1, ll2, ll0]; first | done | omega) | (dsimp only; simp only [ll1, ll2, ll0]; omega)))) | exact True.intro | (show _ = _; first | with_reducible rfl | with_reducible assumption | omega | (simp only [ll1, ll2, ll0]; omega) | (skip; done) | exact rfl) | with_reducible assumption | (apply And.intro) | omega | (intro j hj; exact rfl)))
    (refine ⟨[0, 1], ⟨by kernel_rfl⟩, ?_⟩)
    (repeat' (first | (refine xI (fun hfk => ?_) (fun hfk => ?_) <;> ((try (first | replace hfk := oT hfk | replace hfk := oF hfk | simp only [oA, oB, dh1, dh0, ne_eq, reduceCtorEq] at hfk)); (try (exfalso; first | omega | contradiction | exact xF hfk (by with_reducible assumption) | exact xT hfk (by with_reducible assumption))))) | (refine And.intro ?ob ?_; (case ob => (first | exact Chk.mk (by kernel_rfl) | exact True.intro | with_reducible assumption | exact rng64 (by omega) (by omega) | omega | (dsimp only; omega) | (show (_ : Nat) ≤ _; omega) | (simp only [ll1, ll2, ll0]; first | done | omega) | (dsimp only; simp only [ll1, ll2, ll0]; omega)))) | exact True.intro | (show _ = _; first | with_reducible rfl | with_reducible assumption | omega | (simp only [ll1, ll2, ll0]; omega) | (skip; done) | exact rfl) | with_reducible assumption | (apply And.intro) | omega | (intro j hj; exact rfl)))
    refine ⟨[some 0, some 1], ?_⟩
    (repeat' (first | (refine xI (fun hfk => ?_) (fun hfk => ?_) <;> ((try (first | replace hfk := oT hfk | replace hfk := oF hfk | simp only [oA, oB, dh1, dh0, ne_eq, reduceCtorEq] at hfk)); (try (exfalso; first | omega | contradiction | exact xF hfk (by with_reducible assumption) | exact xT hfk (by with_reducible assumption))))) | (refine And.intro ?ob ?_; (case ob => (first | exact Chk.mk (by kernel_rfl) | exact True.intro | with_reducible assumption | exact rng64 (by omega) (by omega) | omega | (dsimp only; omega) | (show (_ : Nat) ≤ _; omega) | (simp only [ll1, ll2, ll0]; first | done | omega) | (dsimp only; simp only [ll1, ll2, ll0]; omega)))) | exact True.intro | (show _ = _; first | with_reducible rfl | with_reducible assumption | omega | (simp only [ll1, ll2, ll0]; omega) | (first | rfl | (show (_ : Int) = _; omega); done) | exact rfl) | with_reducible assumption | (apply And.intro) | omega | (intro j hj; exact rfl)))
  have ec := cR_add (b := b) (a := a) (n := nbP (cR b a) 255) ho1
  have e : dpC (cR b a) = (oneV (cR b (a + (nbP (cR b a) 255 : Int)))).2 := by rw [ec]; unfold dpC; rw [if_neg (fun k => k k1), if_neg (fun k => k k2)]
  have e1 : a + dpP (cR b a) = a + (nbP (cR b a) 255 : Int) + (oneV (cR b (a + (nbP (cR b a) 255 : Int)))).1 := by rw [ec]; unfold dpP; rw [if_pos ⟨k1, k2⟩]; omega
  rw [e, e1]
  clear e e1 ec
  (repeat' (first | (refine xI (fun hfk => ?_) (fun hfk => ?_) <;> ((try (first | replace hfk := oT hfk | replace hfk := oF hfk | simp only [oA, oB, dh1, dh0, ne_eq, reduceCtorEq] at hfk)); (try (exfalso; first | omega | contradiction | exact xF hfk (by with_reducible assumption) | exact xT hfk (by with_reducible assumption))))) | (refine And.intro ?ob ?_; (case ob => (first | exact Chk.mk (by kernel_rfl) | exact True.intro | with_reducible assumption | exact rng64 (by omega) (by omega) | omega | (dsimp only; omega) | (show (_ : Nat) ≤ _; omega) | (simp only [ll1, ll2, ll0]; first | done | omega) | (dsimp only; simp only [ll1, ll2, ll0]; omega)))) | exact True.intro | (show _ = _; first | with_reducible rfl | with_reducible assumption | omega | (simp only [ll1, ll2, ll0]; omega) | (skip; done) | exact rfl) | with_reducible assumption | (apply And.intro) | omega | (intro j hj; exact rfl)))
  (refine ⟨[0, 1], ⟨by kernel_rfl⟩, ?_⟩)
  (repeat' (first | (refine xI (fun hfk => ?_) (fun hfk => ?_) <;> ((try (first | replace hfk := oT hfk | replace hfk := oF hfk | simp only [oA, oB, dh1, dh0, ne_eq, reduceCtorEq] at hfk)); (try (exfalso; first | omega | contradiction | exact xF hfk (by with_reducible assumption) | exact xT hfk (by with_reducible assumption))))) | (refine And.intro ?ob ?_; (case ob => (first | exact Chk.mk (by kernel_rfl) | exact True.intro | with_reducible assumption | exact rng64 (by omega) (by omega) | omega | (dsimp only; omega) | (show (_ : Nat) ≤ _; omega) | (simp only [ll1, ll2, ll0]; first | done | omega) | (dsimp only; simp only [ll1, ll2, ll0]; omega)))) | exact True.intro | (show _ = _; first | with_reducible rfl | with_reducible assumption | omega | (simp only [ll1, ll2, ll0]; omega) | (skip; done) | exact rfl) | with_reducible assumption | (apply And.intro) | omega | (intro j hj; exact rfl)))
  (refine ⟨[0, 1], ⟨by kernel_rfl⟩, ?_⟩)
  (repeat' (first | (refine xI (fun hfk => ?_) (fun hfk => ?_) <;> ((try (first | replace hfk := oT hfk | replace hfk := oF hfk | simp only [oA, oB, dh1, dh0, ne_eq, reduceCtorEq] at hfk)); (try (exfalso; first | omega | contradiction | exact xF hfk (by with_reducible assumption) | exact xT hfk (by with_reducible assumption))))) | (refine And.intro ?ob ?_; (case ob => (first | exact Chk.mk (by kernel_rfl) | exact True.intro | with_reducible assumption | exact rng64 (by omega) (by omega) | omega | (dsimp only; omega) | (show (_ : Nat) ≤ _; omega) | (simp only [ll1, ll2, ll0]; first | done | omega) | (dsimp only; simp only [ll1, ll2, ll0]; omega)))) | exact True.intro | (show _ = _; first | with_reducible rfl | with_reducible assumption | omega | (simp only [ll1, ll2, ll0]; omega) | (skip; done) | exact rfl) | with_reducible assumption | (apply And.intro) | omega | (intro j hj; exact rfl)))
  refine ⟨[some 0, some 1], ?_⟩
  (repeat' (first | (refine xI (fun hfk => ?_) (fun hfk => ?_) <;> ((try (first | replace hfk := oT hfk | replace hfk := oF hfk | simp only [oA, oB, dh1, dh0, ne_eq, reduceCtorEq] at hfk)); (try (exfalso; first | omega | contradiction | exact xF hfk (by with_reducible assumption) | exact xT hfk (by with_reducible assumption))))) | (refine And.intro ?ob ?_; (case ob => (first | exact Chk.mk (by kernel_rfl) | exact True.intro | with_reducible assumption | exact rng64 (by omega) (by omega) | omega | (dsimp only; omega) | (show (_ : Nat) ≤ _; omega) | (simp only [ll1, ll2, ll0]; first | done | omega) | (dsimp only; simp only [ll1, ll2, ll0]; omega)))) | exact True.intro | (show _ = _; first | with_reducible rfl | with_reducible assumption | omega | (simp only [ll1, ll2, ll0]; omega) | (first | rfl | (show (_ : Int) = _; omega); done) | exact rfl) | with_reducible assumption | (apply And.intro) | omega | (intro j hj; exact rfl)))
def kdC (r : List Int) : Int := if wordC r [80, 53] = 0 then 0 else wordC r [80, 54]
def kdV (r : List Int) : Int := if wordC r [80, 53] = 0 then 1 else 3
def kdP (r : List Int) : Nat := if kdC r = 0 then 2 else 0
end Go.Proofs.YtocboijpmmlegaaDoor
namespace Go.Proofs.YtocboijpmmlegaaDoor
open Go Go.RowKit
set_option maxHeartbeats 4000000
theorem kdP_le (r : List Int) : kdP r ≤ r.length := by
  unfold kdP
  split
  · rename_i h
    unfold kdC at h
    split at h
    · rename_i k; exact wordC_le (s := [80, 53]) k
    · exact wordC_le (s := [80, 54]) h
  · omega
def pkindF : FSpec := fun l es => match l, es with
  | [.ptr 0 0], [.cells 69 [.sl 1 1 0 n, .int .i64 a], .ints 5 .u8 b] =>
    some ([n = b.length, 0 ≤ a, a ≤ b.length, b.length ≤ 140737488355328], .tup [.int .i64 (kdV (cR b a)), .int .i64 (kdC (cR b a))], [some (cutE n (a + (kdP (cR b a) : Int))), some (bE b)])
  | _, _ => none
theorem pkind_g : GSOK Tryd.prog 46 (fG pkindF) := by
  refine fok (S := []) (G := glook [(74, fG cwordF)]) pok_nil (gl_cons cword_g gl_nil) ⟨Tryd.func46, by kernel_rfl, by kernel_rfl, by kernel_rfl⟩ fun l es obs v es' h ho => ?_
  (unfold pkindF at h; split at h; rotate_left; (focus (cases h)); rename_i n a b; simp only [Option.some.injEq, Prod.mk.injEq] at h; obtain ⟨rfl, rfl, rfl⟩ := h; simp only [List.mem_cons, List.not_mem_nil, or_false, forall_eq_or_imp, forall_eq, false_implies, implies_true] at ho)
  obtain ⟨rfl, ho1, ho2, ho3⟩ := ho
  refine ⟨Nat.le_of_ble_eq_true rfl, ?_⟩
  have el : (cR b a).length = b.length - a.toNat := by simp
  have q5 : wordC (cR b a) (strI (ByteArray.mk #[80, 53]).data.toList) = wordC (cR b a) [80, 53] := rfl
  have q6 : wordC (cR b a) (strI (ByteArray.mk #[80, 54]).data.toList) = wordC (cR b a) [80, 54] := rfl
  have l5 : (ByteArray.mk #[80, 53]).data.toList.length ≤ 140737488355328 := by decide
  have l6 : (ByteArray.mk #[80, 54]).data.toList.length ≤ 140737488355328 := by decide
  by_cases k1 : wordC (cR b a) [80, 53] = 0
  · have e : kdC (cR b a) = wordC (cR b a) (strI (ByteArray.mk #[80, 53]).data.toList) := by rw [q5]; unfold kdC; rw [if_pos k1, k1]
    have e1 : kdV (cR b a) = 1 := if_pos k1
    have e2 : (kdP (cR b a) : Int) = wordN (cR b a) (ByteArray.mk #[80, 53]).data.toList := by
      unfold kdP wordN; rw [e, q5, if_pos k1, if_pos k1]; rfl
    have k2 : wordC (cR b a) (strI (ByteArray.mk #[80, 53]).data.toList) = 0 := k1
    rw [e, e1, e2]
    clear e e1 e2 q5 q6
    (repeat' (first | (refine xI (fun hfk => ?_) (fun hfk => ?_) <;> ((try (first | replace hfk := oT hfk | replace hfk := oF hfk | simp only [oA, oB, dh1, dh0, ne_eq, reduceCtorEq] at hfk)); (try (exfalso; first | omega | contradiction | exact xF hfk (by with_reducible assumption) | exact xT hfk (by with_reducible assumption))))) | (refine And.intro ?ob ?_; (case ob => (first | exact Chk.mk (by kernel_rfl) | exact True.intro | with_reducible assumption | exact rng64 (by omega) (by omega) | omega | (dsimp only; omega) | (show (_ : Nat) ≤ _; omega) | (simp only [ll1, ll2, ll0]; first | done | omega) | (dsimp only; simp only [ll1, ll2, ll0]; omega)))) | exact True.intro | (show _ = _; first | with_reducible rfl | with_reducible assumption | omega | (simp only [ll1, ll2, ll0]; omega) | (skip; done) | exact rfl) | with_reducible assumption | (apply And.intro) | omega | (intro j hj; exact rfl)))
    (refine ⟨[0, 1], ⟨by kernel_rfl⟩, ?_⟩)
    (repeat' (first | (refine xI (fun hfk => ?_) (fun hfk => ?_) <;> ((try (first | replace hfk := oT hfk | replace hfk := oF hfk | simp only [oA, oB, dh1, dh0, ne_eq, reduceCtorEq] at hfk)); (try (exfalso; first | omega | contradiction | exact xF hfk (by with_reducible assumption) | exact xT hfk (by with_reducible assumption))))) | (refine And.intro ?ob ?_; (case ob => (first | exact Chk.mk (by kernel_rfl) | exact True.intro | with_reducible assumption | exact rng64 (by omega) (by omega) | omega | (dsimp only; omega) | (show (_ : Nat) ≤ _; omega) | (simp only [ll1, ll2, ll0]; first | done | omega) | (dsimp only; simp only [ll1, ll2, ll0]; omega)))) | exact True.intro | (show _ = _; first | with_reducible rfl | with_reducible assumption | omega | (simp only [ll1, ll2, ll0]; omega) | (skip; done) | exact rfl) | with_reducible assumption | (apply And.intro) | omega | (intro j hj; exact rfl)))
    refine ⟨[some 0, some 1], ?_⟩
    (repeat' (first | (refine xI (fun hfk => ?_) (fun hfk => ?_) <;> ((try (first | replace hfk := oT hfk | replace hfk := oF hfk | simp only [oA, oB, dh1, dh0, ne_eq, reduceCtorEq] at hfk)); (try (exfalso; first | omega | contradiction | exact xF hfk (by with_reducible assumption) | exact xT hfk (by with_reducible assumption))))) | (refine And.intro ?ob ?_; (case ob => (first | exact Chk.mk (by kernel_rfl) | exact True.intro | with_reducible assumption | exact rng64 (by omega) (by omega) | omega | (dsimp only; omega) | (show (_ : Nat) ≤ _; omega) | (simp only [ll1, ll2, ll0]; first | done | omega) | (dsimp only; simp only [ll1, ll2, ll0]; omega)))) | exact True.intro | (show _ = _; first | with_reducible rfl | with_reducible assumption | omega | (simp only [ll1, ll2, ll0]; omega) | (first | rfl | (show (_ : Int) = _; omega); done) | exact rfl) | with_reducible assumption | (apply And.intro) | omega | (intro j hj; exact rfl)))
  · have z : wordN (cR b a) (ByteArray.mk #[80, 53]).data.toList = 0 := by unfold wordN; rw [q5, if_neg k1]
    have ea : a + wordN (cR b a) (ByteArray.mk #[80, 53]).data.toList = a := by rw [z]; omega
    have e : kdC (cR b a) = wordC (cR b (a + wordN (cR b a) (ByteArray.mk #[80, 53]).data.toList)) (strI (ByteArray.mk #[80, 54]).data.toList) := by rw [ea, q6]; unfold kdC; rw [if_neg k1]
    have e1 : kdV (cR b a) = 3 := if_neg k1
    have e2 : a + (kdP (cR b a) : Int) = a + wordN (cR b a) (ByteArray.mk #[80, 53]).data.toList + wordN (cR b (a + wordN (cR b a) (ByteArray.mk #[80, 53]).data.toList)) (ByteArray.mk #[80, 54]).data.toList := by
      rw [ea]
      unfold kdP wordN
      have : kdC (cR b a) = wordC (cR b a) [80, 54] := if_neg k1
      rw [this, q6]
      by_cases k : wordC (cR b a) [80, 54] = 0
      · rw [if_pos k, if_pos k]; rfl
      · rw [if_neg k, if_neg k]; rfl
    have k2 : ¬ wordC (cR b a) (strI (ByteArray.mk #[80, 53]).data.toList) = 0 := k1
    rw [e, e1, e2]
    clear e e1 e2 q5 q6
    (repeat' (first | (refine xI (fun hfk => ?_) (fun hfk => ?_) <;> ((try (first | replace hfk := oT hfk | replace hfk := oF hfk | simp only [oA, oB, dh1, dh0, ne_eq, reduceCtorEq] at hfk)); (try (exfalso; first | omega | contradiction | exact xF hfk (by with_reducible assumption) | exact xT hfk (by with_reducible assumption))))) | (refine And.intro ?ob ?_; (case ob => (first | exact Chk.mk (by kernel_rfl) | exact True.intro | with_reducible assumption | exact rng64 (by omega) (by omega) | omega | (dsimp only; omega) | (show (_ : Nat) ≤ _; omega) | (simp only [ll1, ll2, ll0]; first | done | omega) | (dsimp only; simp only [ll1, ll2, ll0]; omega)))) | exact True.intro | (show _ = _; first | with_reducible rfl | with_reducible assumption | omega | (simp only [ll1, ll2, ll0]; omega) | (skip; done) | exact rfl) | with_reducible assumption | (apply And.intro) | omega | (intro j hj; exact rfl)))
    (refine ⟨[0, 1], ⟨by kernel_rfl⟩, ?_⟩)
    (repeat' (first | (refine xI (fun hfk => ?_) (fun hfk => ?_) <;> ((try (first | replace hfk := oT hfk | replace hfk := oF hfk | simp only [oA, oB, dh1, dh0, ne_eq, reduceCtorEq] at hfk)); (try (exfalso; first | omega | contradiction | exact xF hfk (by with_reducible assumption) | exact xT hfk (by with_reducible assumption))))) | (refine And.intro ?ob ?_; (case ob => (first | exact Chk.mk (by kernel_rfl) | exact True.intro | with_reducible assumption | exact rng64 (by omega) (by omega) | omega | (dsimp only; omega) | (show (_ : Nat) ≤ _; omega) | (simp only [ll1, ll2, ll0]; first | done | omega) | (dsimp only; simp only [ll1, ll2, ll0]; omega)))) | exact True.intro | (show _ = _; first | with_reducible rfl | with_reducible assumption | omega | (simp only [ll1, ll2, ll0]; omega) | (skip; done) | exact rfl) | with_reducible assumption | (apply And.intro) | omega | (intro j hj; exact rfl)))
    (refine ⟨[0, 1], ⟨by kernel_rfl⟩, ?_⟩)
    (repeat' (first | (refine xI (fun hfk => ?_) (fun hfk => ?_) <;> ((try (first | replace hfk := oT hfk | replace hfk := oF hfk | simp only [oA, oB, dh1, dh0, ne_eq, reduceCtorEq] at hfk)); (try (exfalso; first | omega | contradiction | exact xF hfk (by with_reducible assumption) | exact xT hfk (by with_reducible assumption))))) | (refine And.intro ?ob ?_; (case ob => (first | exact Chk.mk (by kernel_rfl) | exact True.intro | with_reducible assumption | exact rng64 (by omega) (by omega) | omega | (dsimp only; omega) | (show (_ : Nat) ≤ _; omega) | (simp only [ll1, ll2, ll0]; first | done | omega) | (dsimp only; simp only [ll1, ll2, ll0]; omega)))) | exact True.intro | (show _ = _; first | with_reducible rfl | with_reducible assumption | omega | (simp only [ll1, ll2, ll0]; omega) | (skip; done) | exact rfl) | with_reducible assumption | (apply And.intro) | omega | (intro j hj; exact rfl)))
    refine ⟨[some 0, some 1], ?_⟩
    (repeat' (first | (refine xI (fun hfk => ?_) (fun hfk => ?_) <;> ((try (first | replace hfk := oT hfk | replace hfk := oF hfk | simp only [oA, oB, dh1, dh0, ne_eq, reduceCtorEq] at hfk)); (try (exfalso; first | omega | contradiction | exact xF hfk (by with_reducible assumption) | exact xT hfk (by with_reducible assumption))))) | (refine And.intro ?ob ?_; (case ob => (first | exact Chk.mk (by kernel_rfl) | exact True.intro | with_reducible assumption | exact rng64 (by omega) (by omega) | omega | (dsimp only; omega) | (show (_ : Nat) ≤ _; omega) | (simp only [ll1, ll2, ll0]; first | done | omega) | (dsimp only; simp only [ll1, ll2, ll0]; omega)))) | exact True.intro | (show _ = _; first | with_reducible rfl | with_reducible assumption | omega | (simp only [ll1, ll2, ll0]; omega) | (first | rfl | (show (_ : Int) = _; omega); done) | exact rfl) | with_reducible assumption | (apply And.intro) | omega | (intro j hj; exact rfl)))
def pgE (r : List Int) : Int := if kdC r ≠ 0 then kdC r else if szC (r.drop 2) ≠ 0 then szC (r.drop 2) else dpC ((r.drop 2).drop (szP (r.drop 2)))
def pgW (r : List Int) : Int := if kdC r = 0 then szW (r.drop 2) else 0
def pgH (r : List Int) : Int := if kdC r = 0 then szH (r.drop 2) else 0
def pgP (r : List Int) : Int := if kdC r ≠ 0 then 0 else if szC (r.drop 2) ≠ 0 then 2 + (szP (r.drop 2) : Int) else 2 + (szP (r.drop 2) : Int) + dpP ((r.drop 2).drop (szP (r.drop 2)))
def pheadF : FSpec := fun l es => match l, es with
  | [.ptr 0 0], [.cells 69 [.sl 1 1 0 n, .int .i64 a], .ints 5 .u8 b] =>
    some ([n = b.length, 0 ≤ a, a ≤ b.length, b.length ≤ 140737488355328], .tup [.agg [.int .i64 (pgW (cR b a)), .int .i64 (pgH (cR b a)), .int .i64 (kdV (cR b a)), .nils], .int .i64 (pgE (cR b a))], [some (cutE n (a + pgP (cR b a))), some (bE b)])
  | _, _ => none
theorem phead_g : GSOK Tryd.prog 28 (fG pheadF) := by
  refine fokE (S := []) (G := glook [(46, fG pkindF), (47, fG psizeF)]) [(48, pdepF)] [] [] pok_nil (gl_cons pkind_g (gl_cons psize_g gl_nil)) (dl_cons pdep_g dl_nil) ⟨Tryd.func28, by kernel_rfl, by kernel_rfl, by kernel_rfl⟩ fun l es obs v es' h ho => ?_
  (unfold pheadF at h; split at h; rotate_left; (focus (cases h)); rename_i n a b; simp only [Option.some.injEq, Prod.mk.injEq] at h; obtain ⟨rfl, rfl, rfl⟩ := h; simp only [List.mem_cons, List.not_mem_nil, or_false, forall_eq_or_imp, forall_eq, false_implies, implies_true] at ho)
  obtain ⟨rfl, ho1, ho2, ho3⟩ := ho
  refine ⟨Nat.le_of_ble_eq_true rfl, ?_⟩
  have el : (cR b a).length = b.length - a.toNat := by simp
  have hk := kdP_le (cR b a)
  by_cases k1 : kdC (cR b a) = 0
  rotate_left
  · have e : pgE (cR b a) = kdC (cR b a) := if_pos k1
    have e1 : pgW (cR b a) = 0 := if_neg k1
    have e2 : pgH (cR b a) = 0 := if_neg k1
    have e3 : a + pgP (cR b a) = a + (kdP (cR b a) : Int) := by unfold pgP kdP; rw [if_pos k1, if_neg k1]; rfl
    rw [e, e1, e2, e3]
    clear e e1 e2 e3
    (repeat' (first | (refine xI (fun hfk => ?_) (fun hfk => ?_) <;> ((try (first | replace hfk := oT hfk | replace hfk := oF hfk | simp only [oA, oB, dh1, dh0, ne_eq, reduceCtorEq] at hfk)); (try (exfalso; first | omega | contradiction | exact xF hfk (by with_reducible assumption) | exact xT hfk (by with_reducible assumption))))) | (refine And.intro ?ob ?_; (case ob => (first | exact Chk.mk (by kernel_rfl) | exact True.intro | with_reducible assumption | exact rng64 (by omega) (by omega) | omega | (dsimp only; omega) | (show (_ : Nat) ≤ _; omega) | (simp only [ll1, ll2, ll0]; first | done | omega) | (dsimp only; simp only [ll1, ll2, ll0]; omega)))) | exact True.intro | (show _ = _; first | with_reducible rfl | with_reducible assumption | omega | (simp only [ll1, ll2, ll0]; omega) | (skip; done) | exact rfl) | with_reducible assumption | (apply And.intro) | omega | (intro j hj; exact rfl)))
    (refine ⟨[0, 1], ⟨by kernel_rfl⟩, ?_⟩)
    (repeat' (first | (refine xI (fun hfk => ?_) (fun hfk => ?_) <;> ((try (first | replace hfk := oT hfk | replace hfk := oF hfk | simp only [oA, oB, dh1, dh0, ne_eq, reduceCtorEq] at hfk)); (try (exfalso; first | omega | contradiction | exact xF hfk (by with_reducible assumption) | exact xT hfk (by with_reducible assumption))))) | (refine And.intro ?ob ?_; (case ob => (first | exact Chk.mk (by kernel_rfl) | exact True.intro | with_reducible assumption | exact rng64 (by omega) (by omega) | omega | (dsimp only; omega) | (show (_ : Nat) ≤ _; omega) | (simp only [ll1, ll2, ll0]; first | done | omega) | (dsimp only; simp only [ll1, ll2, ll0]; omega)))) | exact True.intro | (show _ = _; first | with_reducible rfl | with_reducible assumption | omega | (simp only [ll1, ll2, ll0]; omega) | (skip; done) | exact rfl) | with_reducible assumption | (apply And.intro) | omega | (intro j hj; exact rfl)))
    refine ⟨[some 0, some 1], ?_⟩
    (repeat' (first | (refine xI (fun hfk => ?_) (fun hfk => ?_) <;> ((try (first | replace hfk := oT hfk | replace hfk := oF hfk | simp only [oA, oB, dh1, dh0, ne_eq, reduceCtorEq] at hfk)); (try (exfalso; first | omega | contradiction | exact xF hfk (by with_reducible assumption) | exact xT hfk (by with_reducible assumption))))) | (refine And.intro ?ob ?_; (case ob => (first | exact Chk.mk (by kernel_rfl) | exact True.intro | with_reducible assumption | exact rng64 (by omega) (by omega) | omega | (dsimp only; omega) | (show (_ : Nat) ≤ _; omega) | (simp only [ll1, ll2, ll0]; first | done | omega) | (dsimp only; simp only [ll1, ll2, ll0]; omega)))) | exact True.intro | (show _ = _; first | with_reducible rfl | with_reducible assumption | omega | (simp only [ll1, ll2, ll0]; omega) | (first | rfl | (show (_ : Int) = _; omega); done) | exact rfl) | with_reducible assumption | (apply And.intro) | omega | (intro j hj; exact rfl)))
  have hp2 : kdP (cR b a) = 2 := if_pos k1
  have ec := cR_add (b := b) (a := a) (n := kdP (cR b a)) ho1
  have hs := szP_le (cR b (a + (kdP (cR b a) : Int)))
  have hl2 : (cR b (a + (kdP (cR b a) : Int))).length = b.length - (a + (kdP (cR b a) : Int)).toNat := by simp
  have e1 : pgW (cR b a) = szW (cR b (a + (kdP (cR b a) : Int))) := by rw [ec, hp2]; exact if_pos k1
  have e2 : pgH (cR b a) = szH (cR b (a + (kdP (cR b a) : Int))) := by rw [ec, hp2]; exact if_pos k1
  rw [e1, e2]
  clear e1 e2
  by_cases k2 : szC (cR b (a + (kdP (cR b a) : Int))) = 0
  rotate_left
  · have e : pgE (cR b a) = szC (cR b (a + (kdP (cR b a) : Int))) := by
      rw [ec, hp2] at k2 ⊢; unfold pgE; rw [if_neg (fun k => k k1), if_pos k2]
    have e3 : a + pgP (cR b a) = a + (kdP (cR b a) : Int) + (szP (cR b (a + (kdP (cR b a) : Int))) : Int) := by
      rw [ec, hp2] at k2 ⊢; unfold pgP; rw [if_neg (fun k => k k1), if_pos k2]; omega
    rw [e, e3]
    clear e e3 ec
    (repeat' (first | (refine xI (fun hfk => ?_) (fun hfk => ?_) <;> ((try (first | replace hfk := oT hfk | replace hfk := oF hfk | simp only [oA, oB, dh1, dh0, ne_eq, reduceCtorEq] at hfk)); (try (exfalso; first | omega | contradiction | exact xF hfk (by with_reducible assumption) | exact xT hfk (by with_reducible assumption))))) | (refine And.intro ?ob ?_; (case ob => (first | exact Chk.mk (by kernel_rfl) | exact True.intro | with_reducible assumption | exact rng64 (by omega) (by omega) | omega | (dsimp only; omega) | (show (_ : Nat) ≤ _; omega) | (simp only [ll1, ll2, ll0]; first | done | omega) | (dsimp only; simp only [ll1, ll2, ll0]; omega)))) | exact True.intro | (show _ = _; first | with_reducible rfl | with_reducible assumption | omega | (simp only [ll1, ll2, ll0]; omega) | (skip; done) | exact rfl) | with_reducible assumption | (apply And.intro) | omega | (intro j hj; exact rfl)))
    (refine ⟨[0, 1], ⟨by kernel_rfl⟩, ?_⟩)
    (repeat' (first | (refine xI (fun hfk => ?_) (fun hfk => ?_) <;> ((try (first | replace hfk := oT hfk | replace hfk := oF hfk | simp only [oA, oB, dh1, dh0, ne_eq, reduceCtorEq] at hfk)); (try (exfalso; first | omega | contradiction | exact xF hfk (by with_reducible assumption) | exact xT hfk (by with_reducible assumption))))) | (refine And.intro ?ob ?_; (case ob => (first | exact Chk.mk (by kernel_rfl) | exact True.intro | with_reducible assumption | exact rng64 (by omega) (by omega) | omega | (dsimp only; omega) | (show (_ : Nat) ≤ _; omega) | (simp only [ll1, ll2, ll0]; first | done | omega) | (dsimp only; simp only [ll1, ll2, ll0]; omega)))) | exact True.intro | (show _ = _; first | with_reducible rfl | with_reducible assumption | omega | (simp only [ll1, ll2, ll0]; omega) | (skip; done) | exact rfl) | with_reducible assumption | (apply And.intro) | omega | (intro j hj; exact rfl)))
    (refine ⟨[0, 1], ⟨by kernel_rfl⟩, ?_⟩)
    (repeat' (first | (refine xI (fun hfk => ?_) (fun hfk => ?_) <;> ((try (first | replace hfk := oT hfk | replace hfk := oF hfk | simp only [oA, oB, dh1, dh0, ne_eq, reduceCtorEq] at hfk)); (try (exfalso; first | omega | contradiction | exact xF hfk (by with_reducible assumption) | exact xT hfk (by with_reducible assumption))))) | (refine And.intro ?ob ?_; (case ob => (first | exact Chk.mk (by kernel_rfl) | exact True.intro | with_reducible assumption | exact rng64 (by omega) (by omega) | omega | (dsimp only; omega) | (show (_ : Nat) ≤ _; omega) | (simp only [ll1, ll2, ll0]; first | done | omega) | (dsimp only; simp only [ll1, ll2, ll0]; omega)))) | exact True.intro | (show _ = _; first | with_reducible rfl | with_reducible assumption | omega | (simp only [ll1, ll2, ll0]; omega) | (skip; done) | exact rfl) | with_reducible assumption | (apply And.intro) | omega | (intro j hj; exact rfl)))
    refine ⟨[some 0, some 1], ?_⟩
    (repeat' (first | (refine xI (fun hfk => ?_) (fun hfk => ?_) <;> ((try (first | replace hfk := oT hfk | replace hfk := oF hfk | simp only [oA, oB, dh1, dh0, ne_eq, reduceCtorEq] at hfk)); (try (exfalso; first | omega | contradiction | exact xF hfk (by with_reducible assumption) | exact xT hfk (by with_reducible assumption))))) | (refine And.intro ?ob ?_; (case ob => (first | exact Chk.mk (by kernel_rfl) | exact True.intro | with_reducible assumption | exact rng64 (by omega) (by omega) | omega | (dsimp only; omega) | (show (_ : Nat) ≤ _; omega) | (simp only [ll1, ll2, ll0]; first | done | omega) | (dsimp only; simp only [ll1, ll2, ll0]; omega)))) | exact True.intro | (show _ = _; first | with_reducible rfl | with_reducible assumption | omega | (simp only [ll1, ll2, ll0]; omega) | (first | rfl | (show (_ : Int) = _; omega); done) | exact rfl) | with_reducible assumption | (apply And.intro) | omega | (intro j hj; exact rfl)))
  have ed := cR_add (b := b) (a := a + (kdP (cR b a) : Int)) (n := szP (cR b (a + (kdP (cR b a) : Int)))) (by omega)
  have e : pgE (cR b a) = dpC (cR b (a + (kdP (cR b a) : Int) + (szP (cR b (a + (kdP (cR b a) : Int))) : Int))) := by
    rw [ed]
    rw [ec, hp2] at k2 ⊢; unfold pgE; rw [if_neg (fun k => k k1), if_neg (fun k => k k2)]
  have e3 : a + pgP (cR b a) = a + (kdP (cR b a) : Int) + (szP (cR b (a + (kdP (cR b a) : Int))) : Int) + dpP (cR b (a + (kdP (cR b a) : Int) + (szP (cR b (a + (kdP (cR b a) : Int))) : Int))) := by
    rw [ed]
    rw [ec, hp2] at k2 ⊢; unfold pgP; rw [if_neg (fun k => k k1), if_neg (fun k => k k2)]; omega
  rw [e, e3]
  clear e e3 ec ed
  (repeat' (first | (refine xI (fun hfk => ?_) (fun hfk => ?_) <;> ((try (first | replace hfk := oT hfk | replace hfk := oF hfk | simp only [oA, oB, dh1, dh0, ne_eq, reduceCtorEq] at hfk)); (try (exfalso; first | omega | contradiction | exact xF hfk (by with_reducible assumption) | exact xT hfk (by with_reducible assumption))))) | (refine And.intro ?ob ?_; (case ob => (first | exact Chk.mk (by kernel_rfl) | exact True.intro | with_reducible assumption | exact rng64 (by omega) (by omega) | omega | (dsimp only; omega) | (show (_ : Nat) ≤ _; omega) | (simp only [ll1, ll2, ll0]; first | done | omega) | (dsimp only; simp only [ll1, ll2, ll0]; omega)))) | exact True.intro | (show _ = _; first | with_reducible rfl | with_reducible assumption | omega | (simp only [ll1, ll2, ll0]; omega) | (skip; done) | exact rfl) | with_reducible assumption | (apply And.intro) | omega | (intro j hj; exact rfl)))
  (refine ⟨[0, 1], ⟨by kernel_rfl⟩, ?_⟩)
  (repeat' (first | (refine xI (fun hfk => ?_) (fun hfk => ?_) <;> ((try (first | replace hfk := oT hfk | replace hfk := oF hfk | simp only [oA, oB, dh1, dh0, ne_eq, reduceCtorEq] at hfk)); (try (exfalso; first | omega | contradiction | exact xF hfk (by with_reducible assumption) | exact xT hfk (by with_reducible assumption))))) | (refine And.intro ?ob ?_; (case ob => (first | exact Chk.mk (by kernel_rfl) | exact True.intro | with_reducible assumption | exact rng64 (by omega) (by omega) | omega | (dsimp only; omega) | (show (_ : Nat) ≤ _; omega) | (simp only [ll1, ll2, ll0]; first | done | omega) | (dsimp only; simp only [ll1, ll2, ll0]; omega)))) | exact True.intro | (show _ = _; first | with_reducible rfl | with_reducible assumption | omega | (simp only [ll1, ll2, ll0]; omega) | (skip; done) | exact rfl) | with_reducible assumption | (apply And.intro) | omega | (intro j hj; exact rfl)))
  (refine ⟨[0, 1], ⟨by kernel_rfl⟩, ?_⟩)
  (repeat' (first | (refine xI (fun hfk => ?_) (fun hfk => ?_) <;> ((try (first | replace hfk := oT hfk | replace hfk := oF hfk | simp only [oA, oB, dh1, dh0, ne_eq, reduceCtorEq] at hfk)); (try (exfalso; first | omega | contradiction | exact xF hfk (by with_reducible assumption) | exact xT hfk (by with_reducible assumption))))) | (refine And.intro ?ob ?_; (case ob => (first | exact Chk.mk (by kernel_rfl) | exact True.intro | with_reducible assumption | exact rng64 (by omega) (by omega) | omega | (dsimp only; omega) | (show (_ : Nat) ≤ _; omega) | (simp only [ll1, ll2, ll0]; first | done | omega) | (dsimp only; simp only [ll1, ll2, ll0]; omega)))) | exact True.intro | (show _ = _; first | with_reducible rfl | with_reducible assumption | omega | (simp only [ll1, ll2, ll0]; omega) | (skip; done) | exact rfl) | with_reducible assumption | (apply And.intro) | omega | (intro j hj; exact rfl)))
  refine ⟨[some 0, some 1], ?_⟩
  (repeat' (first | (refine xI (fun hfk => ?_) (fun hfk => ?_) <;> ((try (first | replace hfk := oT hfk | replace hfk := oF hfk | simp only [oA, oB, dh1, dh0, ne_eq, reduceCtorEq] at hfk)); (try (exfalso; first | omega | contradiction | exact xF hfk (by with_reducible assumption) | exact xT hfk (by with_reducible assumption))))) | (refine And.intro ?ob ?_; (case ob => (first | exact Chk.mk (by kernel_rfl) | exact True.intro | with_reducible assumption | exact rng64 (by omega) (by omega) | omega | (dsimp only; omega) | (show (_ : Nat) ≤ _; omega) | (simp only [ll1, ll2, ll0]; first | done | omega) | (dsimp only; simp only [ll1, ll2, ll0]; omega)))) | exact True.intro | (show _ = _; first | with_reducible rfl | with_reducible assumption | omega | (simp only [ll1, ll2, ll0]; omega) | (first | rfl | (show (_ : Int) = _; omega); done) | exact rfl) | with_reducible assumption | (apply And.intro) | omega | (intro j hj; exact rfl)))
end Go.Proofs.YtocboijpmmlegaaDoor
namespace Go.Proofs.YtocboijpmmlegaaDoor
open Go Go.RowKit
set_option maxHeartbeats 4000000
theorem oneV_bd (r : List Int) : 0 ≤ (oneV r).1 ∧ (oneV r).1 ≤ r.length := by
  unfold oneV
  (repeat' split) <;> simp <;> omega
theorem dpP_bd (r : List Int) : 0 ≤ dpP r ∧ dpP r ≤ r.length := by
  have h1 := nbP_le r 255
  have h2 := oneV_bd (r.drop (nbP r 255))
  rw [List.length_drop] at h2
  unfold dpP
  split <;> omega
theorem pgP_bd (r : List Int) : 0 ≤ pgP r ∧ pgP r ≤ r.length := by
  have h1 := szP_le (r.drop 2)
  have h2 := dpP_bd ((r.drop 2).drop (szP (r.drop 2)))
  have h3 := kdP_le r
  rw [List.length_drop, List.length_drop] at h2
  rw [List.length_drop] at h1
  unfold pgP
  unfold kdP at h3
  split
  · omega
  · rename_i k
    rw [if_pos (Classical.not_not.1 k)] at h3
    split <;> omega
def pnN (r : List Int) : Int := pgW r * pgH r * kdV r
def pnE (b : List Int) : Int := if pgE b ≠ 0 then pgE b else if (b.length : Int) - pgP b < pnN b then 20 else if pnN b < (b.length : Int) - pgP b then 22 else 0
def pnL (b : List Int) : List Int := if pnE b = 0 then b.drop (pgP b).toNat else []
def pnK (b : List Int) (x : Int) : Int := if pnE b = 0 then x else 0
theorem pn_bad {b : List Int} (h : pnE b ≠ 0) : (∀ x, pnK b x = 0) ∧ pnL b = [] := ⟨fun x => if_neg h, if_neg h⟩
theorem szC0 {r : List Int} (h : szC r = 0) : 1 ≤ szW r ∧ szW r ≤ 32768 ∧ 1 ≤ szH r ∧ szH r ≤ 32768 ∧ szW r * szH r ≤ 4194304 := by
  have e1 : szW r = nbV r 32768 := if_pos h
  have e2 : szH r = nbV (r.drop (nbP r 32768)) 32768 := if_pos h
  have r1 := nbV_rng r (m := 32768) (by decide)
  have r2 := nbV_rng (r.drop (nbP r 32768)) (m := 32768) (by decide)
  rw [e1, e2]
  unfold szC at h
  split at h
  · rename_i k; exact absurd h k
  split at h
  · rename_i k; exact absurd h k
  split at h
  · cases h
  split at h
  · cases h
  omega
theorem kdV_cs (r : List Int) : kdV r = 1 ∨ kdV r = 3 := by unfold kdV; split <;> simp
theorem pgE0 {b : List Int} (h : pgE b = 0) : kdC b = 0 ∧ szC (b.drop 2) = 0 ∧ dpC ((b.drop 2).drop (szP (b.drop 2))) = 0 := by
  unfold pgE at h
  split at h
  · rename_i k; exact absurd h k
  rename_i k
  split at h
  · rename_i k2; exact absurd h k2
  rename_i k2
  exact ⟨Classical.not_not.1 k, Classical.not_not.1 k2, h⟩
theorem pn_sz {b : List Int} (h : pgE b = 0) : 1 ≤ pgW b ∧ pgW b ≤ 32768 ∧ 1 ≤ pgH b ∧ pgH b ≤ 32768 ∧ pgW b * pgH b ≤ 4194304 ∧ 0 ≤ pgW b * pgH b ∧ 0 ≤ pnN b ∧ pnN b ≤ 16777216 := by
  obtain ⟨k1, k2, _⟩ := pgE0 h
  have e1 : pgW b = szW (b.drop 2) := if_pos k1
  have e2 : pgH b = szH (b.drop 2) := if_pos k1
  obtain ⟨a1, a2, a3, a4, a5⟩ := szC0 k2
  have h0 : 0 ≤ pgW b * pgH b := Int.mul_nonneg (by omega) (by omega)
  rw [← e1, ← e2] at a5
  unfold pnN
  rcases kdV_cs b with k | k <;> rw [k] <;> exact ⟨by omega, by omega, by omega, by omega, by omega, by omega, by omega, by omega⟩
abbrev pnmS : PSpec := fun l => match l with
  | [.roi .u8 b] => some ([Byt b], .tup [imA (pnK b (pgW b)) (pnK b (pgH b)) (pnK b (kdV b)) (pnL b), .int .i64 (pnE b)])
  | _ => none
theorem pread_s : SOK Tryd.prog 16 pnmS := by
  refine sok_of (C := mkC 0 [(29, leftS)] (glook [(27, fG newcF), (28, fG pheadF), (30, fG takeF)])) (mkC_ok (pok_cons left_s pok_nil) (gl_cons newc_g (gl_cons phead_g (gl_cons take_g gl_nil)))) rfl mixed ⟨Tryd.func16, by kernel_rfl, by kernel_rfl, by kernel_rfl⟩ fun l obs v h ho => ?_
  (unfold pnmS at h; split at h; rotate_left; (focus (cases h)); rename_i b; simp only [Option.some.injEq, Prod.mk.injEq] at h; obtain ⟨rfl, rfl⟩ := h; simp only [List.mem_cons, List.not_mem_nil, or_false, forall_eq_or_imp, forall_eq, false_implies, implies_true] at ho)
  refine ⟨Nat.le_of_ble_eq_true rfl, ?_⟩
  have bl := ho.le
  have c0 : cR b 0 = b := by rw [cR_eq]; rfl
  have hp := pgP_bd b
  by_cases k1 : pgE b = 0
  rotate_left
  · have e : pnE b = pgE b := if_pos k1
    obtain ⟨z1, z2⟩ := pn_bad (b := b) (by rw [e]; exact k1)
    rw [z1, z1, z1, z2, e]
    rw [← c0] at k1
    have ee : pgE (cR b 0) = pgE b := by rw [c0]
    (repeat' (first | (refine xI (fun hfk => ?_) (fun hfk => ?_) <;> ((try (first | replace hfk := oT hfk | replace hfk := oF hfk | simp only [oA, oB, dh1, dh0, ne_eq, reduceCtorEq] at hfk)); (try (exfalso; first | omega | contradiction | exact xF hfk (by with_reducible assumption) | exact xT hfk (by with_reducible assumption))))) | (refine And.intro ?ob ?_; (case ob => (first | exact Chk.mk (by kernel_rfl) | exact True.intro | with_reducible assumption | exact rng64 (by omega) (by omega) | omega | (dsimp only; omega) | (show (_ : Nat) ≤ _; omega) | (simp only [ll1, ll2, ll0]; first | done | omega) | (dsimp only; simp only [ll1, ll2, ll0]; omega)))) | exact True.intro | (show _ = _; first | with_reducible rfl | with_reducible assumption | omega | (simp only [ll1, ll2, ll0]; omega) | (skip; done) | exact rfl) | with_reducible assumption | (apply And.intro) | omega | (intro j hj; exact rfl)))
    (refine ⟨[], ⟨by kernel_rfl⟩, ?_⟩)
    (repeat' (first | (refine xI (fun hfk => ?_) (fun hfk => ?_) <;> ((try (first | replace hfk := oT hfk | replace hfk := oF hfk | simp only [oA, oB, dh1, dh0, ne_eq, reduceCtorEq] at hfk)); (try (exfalso; first | omega | contradiction | exact xF hfk (by with_reducible assumption) | exact xT hfk (by with_reducible assumption))))) | (refine And.intro ?ob ?_; (case ob => (first | exact Chk.mk (by kernel_rfl) | exact True.intro | with_reducible assumption | exact rng64 (by omega) (by omega) | omega | (dsimp only; omega) | (show (_ : Nat) ≤ _; omega) | (simp only [ll1, ll2, ll0]; first | done | omega) | (dsimp only; simp only [ll1, ll2, ll0]; omega)))) | exact True.intro | (show _ = _; first | with_reducible rfl | with_reducible assumption | omega | (simp only [ll1, ll2, ll0]; omega) | (skip; done) | exact rfl) | with_reducible assumption | (apply And.intro) | omega | (intro j hj; exact rfl)))
    (refine ⟨[1, 2], ⟨by kernel_rfl⟩, ?_⟩)
    (repeat' (first | (refine xI (fun hfk => ?_) (fun hfk => ?_) <;> ((try (first | replace hfk := oT hfk | replace hfk := oF hfk | simp only [oA, oB, dh1, dh0, ne_eq, reduceCtorEq] at hfk)); (try (exfalso; first | omega | contradiction | exact xF hfk (by with_reducible assumption) | exact xT hfk (by with_reducible assumption))))) | (refine And.intro ?ob ?_; (case ob => (first | exact Chk.mk (by kernel_rfl) | exact True.intro | with_reducible assumption | exact rng64 (by omega) (by omega) | omega | (dsimp only; omega) | (show (_ : Nat) ≤ _; omega) | (simp only [ll1, ll2, ll0]; first | done | omega) | (dsimp only; simp only [ll1, ll2, ll0]; omega)))) | exact True.intro | (show _ = _; first | with_reducible rfl | with_reducible assumption | omega | (simp only [ll1, ll2, ll0]; omega) | (exact ee; done) | exact rfl) | with_reducible assumption | (apply And.intro) | omega | (intro j hj; exact rfl)))
  obtain ⟨a1, a2, a3, a4, a5, a6, a7, a8⟩ := pn_sz k1
  have k0 : pgE (cR b 0) = 0 := by rw [c0]; exact k1
  have eW : pgW (cR b 0) = pgW b := by rw [c0]
  have eH : pgH (cR b 0) = pgH b := by rw [c0]
  have eC : kdV (cR b 0) = kdV b := by rw [c0]
  have eP : pgP (cR b 0) = pgP b := by rw [c0]
  have eN : pgW (cR b 0) * pgH (cR b 0) * kdV (cR b 0) = pnN b := by rw [c0]; rfl
  have eM : pgW (cR b 0) * pgH (cR b 0) = pgW b * pgH b := by rw [c0]
  have r1 : rngI .i64 (pgW (cR b 0) * pgH (cR b 0)) := by rw [eM]; exact rng64 (by omega) (by omega)
  have r2 : rngI .i64 (pgW (cR b 0) * pgH (cR b 0) * kdV (cR b 0)) := by rw [eN]; exact rng64 (by omega) (by omega)
  have tl : (List.take b.length (List.drop 0 b)).length = b.length := by simp
  by_cases k2 : (b.length : Int) - pgP b < pnN b
  · have e : pnE b = 20 := by unfold pnE; rw [if_neg (fun k => k k1), if_pos k2]
    obtain ⟨z1, z2⟩ := pn_bad (b := b) (by rw [e]; decide)
    rw [z1, z1, z1, z2, e]
    clear eW eH eC eM z1 z2 e
    (repeat' (first | (refine xI (fun hfk => ?_) (fun hfk => ?_) <;> ((try (first | replace hfk := oT hfk | replace hfk := oF hfk | simp only [oA, oB, dh1, dh0, ne_eq, reduceCtorEq] at hfk)); (try (exfalso; first | omega | contradiction | exact xF hfk (by with_reducible assumption) | exact xT hfk (by with_reducible assumption))))) | (refine And.intro ?ob ?_; (case ob => (first | exact Chk.mk (by kernel_rfl) | exact True.intro | with_reducible assumption | exact rng64 (by omega) (by omega) | omega | (dsimp only; omega) | (show (_ : Nat) ≤ _; omega) | (simp only [ll1, ll2, ll0]; first | done | omega) | (dsimp only; simp only [ll1, ll2, ll0]; omega)))) | exact True.intro | (show _ = _; first | with_reducible rfl | with_reducible assumption | omega | (simp only [ll1, ll2, ll0]; omega) | (skip; done) | exact rfl) | with_reducible assumption | (apply And.intro) | omega | (intro j hj; exact rfl)))
    (refine ⟨[], ⟨by kernel_rfl⟩, ?_⟩)
    (repeat' (first | (refine xI (fun hfk => ?_) (fun hfk => ?_) <;> ((try (first | replace hfk := oT hfk | replace hfk := oF hfk | simp only [oA, oB, dh1, dh0, ne_eq, reduceCtorEq] at hfk)); (try (exfalso; first | omega | contradiction | exact xF hfk (by with_reducible assumption) | exact xT hfk (by with_reducible assumption))))) | (refine And.intro ?ob ?_; (case ob => (first | exact Chk.mk (by kernel_rfl) | exact True.intro | with_reducible assumption | exact rng64 (by omega) (by omega) | omega | (dsimp only; omega) | (show (_ : Nat) ≤ _; omega) | (simp only [ll1, ll2, ll0]; first | done | omega) | (dsimp only; simp only [ll1, ll2, ll0]; omega)))) | exact True.intro | (show _ = _; first | with_reducible rfl | with_reducible assumption | omega | (simp only [ll1, ll2, ll0]; omega) | (skip; done) | exact rfl) | with_reducible assumption | (apply And.intro) | omega | (intro j hj; exact rfl)))
    (refine ⟨[1, 2], ⟨by kernel_rfl⟩, ?_⟩)
    (repeat' (first | (refine xI (fun hfk => ?_) (fun hfk => ?_) <;> ((try (first | replace hfk := oT hfk | replace hfk := oF hfk | simp only [oA, oB, dh1, dh0, ne_eq, reduceCtorEq] at hfk)); (try (exfalso; first | omega | contradiction | exact xF hfk (by with_reducible assumption) | exact xT hfk (by with_reducible assumption))))) | (refine And.intro ?ob ?_; (case ob => (first | exact Chk.mk (by kernel_rfl) | exact True.intro | with_reducible assumption | exact rng64 (by omega) (by omega) | omega | (dsimp only; omega) | (show (_ : Nat) ≤ _; omega) | (simp only [ll1, ll2, ll0]; first | done | omega) | (dsimp only; simp only [ll1, ll2, ll0]; omega)))) | exact True.intro | (show _ = _; first | with_reducible rfl | with_reducible assumption | omega | (simp only [ll1, ll2, ll0]; omega) | (rfl; done) | exact rfl) | with_reducible assumption | (apply And.intro) | omega | (intro j hj; exact rfl)))
  by_cases k3 : pnN b < (b.length : Int) - pgP b
  · have e : pnE b = 22 := by unfold pnE; rw [if_neg (fun k => k k1), if_neg k2, if_pos k3]
    obtain ⟨z1, z2⟩ := pn_bad (b := b) (by rw [e]; decide)
    rw [z1, z1, z1, z2, e]
    clear eW eH eC eM z1 z2 e
    (repeat' (first | (refine xI (fun hfk => ?_) (fun hfk => ?_) <;> ((try (first | replace hfk := oT hfk | replace hfk := oF hfk | simp only [oA, oB, dh1, dh0, ne_eq, reduceCtorEq] at hfk)); (try (exfalso; first | omega | contradiction | exact xF hfk (by with_reducible assumption) | exact xT hfk (by with_reducible assumption))))) | (refine And.intro ?ob ?_; (case ob => (first | exact Chk.mk (by kernel_rfl) | exact True.intro | with_reducible assumption | exact rng64 (by omega) (by omega) | omega | (dsimp only; omega) | (show (_ : Nat) ≤ _; omega) | (simp only [ll1, ll2, ll0]; first | done | omega) | (dsimp only; simp only [ll1, ll2, ll0]; omega)))) | exact True.intro | (show _ = _; first | with_reducible rfl | with_reducible assumption | omega | (simp only [ll1, ll2, ll0]; omega) | (skip; done) | exact rfl) | with_reducible assumption | (apply And.intro) | omega | (intro j hj; exact rfl)))
    (refine ⟨[], ⟨by kernel_rfl⟩, ?_⟩)
    (repeat' (first | (refine xI (fun hfk => ?_) (fun hfk => ?_) <;> ((try (first | replace hfk := oT hfk | replace hfk := oF hfk | simp only [oA, oB, dh1, dh0, ne_eq, reduceCtorEq] at hfk)); (try (exfalso; first | omega | contradiction | exact xF hfk (by with_reducible assumption) | exact xT hfk (by with_reducible assumption))))) | (refine And.intro ?ob ?_; (case ob => (first | exact Chk.mk (by kernel_rfl) | exact True.intro | with_reducible assumption | exact rng64 (by omega) (by omega) | omega | (dsimp only; omega) | (show (_ : Nat) ≤ _; omega) | (simp only [ll1, ll2, ll0]; first | done | omega) | (dsimp only; simp only [ll1, ll2, ll0]; omega)))) | exact True.intro | (show _ = _; first | with_reducible rfl | with_reducible assumption | omega | (simp only [ll1, ll2, ll0]; omega) | (skip; done) | exact rfl) | with_reducible assumption | (apply And.intro) | omega | (intro j hj; exact rfl)))
    (refine ⟨[1, 2], ⟨by kernel_rfl⟩, ?_⟩)
    (repeat' (first | (refine xI (fun hfk => ?_) (fun hfk => ?_) <;> ((try (first | replace hfk := oT hfk | replace hfk := oF hfk | simp only [oA, oB, dh1, dh0, ne_eq, reduceCtorEq] at hfk)); (try (exfalso; first | omega | contradiction | exact xF hfk (by with_reducible assumption) | exact xT hfk (by with_reducible assumption))))) | (refine And.intro ?ob ?_; (case ob => (first | exact Chk.mk (by kernel_rfl) | exact True.intro | with_reducible assumption | exact rng64 (by omega) (by omega) | omega | (dsimp only; omega) | (show (_ : Nat) ≤ _; omega) | (simp only [ll1, ll2, ll0]; first | done | omega) | (dsimp only; simp only [ll1, ll2, ll0]; omega)))) | exact True.intro | (show _ = _; first | with_reducible rfl | with_reducible assumption | omega | (simp only [ll1, ll2, ll0]; omega) | (rfl; done) | exact rfl) | with_reducible assumption | (apply And.intro) | omega | (intro j hj; exact rfl)))
  have e : pnE b = 0 := by unfold pnE; rw [if_neg (fun k => k k1), if_neg k2, if_neg k3]
  have f1 : pnK b (pgW b) = pgW (cR b 0) := (if_pos e).trans eW.symm
  have f2 : pnK b (pgH b) = pgH (cR b 0) := (if_pos e).trans eH.symm
  have f3 : pnK b (kdV b) = kdV (cR b 0) := (if_pos e).trans eC.symm
  have f4 : pnL b = b.drop (pgP b).toNat := if_pos e
  rw [f1, f2, f3, f4, e]
  have tk : takeC ((b.length : Int) - (0 + pgP (cR b 0))) (pgW (cR b 0) * pgH (cR b 0) * kdV (cR b 0)) = 0 := by
    unfold takeC; rw [if_neg (by omega), if_neg (by omega)]
  have tL : takeL (cR b (0 + pgP (cR b 0))) (pgW (cR b 0) * pgH (cR b 0) * kdV (cR b 0)) = b.drop (pgP b).toNat := by
    have h1 : cR b (0 + pgP (cR b 0)) = b.drop (pgP b).toNat := by rw [cR_eq, eP, Int.zero_add]
    rw [h1]
    unfold takeL
    rw [List.length_drop, show ((b.length - (pgP b).toNat : Nat) : Int) = (b.length : Int) - (0 + pgP (cR b 0)) by omega, if_pos tk, List.take_of_length_le (by rw [List.length_drop]; omega)]
  have tM : List.take (takeL (cR b (0 + pgP (cR b 0))) (pgW (cR b 0) * pgH (cR b 0) * kdV (cR b 0))).length (List.drop 0 (takeL (cR b (0 + pgP (cR b 0))) (pgW (cR b 0) * pgH (cR b 0) * kdV (cR b 0)))) = b.drop (pgP b).toNat := by
    rw [tL, List.drop_zero, List.take_length]
  clear f1 f2 f3 f4 eW eH eC eM tL
  (repeat' (first | (refine xI (fun hfk => ?_) (fun hfk => ?_) <;> ((try (first | replace hfk := oT hfk | replace hfk := oF hfk | simp only [oA, oB, dh1, dh0, ne_eq, reduceCtorEq] at hfk)); (try (exfalso; first | omega | contradiction | exact xF hfk (by with_reducible assumption) | exact xT hfk (by with_reducible assumption))))) | (refine And.intro ?ob ?_; (case ob => (first | exact Chk.mk (by kernel_rfl) | exact True.intro | with_reducible assumption | exact rng64 (by omega) (by omega) | omega | (dsimp only; omega) | (show (_ : Nat) ≤ _; omega) | (simp only [ll1, ll2, ll0]; first | done | omega) | (dsimp only; simp only [ll1, ll2, ll0]; omega)))) | exact True.intro | (show _ = _; first | with_reducible rfl | with_reducible assumption | omega | (simp only [ll1, ll2, ll0]; omega) | (skip; done) | exact rfl) | with_reducible assumption | (apply And.intro) | omega | (intro j hj; exact rfl)))
  (refine ⟨[], ⟨by kernel_rfl⟩, ?_⟩)
  (repeat' (first | (refine xI (fun hfk => ?_) (fun hfk => ?_) <;> ((try (first | replace hfk := oT hfk | replace hfk := oF hfk | simp only [oA, oB, dh1, dh0, ne_eq, reduceCtorEq] at hfk)); (try (exfalso; first | omega | contradiction | exact xF hfk (by with_reducible assumption) | exact xT hfk (by with_reducible assumption))))) | (refine And.intro ?ob ?_; (case ob => (first | exact Chk.mk (by kernel_rfl) | exact True.intro | with_reducible assumption | exact rng64 (by omega) (by omega) | omega | (dsimp only; omega) | (show (_ : Nat) ≤ _; omega) | (simp only [ll1, ll2, ll0]; first | done | omega) | (dsimp only; simp only [ll1, ll2, ll0]; omega)))) | exact True.intro | (show _ = _; first | with_reducible rfl | with_reducible assumption | omega | (simp only [ll1, ll2, ll0]; omega) | (skip; done) | exact rfl) | with_reducible assumption | (apply And.intro) | omega | (intro j hj; exact rfl)))
  (refine ⟨[1, 2], ⟨by kernel_rfl⟩, ?_⟩)
  (repeat' (first | (refine xI (fun hfk => ?_) (fun hfk => ?_) <;> ((try (first | replace hfk := oT hfk | replace hfk := oF hfk | simp only [oA, oB, dh1, dh0, ne_eq, reduceCtorEq] at hfk)); (try (exfalso; first | omega | contradiction | exact xF hfk (by with_reducible assumption) | exact xT hfk (by with_reducible assumption))))) | (refine And.intro ?ob ?_; (case ob => (first | exact Chk.mk (by kernel_rfl) | exact True.intro | with_reducible assumption | exact rng64 (by omega) (by omega) | omega | (dsimp only; omega) | (show (_ : Nat) ≤ _; omega) | (simp only [ll1, ll2, ll0]; first | done | omega) | (dsimp only; simp only [ll1, ll2, ll0]; omega)))) | exact True.intro | (show _ = _; first | with_reducible rfl | with_reducible assumption | omega | (simp only [ll1, ll2, ll0]; omega) | (skip; done) | exact rfl) | with_reducible assumption | (apply And.intro) | omega | (intro j hj; exact rfl)))
  (refine ⟨[1, 2], ⟨by kernel_rfl⟩, ?_⟩)
  (repeat' (first | (refine xI (fun hfk => ?_) (fun hfk => ?_) <;> ((try (first | replace hfk := oT hfk | replace hfk := oF hfk | simp only [oA, oB, dh1, dh0, ne_eq, reduceCtorEq] at hfk)); (try (exfalso; first | omega | contradiction | exact xF hfk (by with_reducible assumption) | exact xT hfk (by with_reducible assumption))))) | (refine And.intro ?ob ?_; (case ob => (first | exact Chk.mk (by kernel_rfl) | exact True.intro | with_reducible assumption | exact rng64 (by omega) (by omega) | omega | (dsimp only; omega) | (show (_ : Nat) ≤ _; omega) | (simp only [ll1, ll2, ll0]; first | done | omega) | (dsimp only; simp only [ll1, ll2, ll0]; omega)))) | exact True.intro | (show _ = _; first | with_reducible rfl | with_reducible assumption | omega | (simp only [ll1, ll2, ll0]; omega) | (first | exact tM | exact tk | rfl; done) | exact rfl) | with_reducible assumption | (apply And.intro) | omega | (intro j hj; exact rfl)))
end Go.Proofs.YtocboijpmmlegaaDoor
namespace Go.Proofs.YtocboijpmmlegaaDoor
open Go Go.Shelf
def sh_laysM171_ren : Go.Shelf.Ren := ⟨fun | 171 => 26 | 243 => 44 | 246 => 73 | 283 => 85 | 284 => 86 | 285 => 87 | 286 => 88 | 129 => 94 | 317 => 93 | 318 => 95 | 319 => 96 | 320 => 97 | 337 => 100 | 338 => 101 | n => n, fun | 3 => 3 | 9 => 9 | 2 => 2 | 4 => 4 | 171 => 116 | 0 => 0 | 53 => 64 | 37 => 22 | 5 => 5 | 173 => 119 | 212 => 126 | 51 => 87 | 20 => 20 | 213 => 127 | 46 => 123 | 232 => 131 | 233 => 132 | n => n, fun | 17 => 0 | 18 => 1 | 19 => 2 | n => n⟩
theorem sh_laysM171 : Go.Proofs.LaysM.n171 Tryd.prog sh_laysM171_ren := {
  mixed := by kernel_rfl
  f129 := Tryd.func94.trans (congrArg some (by kernel_rfl))
  f171 := Tryd.func26.trans (congrArg some (by kernel_rfl))
  f243 := Tryd.func44.trans (congrArg some (by kernel_rfl))
  f246 := Tryd.func73.trans (congrArg some (by kernel_rfl))
  f283 := Tryd.func85.trans (congrArg some (by kernel_rfl))
  f284 := Tryd.func86.trans (congrArg some (by kernel_rfl))
  f285 := Tryd.func87.trans (congrArg some (by kernel_rfl))
  f286 := Tryd.func88.trans (congrArg some (by kernel_rfl))
  f317 := Tryd.func93.trans (congrArg some (by kernel_rfl))
  f318 := Tryd.func95.trans (congrArg some (by kernel_rfl))
  f319 := Tryd.func96.trans (congrArg some (by kernel_rfl))
  f320 := Tryd.func97.trans (congrArg some (by kernel_rfl))
  f337 := Tryd.func100.trans (congrArg some (by kernel_rfl))
  f338 := Tryd.func101.trans (congrArg some (by kernel_rfl))
  t0 := Tryd.underlying0
  a0 := Tryd.isAgg0
  z0 := Tryd.sizeOf0
  v0 := Tryd.zeroValue0
  t2 := Tryd.underlying2
  a2 := Tryd.isAgg2
  z2 := Tryd.sizeOf2
  v2 := Tryd.zeroValue2
  t3 := Tryd.underlying3
  a3 := Tryd.isAgg3
  z3 := Tryd.sizeOf3
  v3 := Tryd.zeroValue3
  t4 := Tryd.underlying4
  a4 := Tryd.isAgg4
  z4 := Tryd.sizeOf4
  v4 := Tryd.zeroValue4
  t5 := Tryd.underlying5
  a5 := Tryd.isAgg5
  z5 := Tryd.sizeOf5
  v5 := Tryd.zeroValue5
  t9 := Tryd.underlying9
  a9 := Tryd.isAgg9
  z9 := Tryd.sizeOf9
  v9 := Tryd.zeroValue9
  t20 := Tryd.underlying20
  a20 := Tryd.isAgg20
  z20 := Tryd.sizeOf20
  v20 := Tryd.zeroValue20
  t37 := Tryd.underlying22
  a37 := Tryd.isAgg22
  z37 := Tryd.sizeOf22
  v37 := Tryd.zeroValue22
  t46 := Tryd.underlying123
  a46 := Tryd.isAgg123
  z46 := Tryd.sizeOf123
  v46 := Tryd.zeroValue123
  t51 := Tryd.underlying87
  a51 := Tryd.isAgg87
  z51 := Tryd.sizeOf87
  v51 := Tryd.zeroValue87
  t53 := Tryd.underlying64
  a53 := Tryd.isAgg64
  z53 := Tryd.sizeOf64
  v53 := Tryd.zeroValue64
  t171 := Tryd.underlying116
  a171 := Tryd.isAgg116
  z171 := Tryd.sizeOf116
  v171 := Tryd.zeroValue116
  t173 := Tryd.underlying119
  a173 := Tryd.isAgg119
  z173 := Tryd.sizeOf119
  v173 := Tryd.zeroValue119
  t212 := Tryd.underlying126
  a212 := Tryd.isAgg126
  z212 := Tryd.sizeOf126
  v212 := Tryd.zeroValue126
  t213 := Tryd.underlying127
  a213 := Tryd.isAgg127
  z213 := Tryd.sizeOf127
  t232 := Tryd.underlying131
  a232 := Tryd.isAgg131
  z232 := Tryd.sizeOf131
  v232 := Tryd.zeroValue131
  t233 := Tryd.underlying132
  a233 := Tryd.isAgg132
  z233 := Tryd.sizeOf132
  v233 := Tryd.zeroValue132
  g17 := by kernel_rfl
  g18 := by kernel_rfl
  g19 := by kernel_rfl
  i0 := by kernel_rfl
  i2 := by kernel_rfl
  i3 := by kernel_rfl
  i4 := by kernel_rfl
  i5 := by kernel_rfl
  i9 := by kernel_rfl
  i20 := by kernel_rfl
  i37 := by kernel_rfl
  i46 := by kernel_rfl
  i51 := by kernel_rfl
  i53 := by kernel_rfl
  i171 := by kernel_rfl
  i173 := by kernel_rfl
  i212 := by kernel_rfl
  i232 := by kernel_rfl
  i233 := by kernel_rfl
  m17 := by kernel_rfl
  m18 := by kernel_rfl
  m19 := by kernel_rfl }
open Go.RowKit Go.Sort Go.Lib in
theorem sh_strconv_Itoa (n : Int) (h0 : -9223372036854775808 ≤ n) (h1 : n ≤ 9223372036854775807) (w : World) (htab : Lib.TabIs Tryd.prog w "internal/strconv.uint64pow10" .u64 Lib.pow10Tab) :
    Calls Tryd.prog 26 #[.int .i64 n] w fun e w' => e = .returned (.string ⟨(Lib.itoa n).toArray⟩) ∧ ∃ k os, w' = grow (w.drewN k) os := Any.strconv_Itoa sh_laysM171 n h0 h1 w htab
end Go.Proofs.YtocboijpmmlegaaDoor
namespace Go.Proofs.YtocboijpmmlegaaDoor
open Go Go.RowKit
set_option maxHeartbeats 4000000
theorem ext_below {w w' : World} (h : Below w.heap.size w w') : Ext (fun _ => False) w w' :=
  ⟨h.os, h.tape, h.output, h.size, fun b hb _ => h.block b hb, fun b s hs => by
    have hb : b < w.heap.size := by
      unfold World.shape? at hs
      split at hs
      · rename_i e; exact (Array.getElem?_eq_some_iff.1 e).1
      · cases hs
    unfold World.shape? at hs ⊢
    rw [h.block b hb]; exact hs⟩
theorem below_grown (w : World) (k : Nat) (os : Array Obj) : Below w.heap.size w (Go.Sort.grow (w.drewN k) os) := by
  refine ⟨rfl, ?_, rfl, ?_, fun b hb => ?_⟩
  · simp [Go.Sort.grow]
  · simp [Go.Sort.grow]
  · exact Go.Sort.heap_grow_old (w.drewN k) os hb
theorem tab_pow10 {w : World} {O : Nat → Prop} (h : GL w O) : Lib.TabIs Tryd.prog w "internal/strconv.uint64pow10" .u64 Lib.pow10Tab := by
  obtain ⟨_, _, ty, fr, e⟩ := h _ List.mem_cons_self
  unfold Lib.TabIs World.var?
  rw [show Tryd.prog.globalNamed "internal/strconv.uint64pow10" = some 0 by kernel_rfl]
  simp only [Option.bind_some]
  rw [e]
  rfl
abbrev itoaS : PSpec := fun l => match l with | [.int .i64 x] => some ([-9223372036854775808 ≤ x, x ≤ 9223372036854775807], .str (Lib.itoa x)) | _ => none
theorem itoa_s : SOK Tryd.prog 26 itoaS := by
  refine ⟨⟨_, Tryd.func26, by kernel_rfl, by kernel_rfl⟩, fun l obs v h ho w O cl hf hc => ?_⟩
  (unfold itoaS at h; split at h; rotate_left; (focus (cases h)); rename_i x; simp only [Option.some.injEq, Prod.mk.injEq] at h; obtain ⟨rfl, rfl⟩ := h; simp only [List.mem_cons, List.not_mem_nil, or_false, forall_eq_or_imp, forall_eq, false_implies, implies_true] at ho)
  obtain ⟨h0, h1⟩ := ho
  obtain ⟨hl, hr⟩ := hc
  match cl, hl with
  | [c], _ =>
    have hc := hr 0 _ _ rfl rfl
    cases hc
    refine (sh_strconv_Itoa x h0 h1 w (tab_pow10 hf.2)).mono fun en w' ⟨he, k, os, hw⟩ => ?_
    subst hw
    exact ⟨_, he, ext_below (below_grown w k os), .str _⟩
end Go.Proofs.YtocboijpmmlegaaDoor
namespace Go.Proofs.YtocboijpmmlegaaDoor
open Go Go.RowKit
set_option maxHeartbeats 4000000
theorem nD_le : ∀ (k u : Nat), u < 10 ^ (k + 1) → Lib.nDigits u ≤ k + 1
  | 0, u, h => by rw [Lib.nDigits_small (by simpa using h)]; exact Nat.le_refl _
  | k + 1, u, h => by
    by_cases h1 : u < 10
    · rw [Lib.nDigits_small h1]; omega
    · rw [Lib.nDigits_big h1]
      have := nD_le k (u / 10) (by rw [Nat.div_lt_iff_lt_mul (by decide)]; rw [Nat.pow_succ] at h; exact h)
      omega
theorem nD_pos (u : Nat) : 1 ≤ Lib.nDigits u := by
  by_cases h1 : u < 10
  · rw [Lib.nDigits_small h1]; exact Nat.le_refl _
  · rw [Lib.nDigits_big h1]; omega
def decI (u : Nat) : List Int := (Lib.decDigits u).map fun c => (c.toNat : Int)
theorem decI_len (u : Nat) : (decI u).length = Lib.nDigits u := by unfold decI; rw [List.length_map, Lib.decDigits_length]
theorem dg_byte {d : Nat} (h : d < 10) : (((UInt8.ofNat (48 + d)).toNat : Nat) : Int) = 48 + (d : Int) := by
  rw [UInt8.toNat_ofNat', Nat.mod_eq_of_lt (show 48 + d < 2 ^ 8 by omega)]; omega
theorem decI_small {u : Nat} (h : u < 10) : decI u = [48 + (u : Int)] := by
  unfold decI
  rw [Lib.decDigits, dif_pos h, List.map_cons, dg_byte h]; rfl
theorem decI_big {u : Nat} (h : ¬ u < 10) : decI u = decI (u / 10) ++ [48 + ((u % 10 : Nat) : Int)] := by
  unfold decI
  rw [Lib.decDigits, dif_neg h, List.map_append, List.map_cons, dg_byte (Nat.mod_lt _ (by decide))]; rfl
theorem decI_dg (u : Nat) : ∀ x ∈ decI u, 48 ≤ x ∧ x ≤ 57 := by
  induction u using Nat.strongRecOn with
  | ind u ih =>
    by_cases h : u < 10
    · rw [decI_small h]; intro x hx; simp only [List.mem_singleton] at hx; omega
    · rw [decI_big h]; intro x hx
      rcases List.mem_append.1 hx with k | k
      · exact ih (u / 10) (by omega) x k
      · simp only [List.mem_singleton] at k; omega
theorem numV_dec (u : Nat) : numV (decI u) = u := by
  induction u using Nat.strongRecOn with
  | ind u ih =>
    by_cases h : u < 10
    · rw [decI_small h]; show 10 * 0 + (48 + (u : Int) - 48) = u; omega
    · rw [decI_big h, numV_snoc, ih (u / 10) (by omega)]; omega
theorem decI_head {u : Nat} (h1 : 1 ≤ u) : (decI u).getD 0 0 ≠ 48 := by
  induction u using Nat.strongRecOn with
  | ind u ih =>
    by_cases h : u < 10
    · rw [decI_small h]; show 48 + (u : Int) ≠ 48; omega
    · rw [decI_big h]
      have e : (decI (u / 10) ++ [48 + ((u % 10 : Nat) : Int)]).getD 0 0 = (decI (u / 10)).getD 0 0 := by
        have := nD_pos (u / 10)
        rw [List.getD_eq_getElem?_getD, List.getElem?_append_left (by rw [decI_len]; omega), ← List.getD_eq_getElem?_getD]
      rw [e]
      exact ih (u / 10) (by omega) (by omega)
theorem dgN_app : ∀ {l : List Int} {y : Int} {r : List Int}, (∀ x ∈ l, 48 ≤ x ∧ x ≤ 57) → ¬ (48 ≤ y ∧ y ≤ 57) → dgN (l ++ y :: r) = l.length
  | [], y, r, _, hy => if_neg hy
  | x :: l, y, r, h, hy => by
    have ih := dgN_app (l := l) (y := y) (r := r) (fun z hz => h z (List.mem_cons_of_mem _ hz)) hy
    show (if 48 ≤ x ∧ x ≤ 57 then dgN (l ++ y :: r) + 1 else 0) = _
    rw [if_pos (h x List.mem_cons_self), ih]; rfl
theorem nb_dec {x y : Int} {u : Nat} {rest : List Int} {m : Int} (hx : isBl x = true) (hy : ¬ (48 ≤ y ∧ y ≤ 57)) (h1 : 1 ≤ u) (hm : (u : Int) ≤ m) (hu : u < 100000) :
    nbC (x :: (decI u ++ y :: rest)) m = 0 ∧ nbP (x :: (decI u ++ y :: rest)) m = 1 + Lib.nDigits u ∧ nbV (x :: (decI u ++ y :: rest)) m = u := by
  have hl := decI_len u
  have hp := nD_pos u
  have hq := nD_le 4 u hu
  obtain ⟨d, r, hd⟩ : ∃ d r, decI u = d :: r := by
    cases h : decI u with
    | nil => rw [h] at hl; simp at hl; omega
    | cons d r => exact ⟨d, r, rfl⟩
  have hdd := decI_dg u d (by rw [hd]; exact List.mem_cons_self)
  have hb : bkG false (x :: (decI u ++ y :: rest)) = 1 := by
    have e : bkG false (decI u ++ y :: rest) = 0 := by
      rw [hd]
      show (if isBl d = true then _ else if d = 35 then _ else 0) = 0
      rw [if_neg, if_neg (by omega)]
      unfold isBl
      intro k
      simp at k
      omega
    show (if isBl x = true then bkG false (decI u ++ y :: rest) + 1 else _) = 1
    rw [if_pos hx, e]
  have hbl : blC (x :: (decI u ++ y :: rest)) = 0 := by
    unfold blC
    rw [if_neg (by simp), if_neg (by rw [hb]; decide)]
  have hdr : (x :: (decI u ++ y :: rest)).drop 1 = decI u ++ y :: rest := rfl
  have hg : dgN (decI u ++ y :: rest) = Lib.nDigits u := by rw [dgN_app (decI_dg u) hy, hl]
  have ht : (decI u ++ y :: rest).take (Lib.nDigits u) = decI u := by rw [← hl]; simp
  have hh : (decI u ++ y :: rest).getD 0 0 ≠ 48 := by
    have := decI_head h1
    rw [hd] at this ⊢
    exact this
  have hC : nbC (x :: (decI u ++ y :: rest)) m = 0 := by
    unfold nbC
    rw [if_neg (by rw [hbl]; decide), hb, hdr]
    unfold numC
    rw [if_neg (by simp), hg, if_neg (by rintro (k | k); omega; exact hh k.2), if_neg (by omega), ht, numV_dec, if_neg (by omega)]
  refine ⟨hC, ?_, ?_⟩
  · unfold nbP nbN
    rw [if_pos hC, hb, hdr, hg]
  · unfold nbV
    rw [if_pos hC, hb, hdr, hg, ht, numV_dec]
theorem drop_dec {x y : Int} {u : Nat} {rest : List Int} : (x :: (decI u ++ y :: rest)).drop (1 + Lib.nDigits u) = y :: rest := by
  rw [Nat.add_comm, List.drop_succ_cons, ← decI_len]; simp
theorem dec255 : decI 255 = [50, 53, 53] := by
  rw [decI_big (by decide), decI_big (by decide), decI_small (by decide)]; rfl
def hdI (k w h : Nat) : List Int := 80 :: (if k = 1 then 53 else 54) :: 10 :: (decI w ++ 32 :: (decI h ++ [10, 50, 53, 53, 10]))
theorem hdI_len (k w h : Nat) : (hdI k w h).length = 9 + Lib.nDigits w + Lib.nDigits h := by
  unfold hdI
  simp only [List.length_cons, List.length_append, decI_len, List.length_nil]; omega
theorem hdI_app (k w h : Nat) (p : List Int) : hdI k w h ++ p = 80 :: (if k = 1 then 53 else 54) :: 10 :: (decI w ++ 32 :: (decI h ++ 10 :: (decI 255 ++ 10 :: p))) := by
  rw [dec255]; unfold hdI; simp
theorem rd_hd {k w h : Nat} {p : List Int} (hk : k = 1 ∨ k = 3) (w1 : 1 ≤ w) (w2 : w ≤ 32768) (h1 : 1 ≤ h) (h2 : h ≤ 32768) (hm : w * h ≤ 4194304) :
    pgE (hdI k w h ++ p) = 0 ∧ pgW (hdI k w h ++ p) = w ∧ pgH (hdI k w h ++ p) = h ∧ kdV (hdI k w h ++ p) = k ∧ pgP (hdI k w h ++ p) = ((hdI k w h).length : Int) := by
  rw [hdI_len, hdI_app]
  obtain ⟨R, hR⟩ : ∃ R, decI h ++ 10 :: (decI 255 ++ 10 :: p) = R := ⟨_, rfl⟩
  have hkd : kdC (80 :: (if k = 1 then 53 else 54) :: 10 :: (decI w ++ 32 :: R)) = 0 ∧ kdV (80 :: (if k = 1 then 53 else 54) :: 10 :: (decI w ++ 32 :: R)) = k := by
    rcases hk with rfl | rfl
    · exact ⟨rfl, rfl⟩
    · exact ⟨rfl, rfl⟩
  have hd2 : (80 :: (if k = 1 then (53 : Int) else 54) :: 10 :: (decI w ++ 32 :: R)).drop 2 = 10 :: (decI w ++ 32 :: R) := rfl
  obtain ⟨a1, a2, a3⟩ := nb_dec (x := 10) (y := 32) (u := w) (rest := R) (m := 32768) rfl (by decide) w1 (by omega) (by omega)
  have d1 : (10 :: (decI w ++ 32 :: R) : List Int).drop (1 + Lib.nDigits w) = 32 :: R := drop_dec
  obtain ⟨b1, b2, b3⟩ := nb_dec (x := 32) (y := 10) (u := h) (rest := decI 255 ++ 10 :: p) (m := 32768) rfl (by decide) h1 (by omega) (by omega)
  have d2 : (32 :: (decI h ++ 10 :: (decI 255 ++ 10 :: p)) : List Int).drop (1 + Lib.nDigits h) = 10 :: (decI 255 ++ 10 :: p) := drop_dec
  obtain ⟨c1, c2, c3⟩ := nb_dec (x := 10) (y := 10) (u := 255) (rest := p) (m := 255) rfl (by decide) (by decide) (by decide) (by decide)
  have d3 : (10 :: (decI 255 ++ 10 :: p) : List Int).drop (1 + Lib.nDigits 255) = 10 :: p := drop_dec
  have n255 : Lib.nDigits 255 = 3 := by rw [← decI_len, dec255]; rfl
  rw [hR] at b1 b2 b3 d2
  have cm : ((w * h : Nat) : Int) = (w : Int) * (h : Int) := Int.natCast_mul w h
  have sC : szC (10 :: (decI w ++ 32 :: R)) = 0 := by
    unfold szC
    rw [a2, d1, a1, b1, a3, b3, if_neg (by decide), if_neg (by decide), if_neg (by omega), if_neg (by rw [← cm]; omega)]
  have sW : szW (10 :: (decI w ++ 32 :: R)) = w := by unfold szW; rw [if_pos sC, a3]
  have sH : szH (10 :: (decI w ++ 32 :: R)) = h := by unfold szH; rw [if_pos sC, a2, d1, b3]
  have sP : szP (10 :: (decI w ++ 32 :: R)) = (1 + Lib.nDigits w) + (1 + Lib.nDigits h) := by unfold szP; rw [if_pos a1, a2, d1, b2]
  have dP : (10 :: (decI w ++ 32 :: R) : List Int).drop ((1 + Lib.nDigits w) + (1 + Lib.nDigits h)) = 10 :: (decI 255 ++ 10 :: p) := by rw [← List.drop_drop, d1, d2]
  have o1 : oneV (10 :: p) = (1, 0) := by unfold oneV; rw [if_neg (by simp), if_pos (show isBl ((10 :: p : List Int).getD 0 0) = true from rfl)]
  have eC : dpC (10 :: (decI 255 ++ 10 :: p)) = 0 := by
    unfold dpC
    rw [c1, c3, c2, d3, o1]; rfl
  have eP : dpP (10 :: (decI 255 ++ 10 :: p)) = 5 := by
    unfold dpP
    rw [c1, c3, c2, d3, o1, n255]; rfl
  rw [hR]
  refine ⟨?_, ?_, ?_, hkd.2, ?_⟩
  · unfold pgE
    rw [if_neg (by rw [hkd.1]; decide), hd2, if_neg (by rw [sC]; decide), sP, dP, eC]
  · unfold pgW
    rw [if_pos hkd.1, hd2, sW]
  · unfold pgH
    rw [if_pos hkd.1, hd2, sH]
  · unfold pgP
    rw [if_neg (by rw [hkd.1]; decide), hd2, if_neg (by rw [sC]; decide), sP, dP, eP]
    omega
theorem rd_pw {k w h : Nat} {p : List Int} (hk : k = 1 ∨ k = 3) (w1 : 1 ≤ w) (w2 : w ≤ 32768) (h1 : 1 ≤ h) (h2 : h ≤ 32768) (hm : w * h ≤ 4194304) (hp : p.length = w * h * k) :
    pnE (hdI k w h ++ p) = 0 ∧ pnK (hdI k w h ++ p) (pgW (hdI k w h ++ p)) = w ∧ pnK (hdI k w h ++ p) (pgH (hdI k w h ++ p)) = h ∧ pnK (hdI k w h ++ p) (kdV (hdI k w h ++ p)) = k ∧ pnL (hdI k w h ++ p) = p := by
  obtain ⟨e1, e2, e3, e4, e5⟩ := rd_hd (p := p) hk w1 w2 h1 h2 hm
  have eN : pnN (hdI k w h ++ p) = (p.length : Int) := by
    unfold pnN
    rw [e2, e3, e4, hp, Int.natCast_mul, Int.natCast_mul]
  have hl : ((hdI k w h ++ p).length : Int) = ((hdI k w h).length : Int) + (p.length : Int) := by rw [List.length_append]; omega
  have E : pnE (hdI k w h ++ p) = 0 := by
    unfold pnE
    rw [if_neg (by rw [e1]; decide), eN, e5, hl, if_neg (by omega), if_neg (by omega)]
  refine ⟨E, ?_, ?_, ?_, ?_⟩
  · unfold pnK; rw [if_pos E, e2]
  · unfold pnK; rw [if_pos E, e3]
  · unfold pnK; rw [if_pos E, e4]
  · unfold pnL; rw [if_pos E, e5, Int.toNat_natCast]; simp
theorem nb_ge {r : List Int} {m : Int} (h : nbC r m = 0) : 1 + Lib.nDigits (nbV r m).toNat ≤ nbP r m := by
  have e1 : nbV r m = numV ((r.drop (bkG false r)).take (dgN (r.drop (bkG false r)))) := if_pos h
  have e2 : nbP r m = bkG false r + dgN (r.drop (bkG false r)) := if_pos h
  rw [e1, e2]
  unfold nbC at h
  split at h
  · rename_i k; exact absurd h k
  rename_i k
  have hb : bkG false r ≠ 0 := fun z => by
    by_cases q : r.length = 0
    · exact k (by unfold blC; rw [if_pos q]; decide)
    · exact k (by unfold blC; rw [if_neg q, if_pos z]; decide)
  generalize r.drop (bkG false r) = q at h ⊢
  have hd : dgN q ≠ 0 := fun z => by
    unfold numC at h
    split at h
    · cases h
    · rw [if_pos (.inl z)] at h; cases h
  obtain ⟨n1, n2⟩ := numV_bd (l := q) (dgN q) (Nat.le_refl _)
  obtain ⟨d, hd2⟩ : ∃ d, dgN q = d + 1 := ⟨dgN q - 1, by omega⟩
  rw [hd2] at n1 n2 ⊢
  obtain ⟨v, hv⟩ : ∃ v : Nat, numV (q.take (d + 1)) = v := ⟨(numV (q.take (d + 1))).toNat, by omega⟩
  rw [hv, Int.toNat_natCast]
  have h2 : v < 10 ^ (d + 1) := by
    rw [hv] at n2
    have : ((10 ^ (d + 1) : Nat) : Int) = (10 : Int) ^ (d + 1) := by rw [Int.natCast_pow]; rfl
    rw [← this] at n2
    exact Int.ofNat_lt.1 n2
  have := nD_le d v h2
  omega
theorem pn_im {b : List Int} (h : pnE b = 0) : ∃ k w h' : Nat, (k = 1 ∨ k = 3) ∧ 1 ≤ w ∧ w ≤ 32768 ∧ 1 ≤ h' ∧ h' ≤ 32768 ∧ w * h' ≤ 4194304 ∧ (pnL b).length = w * h' * k ∧ pnK b (pgW b) = w ∧ pnK b (pgH b) = h' ∧ pnK b (kdV b) = k ∧ (hdI k w h').length + (pnL b).length ≤ b.length := by
  have eK : ∀ x, pnK b x = x := fun x => if_pos h
  have eL : pnL b = b.drop (pgP b).toNat := if_pos h
  have hg : pgE b = 0 := by
    unfold pnE at h
    split at h
    · rename_i k; exact absurd h k
    · rename_i k; exact Classical.not_not.1 k
  have hn : (b.length : Int) - pgP b = pnN b := by
    unfold pnE at h
    rw [if_neg (fun k => k hg)] at h
    split at h
    · cases h
    split at h
    · cases h
    omega
  obtain ⟨p0, p1⟩ := pgP_bd b
  obtain ⟨a1, a2, a3, a4, a5, a6, a7, a8⟩ := pn_sz hg
  obtain ⟨g1, g2, g3⟩ := pgE0 hg
  rw [eL, eK, eK, eK]
  obtain ⟨w, hw⟩ : ∃ w : Nat, pgW b = w := ⟨(pgW b).toNat, by omega⟩
  obtain ⟨h', hh⟩ : ∃ h' : Nat, pgH b = h' := ⟨(pgH b).toNat, by omega⟩
  obtain ⟨k, hk, hk2⟩ : ∃ k : Nat, kdV b = k ∧ (k = 1 ∨ k = 3) := by
    rcases kdV_cs b with q | q
    · exact ⟨1, q, .inl rfl⟩
    · exact ⟨3, q, .inr rfl⟩
  have hlen : (b.drop (pgP b).toNat).length = w * h' * k := by
    have : pnN b = ((w * h' * k : Nat) : Int) := by unfold pnN; rw [hw, hh, hk, Int.natCast_mul, Int.natCast_mul]
    rw [List.length_drop]; omega
  have cm : ((w * h' : Nat) : Int) = (w : Int) * (h' : Int) := Int.natCast_mul w h'
  refine ⟨k, w, h', hk2, by omega, by omega, by omega, by omega, by rw [hw, hh, ← cm] at a5; omega, hlen, hw, hh, hk, ?_⟩
  rw [hdI_len, hlen]
  have eW : pgW b = szW (b.drop 2) := if_pos g1
  have eH : pgH b = szH (b.drop 2) := if_pos g1
  have eP : pgP b = 2 + (szP (b.drop 2) : Int) + dpP ((b.drop 2).drop (szP (b.drop 2))) := by
    unfold pgP; rw [if_neg (fun q => q g1), if_neg (fun q => q g2)]
  have eW2 : szW (b.drop 2) = nbV (b.drop 2) 32768 := if_pos g2
  have eH2 : szH (b.drop 2) = nbV ((b.drop 2).drop (nbP (b.drop 2) 32768)) 32768 := if_pos g2
  have z1 : nbC (b.drop 2) 32768 = 0 := by
    unfold szC at g2
    split at g2
    · rename_i q; exact absurd g2 q
    · rename_i q; exact Classical.not_not.1 q
  have z2 : nbC ((b.drop 2).drop (nbP (b.drop 2) 32768)) 32768 = 0 := by
    unfold szC at g2
    rw [if_neg (fun q => q z1)] at g2
    split at g2
    · rename_i q; exact absurd g2 q
    · rename_i q; exact Classical.not_not.1 q
  have eS : szP (b.drop 2) = nbP (b.drop 2) 32768 + nbP ((b.drop 2).drop (nbP (b.drop 2) 32768)) 32768 := if_pos z1
  have l1 := nb_ge z1
  have l2 := nb_ge z2
  rw [← eW2, ← eW, hw, Int.toNat_natCast] at l1
  rw [← eH2, ← eH, hh, Int.toNat_natCast] at l2
  generalize (b.drop 2).drop (szP (b.drop 2)) = r3 at g3 eP
  have z3 : nbC r3 255 = 0 := by
    unfold dpC at g3
    split at g3
    · rename_i q; exact absurd g3 q
    · rename_i q; exact Classical.not_not.1 q
  have v3 : nbV r3 255 = 255 := by
    unfold dpC at g3
    rw [if_neg (fun q => q z3)] at g3
    split at g3
    · cases g3
    · rename_i q; exact Classical.not_not.1 q
  have o3 : (oneV (r3.drop (nbP r3 255))).2 = 0 := by
    unfold dpC at g3
    rw [if_neg (fun q => q z3), if_neg (fun q => q v3)] at g3
    exact g3
  have o4 : (oneV (r3.drop (nbP r3 255))).1 = 1 := by
    generalize r3.drop (nbP r3 255) = q at o3
    unfold oneV at o3 ⊢
    split
    · rename_i z; rw [if_pos z] at o3; cases o3
    · rename_i z
      rw [if_neg z] at o3
      split
      · rfl
      · rename_i y; rw [if_neg y] at o3; cases o3
  have l3 := nb_ge z3
  have n255 : Lib.nDigits 255 = 3 := by rw [← decI_len, dec255]; rfl
  rw [v3, show (255 : Int).toNat = 255 from rfl, n255] at l3
  have eD : dpP r3 = (nbP r3 255 : Int) + 1 := by unfold dpP; rw [if_pos ⟨z3, v3⟩, o4]
  have : (b.drop (pgP b).toNat).length = w * h' * k := hlen
  rw [List.length_drop] at this
  omega
end Go.Proofs.YtocboijpmmlegaaDoor
namespace Go.Proofs.YtocboijpmmlegaaDoor
open Go Go.RowKit
set_option maxHeartbeats 4000000
theorem itoa_len {x : Int} (h0 : -9223372036854775808 ≤ x) (h1 : x ≤ 9223372036854775807) : (Lib.itoa x).length ≤ 20 := by
  have key : ∀ u : Nat, u < 10 ^ 19 → (Lib.decDigits u).length ≤ 19 := fun u hu => by rw [Lib.decDigits_length]; exact nD_le 18 u hu
  unfold Lib.itoa
  split
  · have := key x.natAbs (by omega)
    rw [List.length_cons]; omega
  · have := key x.toNat (by omega)
    omega
def hdS (w h c : Int) : List UInt8 :=
  if c = 1 then (ByteArray.mk #[80, 53, 10]).data.toList ++ Lib.itoa w ++ (ByteArray.mk #[32]).data.toList ++ Lib.itoa h ++ (ByteArray.mk #[10, 50, 53, 53, 10]).data.toList
  else if c = 3 then (ByteArray.mk #[80, 54, 10]).data.toList ++ Lib.itoa w ++ (ByteArray.mk #[32]).data.toList ++ Lib.itoa h ++ (ByteArray.mk #[10, 50, 53, 53, 10]).data.toList
  else (ByteArray.mk #[]).data.toList
abbrev headS : PSpec := fun l => match l with | [.int .i64 w, .int .i64 h, .int .i64 c] => some ([-9223372036854775808 ≤ w, w ≤ 9223372036854775807, -9223372036854775808 ≤ h, h ≤ 9223372036854775807], .str (hdS w h c)) | _ => none
theorem len_i64 {n : Nat} (h : n ≤ 1000) : ((n : Nat) : Int) ≤ IntKind.i64.max := by
  show (n : Int) ≤ 9223372036854775807
  omega
theorem head_s : SOK Tryd.prog 13 headS := by
  refine sok_of (C := mkC 0 [(26, itoaS)] noG) (mkC_ok (pok_cons itoa_s pok_nil) noG_ok) rfl mixed ⟨Tryd.func13, by kernel_rfl, by kernel_rfl, by kernel_rfl⟩ fun l obs v h ho => ?_
  (unfold headS at h; split at h; rotate_left; (focus (cases h)); rename_i w hh c; simp only [Option.some.injEq, Prod.mk.injEq] at h; obtain ⟨rfl, rfl⟩ := h; simp only [List.mem_cons, List.not_mem_nil, or_false, forall_eq_or_imp, forall_eq, false_implies, implies_true] at ho)
  obtain ⟨w0, w1, h0, h1⟩ := ho
  refine ⟨Nat.le_of_ble_eq_true rfl, ?_⟩
  have lw := itoa_len w0 w1
  have lh := itoa_len h0 h1
  have q1 : (ByteArray.mk #[80, 53, 10]).data.toList.length = 3 := rfl
  have q2 : (ByteArray.mk #[80, 54, 10]).data.toList.length = 3 := rfl
  have q3 : (ByteArray.mk #[32]).data.toList.length = 1 := rfl
  have q4 : (ByteArray.mk #[10, 50, 53, 53, 10]).data.toList.length = 5 := rfl
  by_cases c1 : c = 1
  · subst c1
    have e : hdS w hh 1 = (ByteArray.mk #[80, 53, 10]).data.toList ++ Lib.itoa w ++ (ByteArray.mk #[32]).data.toList ++ Lib.itoa hh ++ (ByteArray.mk #[10, 50, 53, 53, 10]).data.toList := if_pos rfl
    rw [e]
    clear e
    (repeat' (first | (refine xI (fun hfk => ?_) (fun hfk => ?_) <;> ((try (first | replace hfk := oT hfk | replace hfk := oF hfk | simp only [oA, oB, dh1, dh0, ne_eq, reduceCtorEq] at hfk)); (try (exfalso; first | omega | contradiction | exact xF hfk (by with_reducible assumption) | exact xT hfk (by with_reducible assumption))))) | (refine And.intro ?ob ?_; (case ob => (first | exact Chk.mk (by kernel_rfl) | exact True.intro | with_reducible assumption | exact rng64 (by omega) (by omega) | omega | (dsimp only; omega) | (show (_ : Nat) ≤ _; omega) | (simp only [ll1, ll2, ll0]; first | done | omega) | (dsimp only; simp only [ll1, ll2, ll0]; omega)))) | exact True.intro | (show _ = _; first | with_reducible rfl | with_reducible assumption | omega | (simp only [ll1, ll2, ll0]; omega) | (rfl; done) | exact rfl) | with_reducible assumption | (apply And.intro) | omega | (intro j hj; exact rfl)))
    all_goals (refine len_i64 ?_; (repeat rw [List.length_append]); omega)
  · by_cases c3 : c = 3
    · subst c3
      have e : hdS w hh 3 = (ByteArray.mk #[80, 54, 10]).data.toList ++ Lib.itoa w ++ (ByteArray.mk #[32]).data.toList ++ Lib.itoa hh ++ (ByteArray.mk #[10, 50, 53, 53, 10]).data.toList := by
        unfold hdS; rw [if_neg (by decide), if_pos rfl]
      rw [e]
      clear e
      (repeat' (first | (refine xI (fun hfk => ?_) (fun hfk => ?_) <;> ((try (first | replace hfk := oT hfk | replace hfk := oF hfk | simp only [oA, oB, dh1, dh0, ne_eq, reduceCtorEq] at hfk)); (try (exfalso; first | omega | contradiction | exact xF hfk (by with_reducible assumption) | exact xT hfk (by with_reducible assumption))))) | (refine And.intro ?ob ?_; (case ob => (first | exact Chk.mk (by kernel_rfl) | exact True.intro | with_reducible assumption | exact rng64 (by omega) (by omega) | omega | (dsimp only; omega) | (show (_ : Nat) ≤ _; omega) | (simp only [ll1, ll2, ll0]; first | done | omega) | (dsimp only; simp only [ll1, ll2, ll0]; omega)))) | exact True.intro | (show _ = _; first | with_reducible rfl | with_reducible assumption | omega | (simp only [ll1, ll2, ll0]; omega) | (rfl; done) | exact rfl) | with_reducible assumption | (apply And.intro) | omega | (intro j hj; exact rfl)))
      all_goals (refine len_i64 ?_; (repeat rw [List.length_append]); omega)
    · have e : hdS w hh c = (ByteArray.mk #[]).data.toList := by unfold hdS; rw [if_neg c1, if_neg c3]
      rw [e]
      clear e
      (repeat' (first | (refine xI (fun hfk => ?_) (fun hfk => ?_) <;> ((try (first | replace hfk := oT hfk | replace hfk := oF hfk | simp only [oA, oB, dh1, dh0, ne_eq, reduceCtorEq] at hfk)); (try (exfalso; first | omega | contradiction | exact xF hfk (by with_reducible assumption) | exact xT hfk (by with_reducible assumption))))) | (refine And.intro ?ob ?_; (case ob => (first | exact Chk.mk (by kernel_rfl) | exact True.intro | with_reducible assumption | exact rng64 (by omega) (by omega) | omega | (dsimp only; omega) | (show (_ : Nat) ≤ _; omega) | (simp only [ll1, ll2, ll0]; first | done | omega) | (dsimp only; simp only [ll1, ll2, ll0]; omega)))) | exact True.intro | (show _ = _; first | with_reducible rfl | with_reducible assumption | omega | (simp only [ll1, ll2, ll0]; omega) | (rfl; done) | exact rfl) | with_reducible assumption | (apply And.intro) | omega | (intro j hj; exact rfl)))
def pwE (w h c n : Int) : Int := if imCheck w h c n ≠ 0 then imCheck w h c n else if c = 4 then 10 else 0
def pwL (w h c : Int) (p : List Int) : List Int := if pwE w h c p.length = 0 then strI (hdS w h c) ++ p else []
abbrev pwS : PSpec := fun l => match l with
  | [.agg [.int .i64 w, .int .i64 h, .int .i64 c, .roi .u8 p]] => some ([p.length ≤ 20000], .tup [.roi .u8 (pwL w h c p), .int .i64 (pwE w h c p.length)])
  | _ => none
theorem hdS_len {w h c : Int} (w0 : -9223372036854775808 ≤ w) (w1 : w ≤ 9223372036854775807) (h0 : -9223372036854775808 ≤ h) (h1 : h ≤ 9223372036854775807) : (hdS w h c).length ≤ 50 := by
  have lw := itoa_len w0 w1
  have lh := itoa_len h0 h1
  unfold hdS
  split
  · simp only [List.length_append]
    show 3 + (Lib.itoa w).length + 1 + (Lib.itoa h).length + 5 ≤ 50
    omega
  · split
    · simp only [List.length_append]
      show 3 + (Lib.itoa w).length + 1 + (Lib.itoa h).length + 5 ≤ 50
      omega
    · exact Nat.zero_le _
theorem pwrite_s : SOK Tryd.prog 8 pwS := by
  refine sok_of (C := mkE 0 [(22, checkS), (13, headS)] noG [] [] []) (mkE_ok (pok_cons check_s (pok_cons head_s pok_nil)) noG_ok dl_nil) rfl mixed ⟨Tryd.func8, by kernel_rfl, by kernel_rfl, by kernel_rfl⟩ fun l obs v h ho => ?_
  (unfold pwS at h; split at h; rotate_left; (focus (cases h)); rename_i w hh c p; simp only [Option.some.injEq, Prod.mk.injEq] at h; obtain ⟨rfl, rfl⟩ := h; simp only [List.mem_cons, List.not_mem_nil, or_false, forall_eq_or_imp, forall_eq, false_implies, implies_true] at ho)
  refine ⟨Nat.le_of_ble_eq_true rfl, ?_⟩
  by_cases e : imCheck w hh c p.length = 0
  · obtain ⟨c1, w1, w2, h1, h2, wh, _⟩ := fits_inv (check_inv e).1
    have lh := hdS_len (w := w) (h := hh) (c := c) (by omega) (by omega) (by omega) (by omega)
    by_cases c4 : c = 4
    · have e1 : pwE w hh c p.length = 10 := by unfold pwE; rw [if_neg (fun k => k e), if_pos c4]
      have e2 : pwL w hh c p = [] := if_neg (by rw [e1]; decide)
      have e3 : hdS w hh c = (ByteArray.mk #[]).data.toList := by unfold hdS; rw [if_neg (by omega), if_neg (by omega)]
      rw [e1, e2]
      (repeat' (first | (refine xI (fun hfk => ?_) (fun hfk => ?_) <;> ((try (first | replace hfk := oT hfk | replace hfk := oF hfk | simp only [oA, oB, dh1, dh0, ne_eq, reduceCtorEq] at hfk)); (try (exfalso; first | omega | contradiction | exact xF hfk (by with_reducible assumption) | exact xT hfk (by with_reducible assumption))))) | (refine And.intro ?ob ?_; (case ob => (first | exact Chk.mk (by kernel_rfl) | exact True.intro | with_reducible assumption | exact rng64 (by omega) (by omega) | omega | (dsimp only; omega) | (show (_ : Nat) ≤ _; omega) | (simp only [ll1, ll2, ll0]; first | done | omega) | (dsimp only; simp only [ll1, ll2, ll0]; omega)))) | exact True.intro | (show _ = _; first | with_reducible rfl | with_reducible assumption | omega | (simp only [ll1, ll2, ll0]; omega) | (rfl; done) | exact rfl) | with_reducible assumption | (apply And.intro) | omega | (intro j hj; exact rfl)))
    · have e1 : pwE w hh c p.length = 0 := by unfold pwE; rw [if_neg (fun k => k e), if_neg c4]
      have e2 : pwL w hh c p = strI (hdS w hh c) ++ p := if_pos e1
      have e3 : ¬ hdS w hh c = (ByteArray.mk #[]).data.toList := by
        unfold hdS
        rcases c1 with k | k | k
        · rw [if_pos k]; exact fun q => by cases q
        · rw [if_neg (by omega), if_pos k]; exact fun q => by cases q
        · exact absurd k c4
      rw [e1, e2]
      have lm : (List.map (fun c : UInt8 => (c.toNat : Int)) (hdS w hh c)).length = (hdS w hh c).length := List.length_map _
      have z1 : List.take ((List.map (fun c : UInt8 => (c.toNat : Int)) (hdS w hh c)).length + p.length) (List.drop 0 (List.map (fun c : UInt8 => (c.toNat : Int)) (hdS w hh c) ++ p)) = strI (hdS w hh c) ++ p := by
        rw [List.drop_zero, List.take_of_length_le (by rw [List.length_append]; exact Nat.le_refl _)]
      (repeat' (first | (refine xI (fun hfk => ?_) (fun hfk => ?_) <;> ((try (first | replace hfk := oT hfk | replace hfk := oF hfk | simp only [oA, oB, dh1, dh0, ne_eq, reduceCtorEq] at hfk)); (try (exfalso; first | omega | contradiction | exact xF hfk (by with_reducible assumption) | exact xT hfk (by with_reducible assumption))))) | (refine And.intro ?ob ?_; (case ob => (first | exact Chk.mk (by kernel_rfl) | exact True.intro | with_reducible assumption | exact rng64 (by omega) (by omega) | omega | (dsimp only; omega) | (show (_ : Nat) ≤ _; omega) | (simp only [ll1, ll2, ll0]; first | done | omega) | (dsimp only; simp only [ll1, ll2, ll0]; omega)))) | exact True.intro | (show _ = _; first | with_reducible rfl | with_reducible assumption | omega | (simp only [ll1, ll2, ll0]; omega) | (first | exact z1 | rfl; done) | exact rfl) | with_reducible assumption | (apply And.intro) | omega | (intro j hj; exact rfl)))
  · have e1 : pwE w hh c p.length = imCheck w hh c p.length := if_pos e
    have e2 : pwL w hh c p = [] := if_neg (by rw [e1]; exact e)
    rw [e1, e2]
    (repeat' (first | (refine xI (fun hfk => ?_) (fun hfk => ?_) <;> ((try (first | replace hfk := oT hfk | replace hfk := oF hfk | simp only [oA, oB, dh1, dh0, ne_eq, reduceCtorEq] at hfk)); (try (exfalso; first | omega | contradiction | exact xF hfk (by with_reducible assumption) | exact xT hfk (by with_reducible assumption))))) | (refine And.intro ?ob ?_; (case ob => (first | exact Chk.mk (by kernel_rfl) | exact True.intro | with_reducible assumption | exact rng64 (by omega) (by omega) | omega | (dsimp only; omega) | (show (_ : Nat) ≤ _; omega) | (simp only [ll1, ll2, ll0]; first | done | omega) | (dsimp only; simp only [ll1, ll2, ll0]; omega)))) | exact True.intro | (show _ = _; first | with_reducible rfl | with_reducible assumption | omega | (simp only [ll1, ll2, ll0]; omega) | (rfl; done) | exact rfl) | with_reducible assumption | (apply And.intro) | omega | (intro j hj; exact rfl)))
def pszV (w h c : Int) : Int := if (c = 1 ∨ c = 3) ∧ 1 ≤ w ∧ w ≤ 32768 ∧ 1 ≤ h ∧ h ≤ 32768 ∧ w * h ≤ 4194304 then ((hdS w h c).length : Int) + w * h * c else 0
abbrev psizS : PSpec := fun l => match l with | [.int .i64 w, .int .i64 h, .int .i64 c] => some ([-9223372036854775808 ≤ w, w ≤ 9223372036854775807, -9223372036854775808 ≤ h, h ≤ 9223372036854775807], .int .i64 (pszV w h c)) | _ => none
theorem psiz_s : SOK Tryd.prog 14 psizS := by
  refine sok_of (C := mkC 0 [(13, headS)] noG) (mkC_ok (pok_cons head_s pok_nil) noG_ok) rfl mixed ⟨Tryd.func14, by kernel_rfl, by kernel_rfl, by kernel_rfl⟩ fun l obs v h ho => ?_
  (unfold psizS at h; split at h; rotate_left; (focus (cases h)); rename_i w hh c; simp only [Option.some.injEq, Prod.mk.injEq] at h; obtain ⟨rfl, rfl⟩ := h; simp only [List.mem_cons, List.not_mem_nil, or_false, forall_eq_or_imp, forall_eq, false_implies, implies_true] at ho)
  obtain ⟨w0, w1, h0, h1⟩ := ho
  refine ⟨Nat.le_of_ble_eq_true rfl, ?_⟩
  have lh := hdS_len (c := c) w0 w1 h0 h1
  by_cases hc : c = 1 ∨ c = 3
  · have e3 : ¬ hdS w hh c = (ByteArray.mk #[]).data.toList := by
      unfold hdS
      rcases hc with k | k
      · rw [if_pos k]; exact fun q => by cases q
      · rw [if_neg (by omega), if_pos k]; exact fun q => by cases q
    by_cases hb : 1 ≤ w ∧ w ≤ 32768 ∧ 1 ≤ hh ∧ hh ≤ 32768
    · have hm := Int.mul_nonneg (show 0 ≤ w by omega) (show 0 ≤ hh by omega)
      have hm2 : w * hh ≤ 32768 * 32768 := Int.mul_le_mul hb.2.1 hb.2.2.2 (by omega) (by omega)
      have r1 : rngI .i64 (w * hh) := rng64 (by omega) (by omega)
      by_cases hx : w * hh ≤ 4194304
      · have e : pszV w hh c = ((hdS w hh c).length : Int) + w * hh * c := if_pos ⟨hc, hb.1, hb.2.1, hb.2.2.1, hb.2.2.2, hx⟩
        have hk : w * hh * c = w * hh * 1 ∨ w * hh * c = w * hh * 3 := by rcases hc with k | k <;> rw [k] <;> simp
        have r2 : rngI .i64 (w * hh * c) := rng64 (by omega) (by omega)
        have r3 : rngI .i64 (((hdS w hh c).length : Int) + w * hh * c) := rng64 (by omega) (by omega)
        rw [e]
        clear e
        (repeat' (first | (refine xI (fun hfk => ?_) (fun hfk => ?_) <;> ((try (first | replace hfk := oT hfk | replace hfk := oF hfk | simp only [oA, oB, dh1, dh0, ne_eq, reduceCtorEq] at hfk)); (try (exfalso; first | omega | contradiction | exact xF hfk (by with_reducible assumption) | exact xT hfk (by with_reducible assumption))))) | (refine And.intro ?ob ?_; (case ob => (first | exact Chk.mk (by kernel_rfl) | exact True.intro | with_reducible assumption | exact rng64 (by omega) (by omega) | omega | (dsimp only; omega) | (show (_ : Nat) ≤ _; omega) | (simp only [ll1, ll2, ll0]; first | done | omega) | (dsimp only; simp only [ll1, ll2, ll0]; omega)))) | exact True.intro | (show _ = _; first | with_reducible rfl | with_reducible assumption | omega | (simp only [ll1, ll2, ll0]; omega) | (first | exact r1 | exact r2 | exact r3 | rfl; done) | exact rfl) | with_reducible assumption | (apply And.intro) | omega | (intro j hj; exact rfl)))
      · have e : pszV w hh c = 0 := if_neg (fun k => hx k.2.2.2.2.2)
        rw [e]
        clear e
        (repeat' (first | (refine xI (fun hfk => ?_) (fun hfk => ?_) <;> ((try (first | replace hfk := oT hfk | replace hfk := oF hfk | simp only [oA, oB, dh1, dh0, ne_eq, reduceCtorEq] at hfk)); (try (exfalso; first | omega | contradiction | exact xF hfk (by with_reducible assumption) | exact xT hfk (by with_reducible assumption))))) | (refine And.intro ?ob ?_; (case ob => (first | exact Chk.mk (by kernel_rfl) | exact True.intro | with_reducible assumption | exact rng64 (by omega) (by omega) | omega | (dsimp only; omega) | (show (_ : Nat) ≤ _; omega) | (simp only [ll1, ll2, ll0]; first | done | omega) | (dsimp only; simp only [ll1, ll2, ll0]; omega)))) | exact True.intro | (show _ = _; first | with_reducible rfl | with_reducible assumption | omega | (simp only [ll1, ll2, ll0]; omega) | (first | exact r1 | rfl; done) | exact rfl) | with_reducible assumption | (apply And.intro) | omega | (intro j hj; exact rfl)))
    · have e : pszV w hh c = 0 := if_neg (fun k => hb ⟨k.2.1, k.2.2.1, k.2.2.2.1, k.2.2.2.2.1⟩)
      rw [e]
      clear e
      (repeat' (first | (refine xI (fun hfk => ?_) (fun hfk => ?_) <;> ((try (first | replace hfk := oT hfk | replace hfk := oF hfk | simp only [oA, oB, dh1, dh0, ne_eq, reduceCtorEq] at hfk)); (try (exfalso; first | omega | contradiction | exact xF hfk (by with_reducible assumption) | exact xT hfk (by with_reducible assumption))))) | (refine And.intro ?ob ?_; (case ob => (first | exact Chk.mk (by kernel_rfl) | exact True.intro | with_reducible assumption | exact rng64 (by omega) (by omega) | omega | (dsimp only; omega) | (show (_ : Nat) ≤ _; omega) | (simp only [ll1, ll2, ll0]; first | done | omega) | (dsimp only; simp only [ll1, ll2, ll0]; omega)))) | exact True.intro | (show _ = _; first | with_reducible rfl | with_reducible assumption | omega | (simp only [ll1, ll2, ll0]; omega) | (rfl; done) | exact rfl) | with_reducible assumption | (apply And.intro) | omega | (intro j hj; exact rfl)))
  · have e : pszV w hh c = 0 := if_neg (fun k => hc k.1)
    have e3 : hdS w hh c = (ByteArray.mk #[]).data.toList := by unfold hdS; rw [if_neg (by omega), if_neg (by omega)]
    rw [e]
    clear e
    (repeat' (first | (refine xI (fun hfk => ?_) (fun hfk => ?_) <;> ((try (first | replace hfk := oT hfk | replace hfk := oF hfk | simp only [oA, oB, dh1, dh0, ne_eq, reduceCtorEq] at hfk)); (try (exfalso; first | omega | contradiction | exact xF hfk (by with_reducible assumption) | exact xT hfk (by with_reducible assumption))))) | (refine And.intro ?ob ?_; (case ob => (first | exact Chk.mk (by kernel_rfl) | exact True.intro | with_reducible assumption | exact rng64 (by omega) (by omega) | omega | (dsimp only; omega) | (show (_ : Nat) ≤ _; omega) | (simp only [ll1, ll2, ll0]; first | done | omega) | (dsimp only; simp only [ll1, ll2, ll0]; omega)))) | exact True.intro | (show _ = _; first | with_reducible rfl | with_reducible assumption | omega | (simp only [ll1, ll2, ll0]; omega) | (rfl; done) | exact rfl) | with_reducible assumption | (apply And.intro) | omega | (intro j hj; exact rfl)))
end Go.Proofs.YtocboijpmmlegaaDoor
namespace Go.Proofs.YtocboijpmmlegaaDoor
open Go Go.RowKit
set_option maxHeartbeats 4000000
theorem strI_app (a b : List UInt8) : strI (a ++ b) = strI a ++ strI b := List.map_append
theorem strI_itoa (u : Nat) : strI (Lib.itoa (u : Int)) = decI u := by rw [Lib.itoa_nonneg]; rfl
theorem strI_hd {k w h : Nat} (hk : k = 1 ∨ k = 3) : strI (hdS w h k) = hdI k w h := by
  rcases hk with rfl | rfl
  · have e : hdS w h ((1 : Nat) : Int) = (ByteArray.mk #[80, 53, 10]).data.toList ++ Lib.itoa w ++ (ByteArray.mk #[32]).data.toList ++ Lib.itoa h ++ (ByteArray.mk #[10, 50, 53, 53, 10]).data.toList := if_pos rfl
    rw [e, strI_app, strI_app, strI_app, strI_app, strI_itoa, strI_itoa]
    unfold hdI
    rw [if_pos rfl]
    simp [strI]
  · have e : hdS w h ((3 : Nat) : Int) = (ByteArray.mk #[80, 54, 10]).data.toList ++ Lib.itoa w ++ (ByteArray.mk #[32]).data.toList ++ Lib.itoa h ++ (ByteArray.mk #[10, 50, 53, 53, 10]).data.toList := by
      unfold hdS; rw [if_neg (by decide), if_pos (by decide)]
    rw [e, strI_app, strI_app, strI_app, strI_app, strI_itoa, strI_itoa]
    unfold hdI
    rw [if_neg (by decide)]
    simp [strI]
theorem hdI_le (k : Nat) {w h : Nat} (w2 : w ≤ 32768) (h2 : h ≤ 32768) : (hdI k w h).length ≤ 19 := by
  rw [hdI_len]
  have := nD_le 4 w (by omega)
  have := nD_le 4 h (by omega)
  omega
theorem hdI_bytes (k w h : Nat) : Bytes (hdI k w h) := by
  have d : ∀ u, Bytes (decI u) := fun u x hx => by have := decI_dg u x hx; omega
  intro x hx
  unfold hdI at hx
  rcases List.mem_cons.1 hx with e | hx
  · omega
  rcases List.mem_cons.1 hx with e | hx
  · split at e <;> omega
  rcases List.mem_cons.1 hx with e | hx
  · omega
  rcases List.mem_append.1 hx with hx | hx
  · exact d w x hx
  rcases List.mem_cons.1 hx with e | hx
  · omega
  rcases List.mem_append.1 hx with hx | hx
  · exact d h x hx
  · simp only [List.mem_cons, List.not_mem_nil, or_false] at hx
    omega
structure PwOK (w h c : Int) (p q : List Int) (K W H : Nat) : Prop where
  hk : K = 1 ∨ K = 3
  w1 : 1 ≤ W
  w2 : W ≤ 32768
  h1 : 1 ≤ H
  h2 : H ≤ 32768
  hm : W * H ≤ 4194304
  hp : p.length = W * H * K
  ew : w = W
  eh : h = H
  ec : c = K
  eq : q = hdI K W H ++ p
theorem pw_im {w h c : Int} {p : List Int} (e : pwE w h c p.length = 0) : ∃ K W H : Nat, PwOK w h c p (pwL w h c p) K W H := by
  have e0 : imCheck w h c p.length = 0 := by
    unfold pwE at e
    split at e
    · rename_i k; exact absurd e k
    · rename_i k; exact Classical.not_not.1 k
  have e4 : c ≠ 4 := fun k => by unfold pwE at e; rw [if_neg (fun q => q e0), if_pos k] at e; cases e
  obtain ⟨hf, hn⟩ := check_inv e0
  obtain ⟨c1, w1, w2, h1, h2, wh, _⟩ := fits_inv hf
  obtain ⟨W, rfl⟩ : ∃ W : Nat, w = W := ⟨w.toNat, by omega⟩
  obtain ⟨H, rfl⟩ : ∃ H : Nat, h = H := ⟨h.toNat, by omega⟩
  obtain ⟨K, rfl⟩ : ∃ K : Nat, c = K := ⟨c.toNat, by omega⟩
  have hk : K = 1 ∨ K = 3 := by omega
  have cm : ((W * H : Nat) : Int) = (W : Int) * (H : Int) := Int.natCast_mul W H
  have hp : p.length = W * H * K := by
    have : ((W * H * K : Nat) : Int) = (W : Int) * (H : Int) * (K : Int) := by rw [Int.natCast_mul, cm]
    omega
  refine ⟨K, W, H, hk, by omega, by omega, by omega, by omega, by rw [← cm] at wh; omega, hp, rfl, rfl, rfl, ?_⟩
  unfold pwL
  rw [if_pos e, strI_hd hk]
structure PwRd (w h c : Int) (p q : List Int) : Prop where
  byt : Byt q
  e : pnE q = 0
  eW : pnK q (pgW q) = w
  eH : pnK q (pgH q) = h
  eC : pnK q (kdV q) = c
  eL : pnL q = p
  sz : (q.length : Int) = pszV w h c
  le : q.length ≤ 20019
  pos : 1 ≤ q.length
theorem psz_im {w h c : Int} {p q : List Int} {K W H : Nat} (o : PwOK w h c p q K W H) : (q.length : Int) = pszV w h c := by
  obtain ⟨hk, w1, w2, h1, h2, hm, hp, rfl, rfl, rfl, rfl⟩ := o
  have cm : ((W * H : Nat) : Int) = (W : Int) * (H : Int) := Int.natCast_mul W H
  have cm2 : ((W * H * K : Nat) : Int) = (W : Int) * (H : Int) * (K : Int) := by rw [Int.natCast_mul, cm]
  unfold pszV
  rw [if_pos ⟨by omega, by omega, by omega, by omega, by omega, by rw [← cm]; omega⟩, List.length_append, hp, ← strI_hd hk, List.length_map]
  omega
theorem pw_ok {w h c : Int} {p : List Int} (e : pwE w h c p.length = 0) (hp : p.length ≤ 20000) (hB : Bytes p) : PwRd w h c p (pwL w h c p) := by
  obtain ⟨K, W, H, o⟩ := pw_im e
  have sz := psz_im o
  obtain ⟨hk, w1, w2, h1, h2, hm, hp2, rfl, rfl, rfl, eq⟩ := o
  rw [eq] at sz ⊢
  obtain ⟨r1, r2, r3, r4, r5⟩ := rd_pw hk w1 w2 h1 h2 hm hp2
  have hl := hdI_le K w2 h2
  have hl2 := hdI_len K W H
  have hb : Bytes (hdI K W H ++ p) := fun x hx => (List.mem_append.1 hx).elim (hdI_bytes K W H x) (hB x)
  exact ⟨⟨by rw [List.length_append]; omega, fun i => hb.get i⟩, r1, r2, r3, r4, r5, sz, by rw [List.length_append]; omega, by rw [List.length_append]; omega⟩
theorem pn_back {b : List Int} (h : pnE b = 0) : pwE (pnK b (pgW b)) (pnK b (pgH b)) (pnK b (kdV b)) (pnL b).length = 0 ∧ (pwL (pnK b (pgW b)) (pnK b (pgH b)) (pnK b (kdV b)) (pnL b)).length ≤ b.length ∧ (pnL b).length ≤ b.length := by
  obtain ⟨k, w, h', hk, w1, w2, h1, h2, hm, hl, e1, e2, e3, hb⟩ := pn_im h
  rw [e1, e2, e3]
  have cm : ((w * h' : Nat) : Int) = (w : Int) * (h' : Int) := Int.natCast_mul w h'
  have cm2 : ((w * h' * k : Nat) : Int) = (w : Int) * (h' : Int) * (k : Int) := by rw [Int.natCast_mul, cm]
  have hE : pwE w h' k (pnL b).length = 0 := by
    have f : fitsI w h' k = 0 := by
      unfold fitsI
      rw [if_neg (by omega), if_neg (by rw [← cm]; omega), if_neg (by omega)]
    have c0 : imCheck w h' k (pnL b).length = 0 := by
      unfold imCheck
      rw [if_neg (fun q => q f), if_neg (by rw [hl]; omega)]
    unfold pwE
    rw [if_neg (fun q => q c0), if_neg (by omega)]
  refine ⟨hE, ?_, by omega⟩
  unfold pwL
  rw [if_pos hE, strI_hd hk, List.length_append]
  exact hb
theorem bytes_pnL {b : List Int} (h : Bytes b) : Bytes (pnL b) := by
  unfold pnL
  split
  · exact fun x hx => h x (List.mem_of_mem_drop hx)
  · exact fun x hx => by cases hx
theorem hd321 : hdS 3 2 1 = (ByteArray.mk #[80, 53, 10, 51, 32, 50, 10, 50, 53, 53, 10]).data.toList := by
  have e : hdS 3 2 1 = (ByteArray.mk #[80, 53, 10]).data.toList ++ Lib.itoa ((3 : Nat) : Int) ++ (ByteArray.mk #[32]).data.toList ++ Lib.itoa ((2 : Nat) : Int) ++ (ByteArray.mk #[10, 50, 53, 53, 10]).data.toList := if_pos rfl
  rw [e, Lib.itoa_nonneg, Lib.itoa_nonneg, Lib.decDigits_one (by decide), Lib.decDigits_one (by decide)]
  rfl
end Go.Proofs.YtocboijpmmlegaaDoor
namespace Go.Proofs.YtocboijpmmlegaaDoor
open Go Go.RowKit
def sMM (f : Int → Int → Int → List Int → Int → Int → Int → List Int → AV) : PSpec := fun l => match l with
  | [.agg [.int .i64 w, .int .i64 h, .int .i64 c, .roi .u8 p], .agg [.int .i64 v, .int .i64 g, .int .i64 d, .roi .u8 q]] => some ([p.length ≤ 1152921504606846975], f w h c p v g d q) | _ => none
theorem sMM_inv {f : Int → Int → Int → List Int → Int → Int → Int → List Int → AV} {l : List AV} {obs : List Prop} {v : AV} (h : sMM f l = some (obs, v)) : ∃ w hh c p w' h' c' q, l = [imA w hh c p, imA w' h' c' q] ∧ obs = [p.length ≤ 1152921504606846975] ∧ v = f w hh c p w' h' c' q := by
  unfold sMM at h
  split at h
  · simp only [Option.some.injEq, Prod.mk.injEq] at h; exact ⟨_, _, _, _, _, _, _, _, rfl, h.1.symm, h.2.symm⟩
  · cases h
def sameM (w h c : Int) (p : List Int) (v g d : Int) (q : List Int) : Bool := decide (w = v ∧ h = g ∧ c = d ∧ p = q)
abbrev sameS : PSpec := sMM fun w h c p v g d q => .bool (sameM w h c p v g d q)
theorem list_getD {p q : List Int} (hl : p.length = q.length) (h : ∀ j, j < p.length → p.getD j 0 = q.getD j 0) : p = q := by
  refine List.ext_getElem hl fun j h1 h2 => ?_
  have := h j h1
  simpa [List.getD, h1, h2] using this
theorem rsame_s : SOK Tryd.prog 17 sameS := by
  refine sok_of (C := mkC 0 [] noG) (mkC_ok pok_nil noG_ok) rfl mixed ⟨Tryd.func17, by kernel_rfl, by kernel_rfl, by kernel_rfl⟩ fun l obs v h ho => ?_
  obtain ⟨w, hh, c, p, v, g, d, q, rfl, rfl, rfl⟩ := sMM_inv h
  have fit : p.length ≤ 1152921504606846975 := ho _ (by simp)
  clear h ho
  refine ⟨Nat.le_of_ble_eq_true rfl, ?_⟩
  by_cases hd : w = v ∧ hh = g ∧ c = d ∧ p.length = q.length
  · obtain ⟨rfl, rfl, rfl, hl⟩ := hd
    have hl2 : (p.length : Int) = q.length := by omega
    (repeat (first | (refine ⟨fun hh => absurd hh ?prx, fun _ => ?_⟩; (case prx => (simp [hl, hl2]; done))) | (refine ⟨fun _ => ?_, fun hh => absurd hh ?prx⟩; (case prx => (simp [hl, hl2]; done))) | (refine ⟨?prx, ?_⟩; (case prx => (first | exact Chk.mk (by kernel_rfl) | exact rfl | exact rfl)))))
    refine ⟨Nat, fun i => [(2, .ptr 0 0), (3, .ptr 1 0), (5, .int .i64 i)], fun i => ⟨2, [(0, some (.cells 24 [.int .i64 w, .int .i64 hh, .int .i64 c, .roi .u8 p])), (1, some (.cells 24 [.int .i64 w, .int .i64 hh, .int .i64 c, .roi .u8 q]))]⟩,
      fun i => i ≤ p.length ∧ ∀ j, j < i → p.getD j 0 = q.getD j 0, fun i => p.length - i, ⟨0, [some 0, some 1], ⟨Nat.zero_le _, fun j hj => by omega⟩, ?_⟩, fun i hi => ?_⟩
    · (repeat' (first | apply And.intro | intro h)); (all_goals (try exact Chk.mk (by kernel_rfl)))
      (all_goals (try first | exact True.intro | exact rfl | exact And.intro rfl rfl | exact And.intro rfl (fun _ _ => rfl)))
    refine ⟨fun hy => ?_, fun hy => ?_⟩
    · replace hy : (i : Int) < (p.length : Int) := of_decide_eq_true hy
      have hb := hi.2
      have b1 : 0 ≤ (i : Int) ∧ (i : Int) < (p.length : Int) := ⟨by omega, hy⟩
      have b2 : 0 ≤ (i : Int) ∧ (i : Int) < (q.length : Int) := ⟨by omega, by omega⟩
      have q1 : rngI .i64 ((i : Int) + 1) := rng64 (by omega) (by have := fit; omega)
      refine ⟨⟨by kernel_rfl⟩, b1, b2, fun h5 => ?_, fun h5 => ?_⟩
      · have h5 : ¬ p.getD i 0 = q.getD i 0 := of_decide_eq_true h5
        have e : sameM w hh c p w hh c q = false := by
          simp only [sameM, decide_eq_false_iff_not]
          rintro ⟨_, _, _, h4⟩
          exact h5 (by rw [h4])
        rw [e]
        (repeat' (first | apply And.intro | intro h)); (all_goals (try exact Chk.mk (by kernel_rfl)))
        (all_goals (try first | assumption | exact rfl | exact True.intro | contradiction | (exfalso; simp only [decide_eq_true_eq, decide_eq_false_iff_not, Bool.not_eq_true', Bool.not_eq_false', Bool.and_eq_true, Bool.or_eq_true, Bool.and_eq_false_iff, Bool.or_eq_false_iff, Int.not_lt, Int.not_le, ne_eq, Classical.not_not] at *; omega)))
      · have h5 : p.getD i 0 = q.getD i 0 := by simpa using h5
        refine ⟨q1, i + 1, [some 0, some 1], ⟨by omega, fun j hj => ?_⟩, (by show p.length - (i + 1) < p.length - i; omega), ?_⟩
        · by_cases hji : j = i
          · rw [hji]; exact h5
          · exact hb j (by omega)
        · (repeat' (first | apply And.intro | intro h)); (all_goals (try exact Chk.mk (by kernel_rfl)))
          (all_goals (try first | exact True.intro | exact rfl | exact And.intro rfl rfl | exact And.intro rfl (fun _ _ => rfl)))
    · replace hy : ¬ (i : Int) < (p.length : Int) := of_decide_eq_false hy
      have e : sameM w hh c p w hh c q = true := by
        have := list_getD hl (fun j hj => hi.2 j (by omega))
        simp [sameM, this]
      rw [e]
      (repeat' (first | apply And.intro | intro h)); (all_goals (try exact Chk.mk (by kernel_rfl)))
      (all_goals (try first | assumption | exact rfl | exact True.intro | contradiction | (exfalso; simp only [decide_eq_true_eq, decide_eq_false_iff_not, Bool.not_eq_true', Bool.not_eq_false', Bool.and_eq_true, Bool.or_eq_true, Bool.and_eq_false_iff, Bool.or_eq_false_iff, Int.not_lt, Int.not_le, ne_eq, Classical.not_not] at *; omega)))
  · have e : sameM w hh c p v g d q = false := by
      simp only [sameM, decide_eq_false_iff_not]
      rintro ⟨h1, h2, h3, h4⟩
      exact hd ⟨h1, h2, h3, by rw [h4]⟩
    rw [e]
    (repeat' (first | apply And.intro | intro h)); (all_goals (try exact Chk.mk (by kernel_rfl)))
    (all_goals (try first | assumption | exact rfl | exact True.intro | contradiction | (exfalso; simp only [decide_eq_true_eq, decide_eq_false_iff_not, Bool.not_eq_true', Bool.not_eq_false', Bool.and_eq_true, Bool.or_eq_true, Bool.and_eq_false_iff, Bool.or_eq_false_iff, Int.not_lt, Int.not_le, ne_eq, Classical.not_not] at *; omega)))
end Go.Proofs.YtocboijpmmlegaaDoor
namespace Go.Proofs.YtocboijpmmlegaaDoor
open Go Go.RowKit
set_option maxHeartbeats 4000000
theorem alive15_s : SOK Tryd.prog 15 (sN (.bool true)) := by
  refine sok_of (C := mkC 0 [(13, headS)] noG) (mkC_ok (pok_cons head_s pok_nil) noG_ok) rfl mixed ⟨Tryd.func15, by kernel_rfl, by kernel_rfl, by kernel_rfl⟩ fun l obs v h ho => ?_
  obtain ⟨rfl, rfl, rfl⟩ := sN_inv h
  refine ⟨Nat.le_of_ble_eq_true rfl, ?_⟩
  have e : decide (hdS 3 2 1 = (ByteArray.mk #[80, 53, 10, 51, 32, 50, 10, 50, 53, 53, 10]).data.toList) = true := decide_eq_true hd321
  (repeat' (first | (refine xI (fun hfk => ?_) (fun hfk => ?_) <;> ((try (first | replace hfk := oT hfk | replace hfk := oF hfk | simp only [oA, oB, dh1, dh0, ne_eq, reduceCtorEq] at hfk)); (try (exfalso; first | omega | contradiction | exact xF hfk (by with_reducible assumption) | exact xT hfk (by with_reducible assumption))))) | (refine And.intro ?ob ?_; (case ob => (first | exact Chk.mk (by kernel_rfl) | exact True.intro | with_reducible assumption | exact rng64 (by omega) (by omega) | omega | (dsimp only; omega) | (show (_ : Nat) ≤ _; omega) | (simp only [ll1, ll2, ll0]; first | done | omega) | (dsimp only; simp only [ll1, ll2, ll0]; omega)))) | exact True.intro | (show _ = _; first | with_reducible rfl | with_reducible assumption | omega | (simp only [ll1, ll2, ll0]; omega) | (first | exact e | exact e.symm; done) | exact rfl) | with_reducible assumption | (apply And.intro) | omega | (intro j hj; exact rfl)))
theorem pnL_le (b : List Int) : (pnL b).length ≤ b.length := by
  unfold pnL
  split
  · rw [List.length_drop]; omega
  · exact Nat.zero_le _
theorem sameM_self15 (w h c : Int) (p : List Int) : sameM w h c p w h c p = true := by simp [sameM]
attribute [local irreducible] pnE pnK pnL pgW pgH kdV pwE pwL pszV sameM
theorem walk_PnmBack' (w h c : Int) (p b : List Int) (hB : Bytes p) (hBb : Bytes b) (W : World) (hgl : GL W NoO) {cl : List Value} (hcl : CRel noN W NoO [imA w h c p, .roi .u8 b] cl) :
    Calls Tryd.prog 5 cl.toArray W fun e W' => e = .returned (.bool true) ∧ Below W.heap.size W W' := by
  refine law_of (C := mkC 0 [(7, fewS), (8, pwS), (16, pnmS), (17, fun l => sameS (l.map nzA)), (14, psizS), (15, sN (.bool true))] noG)
    (mkC_ok (pok_cons few_s (pok_cons pwrite_s (pok_cons pread_s (pok_cons (sok_nz rsame_s) (pok_cons psiz_s (pok_cons alive15_s pok_nil)))))) noG_ok) rfl ⟨Tryd.func5, by kernel_rfl, by kernel_rfl, by kernel_rfl⟩ (by exact Nat.le_of_ble_eq_true rfl) ?_ hcl (hg := hgl)
  by_cases hl : 20000 < p.length
  · (repeat' (first | (refine xI (fun hfk => ?_) (fun hfk => ?_) <;> ((try (first | replace hfk := oT hfk | replace hfk := oF hfk | simp only [oA, oB, dh1, dh0, ne_eq, reduceCtorEq] at hfk)); (try (exfalso; first | omega | contradiction | exact xF hfk (by with_reducible assumption) | exact xT hfk (by with_reducible assumption))))) | (refine And.intro ?ob ?_; (case ob => (first | exact Chk.mk (by kernel_rfl) | exact True.intro | with_reducible assumption | exact rng64 (by omega) (by omega) | omega | (dsimp only; omega) | (show (_ : Nat) ≤ _; omega) | (simp only [ll1, ll2, ll0]; first | done | omega) | (dsimp only; simp only [ll1, ll2, ll0]; omega)))) | exact True.intro | (show _ = _; first | with_reducible rfl | with_reducible assumption | omega | (simp only [ll1, ll2, ll0]; omega) | (rfl; done) | exact rfl) | with_reducible assumption | (apply And.intro) | omega | (intro j hj; exact rfl)))
  by_cases hl2 : 20000 < b.length
  · (repeat' (first | (refine xI (fun hfk => ?_) (fun hfk => ?_) <;> ((try (first | replace hfk := oT hfk | replace hfk := oF hfk | simp only [oA, oB, dh1, dh0, ne_eq, reduceCtorEq] at hfk)); (try (exfalso; first | omega | contradiction | exact xF hfk (by with_reducible assumption) | exact xT hfk (by with_reducible assumption))))) | (refine And.intro ?ob ?_; (case ob => (first | exact Chk.mk (by kernel_rfl) | exact True.intro | with_reducible assumption | exact rng64 (by omega) (by omega) | omega | (dsimp only; omega) | (show (_ : Nat) ≤ _; omega) | (simp only [ll1, ll2, ll0]; first | done | omega) | (dsimp only; simp only [ll1, ll2, ll0]; omega)))) | exact True.intro | (show _ = _; first | with_reducible rfl | with_reducible assumption | omega | (simp only [ll1, ll2, ll0]; omega) | (rfl; done) | exact rfl) | with_reducible assumption | (apply And.intro) | omega | (intro j hj; exact rfl)))
  have hp : p.length ≤ 20000 := by omega
  have hb2 : b.length ≤ 20000 := by omega
  have hb : Byt b := ⟨by omega, fun i => hBb.get i⟩
  have hz : pnE b ≠ 0 → sameM (pnK b (pgW b)) (pnK b (pgH b)) (pnK b (kdV b)) (pnL b) 0 0 0 [] = true := fun k => by
    obtain ⟨z1, z2⟩ := pn_bad k
    rw [z1, z1, z1, z2]; exact sameM_self15 _ _ _ _
  have back : pnE b = 0 → pwE (pnK b (pgW b)) (pnK b (pgH b)) (pnK b (kdV b)) (pnL b).length = 0 ∧ (pnL b).length ≤ 20000 ∧
      PwRd (pnK b (pgW b)) (pnK b (pgH b)) (pnK b (kdV b)) (pnL b) (pwL (pnK b (pgW b)) (pnK b (pgH b)) (pnK b (kdV b)) (pnL b)) ∧ sameM (pnK b (pgW b)) (pnK b (pgH b)) (pnK b (kdV b)) (pnL b) (pnK (pwL (pnK b (pgW b)) (pnK b (pgH b)) (pnK b (kdV b)) (pnL b)) (pgW (pwL (pnK b (pgW b)) (pnK b (pgH b)) (pnK b (kdV b)) (pnL b)))) (pnK (pwL (pnK b (pgW b)) (pnK b (pgH b)) (pnK b (kdV b)) (pnL b)) (pgH (pwL (pnK b (pgW b)) (pnK b (pgH b)) (pnK b (kdV b)) (pnL b)))) (pnK (pwL (pnK b (pgW b)) (pnK b (pgH b)) (pnK b (kdV b)) (pnL b)) (kdV (pwL (pnK b (pgW b)) (pnK b (pgH b)) (pnK b (kdV b)) (pnL b)))) (pnL (pwL (pnK b (pgW b)) (pnK b (pgH b)) (pnK b (kdV b)) (pnL b))) = true ∧ (pwL (pnK b (pgW b)) (pnK b (pgH b)) (pnK b (kdV b)) (pnL b)).length ≤ b.length := fun e2 => by
    obtain ⟨r1, r2, r3⟩ := pn_back e2
    have u := pw_ok r1 (by omega) (bytes_pnL hBb)
    refine ⟨r1, by omega, u, ?_, r2⟩
    rw [u.eW, u.eH, u.eC, u.eL]; exact sameM_self15 _ _ _ _
  have hlb : (pnL b).length ≤ 20000 := by have := pnL_le b; omega
  by_cases e : pwE w h c p.length = 0
  · have o := pw_ok e hp hB
    have oe := o.e
    have ob := o.byt
    have osz := o.sz
    have ole := o.le
    have hs : sameM w h c p (pnK (pwL w h c p) (pgW (pwL w h c p))) (pnK (pwL w h c p) (pgH (pwL w h c p))) (pnK (pwL w h c p) (kdV (pwL w h c p))) (pnL (pwL w h c p)) = true := by
      rw [o.eW, o.eH, o.eC, o.eL]; exact sameM_self15 _ _ _ _
    obtain ⟨K, W1, H1, im⟩ := pw_im e
    have i1 : -9223372036854775808 ≤ w := by have := im.ew; omega
    have i2 : w ≤ 9223372036854775807 := by have := im.ew; have := im.w2; omega
    have i3 : -9223372036854775808 ≤ h := by have := im.eh; omega
    have i4 : h ≤ 9223372036854775807 := by have := im.eh; have := im.h2; omega
    clear im o
    by_cases e2 : pnE b = 0
    · obtain ⟨b1, b2, b3, b4, b5⟩ := back e2
      have be := b3.e
      have bb := b3.byt
      clear b3 back hz
      (repeat' (first | (refine xI (fun hfk => ?_) (fun hfk => ?_) <;> ((try (first | replace hfk := oT hfk | replace hfk := oF hfk | simp only [oA, oB, dh1, dh0, ne_eq, reduceCtorEq] at hfk)); (try (exfalso; first | omega | contradiction | exact xF hfk (by with_reducible assumption) | exact xT hfk (by with_reducible assumption))))) | (refine And.intro ?ob ?_; (case ob => (first | exact Chk.mk (by kernel_rfl) | exact True.intro | with_reducible assumption | exact rng64 (by omega) (by omega) | omega | (dsimp only; omega) | (show (_ : Nat) ≤ _; omega) | (simp only [ll1, ll2, ll0]; first | done | omega) | (dsimp only; simp only [ll1, ll2, ll0]; omega)))) | exact True.intro | (show _ = _; first | with_reducible rfl | with_reducible assumption | omega | (simp only [ll1, ll2, ll0]; omega) | (first | exact ob | exact hb | exact bb | exact hs | exact b4 | rfl; done) | exact rfl) | with_reducible assumption | (apply And.intro) | omega | (intro j hj; exact rfl)))
    · have hz := hz e2
      clear back
      (repeat' (first | (refine xI (fun hfk => ?_) (fun hfk => ?_) <;> ((try (first | replace hfk := oT hfk | replace hfk := oF hfk | simp only [oA, oB, dh1, dh0, ne_eq, reduceCtorEq] at hfk)); (try (exfalso; first | omega | contradiction | exact xF hfk (by with_reducible assumption) | exact xT hfk (by with_reducible assumption))))) | (refine And.intro ?ob ?_; (case ob => (first | exact Chk.mk (by kernel_rfl) | exact True.intro | with_reducible assumption | exact rng64 (by omega) (by omega) | omega | (dsimp only; omega) | (show (_ : Nat) ≤ _; omega) | (simp only [ll1, ll2, ll0]; first | done | omega) | (dsimp only; simp only [ll1, ll2, ll0]; omega)))) | exact True.intro | (show _ = _; first | with_reducible rfl | with_reducible assumption | omega | (simp only [ll1, ll2, ll0]; omega) | (first | exact ob | exact hb | exact hs | exact hz | rfl; done) | exact rfl) | with_reducible assumption | (apply And.intro) | omega | (intro j hj; exact rfl)))
  · by_cases e2 : pnE b = 0
    · obtain ⟨b1, b2, b3, b4, b5⟩ := back e2
      have be := b3.e
      have bb := b3.byt
      clear b3 back hz
      (repeat' (first | (refine xI (fun hfk => ?_) (fun hfk => ?_) <;> ((try (first | replace hfk := oT hfk | replace hfk := oF hfk | simp only [oA, oB, dh1, dh0, ne_eq, reduceCtorEq] at hfk)); (try (exfalso; first | omega | contradiction | exact xF hfk (by with_reducible assumption) | exact xT hfk (by with_reducible assumption))))) | (refine And.intro ?ob ?_; (case ob => (first | exact Chk.mk (by kernel_rfl) | exact True.intro | with_reducible assumption | exact rng64 (by omega) (by omega) | omega | (dsimp only; omega) | (show (_ : Nat) ≤ _; omega) | (simp only [ll1, ll2, ll0]; first | done | omega) | (dsimp only; simp only [ll1, ll2, ll0]; omega)))) | exact True.intro | (show _ = _; first | with_reducible rfl | with_reducible assumption | omega | (simp only [ll1, ll2, ll0]; omega) | (first | exact hb | exact bb | exact b4 | rfl; done) | exact rfl) | with_reducible assumption | (apply And.intro) | omega | (intro j hj; exact rfl)))
    · have hz := hz e2
      clear back
      (repeat' (first | (refine xI (fun hfk => ?_) (fun hfk => ?_) <;> ((try (first | replace hfk := oT hfk | replace hfk := oF hfk | simp only [oA, oB, dh1, dh0, ne_eq, reduceCtorEq] at hfk)); (try (exfalso; first | omega | contradiction | exact xF hfk (by with_reducible assumption) | exact xT hfk (by with_reducible assumption))))) | (refine And.intro ?ob ?_; (case ob => (first | exact Chk.mk (by kernel_rfl) | exact True.intro | with_reducible assumption | exact rng64 (by omega) (by omega) | omega | (dsimp only; omega) | (show (_ : Nat) ≤ _; omega) | (simp only [ll1, ll2, ll0]; first | done | omega) | (dsimp only; simp only [ll1, ll2, ll0]; omega)))) | exact True.intro | (show _ = _; first | with_reducible rfl | with_reducible assumption | omega | (simp only [ll1, ll2, ll0]; omega) | (first | exact hb | exact hz | rfl; done) | exact rfl) | with_reducible assumption | (apply And.intro) | omega | (intro j hj; exact rfl)))
end Go.Proofs.YtocboijpmmlegaaDoor

