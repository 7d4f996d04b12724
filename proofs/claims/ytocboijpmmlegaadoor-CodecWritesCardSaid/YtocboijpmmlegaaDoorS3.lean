/- Texts laid together. No condition. -/
import Derived.Test.YtocboijpmmlegaaDoorS2
set_option maxRecDepth 100000
set_option linter.unusedVariables false
set_option linter.unusedSimpArgs false
namespace Go.Proofs.YtocboijpmmlegaaDoor
open Go Go.RowKit
set_option maxHeartbeats 4000000
theorem kdP_le (r : List Int) : kdP r ≤ r.length := by
  unfold kdP
  split
  · rename_i h
    unfold kdC at h
    split at h
    · rename_i k; exact wordC_le (s := [80, 53]) k
    · exact wordC_le (s := [80, 54]) h
  · omega
def pkindF : FSpec := fun l es => match l, es with
  | [.ptr 0 0], [.cells 69 [.sl 1 1 0 n, .int .i64 a], .ints 5 .u8 b] =>
    some ([n = b.length, 0 ≤ a, a ≤ b.length, b.length ≤ 140737488355328], .tup [.int .i64 (kdV (cR b a)), .int .i64 (kdC (cR b a))], [some (cutE n (a + (kdP (cR b a) : Int))), some (bE b)])
  | _, _ => none
theorem pkind_g : GSOK Tryd.prog 46 (fG pkindF) := by
  refine fok (S := []) (G := glook [(74, fG cwordF)]) pok_nil (gl_cons cword_g gl_nil) ⟨Tryd.func46, by kernel_rfl, by kernel_rfl, by kernel_rfl⟩ fun l es obs v es' h ho => ?_
  (unfold pkindF at h; split at h; rotate_left; (focus (cases h)); rename_i n a b; simp only [Option.some.injEq, Prod.mk.injEq] at h; obtain ⟨rfl, rfl, rfl⟩ := h; simp only [List.mem_cons, List.not_mem_nil, or_false, forall_eq_or_imp, forall_eq, false_implies, implies_true] at ho)
  obtain ⟨rfl, ho1, ho2, ho3⟩ := ho
  refine ⟨Nat.le_of_ble_eq_true rfl, ?_⟩
  have el : (cR b a).length = b.length - a.toNat := by simp
  have q5 : wordC (cR b a) (strI (ByteArray.mk #[80, 53]).data.toList) = wordC (cR b a) [80, 53] := rfl
  have q6 : wordC (cR b a) (strI (ByteArray.mk #[80, 54]).data.toList) = wordC (cR b a) [80, 54] := rfl
  have l5 : (ByteArray.mk #[80, 53]).data.toList.length ≤ 140737488355328 := by decide
  have l6 : (ByteArray.mk #[80, 54]).data.toList.length ≤ 140737488355328 := by decide
  by_cases k1 : wordC (cR b a) [80, 53] = 0
  · have e : kdC (cR b a) = wordC (cR b a) (strI (ByteArray.mk #[80, 53]).data.toList) := by rw [q5]; unfold kdC; rw [if_pos k1, k1]
    have e1 : kdV (cR b a) = 1 := if_pos k1
    have e2 : (kdP (cR b a) : Int) = wordN (cR b a) (ByteArray.mk #[80, 53]).data.toList := by
      unfold kdP wordN; rw [e, q5, if_pos k1, if_pos k1]; rfl
    have k2 : wordC (cR b a) (strI (ByteArray.mk #[80, 53]).data.toList) = 0 := k1
    rw [e, e1, e2]
    clear e e1 e2 q5 q6
    (repeat' (first | (refine xI (fun hfk => ?_) (fun hfk => ?_) <;> ((try (first | replace hfk := oT hfk | replace hfk := oF hfk | simp only [oA, oB, dh1, dh0, ne_eq, reduceCtorEq] at hfk)); (try exact oX))) | (refine And.intro ?ob ?_; (case ob => (exact oZ))) | exact True.intro | (show _ = _; first | exact oY | (skip; done) | exact rfl) | exact oW | (apply And.intro)))
    (refine ⟨[0, 1], ⟨by kernel_rfl⟩, ?_⟩)
    (repeat' (first | (refine xI (fun hfk => ?_) (fun hfk => ?_) <;> ((try (first | replace hfk := oT hfk | replace hfk := oF hfk | simp only [oA, oB, dh1, dh0, ne_eq, reduceCtorEq] at hfk)); (try exact oX))) | (refine And.intro ?ob ?_; (case ob => (exact oZ))) | exact True.intro | (show _ = _; first | exact oY | (skip; done) | exact rfl) | exact oW | (apply And.intro)))
    refine ⟨[some 0, some 1], ?_⟩
    (repeat' (first | (refine xI (fun hfk => ?_) (fun hfk => ?_) <;> ((try (first | replace hfk := oT hfk | replace hfk := oF hfk | simp only [oA, oB, dh1, dh0, ne_eq, reduceCtorEq] at hfk)); (try exact oX))) | (refine And.intro ?ob ?_; (case ob => (exact oZ))) | exact True.intro | (show _ = _; first | exact oY | (first | rfl | (show (_ : Int) = _; omega); done) | exact rfl) | exact oW | (apply And.intro)))
  · have z : wordN (cR b a) (ByteArray.mk #[80, 53]).data.toList = 0 := by unfold wordN; rw [q5, if_neg k1]
    have ea : a + wordN (cR b a) (ByteArray.mk #[80, 53]).data.toList = a := by rw [z]; omega
    have e : kdC (cR b a) = wordC (cR b (a + wordN (cR b a) (ByteArray.mk #[80, 53]).data.toList)) (strI (ByteArray.mk #[80, 54]).data.toList) := by rw [ea, q6]; unfold kdC; rw [if_neg k1]
    have e1 : kdV (cR b a) = 3 := if_neg k1
    have e2 : a + (kdP (cR b a) : Int) = a + wordN (cR b a) (ByteArray.mk #[80, 53]).data.toList + wordN (cR b (a + wordN (cR b a) (ByteArray.mk #[80, 53]).data.toList)) (ByteArray.mk #[80, 54]).data.toList := by
      rw [ea]
      unfold kdP wordN
      have : kdC (cR b a) = wordC (cR b a) [80, 54] := if_neg k1
      rw [this, q6]
      by_cases k : wordC (cR b a) [80, 54] = 0
      · rw [if_pos k, if_pos k]; rfl
      · rw [if_neg k, if_neg k]; rfl
    have k2 : ¬ wordC (cR b a) (strI (ByteArray.mk #[80, 53]).data.toList) = 0 := k1
    rw [e, e1, e2]
    clear e e1 e2 q5 q6
    (repeat' (first | (refine xI (fun hfk => ?_) (fun hfk => ?_) <;> ((try (first | replace hfk := oT hfk | replace hfk := oF hfk | simp only [oA, oB, dh1, dh0, ne_eq, reduceCtorEq] at hfk)); (try exact oX))) | (refine And.intro ?ob ?_; (case ob => (exact oZ))) | exact True.intro | (show _ = _; first | exact oY | (skip; done) | exact rfl) | exact oW | (apply And.intro)))
    (refine ⟨[0, 1], ⟨by kernel_rfl⟩, ?_⟩)
    (repeat' (first | (refine xI (fun hfk => ?_) (fun hfk => ?_) <;> ((try (first | replace hfk := oT hfk | replace hfk := oF hfk | simp only [oA, oB, dh1, dh0, ne_eq, reduceCtorEq] at hfk)); (try exact oX))) | (refine And.intro ?ob ?_; (case ob => (exact oZ))) | exact True.intro | (show _ = _; first | exact oY | (skip; done) | exact rfl) | exact oW | (apply And.intro)))
    (refine ⟨[0, 1], ⟨by kernel_rfl⟩, ?_⟩)
    (repeat' (first | (refine xI (fun hfk => ?_) (fun hfk => ?_) <;> ((try (first | replace hfk := oT hfk | replace hfk := oF hfk | simp only [oA, oB, dh1, dh0, ne_eq, reduceCtorEq] at hfk)); (try exact oX))) | (refine And.intro ?ob ?_; (case ob => (exact oZ))) | exact True.intro | (show _ = _; first | exact oY | (skip; done) | exact rfl) | exact oW | (apply And.intro)))
    refine ⟨[some 0, some 1], ?_⟩
    (repeat' (first | (refine xI (fun hfk => ?_) (fun hfk => ?_) <;> ((try (first | replace hfk := oT hfk | replace hfk := oF hfk | simp only [oA, oB, dh1, dh0, ne_eq, reduceCtorEq] at hfk)); (try exact oX))) | (refine And.intro ?ob ?_; (case ob => (exact oZ))) | exact True.intro | (show _ = _; first | exact oY | (first | rfl | (show (_ : Int) = _; omega); done) | exact rfl) | exact oW | (apply And.intro)))
def pgE (r : List Int) : Int := if kdC r ≠ 0 then kdC r else if szC (r.drop 2) ≠ 0 then szC (r.drop 2) else dpC ((r.drop 2).drop (szP (r.drop 2)))
def pgW (r : List Int) : Int := if kdC r = 0 then szW (r.drop 2) else 0
def pgH (r : List Int) : Int := if kdC r = 0 then szH (r.drop 2) else 0
def pgP (r : List Int) : Int := if kdC r ≠ 0 then 0 else if szC (r.drop 2) ≠ 0 then 2 + (szP (r.drop 2) : Int) else 2 + (szP (r.drop 2) : Int) + dpP ((r.drop 2).drop (szP (r.drop 2)))
def pheadF : FSpec := fun l es => match l, es with
  | [.ptr 0 0], [.cells 69 [.sl 1 1 0 n, .int .i64 a], .ints 5 .u8 b] =>
    some ([n = b.length, 0 ≤ a, a ≤ b.length, b.length ≤ 140737488355328], .tup [.agg [.int .i64 (pgW (cR b a)), .int .i64 (pgH (cR b a)), .int .i64 (kdV (cR b a)), .nils], .int .i64 (pgE (cR b a))], [some (cutE n (a + pgP (cR b a))), some (bE b)])
  | _, _ => none
theorem phead_g : GSOK Tryd.prog 28 (fG pheadF) := by
  refine fokE (S := []) (G := glook [(46, fG pkindF), (47, fG psizeF)]) [(48, pdepF)] [] [] pok_nil (gl_cons pkind_g (gl_cons psize_g gl_nil)) (dl_cons pdep_g dl_nil) ⟨Tryd.func28, by kernel_rfl, by kernel_rfl, by kernel_rfl⟩ fun l es obs v es' h ho => ?_
  (unfold pheadF at h; split at h; rotate_left; (focus (cases h)); rename_i n a b; simp only [Option.some.injEq, Prod.mk.injEq] at h; obtain ⟨rfl, rfl, rfl⟩ := h; simp only [List.mem_cons, List.not_mem_nil, or_false, forall_eq_or_imp, forall_eq, false_implies, implies_true] at ho)
  obtain ⟨rfl, ho1, ho2, ho3⟩ := ho
  refine ⟨Nat.le_of_ble_eq_true rfl, ?_⟩
  have el : (cR b a).length = b.length - a.toNat := by simp
  have hk := kdP_le (cR b a)
  by_cases k1 : kdC (cR b a) = 0
  rotate_left
  · have e : pgE (cR b a) = kdC (cR b a) := if_pos k1
    have e1 : pgW (cR b a) = 0 := if_neg k1
    have e2 : pgH (cR b a) = 0 := if_neg k1
    have e3 : a + pgP (cR b a) = a + (kdP (cR b a) : Int) := by unfold pgP kdP; rw [if_pos k1, if_neg k1]; rfl
    rw [e, e1, e2, e3]
    clear e e1 e2 e3
    (repeat' (first | (refine xI (fun hfk => ?_) (fun hfk => ?_) <;> ((try (first | replace hfk := oT hfk | replace hfk := oF hfk | simp only [oA, oB, dh1, dh0, ne_eq, reduceCtorEq] at hfk)); (try exact oX))) | (refine And.intro ?ob ?_; (case ob => (exact oZ))) | exact True.intro | (show _ = _; first | exact oY | (skip; done) | exact rfl) | exact oW | (apply And.intro)))
    (refine ⟨[0, 1], ⟨by kernel_rfl⟩, ?_⟩)
    (repeat' (first | (refine xI (fun hfk => ?_) (fun hfk => ?_) <;> ((try (first | replace hfk := oT hfk | replace hfk := oF hfk | simp only [oA, oB, dh1, dh0, ne_eq, reduceCtorEq] at hfk)); (try exact oX))) | (refine And.intro ?ob ?_; (case ob => (exact oZ))) | exact True.intro | (show _ = _; first | exact oY | (skip; done) | exact rfl) | exact oW | (apply And.intro)))
    refine ⟨[some 0, some 1], ?_⟩
    (repeat' (first | (refine xI (fun hfk => ?_) (fun hfk => ?_) <;> ((try (first | replace hfk := oT hfk | replace hfk := oF hfk | simp only [oA, oB, dh1, dh0, ne_eq, reduceCtorEq] at hfk)); (try exact oX))) | (refine And.intro ?ob ?_; (case ob => (exact oZ))) | exact True.intro | (show _ = _; first | exact oY | (first | rfl | (show (_ : Int) = _; omega); done) | exact rfl) | exact oW | (apply And.intro)))
  have hp2 : kdP (cR b a) = 2 := if_pos k1
  have ec := cR_add (b := b) (a := a) (n := kdP (cR b a)) ho1
  have hs := szP_le (cR b (a + (kdP (cR b a) : Int)))
  have hl2 : (cR b (a + (kdP (cR b a) : Int))).length = b.length - (a + (kdP (cR b a) : Int)).toNat := by simp
  have e1 : pgW (cR b a) = szW (cR b (a + (kdP (cR b a) : Int))) := by rw [ec, hp2]; exact if_pos k1
  have e2 : pgH (cR b a) = szH (cR b (a + (kdP (cR b a) : Int))) := by rw [ec, hp2]; exact if_pos k1
  rw [e1, e2]
  clear e1 e2
  by_cases k2 : szC (cR b (a + (kdP (cR b a) : Int))) = 0
  rotate_left
  · have e : pgE (cR b a) = szC (cR b (a + (kdP (cR b a) : Int))) := by
      rw [ec, hp2] at k2 ⊢; unfold pgE; rw [if_neg (fun k => k k1), if_pos k2]
    have e3 : a + pgP (cR b a) = a + (kdP (cR b a) : Int) + (szP (cR b (a + (kdP (cR b a) : Int))) : Int) := by
      rw [ec, hp2] at k2 ⊢; unfold pgP; rw [if_neg (fun k => k k1), if_pos k2]; omega
    rw [e, e3]
    clear e e3 ec
    (repeat' (first | (refine xI (fun hfk => ?_) (fun hfk => ?_) <;> ((try (first | replace hfk := oT hfk | replace hfk := oF hfk | simp only [oA, oB, dh1, dh0, ne_eq, reduceCtorEq] at hfk)); (try exact oX))) | (refine And.intro ?ob ?_; (case ob => (exact oZ))) | exact True.intro | (show _ = _; first | exact oY | (skip; done) | exact rfl) | exact oW | (apply And.intro)))
    (refine ⟨[0, 1], ⟨by kernel_rfl⟩, ?_⟩)
    (repeat' (first | (refine xI (fun hfk => ?_) (fun hfk => ?_) <;> ((try (first | replace hfk := oT hfk | replace hfk := oF hfk | simp only [oA, oB, dh1, dh0, ne_eq, reduceCtorEq] at hfk)); (try exact oX))) | (refine And.intro ?ob ?_; (case ob => (exact oZ))) | exact True.intro | (show _ = _; first | exact oY | (skip; done) | exact rfl) | exact oW | (apply And.intro)))
    (refine ⟨[0, 1], ⟨by kernel_rfl⟩, ?_⟩)
    (repeat' (first | (refine xI (fun hfk => ?_) (fun hfk => ?_) <;> ((try (first | replace hfk := oT hfk | replace hfk := oF hfk | simp only [oA, oB, dh1, dh0, ne_eq, reduceCtorEq] at hfk)); (try exact oX))) | (refine And.intro ?ob ?_; (case ob => (exact oZ))) | exact True.intro | (show _ = _; first | exact oY | (skip; done) | exact rfl) | exact oW | (apply And.intro)))
    refine ⟨[some 0, some 1], ?_⟩
    (repeat' (first | (refine xI (fun hfk => ?_) (fun hfk => ?_) <;> ((try (first | replace hfk := oT hfk | replace hfk := oF hfk | simp only [oA, oB, dh1, dh0, ne_eq, reduceCtorEq] at hfk)); (try exact oX))) | (refine And.intro ?ob ?_; (case ob => (exact oZ))) | exact True.intro | (show _ = _; first | exact oY | (first | rfl | (show (_ : Int) = _; omega); done) | exact rfl) | exact oW | (apply And.intro)))
  have ed := cR_add (b := b) (a := a + (kdP (cR b a) : Int)) (n := szP (cR b (a + (kdP (cR b a) : Int)))) (by omega)
  have e : pgE (cR b a) = dpC (cR b (a + (kdP (cR b a) : Int) + (szP (cR b (a + (kdP (cR b a) : Int))) : Int))) := by
    rw [ed]
    rw [ec, hp2] at k2 ⊢; unfold pgE; rw [if_neg (fun k => k k1), if_neg (fun k => k k2)]
  have e3 : a + pgP (cR b a) = a + (kdP (cR b a) : Int) + (szP (cR b (a + (kdP (cR b a) : Int))) : Int) + dpP (cR b (a + (kdP (cR b a) : Int) + (szP (cR b (a + (kdP (cR b a) : Int))) : Int))) := by
    rw [ed]
    rw [ec, hp2] at k2 ⊢; unfold pgP; rw [if_neg (fun k => k k1), if_neg (fun k => k k2)]; omega
  rw [e, e3]
  clear e e3 ec ed
  (repeat' (first | (refine xI (fun hfk => ?_) (fun hfk => ?_) <;> ((try (first | replace hfk := oT hfk | replace hfk := oF hfk | simp only [oA, oB, dh1, dh0, ne_eq, reduceCtorEq] at hfk)); (try exact oX))) | (refine And.intro ?ob ?_; (case ob => (exact oZ))) | exact True.intro | (show _ = _; first | exact oY | (skip; done) | exact rfl) | exact oW | (apply And.intro)))
  (refine ⟨[0, 1], ⟨by kernel_rfl⟩, ?_⟩)
  (repeat' (first | (refine xI (fun hfk => ?_) (fun hfk => ?_) <;> ((try (first | replace hfk := oT hfk | replace hfk := oF hfk | simp only [oA, oB, dh1, dh0, ne_eq, reduceCtorEq] at hfk)); (try exact oX))) | (refine And.intro ?ob ?_; (case ob => (exact oZ))) | exact True.intro | (show _ = _; first | exact oY | (skip; done) | exact rfl) | exact oW | (apply And.intro)))
  (refine ⟨[0, 1], ⟨by kernel_rfl⟩, ?_⟩)
  (repeat' (first | (refine xI (fun hfk => ?_) (fun hfk => ?_) <;> ((try (first | replace hfk := oT hfk | replace hfk := oF hfk | simp only [oA, oB, dh1, dh0, ne_eq, reduceCtorEq] at hfk)); (try exact oX))) | (refine And.intro ?ob ?_; (case ob => (exact oZ))) | exact True.intro | (show _ = _; first | exact oY | (skip; done) | exact rfl) | exact oW | (apply And.intro)))
  refine ⟨[some 0, some 1], ?_⟩
  (repeat' (first | (refine xI (fun hfk => ?_) (fun hfk => ?_) <;> ((try (first | replace hfk := oT hfk | replace hfk := oF hfk | simp only [oA, oB, dh1, dh0, ne_eq, reduceCtorEq] at hfk)); (try exact oX))) | (refine And.intro ?ob ?_; (case ob => (exact oZ))) | exact True.intro | (show _ = _; first | exact oY | (first | rfl | (show (_ : Int) = _; omega); done) | exact rfl) | exact oW | (apply And.intro)))
end Go.Proofs.YtocboijpmmlegaaDoor
namespace Go.Proofs.YtocboijpmmlegaaDoor
open Go Go.RowKit
set_option maxHeartbeats 4000000
theorem oneV_bd (r : List Int) : 0 ≤ (oneV r).1 ∧ (oneV r).1 ≤ r.length := by
  unfold oneV
  (repeat' split) <;> simp <;> omega
theorem dpP_bd (r : List Int) : 0 ≤ dpP r ∧ dpP r ≤ r.length := by
  have h1 := nbP_le r 255
  have h2 := oneV_bd (r.drop (nbP r 255))
  rw [List.length_drop] at h2
  unfold dpP
  split <;> omega
theorem pgP_bd (r : List Int) : 0 ≤ pgP r ∧ pgP r ≤ r.length := by
  have h1 := szP_le (r.drop 2)
  have h2 := dpP_bd ((r.drop 2).drop (szP (r.drop 2)))
  have h3 := kdP_le r
  rw [List.length_drop, List.length_drop] at h2
  rw [List.length_drop] at h1
  unfold pgP
  unfold kdP at h3
  split
  · omega
  · rename_i k
    rw [if_pos (Classical.not_not.1 k)] at h3
    split <;> omega
def pnN (r : List Int) : Int := pgW r * pgH r * kdV r
def pnE (b : List Int) : Int := if pgE b ≠ 0 then pgE b else if (b.length : Int) - pgP b < pnN b then 20 else if pnN b < (b.length : Int) - pgP b then 22 else 0
def pnL (b : List Int) : List Int := if pnE b = 0 then b.drop (pgP b).toNat else []
def pnK (b : List Int) (x : Int) : Int := if pnE b = 0 then x else 0
theorem pn_bad {b : List Int} (h : pnE b ≠ 0) : (∀ x, pnK b x = 0) ∧ pnL b = [] := ⟨fun x => if_neg h, if_neg h⟩
theorem szC0 {r : List Int} (h : szC r = 0) : 1 ≤ szW r ∧ szW r ≤ 32768 ∧ 1 ≤ szH r ∧ szH r ≤ 32768 ∧ szW r * szH r ≤ 4194304 := by
  have e1 : szW r = nbV r 32768 := if_pos h
  have e2 : szH r = nbV (r.drop (nbP r 32768)) 32768 := if_pos h
  have r1 := nbV_rng r (m := 32768) (by decide)
  have r2 := nbV_rng (r.drop (nbP r 32768)) (m := 32768) (by decide)
  rw [e1, e2]
  unfold szC at h
  split at h
  · rename_i k; exact absurd h k
  split at h
  · rename_i k; exact absurd h k
  split at h
  · cases h
  split at h
  · cases h
  omega
theorem kdV_cs (r : List Int) : kdV r = 1 ∨ kdV r = 3 := by unfold kdV; split <;> simp
theorem pgE0 {b : List Int} (h : pgE b = 0) : kdC b = 0 ∧ szC (b.drop 2) = 0 ∧ dpC ((b.drop 2).drop (szP (b.drop 2))) = 0 := by
  unfold pgE at h
  split at h
  · rename_i k; exact absurd h k
  rename_i k
  split at h
  · rename_i k2; exact absurd h k2
  rename_i k2
  exact ⟨Classical.not_not.1 k, Classical.not_not.1 k2, h⟩
theorem pn_sz {b : List Int} (h : pgE b = 0) : 1 ≤ pgW b ∧ pgW b ≤ 32768 ∧ 1 ≤ pgH b ∧ pgH b ≤ 32768 ∧ pgW b * pgH b ≤ 4194304 ∧ 0 ≤ pgW b * pgH b ∧ 0 ≤ pnN b ∧ pnN b ≤ 16777216 := by
  obtain ⟨k1, k2, _⟩ := pgE0 h
  have e1 : pgW b = szW (b.drop 2) := if_pos k1
  have e2 : pgH b = szH (b.drop 2) := if_pos k1
  obtain ⟨a1, a2, a3, a4, a5⟩ := szC0 k2
  have h0 : 0 ≤ pgW b * pgH b := Int.mul_nonneg (by omega) (by omega)
  rw [← e1, ← e2] at a5
  unfold pnN
  rcases kdV_cs b with k | k <;> rw [k] <;> exact ⟨by omega, by omega, by omega, by omega, by omega, by omega, by omega, by omega⟩
abbrev pnmS : PSpec := fun l => match l with
  | [.roi .u8 b] => some ([Byt b], .tup [imA (pnK b (pgW b)) (pnK b (pgH b)) (pnK b (kdV b)) (pnL b), .int .i64 (pnE b)])
  | _ => none
theorem pread_s : SOK Tryd.prog 16 pnmS := by
  refine sok_of (C := mkC 0 [(29, leftS)] (glook [(27, fG newcF), (28, fG pheadF), (30, fG takeF)])) (mkC_ok (pok_cons left_s pok_nil) (gl_cons newc_g (gl_cons phead_g (gl_cons take_g gl_nil)))) rfl mixed ⟨Tryd.func16, by kernel_rfl, by kernel_rfl, by kernel_rfl⟩ fun l obs v h ho => ?_
  (unfold pnmS at h; split at h; rotate_left; (focus (cases h)); rename_i b; simp only [Option.some.injEq, Prod.mk.injEq] at h; obtain ⟨rfl, rfl⟩ := h; simp only [List.mem_cons, List.not_mem_nil, or_false, forall_eq_or_imp, forall_eq, false_implies, implies_true] at ho)
  refine ⟨Nat.le_of_ble_eq_true rfl, ?_⟩
  have bl := ho.le
  have c0 : cR b 0 = b := by rw [cR_eq]; rfl
  have hp := pgP_bd b
  by_cases k1 : pgE b = 0
  rotate_left
  · have e : pnE b = pgE b := if_pos k1
    obtain ⟨z1, z2⟩ := pn_bad (b := b) (by rw [e]; exact k1)
    rw [z1, z1, z1, z2, e]
    rw [← c0] at k1
    have ee : pgE (cR b 0) = pgE b := by rw [c0]
    (repeat' (first | (refine xI (fun hfk => ?_) (fun hfk => ?_) <;> ((try (first | replace hfk := oT hfk | replace hfk := oF hfk | simp only [oA, oB, dh1, dh0, ne_eq, reduceCtorEq] at hfk)); (try exact oX))) | (refine And.intro ?ob ?_; (case ob => (exact oZ))) | exact True.intro | (show _ = _; first | exact oY | (skip; done) | exact rfl) | exact oW | (apply And.intro)))
    (refine ⟨[], ⟨by kernel_rfl⟩, ?_⟩)
    (repeat' (first | (refine xI (fun hfk => ?_) (fun hfk => ?_) <;> ((try (first | replace hfk := oT hfk | replace hfk := oF hfk | simp only [oA, oB, dh1, dh0, ne_eq, reduceCtorEq] at hfk)); (try exact oX))) | (refine And.intro ?ob ?_; (case ob => (exact oZ))) | exact True.intro | (show _ = _; first | exact oY | (skip; done) | exact rfl) | exact oW | (apply And.intro)))
    (refine ⟨[1, 2], ⟨by kernel_rfl⟩, ?_⟩)
    (repeat' (first | (refine xI (fun hfk => ?_) (fun hfk => ?_) <;> ((try (first | replace hfk := oT hfk | replace hfk := oF hfk | simp only [oA, oB, dh1, dh0, ne_eq, reduceCtorEq] at hfk)); (try exact oX))) | (refine And.intro ?ob ?_; (case ob => (exact oZ))) | exact True.intro | (show _ = _; first | exact oY | (exact ee; done) | exact rfl) | exact oW | (apply And.intro)))
  obtain ⟨a1, a2, a3, a4, a5, a6, a7, a8⟩ := pn_sz k1
  have k0 : pgE (cR b 0) = 0 := by rw [c0]; exact k1
  have eW : pgW (cR b 0) = pgW b := by rw [c0]
  have eH : pgH (cR b 0) = pgH b := by rw [c0]
  have eC : kdV (cR b 0) = kdV b := by rw [c0]
  have eP : pgP (cR b 0) = pgP b := by rw [c0]
  have eN : pgW (cR b 0) * pgH (cR b 0) * kdV (cR b 0) = pnN b := by rw [c0]; rfl
  have eM : pgW (cR b 0) * pgH (cR b 0) = pgW b * pgH b := by rw [c0]
  have r1 : rngI .i64 (pgW (cR b 0) * pgH (cR b 0)) := by rw [eM]; exact rng64 (by omega) (by omega)
  have r2 : rngI .i64 (pgW (cR b 0) * pgH (cR b 0) * kdV (cR b 0)) := by rw [eN]; exact rng64 (by omega) (by omega)
  have tl : (List.take b.length (List.drop 0 b)).length = b.length := by simp
  by_cases k2 : (b.length : Int) - pgP b < pnN b
  · have e : pnE b = 20 := by unfold pnE; rw [if_neg (fun k => k k1), if_pos k2]
    obtain ⟨z1, z2⟩ := pn_bad (b := b) (by rw [e]; decide)
    rw [z1, z1, z1, z2, e]
    clear eW eH eC eM z1 z2 e
    (repeat' (first | (refine xI (fun hfk => ?_) (fun hfk => ?_) <;> ((try (first | replace hfk := oT hfk | replace hfk := oF hfk | simp only [oA, oB, dh1, dh0, ne_eq, reduceCtorEq] at hfk)); (try exact oX))) | (refine And.intro ?ob ?_; (case ob => (exact oZ))) | exact True.intro | (show _ = _; first | exact oY | (skip; done) | exact rfl) | exact oW | (apply And.intro)))
    (refine ⟨[], ⟨by kernel_rfl⟩, ?_⟩)
    (repeat' (first | (refine xI (fun hfk => ?_) (fun hfk => ?_) <;> ((try (first | replace hfk := oT hfk | replace hfk := oF hfk | simp only [oA, oB, dh1, dh0, ne_eq, reduceCtorEq] at hfk)); (try exact oX))) | (refine And.intro ?ob ?_; (case ob => (exact oZ))) | exact True.intro | (show _ = _; first | exact oY | (skip; done) | exact rfl) | exact oW | (apply And.intro)))
    (refine ⟨[1, 2], ⟨by kernel_rfl⟩, ?_⟩)
    (repeat' (first | (refine xI (fun hfk => ?_) (fun hfk => ?_) <;> ((try (first | replace hfk := oT hfk | replace hfk := oF hfk | simp only [oA, oB, dh1, dh0, ne_eq, reduceCtorEq] at hfk)); (try exact oX))) | (refine And.intro ?ob ?_; (case ob => (exact oZ))) | exact True.intro | (show _ = _; first | exact oY | (rfl; done) | exact rfl) | exact oW | (apply And.intro)))
  by_cases k3 : pnN b < (b.length : Int) - pgP b
  · have e : pnE b = 22 := by unfold pnE; rw [if_neg (fun k => k k1), if_neg k2, if_pos k3]
    obtain ⟨z1, z2⟩ := pn_bad (b := b) (by rw [e]; decide)
    rw [z1, z1, z1, z2, e]
    clear eW eH eC eM z1 z2 e
    (repeat' (first | (refine xI (fun hfk => ?_) (fun hfk => ?_) <;> ((try (first | replace hfk := oT hfk | replace hfk := oF hfk | simp only [oA, oB, dh1, dh0, ne_eq, reduceCtorEq] at hfk)); (try exact oX))) | (refine And.intro ?ob ?_; (case ob => (exact oZ))) | exact True.intro | (show _ = _; first | exact oY | (skip; done) | exact rfl) | exact oW | (apply And.intro)))
    (refine ⟨[], ⟨by kernel_rfl⟩, ?_⟩)
    (repeat' (first | (refine xI (fun hfk => ?_) (fun hfk => ?_) <;> ((try (first | replace hfk := oT hfk | replace hfk := oF hfk | simp only [oA, oB, dh1, dh0, ne_eq, reduceCtorEq] at hfk)); (try exact oX))) | (refine And.intro ?ob ?_; (case ob => (exact oZ))) | exact True.intro | (show _ = _; first | exact oY | (skip; done) | exact rfl) | exact oW | (apply And.intro)))
    (refine ⟨[1, 2], ⟨by kernel_rfl⟩, ?_⟩)
    (repeat' (first | (refine xI (fun hfk => ?_) (fun hfk => ?_) <;> ((try (first | replace hfk := oT hfk | replace hfk := oF hfk | simp only [oA, oB, dh1, dh0, ne_eq, reduceCtorEq] at hfk)); (try exact oX))) | (refine And.intro ?ob ?_; (case ob => (exact oZ))) | exact True.intro | (show _ = _; first | exact oY | (rfl; done) | exact rfl) | exact oW | (apply And.intro)))
  have e : pnE b = 0 := by unfold pnE; rw [if_neg (fun k => k k1), if_neg k2, if_neg k3]
  have f1 : pnK b (pgW b) = pgW (cR b 0) := (if_pos e).trans eW.symm
  have f2 : pnK b (pgH b) = pgH (cR b 0) := (if_pos e).trans eH.symm
  have f3 : pnK b (kdV b) = kdV (cR b 0) := (if_pos e).trans eC.symm
  have f4 : pnL b = b.drop (pgP b).toNat := if_pos e
  rw [f1, f2, f3, f4, e]
  have tk : takeC ((b.length : Int) - (0 + pgP (cR b 0))) (pgW (cR b 0) * pgH (cR b 0) * kdV (cR b 0)) = 0 := by
    unfold takeC; rw [if_neg (by omega), if_neg (by omega)]
  have tL : takeL (cR b (0 + pgP (cR b 0))) (pgW (cR b 0) * pgH (cR b 0) * kdV (cR b 0)) = b.drop (pgP b).toNat := by
    have h1 : cR b (0 + pgP (cR b 0)) = b.drop (pgP b).toNat := by rw [cR_eq, eP, Int.zero_add]
    rw [h1]
    unfold takeL
    rw [List.length_drop, show ((b.length - (pgP b).toNat : Nat) : Int) = (b.length : Int) - (0 + pgP (cR b 0)) by omega, if_pos tk, List.take_of_length_le (by rw [List.length_drop]; omega)]
  have tM : List.take (takeL (cR b (0 + pgP (cR b 0))) (pgW (cR b 0) * pgH (cR b 0) * kdV (cR b 0))).length (List.drop 0 (takeL (cR b (0 + pgP (cR b 0))) (pgW (cR b 0) * pgH (cR b 0) * kdV (cR b 0)))) = b.drop (pgP b).toNat := by
    rw [tL, List.drop_zero, List.take_length]
  clear f1 f2 f3 f4 eW eH eC eM tL
  (repeat' (first | (refine xI (fun hfk => ?_) (fun hfk => ?_) <;> ((try (first | replace hfk := oT hfk | replace hfk := oF hfk | simp only [oA, oB, dh1, dh0, ne_eq, reduceCtorEq] at hfk)); (try exact oX))) | (refine And.intro ?ob ?_; (case ob => (exact oZ))) | exact True.intro | (show _ = _; first | exact oY | (skip; done) | exact rfl) | exact oW | (apply And.intro)))
  (refine ⟨[], ⟨by kernel_rfl⟩, ?_⟩)
  (repeat' (first | (refine xI (fun hfk => ?_) (fun hfk => ?_) <;> ((try (first | replace hfk := oT hfk | replace hfk := oF hfk | simp only [oA, oB, dh1, dh0, ne_eq, reduceCtorEq] at hfk)); (try exact oX))) | (refine And.intro ?ob ?_; (case ob => (exact oZ))) | exact True.intro | (show _ = _; first | exact oY | (skip; done) | exact rfl) | exact oW | (apply And.intro)))
  (refine ⟨[1, 2], ⟨by kernel_rfl⟩, ?_⟩)
  (repeat' (first | (refine xI (fun hfk => ?_) (fun hfk => ?_) <;> ((try (first | replace hfk := oT hfk | replace hfk := oF hfk | simp only [oA, oB, dh1, dh0, ne_eq, reduceCtorEq] at hfk)); (try exact oX))) | (refine And.intro ?ob ?_; (case ob => (exact oZ))) | exact True.intro | (show _ = _; first | exact oY | (skip; done) | exact rfl) | exact oW | (apply And.intro)))
  (refine ⟨[1, 2], ⟨by kernel_rfl⟩, ?_⟩)
  (repeat' (first | (refine xI (fun hfk => ?_) (fun hfk => ?_) <;> ((try (first | replace hfk := oT hfk | replace hfk := oF hfk | simp only [oA, oB, dh1, dh0, ne_eq, reduceCtorEq] at hfk)); (try exact oX))) | (refine And.intro ?ob ?_; (case ob => (exact oZ))) | exact True.intro | (show _ = _; first | exact oY | (first | exact tM | exact tk | rfl; done) | exact rfl) | exact oW | (apply And.intro)))
end Go.Proofs.YtocboijpmmlegaaDoor
namespace Go.Proofs.YtocboijpmmlegaaDoor
open Go Go.RowKit
set_option maxHeartbeats 4000000
abbrev p1 (b : List Int) : List Int := b.drop 2
abbrev p2 (b : List Int) : List Int := (p1 b).drop (nbP (p1 b) 32768)
abbrev p3 (b : List Int) : List Int := (p1 b).drop (szP (p1 b))
def dhW (b : List Int) : Int := if kdC b = 0 then nbV (p1 b) 32768 else 0
def dhH (b : List Int) : Int := if kdC b = 0 ∧ nbC (p1 b) 32768 = 0 then nbV (p2 b) 32768 else 0
def dhC (b : List Int) : Int := if kdC b = 0 then kdV b else 0
def dhA (b : List Int) : Int := if kdC b = 0 ∧ szC (p1 b) = 0 ∧ nbC (p3 b) 255 = 0 ∧ nbV (p3 b) 255 = 255 then pgP b else 0
def atI (b : List Int) : Nat → Int
  | 0 => 2
  | 1 => 2 + (nbP (p1 b) 32768 : Int)
  | 2 => 2 + (szP (p1 b) : Int)
  | _ => 2 + (szP (p1 b) : Int) + (nbP (p3 b) 255 : Int)
def wI (b : List Int) : Nat → Int
  | 0 => 0
  | _ => nbV (p1 b) 32768
def hI (b : List Int) : Nat → Int
  | 0 => 0
  | 1 => 0
  | _ => nbV (p2 b) 32768
attribute [local irreducible] pgE dhA dhW dhH atI wI hI rnV nbC nbV nbP blC bkG szC szP numC kdV kdC oneV
end Go.Proofs.YtocboijpmmlegaaDoor
namespace Go.Proofs.YtocboijpmmlegaaDoor
open Go Go.RowKit
set_option maxHeartbeats 4000000
theorem lowV_snoc : ∀ (l : List Int) (x : Int), lowV (l ++ [x]) = lowV l + x * 256 ^ l.length
  | [], x => by simp [lowV]
  | d :: l, x => by
    rw [List.cons_append, lowV, lowV, lowV_snoc l x, List.length_cons, Int.pow_succ]
    rw [Int.mul_add, Int.mul_comm (256 ^ l.length) 256, ← Int.mul_assoc, ← Int.mul_assoc, Int.mul_comm 256 x]
    omega
theorem or_put {a v : Int} {i : Nat} (hi : i < 4) (h0 : 0 ≤ a) (h1 : a < 256 ^ i) (h2 : 0 ≤ v) (h3 : v ≤ 255) :
    IntKind.u32.wrap (BitVec.ofInt IntKind.u32.bits a ||| BitVec.ofInt IntKind.u32.bits (IntKind.u32.wrap (v * 2 ^ min (8 * (i : Int)).toNat IntKind.u32.bits))).toNat = a + v * 256 ^ i := by
  obtain ⟨n, rfl⟩ := Int.eq_ofNat_of_zero_le h0
  obtain ⟨m, rfl⟩ := Int.eq_ofNat_of_zero_le h2
  have hm : m < 256 := by omega
  have e8 : (8 * (i : Int)).toNat = 8 * i := by omega
  have hb : IntKind.u32.bits = 32 := rfl
  have p0 : (256 : Int) ^ i = 2 ^ (8 * i) := by rw [Int.pow_mul]; rfl
  have p1 : (256 : Nat) ^ i = 2 ^ (8 * i) := by rw [Nat.pow_mul]
  have hn : n < 2 ^ (8 * i) := by
    rw [p0] at h1
    exact_mod_cast h1
  have hP : 2 ^ (8 * i) ≤ 2 ^ 24 := Nat.pow_le_pow_right (by omega) (by omega)
  have hQ : m * 2 ^ (8 * i) ≤ 255 * 2 ^ (8 * i) := Nat.mul_le_mul_right _ (by omega)
  have hR : (2 : Nat) ^ 24 = 16777216 := rfl
  have hM : m * 2 ^ (8 * i) < 4294967296 := by omega
  have hS : n + m * 2 ^ (8 * i) < 4294967296 := by omega
  rw [e8, hb, Nat.min_eq_left (by omega), p0]
  have w1 : IntKind.u32.wrap ((m : Int) * 2 ^ (8 * i)) = ((m * 2 ^ (8 * i) : Nat) : Int) := by
    have h : (m : Int) * 2 ^ (8 * i) = ((m * 2 ^ (8 * i) : Nat) : Int) := by push_cast; rfl
    rw [h]; exact u32_id (Int.natCast_nonneg _) (Int.ofNat_lt.2 hM)
  rw [w1]
  have b1 : BitVec.ofInt 32 (n : Int) = BitVec.ofNat 32 n := rfl
  have b2 : BitVec.ofInt 32 ((m * 2 ^ (8 * i) : Nat) : Int) = BitVec.ofNat 32 (m * 2 ^ (8 * i)) := rfl
  rw [b1, b2, BitVec.toNat_or, BitVec.toNat_ofNat, BitVec.toNat_ofNat, Nat.mod_eq_of_lt (show n < 2 ^ 32 by omega), Nat.mod_eq_of_lt (show m * 2 ^ (8 * i) < 2 ^ 32 by omega)]
  have e : n ||| m * 2 ^ (8 * i) = n + m * 2 ^ (8 * i) := by
    rw [← Nat.shiftLeft_eq, Nat.or_comm, ← Nat.shiftLeft_add_eq_or_of_lt hn, Nat.add_comm]
  rw [e, u32_id (Int.natCast_nonneg _) (Int.ofNat_lt.2 hS)]
  push_cast; rfl
def clowF : FSpec := fun l es => match l, es with
  | [.ptr 0 0, .int .i64 k], [.cells 69 [.sl 1 1 0 n, .int .i64 a], .ints 5 .u8 b] =>
    some ([n = b.length, 0 ≤ a, a ≤ b.length, b.length ≤ 140737488355328, ∀ i, 0 ≤ b.getD i 0 ∧ b.getD i 0 ≤ 255], .tup [.int .u32 (if lowC k (cR b a).length = 0 then lowV ((cR b a).take k.toNat) else 0), .int .i64 (lowC k (cR b a).length)], [some (cutE n (a + if lowC k (cR b a).length = 0 then k else 0)), some (bE b)])
  | _, _ => none
theorem clow_g : GSOK Tryd.prog 82 (fG clowF) := by
  refine fok (S := []) (G := glook [(30, fG takeF)]) pok_nil (gl_cons take_g gl_nil) ⟨Tryd.func82, by kernel_rfl, by kernel_rfl, by kernel_rfl⟩ fun l es obs v es' h ho => ?_
  (unfold clowF at h; split at h; rotate_left; (focus (cases h)); rename_i k n a b; simp only [Option.some.injEq, Prod.mk.injEq] at h; obtain ⟨rfl, rfl, rfl⟩ := h; simp only [List.mem_cons, List.not_mem_nil, or_false, forall_eq_or_imp, forall_eq, false_implies, implies_true] at ho)
  obtain ⟨rfl, ho1, ho2, ho3, ho4⟩ := ho
  refine ⟨Nat.le_of_ble_eq_true rfl, ?_⟩
  have el : (cR b a).length = b.length - a.toNat := by simp
  by_cases k1 : k < 1
  · have e : lowC k (cR b a).length = 10 := if_pos (Or.inl k1)
    rw [e]
    (repeat' (first | (refine xI (fun hfk => ?_) (fun hfk => ?_) <;> ((try (first | replace hfk := oT hfk | replace hfk := oF hfk | simp only [oA, oB, dh1, dh0, ne_eq, reduceCtorEq] at hfk)); (try exact oX))) | (refine And.intro ?ob ?_; (case ob => (exact oZ))) | exact True.intro | (show _ = _; first | exact oY | (skip; done) | exact rfl) | exact oW | (apply And.intro)))
    refine ⟨[some 0, some 1], ?_⟩
    (repeat' (first | (refine xI (fun hfk => ?_) (fun hfk => ?_) <;> ((try (first | replace hfk := oT hfk | replace hfk := oF hfk | simp only [oA, oB, dh1, dh0, ne_eq, reduceCtorEq] at hfk)); (try exact oX))) | (refine And.intro ?ob ?_; (case ob => (exact oZ))) | exact True.intro | (show _ = _; first | exact oY | (first | rfl | (show (_ : Int) = _; omega); done) | exact rfl) | exact oW | (apply And.intro)))
  by_cases k2 : 4 < k
  · have e : lowC k (cR b a).length = 10 := if_pos (Or.inr k2)
    rw [e]
    (repeat' (first | (refine xI (fun hfk => ?_) (fun hfk => ?_) <;> ((try (first | replace hfk := oT hfk | replace hfk := oF hfk | simp only [oA, oB, dh1, dh0, ne_eq, reduceCtorEq] at hfk)); (try exact oX))) | (refine And.intro ?ob ?_; (case ob => (exact oZ))) | exact True.intro | (show _ = _; first | exact oY | (skip; done) | exact rfl) | exact oW | (apply And.intro)))
    refine ⟨[some 0, some 1], ?_⟩
    (repeat' (first | (refine xI (fun hfk => ?_) (fun hfk => ?_) <;> ((try (first | replace hfk := oT hfk | replace hfk := oF hfk | simp only [oA, oB, dh1, dh0, ne_eq, reduceCtorEq] at hfk)); (try exact oX))) | (refine And.intro ?ob ?_; (case ob => (exact oZ))) | exact True.intro | (show _ = _; first | exact oY | (first | rfl | (show (_ : Int) = _; omega); done) | exact rfl) | exact oW | (apply And.intro)))
  by_cases k3 : ((cR b a).length : Int) < k
  · have e : lowC k (cR b a).length = 20 := by unfold lowC; rw [if_neg (by omega), if_pos k3]
    have t0 : takeC ((b.length : Int) - a) k = 20 := by unfold takeC; rw [if_neg (by omega), if_pos (by omega)]
    have t1 : takeL (cR b a) k = [] := by unfold takeL takeC; rw [if_neg (by omega : ¬ k < 0), if_pos k3, if_neg (by decide)]
    have t2 : ((takeL (cR b a) k).length : Int) = 0 := by rw [t1]; rfl
    rw [e]
    (repeat' (first | (refine xI (fun hfk => ?_) (fun hfk => ?_) <;> ((try (first | replace hfk := oT hfk | replace hfk := oF hfk | simp only [oA, oB, dh1, dh0, ne_eq, reduceCtorEq] at hfk)); (try exact oX))) | (refine And.intro ?ob ?_; (case ob => (exact oZ))) | exact True.intro | (show _ = _; first | exact oY | (skip; done) | exact rfl) | exact oW | (apply And.intro)))
    (refine ⟨[0, 1], ⟨by kernel_rfl⟩, ?_⟩)
    (repeat' (first | (refine xI (fun hfk => ?_) (fun hfk => ?_) <;> ((try (first | replace hfk := oT hfk | replace hfk := oF hfk | simp only [oA, oB, dh1, dh0, ne_eq, reduceCtorEq] at hfk)); (try exact oX))) | (refine And.intro ?ob ?_; (case ob => (exact oZ))) | exact True.intro | (show _ = _; first | exact oY | (skip; done) | exact rfl) | exact oW | (apply And.intro)))
    refine ⟨[some 0, some 1], ?_⟩
    (repeat' (first | (refine xI (fun hfk => ?_) (fun hfk => ?_) <;> ((try (first | replace hfk := oT hfk | replace hfk := oF hfk | simp only [oA, oB, dh1, dh0, ne_eq, reduceCtorEq] at hfk)); (try exact oX))) | (refine And.intro ?ob ?_; (case ob => (exact oZ))) | exact True.intro | (show _ = _; first | exact oY | (first | rfl | (show (_ : Int) = _; omega); done) | exact rfl) | exact oW | (apply And.intro)))
  have e : lowC k (cR b a).length = 0 := by unfold lowC; rw [if_neg (by omega), if_neg k3]
  have t0 : takeC ((b.length : Int) - a) k = 0 := by unfold takeC; rw [if_neg (by omega), if_neg (by omega)]
  have t1 : takeL (cR b a) k = (cR b a).take k.toNat := by unfold takeL takeC; rw [if_neg (by omega : ¬ k < 0), if_neg k3, if_pos rfl]
  obtain ⟨L, hL⟩ : ∃ L, takeL (cR b a) k = L := ⟨_, rfl⟩
  have hLl : L.length = k.toNat := by rw [← hL, t1, List.length_take]; omega
  have hLi : (L.length : Int) = k := by omega
  have hLe : (takeL (cR b a) k).length = L.length := congrArg List.length hL
  have hLf : ((takeL (cR b a) k).length : Int) = L.length := by rw [hLe]
  have hM : ∀ j, 0 ≤ L.getD j 0 ∧ L.getD j 0 ≤ 255 := by
    intro j
    rw [← hL, t1]
    by_cases hj : j < k.toNat
    · have := cR_get (b := b) (a := a) (i := j) (by omega)
      rw [take_getD hj, ← this]; exact ho4 _
    · have : ((cR b a).take k.toNat).length ≤ j := by rw [List.length_take]; omega
      rw [List.getD, List.getElem?_eq_none this]; exact ⟨Int.le_refl _, by decide⟩
  have hMm : ∀ x ∈ L, 0 ≤ x ∧ x ≤ 255 := fun x hx => by
    obtain ⟨j, hj, rfl⟩ := List.getElem_of_mem hx
    have := hM j
    rwa [List.getD, List.getElem?_eq_getElem hj] at this
  rw [e, if_pos rfl, if_pos rfl, ← t1, hL]
  (repeat' (first | (refine xI (fun hfk => ?_) (fun hfk => ?_) <;> ((try (first | replace hfk := oT hfk | replace hfk := oF hfk | simp only [oA, oB, dh1, dh0, ne_eq, reduceCtorEq] at hfk)); (try exact oX))) | (refine And.intro ?ob ?_; (case ob => (exact oZ))) | exact True.intro | (show _ = _; first | exact oY | (skip; done) | exact rfl) | exact oW | (apply And.intro)))
  (refine ⟨[0, 1], ⟨by kernel_rfl⟩, ?_⟩)
  (repeat' (first | (refine xI (fun hfk => ?_) (fun hfk => ?_) <;> ((try (first | replace hfk := oT hfk | replace hfk := oF hfk | simp only [oA, oB, dh1, dh0, ne_eq, reduceCtorEq] at hfk)); (try exact oX))) | (refine And.intro ?ob ?_; (case ob => (exact oZ))) | exact True.intro | (show _ = _; first | exact oY | (skip; done) | exact rfl) | exact oW | (apply And.intro)))
  refine ⟨Nat, fun i => [(0, .ptr 0 0), (1, .int .i64 k), (8, .int .u32 (lowV (L.take i))), (26, .sl 2 1 0 L.length), (27, .int .i64 (L.length : Int)), (28, .int .i64 (i : Int))],
    fun i => ⟨3, [(0, some (cutE b.length (a + k))), (1, some (bE b)), (2, some (bE L))]⟩,
    fun i => i ≤ L.length, fun i => L.length - i, ⟨0, [some 0, some 1, some 2], Nat.zero_le _, ?_⟩, fun i hi => ?_⟩
  · (repeat' (first | (refine And.intro ?_ ?_) | exact True.intro | (show _ = _; with_reducible rfl) | exact Chk.mk (by kernel_rfl)))
    all_goals first | exact hL | exact hLe | exact hLf | rfl | (show (_ : Int) = _; omega)
  have hi : i ≤ L.length := hi
  by_cases hlt : i < L.length
  · have ri : rngI .i64 ((i : Int) + 1) := rng64 (by omega) (by omega)
    have r8 : rngI .i64 (8 * (i : Int)) := rng64 (by omega) (by omega)
    have gm := hM (0 + (i : Int).toNat)
    have gi := hM i
    obtain ⟨a0, a1⟩ := lowV_bd (l := L.take i) fun x hx => hMm x (List.mem_of_mem_take hx)
    rw [List.length_take, Nat.min_eq_left (by omega)] at a1
    have w8 : IntKind.u64.wrap (8 * (i : Int)) = 8 * (i : Int) := w64 (by omega) (by omega)
    have wv : IntKind.u32.wrap (L.getD (0 + (i : Int).toNat) 0) = L.getD i 0 := by
      rw [show 0 + (i : Int).toNat = i by omega]; exact u32_id (by omega) (by omega)
    have st : IntKind.u32.wrap (BitVec.ofInt IntKind.u32.bits (lowV (L.take i)) ||| BitVec.ofInt IntKind.u32.bits (IntKind.u32.wrap (IntKind.u32.wrap (L.getD (0 + (i : Int).toNat) 0) * 2 ^ min (IntKind.u64.wrap (8 * (i : Int))).toNat IntKind.u32.bits))).toNat = lowV (L.take (i + 1)) := by
      rw [w8, wv, or_put (by omega) a0 a1 gi.1 gi.2, take_succ' hlt, lowV_snoc, List.length_take, Nat.min_eq_left (by omega)]
    have sh : 0 ≤ IntKind.u64.wrap (8 * (i : Int)) := by rw [w8]; omega
    (repeat' (first | (refine xI (fun hfk => ?_) (fun hfk => ?_) <;> ((try (first | replace hfk := oT hfk | replace hfk := oF hfk | simp only [oA, oB, dh1, dh0, ne_eq, reduceCtorEq] at hfk)); (try exact oX))) | (refine And.intro ?ob ?_; (case ob => (exact oZ))) | exact True.intro | (show _ = _; first | exact oY | (skip; done) | exact rfl) | exact oW | (apply And.intro)))
    (refine ⟨i + 1, [some 0, some 1, some 2], ?_, ?mu, ?_⟩; (case mu => ((try dsimp only); omega)))
    · exact hlt
    (repeat' (first | (refine And.intro ?_ ?_) | exact True.intro | (show _ = _; with_reducible rfl) | exact Chk.mk (by kernel_rfl)))
    all_goals first | rfl | exact st | (show (_ : Int) = _; omega)
  · have eL : lowV (L.take i) = lowV L := by rw [List.take_of_length_le (by omega)]
    (repeat' (first | (refine xI (fun hfk => ?_) (fun hfk => ?_) <;> ((try (first | replace hfk := oT hfk | replace hfk := oF hfk | simp only [oA, oB, dh1, dh0, ne_eq, reduceCtorEq] at hfk)); (try exact oX))) | (refine And.intro ?ob ?_; (case ob => (exact oZ))) | exact True.intro | (show _ = _; first | exact oY | (skip; done) | exact rfl) | exact oW | (apply And.intro)))
    refine ⟨[some 0, some 1], ?_⟩
    (repeat' (first | (refine xI (fun hfk => ?_) (fun hfk => ?_) <;> ((try (first | replace hfk := oT hfk | replace hfk := oF hfk | simp only [oA, oB, dh1, dh0, ne_eq, reduceCtorEq] at hfk)); (try exact oX))) | (refine And.intro ?ob ?_; (case ob => (exact oZ))) | exact True.intro | (show _ = _; first | exact oY | (first | exact eL | rfl | (show (_ : Int) = _; omega); done) | exact rfl) | exact oW | (apply And.intro)))
end Go.Proofs.YtocboijpmmlegaaDoor
namespace Go.Proofs.YtocboijpmmlegaaDoor
open Go Go.RowKit
set_option maxHeartbeats 4000000
theorem low_rng {b : List Int} (hb : ∀ i, 0 ≤ b.getD i 0 ∧ b.getD i 0 ≤ 255) {n : Int} (hn : n ≤ 4) : 0 ≤ lowV (b.take n.toNat) ∧ lowV (b.take n.toNat) < 4294967296 := by
  have hm : ∀ x ∈ b.take n.toNat, 0 ≤ x ∧ x ≤ 255 := fun x hx => by
    obtain ⟨j, hj, rfl⟩ := List.getElem_of_mem (List.mem_of_mem_take hx)
    have := hb j
    rwa [List.getD, List.getElem?_eq_getElem hj] at this
  obtain ⟨h1, h2⟩ := lowV_bd hm
  have := p256 (L := (b.take n.toNat).length) (by rw [List.length_take]; omega)
  omega
end Go.Proofs.YtocboijpmmlegaaDoor
namespace Go.Proofs.YtocboijpmmlegaaDoor
open Go Go.RowKit
attribute [local go_sem] Oper.semAt_some
section
variable {P : Program} {R R' : PN} {w W : World} {F Ob : Nat → Prop} {W0 : World} {H : AH} {O O' : Nat → Prop}
theorem kw_cells {cap : List AV} (h : KWof cap H R R' O' W) {i b : Nat} {t : TypeId} {l : List AV} (hi : H.get i = some (.cells t l)) (hm : i ∈ nmsL cap) (hR : R[i]? = some (some b)) :
    ∀ j x, l[j]? = some x → ∃ v, W.cell? ⟨b, j, none⟩ = some v ∧ v.oneCell' = true ∧ Rep R' W O' x v := by
  obtain ⟨hRR, F', Ob', W0', H', hH, rfl, hs⟩ := h
  have hi' : H'.get i = some (.cells t l) := by
    have key : ∀ l : List Nat, i ∈ l → sameE l H H' → H'.get i = H.get i := by
      intro l
      induction l with
      | nil => intro h; cases h
      | cons a l ih =>
        intro h ⟨k1, k2⟩
        rcases List.mem_cons.1 h with rfl | h
        · exact k1
        · exact ih h k2
    rw [key _ hm hs, hi]
  obtain ⟨b', h1, h2⟩ := hH.ent i _ hi'
  rw [hRR i _ hR] at h1
  cases h1
  obtain ⟨vs, fr, h3, h4, h5, h6⟩ := h2
  intro j x hj
  have hlt : j < vs.length := by rw [← h5]; exact (List.getElem?_eq_some_iff.1 hj).1
  obtain ⟨k1, k2⟩ := h6 j x vs[j] hj (by simp [hlt])
  exact ⟨vs[j], by simp [World.cell?, h3, hlt], k1, k2⟩
def Pieces (R : PN) (W : World) (O : Nat → Prop) (pc : Nat → Nat → AV) (m : Nat) (sv : Value) : Prop :=
  (m = 0 ∧ ∃ A c, sv = .slice A 0 c) ∨ ∃ b off c, sv = .slice (some ⟨b, off, none⟩) m c ∧ m ≤ c ∧ c ≤ maxLen ∧ ∀ lo hi, lo ≤ hi → hi ≤ m → Rep R W O (pc lo (hi - lo)) (.slice (some ⟨b, off + lo, none⟩) (hi - lo) (hi - lo))
theorem pieces_roi {k : IntKind} {l : List Int} {v : Value} (h : Rep R W O (.roi k l) v) : Pieces R W O (fun lo n => .roi k ((l.drop lo).take n)) l.length v := by
  cases h with
  | roinil => exact .inl ⟨rfl, none, 0, rfl⟩
  | roiz _ a c hc => exact .inl ⟨rfl, _, _, rfl⟩
  | roi _ _ b off c hn hc hO hb hcell =>
    refine .inr ⟨b, off, c, rfl, hn, hc, fun lo hi h1 h2 => ?_⟩
    have hl : ((l.drop lo).take (hi - lo)).length = hi - lo := by simp; omega
    have := Rep.roi (R := R) (w := W) (O := O) k ((l.drop lo).take (hi - lo)) b (off + lo) (hi - lo) (by omega) (by omega) hO hb (fun j x hj => by
      have hj1 : j < hi - lo := by have := (List.getElem?_eq_some_iff.1 hj).1; omega
      rw [List.getElem?_take_of_lt hj1, List.getElem?_drop] at hj
      rw [Nat.add_assoc]
      exact hcell _ x hj)
    rw [hl] at this
    exact this
theorem pieces_sl {i o m : Nat} {v : Value} (h : Rep R W O (.sl i 1 o m) v) : Pieces R W O (fun lo n => .sl i 1 (o + lo) n) m v := by
  cases h with
  | slnil _ _ _ h => exact .inl ⟨rfl, none, 0, rfl⟩
  | sl _ _ _ _ b c off s h hn hc ho hs hl =>
    by_cases hm : m = 0
    · subst hm; exact .inl ⟨rfl, _, _, rfl⟩
    · refine .inr ⟨b, off, c, rfl, hn, hc, fun lo hi h1 h2 => ?_⟩
      have := ho (by omega)
      exact .sl i 1 (o + lo) (hi - lo) b (hi - lo) (off + lo) s h (Nat.le_refl _) (by omega) (fun _ => by omega) hs (by omega)
end
set_option maxRecDepth 100000 in
set_option maxHeartbeats 4000000 in
theorem chunk1_in (l b1 b2 m : Nat) (n : Int) (hn : 1 ≤ n) (hm : (m : Int) + n ≤ 9223372036854775807) (pc : Nat → Nat → AV) (J : Nat → PN → (Nat → Prop) → World → Prop) (Jx : World → Prop) (d : Nat)
    (hq : ∀ k R O w w', J k R O w → Ext NoO w w' → J k R O w')
    (hkw : ∀ k R O W, J k R O W → ∃ sv, W.cell? ⟨b1, 0, none⟩ = some sv ∧ Pieces R W O pc m sv ∧ W.cell? ⟨b2, 0, none⟩ = some (.int .i64 n))
    (hY : ∀ k R O W (args : List Value), k * n.toNat < m → J k R O W → CRel R W O [pc (k * n.toNat) (min n.toNat (m - k * n.toNat))] args → YieldAt Fence.wide d Tryd.prog l args.toArray W fun e W' => (e = .returned (.bool true) ∧ ∃ R' O', J (k + 1) R' O' W') ∨ (e = .returned (.bool false) ∧ Jx W'))
    (W : World) (h0 : ∃ R O, J 0 R O W) :
    CallsIn Fence.wide (d + 1) Tryd.prog 92 #[.func (.yield l) #[] #[], .pointer (some ⟨b1, 0, none⟩), .pointer (some ⟨b2, 0, none⟩)] W fun e W' => (∃ v, e = .returned v) ∧ ((∃ k R O, m ≤ k * n.toNat ∧ (k = 0 ∨ (k - 1) * n.toNat < m) ∧ J k R O W') ∨ Jx W') := by
  refine callsIn_of_wp Tryd.func92 rfl trivial ?_ rfl
  simp only [Tryd.ntmps92, List.size_toArray, List.length_cons, List.length_nil, Nat.reduceAdd, Nat.reduceSub, Array.replicate_succ, Array.replicate_zero, List.push_toArray, List.append_toArray, List.nil_append, List.cons_append]
  obtain ⟨R0, O0, h0⟩ := h0
  gi_wp2
  gi_loopw [4] (fun i wr => ∃ (k : Nat) (R : PN) (O : Nat → Prop), (k = 0 ∨ (k - 1) * n.toNat < m) ∧ i = .int .i64 ((k * n.toNat : Nat) : Int) ∧ J k R O wr)
    (fun i _ => m + n.toNat - (intOf i).toNat)
  case atStart => exact ⟨0, R0, O0, .inl rfl, by simp, h0⟩
  case round =>
    obtain ⟨k, R, O, hk, rfl, hJ⟩ := hrel
    obtain ⟨sv, hc1, hpc, hc2⟩ := hkw k R O wr hJ
    generalize hK : k * n.toNat = K at *
    by_cases hlt : K < m
    · rcases hpc with ⟨rfl, _⟩ | ⟨b, off, c, rfl, hmc, hcm, hpc⟩
      · omega
      have hY' := hY k R O wr.drew
      rw [hK] at hY'
      by_cases hcase : n ≤ ((m - K : Nat) : Int)
      · obtain ⟨fn, tmps, assign, body, hy, hR⟩ := hY' [.slice (some ⟨b, off + K, none⟩) (((K : Int) + n).toNat - K) (((K : Int) + n).toNat - K)] hlt (hq _ _ _ _ _ hJ (Ext.drew _ _)) (by
          have e : min n.toNat (m - K) = ((K : Int) + n).toNat - K := by omega
          rw [e]
          exact crel_cons ((hpc K ((K : Int) + n).toNat (by omega) (by omega)).mono (fun _ _ k => k) (Ext.drew O _) (fun _ _ k => k)) crel_nil)
        gi_wp2
        gi_region
        all_goals gi_wp2
        all_goals first
          | (exfalso; omega)
          | skip
        refine hR.mono ?_
        rintro e W3 (⟨rfl, R', O', hJ3⟩ | ⟨rfl, hJx3⟩)
        · obtain ⟨sv', hc1', _, hc2'⟩ := hkw (k + 1) R' O' W3 hJ3
          gi_wp2
          go_roundw
          case rel =>
            refine ⟨k + 1, R', O', .inr (by rw [Nat.add_sub_cancel, hK]; exact hlt), ?_, hJ3⟩
            rw [Nat.add_mul, hK, Nat.one_mul]
            congr 1
            omega
          case measure => simp [intOf]; omega
        · gi_wp2
          refine ⟨rfl, _, results_none rfl _ _ _, ⟨_, rfl⟩, .inr hJx3⟩
      · obtain ⟨fn, tmps, assign, body, hy, hR⟩ := hY' [.slice (some ⟨b, off + K, none⟩) (m - K) (m - K)] hlt (hq _ _ _ _ _ hJ (Ext.drew _ _)) (by
          have e : min n.toNat (m - K) = m - K := by omega
          rw [e]
          exact crel_cons ((hpc K m (by omega) (by omega)).mono (fun _ _ k => k) (Ext.drew O _) (fun _ _ k => k)) crel_nil)
        gi_wp2
        gi_region
        all_goals gi_wp2
        all_goals first
          | (exfalso; omega)
          | skip
        refine hR.mono ?_
        rintro e W3 (⟨rfl, R', O', hJ3⟩ | ⟨rfl, hJx3⟩)
        · obtain ⟨sv', hc1', _, hc2'⟩ := hkw (k + 1) R' O' W3 hJ3
          gi_wp2
          go_roundw
          case rel =>
            refine ⟨k + 1, R', O', .inr (by rw [Nat.add_sub_cancel, hK]; exact hlt), ?_, hJ3⟩
            rw [Nat.add_mul, hK, Nat.one_mul]
            congr 1
            omega
          case measure => simp [intOf]; omega
        · gi_wp2
          refine ⟨rfl, _, results_none rfl _ _ _, ⟨_, rfl⟩, .inr hJx3⟩
    · rcases hpc with ⟨rfl, A, c, rfl⟩ | ⟨b, off, c, rfl, hmc, hcm, hpc⟩
      · gi_wp2
        exact ⟨rfl, _, results_none rfl _ _ _, ⟨_, rfl⟩, .inl ⟨k, R, O, by omega, by rw [hK] at *; exact hk, hJ⟩⟩
      · gi_wp2
        exact ⟨rfl, _, results_none rfl _ _ _, ⟨_, rfl⟩, .inl ⟨k, R, O, by omega, hk, hJ⟩⟩
theorem ceil_lt {k n m : Nat} (hn : 0 < n) (h : k * n < m) : k < (m + n - 1) / n := by
  have : k + 1 ≤ (m + n - 1) / n := (Nat.le_div_iff_mul_le hn).2 (by rw [Nat.add_mul]; omega)
  omega
theorem ceil_eq {k n m : Nat} (hn : 0 < n) (h1 : m ≤ k * n) (h2 : k = 0 ∨ (k - 1) * n < m) : k = (m + n - 1) / n := by
  have a : ¬ (k < (m + n - 1) / n) := fun h => by
    have := (Nat.le_div_iff_mul_le hn).1 (Nat.succ_le_of_lt h)
    rw [Nat.succ_mul] at this
    omega
  rcases h2 with rfl | h2
  · exact (Nat.eq_zero_of_not_pos a).symm
  · have := ceil_lt hn h2
    omega
theorem take_min (l : List Int) (n : Nat) : l.take (min n l.length) = l.take n := by
  rcases Nat.le_total n l.length with h | h
  · rw [Nat.min_eq_left h]
  · rw [Nat.min_eq_right h, List.take_of_length_le (Nat.le_refl _), List.take_of_length_le h]
def chunkRS : RSpec := fun cap H => match cap with
  | [.ptr i 0, .ptr j 0] => (match H.get i, H.get j with
    | some (.cells _ [.roi k l]), some (.cells _ [.int .i64 n]) => some ([1 ≤ n, (l.length : Int) + n ≤ 9223372036854775807], (l.length + n.toNat - 1) / n.toNat, fun q => [.roi k ((l.drop (q * n.toNat)).take n.toNat)])
    | some (.cells _ [.sl a 1 o m]), some (.cells _ [.int .i64 n]) => some ([1 ≤ n, (m : Int) + n ≤ 9223372036854775807], (m + n.toNat - 1) / n.toNat, fun q => [.sl a 1 (o + q * n.toNat) (min n.toNat (m - q * n.toNat))])
    | _, _ => none)
  | _ => none
theorem chunk_core {i j : Nat} {x : AV} {n : Int} {m : Nat} {pc : Nat → Nat → AV} {H : AH} {t1 t2 : TypeId} (hi : H.get i = some (.cells t1 [x])) (hj : H.get j = some (.cells t2 [.int .i64 n])) (hn : 1 ≤ n) (hm : (m : Int) + n ≤ 9223372036854775807)
    (hpc : ∀ (R : PN) (W : World) (O : Nat → Prop) (v : Value), Rep R W O x v → Pieces R W O pc m v) {R : PN} {w : World} {O : Nat → Prop} {lb : List Value} (hc : CRel R w O [.ptr i 0, .ptr j 0] lb) {items : Nat → List AV} (hit : ∀ q, items q = [pc (q * n.toNat) (min n.toNat (m - q * n.toNat))]) :
    IterOK Tryd.prog 92 lb.toArray ((m + n.toNat - 1) / n.toNat) items (KWof [.ptr i 0, .ptr j 0] H R) := by
  intro d l J Jx W hq hqx hkw hY h0
  have e1 := hc.1
  obtain ⟨v1, v2, rfl⟩ : ∃ v1 v2, lb = [v1, v2] := by match lb, e1 with | [a, b], _ => exact ⟨a, b, rfl⟩
  have r1 := hc.2 0 _ v1 rfl rfl
  have r2 := hc.2 1 _ v2 rfl rfl
  cases r1 with
  | ptr _ _ b1 hb1 =>
  cases r2 with
  | ptr _ _ b2 hb2 =>
  refine (chunk1_in l b1 b2 m n hn hm pc J Jx d hq (fun k R' O' W' hJ => ?_) (fun k R' O' W' args hk hJ ha => ?_) W h0).mono ?_
  · have kw := hkw k R' O' W' hJ
    obtain ⟨v, k1, k2, k3⟩ := kw_cells kw hi (by simp [nmsL, nms0]) hb1 0 x rfl
    obtain ⟨u, q1, q2, q3⟩ := kw_cells kw hj (by simp [nmsL, nms0]) hb2 0 (.int .i64 n) rfl
    cases q3
    exact ⟨v, k1, hpc _ _ _ _ k3, q1⟩
  · exact hY k R' O' W' args (ceil_lt (by omega) hk) hJ (by rw [hit]; exact ha)
  · rintro e W' ⟨hv, ⟨k, R', O', h1, h2, h3⟩ | h⟩
    · have := ceil_eq (by omega) h1 h2
      subst this
      exact ⟨hv, .inl ⟨R', O', h3⟩⟩
    · exact ⟨hv, .inr h⟩
theorem chunk_it : RSOK Tryd.prog 92 chunkRS := by
  refine ⟨⟨_, Tryd.func92, by kernel_rfl, by kernel_rfl⟩, fun cap H obs N items hs ho F Ob W0 R w lb hH hc => ?_⟩
  unfold chunkRS at hs
  split at hs
  · split at hs
    · rename_i hi hj
      simp only [Option.some.injEq, Prod.mk.injEq] at hs
      obtain ⟨rfl, rfl, rfl⟩ := hs
      refine chunk_core (pc := fun lo n => .roi _ ((List.drop lo _).take n)) hi hj (ho _ (by simp)) (ho _ (by simp)) (fun R W O v h => pieces_roi h) hc (fun q => ?_)
      rw [← List.length_drop, take_min]
    · rename_i hi hj
      simp only [Option.some.injEq, Prod.mk.injEq] at hs
      obtain ⟨rfl, rfl, rfl⟩ := hs
      exact chunk_core hi hj (ho _ (by simp)) (ho _ (by simp)) (fun R W O v h => pieces_sl h) hc (fun q => rfl)
    · cases hs
  · cases hs
end Go.Proofs.YtocboijpmmlegaaDoor
namespace Go.Proofs.YtocboijpmmlegaaDoor
open Go Go.RowKit
def rlook : List (FuncId × RSpec) → FuncId → Option RSpec
  | [], _ => none
  | (g, s) :: r, f => bif Nat.beq g f then some s else rlook r f
theorem rl_nil : ∀ g s, rlook [] g = some s → RSOK Tryd.prog g s := fun g s h => by cases h
theorem rl_cons {g : FuncId} {s : RSpec} {r : List (FuncId × RSpec)} (h : RSOK Tryd.prog g s) (k : ∀ g s, rlook r g = some s → RSOK Tryd.prog g s) : ∀ f t, rlook ((g, s) :: r) f = some t → RSOK Tryd.prog f t := fun f t ht => by
  unfold rlook at ht
  cases hb : Nat.beq g f
  · rw [hb] at ht; exact k f t ht
  · rw [hb] at ht
    cases ht
    have := beq_iff.1 hb
    subst this
    exact h
theorem fokR {S : List (FuncId × PSpec)} {G : FuncId → Option GSpec} {RT : FuncId → Option RSpec} (cuts : List Nat) (hS : POK Tryd.prog (slook S)) (hG : ∀ g s, G g = some s → GSOK Tryd.prog g s) (hRT : ∀ g s, RT g = some s → RSOK Tryd.prog g s) {g : FuncId} {fn : Func} (hf : FnOK Tryd.prog g fn) (hr : (match fn.body with | some c => rgB fn.ntmps c | none => false) = true) {FS : FSpec}
    (h : ∀ l es obs v es', FS l es = some (obs, v, es') → (∀ p ∈ obs, p) → l.length ≤ fn.ntmps ∧ vcFnR (mkK es.length S G cuts) RT fn l ⟨es.length, num 0 (es.map some)⟩ (RetF es.length v es')) : GSOK Tryd.prog g (fG FS) :=
  fok_snd hf fun l es obs v es' hF hob => by
    obtain ⟨h1, h2⟩ := h _ _ _ _ _ hF hob
    exact snd_ofR (mkK_ok hS hG) hRT mixed hf hr h1 h2
def chunkF : FSpec := fun l es => match l, es with
  | [.roi .u8 p, .int .i64 n], [] => some ([1 ≤ n], .fn 92 0 [.ptr 0 0, .ptr 1 0], [some (.cells 22 [.roi .u8 p]), some (.cells 3 [.int .i64 n])])
  | [.sl 0 1 o m, .int .i64 n], [.ints 5 .u8 p] => some ([1 ≤ n], .fn 92 0 [.ptr 1 0, .ptr 2 0], [some (.ints 5 .u8 p), some (.cells 22 [.sl 0 1 o m]), some (.cells 3 [.int .i64 n])])
  | _, _ => none
theorem chunk_g : GSOK Tryd.prog 84 (fG chunkF) := by
  refine fok (S := []) (G := noG) pok_nil noG_ok ⟨Tryd.func84, by kernel_rfl, by kernel_rfl, by kernel_rfl⟩ fun l es obs v es' h ho => ?_
  unfold chunkF at h
  split at h
  · rename_i p n
    simp only [Option.some.injEq, Prod.mk.injEq] at h
    obtain ⟨rfl, rfl, rfl⟩ := h
    simp only [List.mem_cons, List.not_mem_nil, or_false, forall_eq] at ho
    refine ⟨Nat.le_of_ble_eq_true rfl, ?_⟩
    (repeat' (first | (refine xI (fun hfk => ?_) (fun hfk => ?_) <;> ((try (first | replace hfk := oT hfk | replace hfk := oF hfk | simp only [oA, oB, dh1, dh0, ne_eq, reduceCtorEq] at hfk)); (try exact oX))) | (refine And.intro ?ob ?_; (case ob => (exact oZ))) | exact True.intro | (show _ = _; first | exact oY | (skip; done) | exact rfl) | exact oW | (apply And.intro)))
    refine ⟨[some 0, some 1], ?_⟩
    (repeat' (first | (refine xI (fun hfk => ?_) (fun hfk => ?_) <;> ((try (first | replace hfk := oT hfk | replace hfk := oF hfk | simp only [oA, oB, dh1, dh0, ne_eq, reduceCtorEq] at hfk)); (try exact oX))) | (refine And.intro ?ob ?_; (case ob => (exact oZ))) | exact True.intro | (show _ = _; first | exact oY | (skip; done) | exact rfl) | exact oW | (apply And.intro)))
  · rename_i o m n p
    simp only [Option.some.injEq, Prod.mk.injEq] at h
    obtain ⟨rfl, rfl, rfl⟩ := h
    simp only [List.mem_cons, List.not_mem_nil, or_false, forall_eq] at ho
    refine ⟨Nat.le_of_ble_eq_true rfl, ?_⟩
    (repeat' (first | (refine xI (fun hfk => ?_) (fun hfk => ?_) <;> ((try (first | replace hfk := oT hfk | replace hfk := oF hfk | simp only [oA, oB, dh1, dh0, ne_eq, reduceCtorEq] at hfk)); (try exact oX))) | (refine And.intro ?ob ?_; (case ob => (exact oZ))) | exact True.intro | (show _ = _; first | exact oY | (skip; done) | exact rfl) | exact oW | (apply And.intro)))
    refine ⟨[some 0, some 1, some 2], ?_⟩
    (repeat' (first | (refine xI (fun hfk => ?_) (fun hfk => ?_) <;> ((try (first | replace hfk := oT hfk | replace hfk := oF hfk | simp only [oA, oB, dh1, dh0, ne_eq, reduceCtorEq] at hfk)); (try exact oX))) | (refine And.intro ?ob ?_; (case ob => (exact oZ))) | exact True.intro | (show _ = _; first | exact oY | (skip; done) | exact rfl) | exact oW | (apply And.intro)))
  · cases h
def swapTo (L : List Int) (o c : Nat) : Nat → List Int
  | 0 => L
  | k + 1 => ((swapTo L o c k).set (o + k * c) ((swapTo L o c k).getD (o + k * c + 2) 0)).set (o + k * c + 2) ((swapTo L o c k).getD (o + k * c) 0)
theorem swapTo_len (L : List Int) (o c : Nat) : ∀ k, (swapTo L o c k).length = L.length
  | 0 => rfl
  | k + 1 => by simp [swapTo, swapTo_len L o c k]
theorem ceil_mul {w c : Nat} (hc : 0 < c) : (w * c + c - 1) / c = w := by
  rw [show w * c + c - 1 = (c - 1) + c * w by rw [Nat.mul_comm]; omega, Nat.add_mul_div_left _ _ hc, Nat.div_eq_of_lt (by omega), Nat.zero_add]
def turnF : FSpec := fun l es => match l, es with
  | [.sl 0 1 o m, .int .i64 c], [.ints 5 .u8 L] => some ([3 ≤ c, m = (m / c.toNat) * c.toNat, o + m ≤ L.length, (m : Int) + c ≤ 9223372036854775807], .tup [], [some (.ints 5 .u8 (swapTo L o c.toNat (m / c.toNat)))])
  | _, _ => none
theorem turn_g : GSOK Tryd.prog 63 (fG turnF) := by
  refine fokR (S := []) (G := glook [(84, fG chunkF)]) (RT := rlook [(92, chunkRS)]) [] pok_nil (gl_cons chunk_g gl_nil) (rl_cons chunk_it rl_nil) ⟨Tryd.func63, by kernel_rfl, by kernel_rfl, by kernel_rfl⟩ (by kernel_rfl) fun l es obs v es' h ho => ?_
  (unfold turnF at h; split at h; rotate_left; (focus (cases h)); rename_i o m c L; simp only [Option.some.injEq, Prod.mk.injEq] at h; obtain ⟨rfl, rfl, rfl⟩ := h; simp only [List.mem_cons, List.not_mem_nil, or_false, forall_eq_or_imp, forall_eq, false_implies, implies_true] at ho)
  obtain ⟨ho1, ho2, ho3, ho4⟩ := ho
  refine ⟨Nat.le_of_ble_eq_true rfl, ?_⟩
  (repeat' (first | (refine xI (fun hfk => ?_) (fun hfk => ?_) <;> ((try (first | replace hfk := oT hfk | replace hfk := oF hfk | simp only [oA, oB, dh1, dh0, ne_eq, reduceCtorEq] at hfk)); (try exact oX))) | (refine And.intro ?ob ?_; (case ob => (exact oZ))) | exact True.intro | (show _ = _; first | exact oY | (skip; done) | exact rfl) | exact oW | (apply And.intro)))
  (refine ⟨[0], ⟨by kernel_rfl⟩, ?_⟩)
  (repeat' (first | (refine xI (fun hfk => ?_) (fun hfk => ?_) <;> ((try (first | replace hfk := oT hfk | replace hfk := oF hfk | simp only [oA, oB, dh1, dh0, ne_eq, reduceCtorEq] at hfk)); (try exact oX))) | (refine And.intro ?ob ?_; (case ob => (exact oZ))) | exact True.intro | (show _ = _; first | exact oY | (skip; done) | exact rfl) | exact oW | (apply And.intro)))
  refine ⟨[(7, .fn 92 0 [.ptr 1 0, .ptr 2 0])], ⟨3, [(0, some (.ints 5 .u8 L)), (1, some (.cells 22 [.sl 0 1 o m])), (2, some (.cells 3 [.int .i64 c]))]⟩, [some 0, some 1, some 2], ?_, ?_⟩
  · (repeat' (first | (refine xI (fun hfk => ?_) (fun hfk => ?_) <;> ((try (first | replace hfk := oT hfk | replace hfk := oF hfk | simp only [oA, oB, dh1, dh0, ne_eq, reduceCtorEq] at hfk)); (try exact oX))) | (refine And.intro ?ob ?_; (case ob => (exact oZ))) | exact True.intro | (show _ = _; first | exact oY | (skip; done) | exact rfl) | exact oW | (apply And.intro)))
  have e0 : (m + c.toNat - 1) / c.toNat = m / c.toNat := by
    have := ceil_mul (w := m / c.toNat) (c := c.toNat) (by omega)
    rwa [← ho2] at this
  rw [← e0]
  rw [← e0] at ho2
  refine ⟨by omega, by omega, fun k => rfl, Unit, fun k _ => ⟨3, [(0, some (.ints 5 .u8 (swapTo L o c.toNat k))), (1, some (.cells 22 [.sl 0 1 o m])), (2, some (.cells 3 [.int .i64 c]))]⟩, fun k _ => True, ⟨(), [some 0, some 1, some 2], trivial, ?_⟩, fun k _ _ => ⟨rfl, rfl, trivial⟩, fun k hk _ _ => ?_, fun _ _ => ?_⟩
  · (repeat' (first | (refine xI (fun hfk => ?_) (fun hfk => ?_) <;> ((try (first | replace hfk := oT hfk | replace hfk := oF hfk | simp only [oA, oB, dh1, dh0, ne_eq, reduceCtorEq] at hfk)); (try exact oX))) | (refine And.intro ?ob ?_; (case ob => (exact oZ))) | exact True.intro | (show _ = _; first | exact oY | (skip; done) | exact rfl) | exact oW | (apply And.intro)))
  · have hlen := swapTo_len L o c.toNat k
    have hk2 : k * c.toNat + c.toNat ≤ m := by
      have := Nat.mul_le_mul_right c.toNat (Nat.succ_le_of_lt hk)
      rw [Nat.succ_mul] at this
      omega
    (repeat' (first | (refine xI (fun hfk => ?_) (fun hfk => ?_) <;> ((try (first | replace hfk := oT hfk | replace hfk := oF hfk | simp only [oA, oB, dh1, dh0, ne_eq, reduceCtorEq] at hfk)); (try exact oX))) | (refine And.intro ?ob ?_; (case ob => (exact oZ))) | exact True.intro | (show _ = _; first | exact oY | ((simp only [List.length_set]; omega); done) | exact rfl) | exact oW | (apply And.intro)))
    refine ⟨(), [some 0, some 1, some 2], trivial, ?_⟩
    (repeat' (first | (refine xI (fun hfk => ?_) (fun hfk => ?_) <;> ((try (first | replace hfk := oT hfk | replace hfk := oF hfk | simp only [oA, oB, dh1, dh0, ne_eq, reduceCtorEq] at hfk)); (try exact oX))) | (refine And.intro ?ob ?_; (case ob => (exact oZ))) | exact True.intro | (show _ = _; first | exact oY | (skip; done) | exact rfl) | exact oW | (apply And.intro)))
  · (repeat' (first | (refine xI (fun hfk => ?_) (fun hfk => ?_) <;> ((try (first | replace hfk := oT hfk | replace hfk := oF hfk | simp only [oA, oB, dh1, dh0, ne_eq, reduceCtorEq] at hfk)); (try exact oX))) | (refine And.intro ?ob ?_; (case ob => (exact oZ))) | exact True.intro | (show _ = _; first | exact oY | (skip; done) | exact rfl) | exact oW | (apply And.intro)))
    refine ⟨[some 0], ?_⟩
    (repeat' (first | (refine xI (fun hfk => ?_) (fun hfk => ?_) <;> ((try (first | replace hfk := oT hfk | replace hfk := oF hfk | simp only [oA, oB, dh1, dh0, ne_eq, reduceCtorEq] at hfk)); (try exact oX))) | (refine And.intro ?ob ?_; (case ob => (exact oZ))) | exact True.intro | (show _ = _; first | exact oY | (skip; done) | exact rfl) | exact oW | (apply And.intro)))
end Go.Proofs.YtocboijpmmlegaaDoor
namespace Go.Proofs.YtocboijpmmlegaaDoor
open Go Go.RowKit
def sMM (f : Int → Int → Int → List Int → Int → Int → Int → List Int → AV) : PSpec := fun l => match l with
  | [.agg [.int .i64 w, .int .i64 h, .int .i64 c, .roi .u8 p], .agg [.int .i64 v, .int .i64 g, .int .i64 d, .roi .u8 q]] => some ([p.length ≤ 1152921504606846975], f w h c p v g d q) | _ => none
theorem sMM_inv {f : Int → Int → Int → List Int → Int → Int → Int → List Int → AV} {l : List AV} {obs : List Prop} {v : AV} (h : sMM f l = some (obs, v)) : ∃ w hh c p w' h' c' q, l = [imA w hh c p, imA w' h' c' q] ∧ obs = [p.length ≤ 1152921504606846975] ∧ v = f w hh c p w' h' c' q := by
  unfold sMM at h
  split at h
  · simp only [Option.some.injEq, Prod.mk.injEq] at h; exact ⟨_, _, _, _, _, _, _, _, rfl, h.1.symm, h.2.symm⟩
  · cases h
def sameM (w h c : Int) (p : List Int) (v g d : Int) (q : List Int) : Bool := decide (w = v ∧ h = g ∧ c = d ∧ p = q)
abbrev sameS : PSpec := sMM fun w h c p v g d q => .bool (sameM w h c p v g d q)
theorem list_getD {p q : List Int} (hl : p.length = q.length) (h : ∀ j, j < p.length → p.getD j 0 = q.getD j 0) : p = q := by
  refine List.ext_getElem hl fun j h1 h2 => ?_
  have := h j h1
  simpa [List.getD, h1, h2] using this
theorem rsame_s : SOK Tryd.prog 17 sameS := by
  refine sok_of (C := mkC 0 [] noG) (mkC_ok pok_nil noG_ok) rfl mixed ⟨Tryd.func17, by kernel_rfl, by kernel_rfl, by kernel_rfl⟩ fun l obs v h ho => ?_
  obtain ⟨w, hh, c, p, v, g, d, q, rfl, rfl, rfl⟩ := sMM_inv h
  have fit : p.length ≤ 1152921504606846975 := ho _ (by simp)
  clear h ho
  refine ⟨Nat.le_of_ble_eq_true rfl, ?_⟩
  by_cases hd : w = v ∧ hh = g ∧ c = d ∧ p.length = q.length
  · obtain ⟨rfl, rfl, rfl, hl⟩ := hd
    have hl2 : (p.length : Int) = q.length := by omega
    (repeat (first | (refine ⟨fun hh => absurd hh ?prx, fun _ => ?_⟩; (case prx => (simp [hl, hl2]; done))) | (refine ⟨fun _ => ?_, fun hh => absurd hh ?prx⟩; (case prx => (simp [hl, hl2]; done))) | (refine ⟨?prx, ?_⟩; (case prx => (first | exact Chk.mk (by kernel_rfl) | exact rfl | exact rfl)))))
    refine ⟨Nat, fun i => [(2, .ptr 0 0), (3, .ptr 1 0), (5, .int .i64 i)], fun i => ⟨2, [(0, some (.cells 24 [.int .i64 w, .int .i64 hh, .int .i64 c, .roi .u8 p])), (1, some (.cells 24 [.int .i64 w, .int .i64 hh, .int .i64 c, .roi .u8 q]))]⟩,
      fun i => i ≤ p.length ∧ ∀ j, j < i → p.getD j 0 = q.getD j 0, fun i => p.length - i, ⟨0, [some 0, some 1], ⟨Nat.zero_le _, fun j hj => by omega⟩, ?_⟩, fun i hi => ?_⟩
    · (repeat' (first | apply And.intro | intro h)); (all_goals (try exact Chk.mk (by kernel_rfl)))
      (all_goals (try first | exact True.intro | exact rfl | exact And.intro rfl rfl | exact And.intro rfl (fun _ _ => rfl)))
    refine ⟨fun hy => ?_, fun hy => ?_⟩
    · replace hy : (i : Int) < (p.length : Int) := of_decide_eq_true hy
      have hb := hi.2
      have b1 : 0 ≤ (i : Int) ∧ (i : Int) < (p.length : Int) := ⟨by omega, hy⟩
      have b2 : 0 ≤ (i : Int) ∧ (i : Int) < (q.length : Int) := ⟨by omega, by omega⟩
      have q1 : rngI .i64 ((i : Int) + 1) := rng64 (by omega) (by have := fit; omega)
      refine ⟨⟨by kernel_rfl⟩, b1, b2, fun h5 => ?_, fun h5 => ?_⟩
      · have h5 : ¬ p.getD i 0 = q.getD i 0 := of_decide_eq_true h5
        have e : sameM w hh c p w hh c q = false := by
          simp only [sameM, decide_eq_false_iff_not]
          rintro ⟨_, _, _, h4⟩
          exact h5 (by rw [h4])
        rw [e]
        (repeat' (first | apply And.intro | intro h)); (all_goals (try exact Chk.mk (by kernel_rfl)))
        (all_goals (try first | assumption | exact rfl | exact True.intro | contradiction | (exfalso; simp only [decide_eq_true_eq, decide_eq_false_iff_not, Bool.not_eq_true', Bool.not_eq_false', Bool.and_eq_true, Bool.or_eq_true, Bool.and_eq_false_iff, Bool.or_eq_false_iff, Int.not_lt, Int.not_le, ne_eq, Classical.not_not] at *; omega)))
      · have h5 : p.getD i 0 = q.getD i 0 := by simpa using h5
        refine ⟨q1, i + 1, [some 0, some 1], ⟨by omega, fun j hj => ?_⟩, (by show p.length - (i + 1) < p.length - i; omega), ?_⟩
        · by_cases hji : j = i
          · rw [hji]; exact h5
          · exact hb j (by omega)
        · (repeat' (first | apply And.intro | intro h)); (all_goals (try exact Chk.mk (by kernel_rfl)))
          (all_goals (try first | exact True.intro | exact rfl | exact And.intro rfl rfl | exact And.intro rfl (fun _ _ => rfl)))
    · replace hy : ¬ (i : Int) < (p.length : Int) := of_decide_eq_false hy
      have e : sameM w hh c p w hh c q = true := by
        have := list_getD hl (fun j hj => hi.2 j (by omega))
        simp [sameM, this]
      rw [e]
      (repeat' (first | apply And.intro | intro h)); (all_goals (try exact Chk.mk (by kernel_rfl)))
      (all_goals (try first | assumption | exact rfl | exact True.intro | contradiction | (exfalso; simp only [decide_eq_true_eq, decide_eq_false_iff_not, Bool.not_eq_true', Bool.not_eq_false', Bool.and_eq_true, Bool.or_eq_true, Bool.and_eq_false_iff, Bool.or_eq_false_iff, Int.not_lt, Int.not_le, ne_eq, Classical.not_not] at *; omega)))
  · have e : sameM w hh c p v g d q = false := by
      simp only [sameM, decide_eq_false_iff_not]
      rintro ⟨h1, h2, h3, h4⟩
      exact hd ⟨h1, h2, h3, by rw [h4]⟩
    rw [e]
    (repeat' (first | apply And.intro | intro h)); (all_goals (try exact Chk.mk (by kernel_rfl)))
    (all_goals (try first | assumption | exact rfl | exact True.intro | contradiction | (exfalso; simp only [decide_eq_true_eq, decide_eq_false_iff_not, Bool.not_eq_true', Bool.not_eq_false', Bool.and_eq_true, Bool.or_eq_true, Bool.and_eq_false_iff, Bool.or_eq_false_iff, Int.not_lt, Int.not_le, ne_eq, Classical.not_not] at *; omega)))
end Go.Proofs.YtocboijpmmlegaaDoor
namespace Go.Proofs.YtocboijpmmlegaaDoor
open Go Go.RowKit
def spl (L : List Int) (o : Nat) (q : List Int) : List Int := L.take o ++ (q ++ L.drop (o + q.length))
theorem spl_len {L q : List Int} {o : Nat} (h : o + q.length ≤ L.length) : (spl L o q).length = L.length := by
  simp only [spl, List.length_append, List.length_take, List.length_drop]; omega
theorem spl_set {L q : List Int} {o i : Nat} {v : Int} (hi : i < q.length) (ho : o ≤ L.length) : (spl L o q).set (o + i) v = spl L o (q.set i v) := by
  have hl : (L.take o).length = o := by rw [List.length_take]; omega
  unfold spl
  rw [List.set_append_right _ _ (by omega), hl, Nat.add_sub_cancel_left, List.set_append_left _ _ hi, List.length_set]
theorem spl_get {L q : List Int} {o i : Nat} (hi : i < q.length) (ho : o ≤ L.length) : (spl L o q).getD (o + i) 0 = q.getD i 0 := by
  have hl : (L.take o).length = o := by rw [List.length_take]; omega
  unfold spl
  rw [List.getD_eq_getElem?_getD, List.getD_eq_getElem?_getD, List.getElem?_append_right (by omega), hl, Nat.add_sub_cancel_left, List.getElem?_append_left hi]
def piece (p : List Int) (c k : Nat) : List Int := (p.drop (k * c)).take c
theorem piece_len {p : List Int} {c k : Nat} (h : k * c + c ≤ p.length) : (piece p c k).length = c := by simp [piece]; omega
theorem prod_of {a b n : Nat} (h : a < b) : a * n + n ≤ b * n := by
  have := Nat.mul_le_mul_right n (Nat.succ_le_of_lt h)
  rwa [Nat.succ_mul] at this
theorem piece_get {p : List Int} {c k j : Nat} (hj : j < c) : (piece p c k).getD j 0 = p.getD (k * c + j) 0 := by
  unfold piece
  rw [List.getD_eq_getElem?_getD, List.getD_eq_getElem?_getD, List.getElem?_take_of_lt hj, List.getElem?_drop]
theorem mod_of {k c j : Nat} (h : j < c) : (k * c + j) % c = j := by rw [Nat.add_comm, Nat.add_mul_mod_self_right, Nat.mod_eq_of_lt h]
end Go.Proofs.YtocboijpmmlegaaDoor
namespace Go.Proofs.YtocboijpmmlegaaDoor
open Go Go.RowKit
set_option maxHeartbeats 4000000
def up4 (n : Int) : Int := (n + 3) / 4 * 4
theorem up4_bd (n : Int) : n ≤ up4 n ∧ up4 n ≤ n + 3 ∧ up4 n % 4 = 0 := by unfold up4; omega
theorem not3 (n : Nat) (h : n < 18446744073709551616) : (BitVec.ofNat 64 n &&& ~~~ BitVec.ofNat 64 3).toNat = n / 4 * 4 := by
  have e : n / 4 * 4 = (n >>> 2) <<< 2 := by rw [Nat.shiftRight_eq_div_pow, Nat.shiftLeft_eq]
  rw [e]
  apply Nat.eq_of_testBit_eq
  intro i
  rw [Nat.testBit_shiftLeft, Nat.testBit_shiftRight, ← BitVec.getLsbD]
  rw [BitVec.getLsbD_and, BitVec.getLsbD_not, BitVec.getLsbD_ofNat, BitVec.getLsbD_ofNat]
  have h3 : ∀ i, Nat.testBit 3 i = decide (i < 2) := by
    intro i
    match i with
    | 0 => rfl
    | 1 => rfl
    | i + 2 => rw [Nat.testBit_succ, Nat.testBit_succ]; simp
  rw [h3]
  by_cases h2 : i < 2
  · simp [h2]
    intro k; omega
  · by_cases h64 : i < 64
    · have : 2 + (i - 2) = i := by omega
      simp [h2, h64, this, show 2 ≤ i by omega]
    · have hz : n.testBit i = false := Nat.testBit_lt_two_pow (Nat.lt_of_lt_of_le h (Nat.le_trans (by decide : 18446744073709551616 ≤ 2 ^ 64) (Nat.pow_le_pow_right (by decide) (by omega))))
      have : 2 + (i - 2) = i := by omega
      simp [h64, this, hz]
theorem andnot3 {n : Int} (h0 : 0 ≤ n) (h1 : n < 4294967296) : IntKind.i64.wrap (BitVec.ofInt IntKind.i64.bits n &&& ~~~ BitVec.ofInt IntKind.i64.bits 3).toNat = n / 4 * 4 := by
  obtain ⟨m, rfl⟩ := Int.eq_ofNat_of_zero_le h0
  have hb : IntKind.i64.bits = 64 := rfl
  rw [hb]
  have b1 : BitVec.ofInt 64 (m : Int) = BitVec.ofNat 64 m := rfl
  have b2 : BitVec.ofInt 64 3 = BitVec.ofNat 64 3 := rfl
  rw [b1, b2, not3 m (by omega), wrap_rng ⟨by show (-9223372036854775808 : Int) ≤ _; omega, by show _ ≤ (9223372036854775807 : Int); omega⟩]
  omega
def strV (w c : Int) : Int := if w < 1 ∨ 32768 < w ∨ (c ≠ 3 ∧ c ≠ 4) then 0 else up4 (w * c)
abbrev strideS : PSpec := fun l => match l with | [.int .i64 w, .int .i64 c] => some ([], .int .i64 (strV w c)) | _ => none
theorem stride_s : SOK Tryd.prog 60 strideS := by
  refine sok_of (C := mkC 0 [] noG) (mkC_ok pok_nil noG_ok) rfl mixed ⟨Tryd.func60, by kernel_rfl, by kernel_rfl, by kernel_rfl⟩ fun l obs v h ho => ?_
  (unfold strideS at h; split at h; rotate_left; (focus (cases h)); rename_i w c; simp only [Option.some.injEq, Prod.mk.injEq] at h; obtain ⟨rfl, rfl⟩ := h; simp only [List.mem_cons, List.not_mem_nil, or_false, forall_eq_or_imp, forall_eq, false_implies, implies_true] at ho)
  refine ⟨Nat.le_of_ble_eq_true rfl, ?_⟩
  by_cases h : w < 1 ∨ 32768 < w ∨ (c ≠ 3 ∧ c ≠ 4)
  · have e : strV w c = 0 := if_pos h
    rw [e]
    (repeat' (first | (refine xI (fun hfk => ?_) (fun hfk => ?_) <;> ((try (first | replace hfk := oT hfk | replace hfk := oF hfk | simp only [oA, oB, dh1, dh0, ne_eq, reduceCtorEq] at hfk)); (try exact oX))) | (refine And.intro ?ob ?_; (case ob => (exact oZ))) | exact True.intro | (show _ = _; first | exact oY | (rfl; done) | exact rfl) | exact oW | (apply And.intro)))
  · have e : strV w c = up4 (w * c) := if_neg h
    have hc : c = 3 ∨ c = 4 := by omega
    have hb : 3 ≤ w * c ∧ w * c ≤ 131072 := by rcases hc with k | k <;> subst k <;> omega
    have r1 : rngI .i64 (w * c) := rng64 (by omega) (by omega)
    have r2 : rngI .i64 (w * c + 3) := rng64 (by omega) (by omega)
    have e2 := andnot3 (n := w * c + 3) (by omega) (by omega)
    rw [e]
    (repeat' (first | (refine xI (fun hfk => ?_) (fun hfk => ?_) <;> ((try (first | replace hfk := oT hfk | replace hfk := oF hfk | simp only [oA, oB, dh1, dh0, ne_eq, reduceCtorEq] at hfk)); (try exact oX))) | (refine And.intro ?ob ?_; (case ob => (exact oZ))) | exact True.intro | (show _ = _; first | exact oY | (exact e2; done) | exact rfl) | exact oW | (apply And.intro)))
abbrev rstrS : PSpec := fun l => match l with | [.int .i64 w, .int .i64 c] => some ([0 ≤ w * c, w * c ≤ 4294967296], .int .i64 (up4 (w * c))) | _ => none
theorem rstr_s : SOK Tryd.prog 53 rstrS := by
  refine sok_of (C := mkC 0 [] noG) (mkC_ok pok_nil noG_ok) rfl mixed ⟨Tryd.func53, by kernel_rfl, by kernel_rfl, by kernel_rfl⟩ fun l obs v h ho => ?_
  (unfold rstrS at h; split at h; rotate_left; (focus (cases h)); rename_i w c; simp only [Option.some.injEq, Prod.mk.injEq] at h; obtain ⟨rfl, rfl⟩ := h; simp only [List.mem_cons, List.not_mem_nil, or_false, forall_eq_or_imp, forall_eq, false_implies, implies_true] at ho)
  obtain ⟨h0, h1⟩ := ho
  refine ⟨Nat.le_of_ble_eq_true rfl, ?_⟩
  have hb := up4_bd (w * c)
  have r1 : rngI .i64 (w * c) := rng64 (by omega) (by omega)
  (repeat' (first | (refine xI (fun hfk => ?_) (fun hfk => ?_) <;> ((try (first | replace hfk := oT hfk | replace hfk := oF hfk | simp only [oA, oB, dh1, dh0, ne_eq, reduceCtorEq] at hfk)); (try exact oX))) | (refine And.intro ?ob ?_; (case ob => (exact oZ))) | exact True.intro | (show _ = _; first | exact oY | (skip; done) | exact rfl) | exact oW | (apply And.intro)))
  refine ⟨Nat, fun i => [(5, .int .i64 (w * c + (i : Int)))], fun i => ⟨0, []⟩, fun i => w * c + (i : Int) ≤ up4 (w * c), fun i => 4 - i, ⟨0, [], by show w * c + 0 ≤ _; omega, ?_⟩, fun i hi => ?_⟩
  · (repeat' (first | (refine And.intro ?_ ?_) | exact True.intro | (show _ = _; with_reducible rfl) | exact Chk.mk (by kernel_rfl)))
    all_goals (show (_ : Int) = _; omega)
  have hi : w * c + (i : Int) ≤ up4 (w * c) := hi
  have hm : (w * c + (i : Int)).tmod 4 = (w * c + (i : Int)) % 4 := Int.tmod_eq_emod_of_nonneg (by omega)
  by_cases he : w * c + (i : Int) = up4 (w * c)
  · have hz : (w * c + (i : Int)).tmod 4 = 0 := by rw [hm, he]; exact hb.2.2
    (repeat' (first | (refine xI (fun hfk => ?_) (fun hfk => ?_) <;> ((try (first | replace hfk := oT hfk | replace hfk := oF hfk | simp only [oA, oB, dh1, dh0, ne_eq, reduceCtorEq] at hfk)); (try exact oX))) | (refine And.intro ?ob ?_; (case ob => (exact oZ))) | exact True.intro | (show _ = _; first | exact oY | (exact he; done) | exact rfl) | exact oW | (apply And.intro)))
  · have hz : ¬ (w * c + (i : Int)).tmod 4 = 0 := by rw [hm]; unfold up4 at he hi hb; omega
    have r2 : rngI .i64 (w * c + (i : Int) + 1) := rng64 (by omega) (by omega)
    (repeat' (first | (refine xI (fun hfk => ?_) (fun hfk => ?_) <;> ((try (first | replace hfk := oT hfk | replace hfk := oF hfk | simp only [oA, oB, dh1, dh0, ne_eq, reduceCtorEq] at hfk)); (try exact oX))) | (refine And.intro ?ob ?_; (case ob => (exact oZ))) | exact True.intro | (show _ = _; first | exact oY | (skip; done) | exact rfl) | exact oW | (apply And.intro)))
    refine ⟨i + 1, [], ?_, ?mu, ?_⟩
    case mu => (show 4 - (i + 1) < 4 - i; omega)
    · show w * c + ((i + 1 : Nat) : Int) ≤ _; omega
    (repeat' (first | (refine And.intro ?_ ?_) | exact True.intro | (show _ = _; with_reducible rfl) | exact Chk.mk (by kernel_rfl)))
    all_goals (show (_ : Int) = _; omega)
def bszV (w h c : Int) : Int := if strV w c = 0 ∨ h < 1 ∨ 32768 < h ∨ 4194304 < w * h then 0 else 54 + strV w c * h
theorem strV_bd (w c : Int) : 0 ≤ strV w c ∧ strV w c ≤ 131075 := by
  unfold strV
  split
  · omega
  · rename_i h
    have hc : c = 3 ∨ c = 4 := by omega
    have hb := up4_bd (w * c)
    rcases hc with k | k <;> subst k <;> omega
theorem strV_pos {w c : Int} (h : strV w c ≠ 0) : 1 ≤ w ∧ w ≤ 32768 := by
  unfold strV at h
  split at h
  · exact absurd rfl h
  · omega
abbrev bsizeS : PSpec := fun l => match l with | [.int .i64 w, .int .i64 h, .int .i64 c] => some ([], .int .i64 (bszV w h c)) | _ => none
theorem bsize_s : SOK Tryd.prog 77 bsizeS := by
  refine sok_of (C := mkC 0 [(60, strideS)] noG) (mkC_ok (pok_cons stride_s pok_nil) noG_ok) rfl mixed ⟨Tryd.func77, by kernel_rfl, by kernel_rfl, by kernel_rfl⟩ fun l obs v h ho => ?_
  (unfold bsizeS at h; split at h; rotate_left; (focus (cases h)); rename_i w hv c; simp only [Option.some.injEq, Prod.mk.injEq] at h; obtain ⟨rfl, rfl⟩ := h; simp only [List.mem_cons, List.not_mem_nil, or_false, forall_eq_or_imp, forall_eq, false_implies, implies_true] at ho)
  refine ⟨Nat.le_of_ble_eq_true rfl, ?_⟩
  have sb := strV_bd w c
  by_cases k1 : strV w c = 0
  · have e : bszV w hv c = 0 := if_pos (.inl k1)
    rw [e]
    (repeat' (first | (refine xI (fun hfk => ?_) (fun hfk => ?_) <;> ((try (first | replace hfk := oT hfk | replace hfk := oF hfk | simp only [oA, oB, dh1, dh0, ne_eq, reduceCtorEq] at hfk)); (try exact oX))) | (refine And.intro ?ob ?_; (case ob => (exact oZ))) | exact True.intro | (show _ = _; first | exact oY | (rfl; done) | exact rfl) | exact oW | (apply And.intro)))
  by_cases k2 : hv < 1 ∨ 32768 < hv
  · have e : bszV w hv c = 0 := if_pos (by omega)
    rw [e]
    (repeat' (first | (refine xI (fun hfk => ?_) (fun hfk => ?_) <;> ((try (first | replace hfk := oT hfk | replace hfk := oF hfk | simp only [oA, oB, dh1, dh0, ne_eq, reduceCtorEq] at hfk)); (try exact oX))) | (refine And.intro ?ob ?_; (case ob => (exact oZ))) | exact True.intro | (show _ = _; first | exact oY | (rfl; done) | exact rfl) | exact oW | (apply And.intro)))
  have wb := strV_pos k1
  have p1 : 0 ≤ w * hv := Int.mul_nonneg (by omega) (by omega)
  have p2 : w * hv ≤ 32768 * 32768 := Int.le_trans (Int.mul_le_mul_of_nonneg_right wb.2 (by omega)) (Int.mul_le_mul_of_nonneg_left (by omega) (by omega))
  have r1 : rngI .i64 (w * hv) := rng64 (by omega) (by omega)
  by_cases k3 : 4194304 < w * hv
  · have e : bszV w hv c = 0 := if_pos (by omega)
    rw [e]
    (repeat' (first | (refine xI (fun hfk => ?_) (fun hfk => ?_) <;> ((try (first | replace hfk := oT hfk | replace hfk := oF hfk | simp only [oA, oB, dh1, dh0, ne_eq, reduceCtorEq] at hfk)); (try exact oX))) | (refine And.intro ?ob ?_; (case ob => (exact oZ))) | exact True.intro | (show _ = _; first | exact oY | (rfl; done) | exact rfl) | exact oW | (apply And.intro)))
  have e : bszV w hv c = 54 + strV w c * hv := if_neg (by omega)
  have q1 : 0 ≤ strV w c * hv := Int.mul_nonneg (by omega) (by omega)
  have q2 : strV w c * hv ≤ 131075 * 32768 := Int.le_trans (Int.mul_le_mul_of_nonneg_right sb.2 (by omega)) (Int.mul_le_mul_of_nonneg_left (by omega) (by omega))
  have r2 : rngI .i64 (strV w c * hv) := rng64 (by omega) (by omega)
  have r3 : rngI .i64 (54 + strV w c * hv) := rng64 (by omega) (by omega)
  rw [e]
  (repeat' (first | (refine xI (fun hfk => ?_) (fun hfk => ?_) <;> ((try (first | replace hfk := oT hfk | replace hfk := oF hfk | simp only [oA, oB, dh1, dh0, ne_eq, reduceCtorEq] at hfk)); (try exact oX))) | (refine And.intro ?ob ?_; (case ob => (exact oZ))) | exact True.intro | (show _ = _; first | exact oY | (rfl; done) | exact rfl) | exact oW | (apply And.intro)))
def lw (b : List Int) (a n : Int) : Int := lowV ((b.drop a.toNat).take n.toNat)
def wtb : List (Int × Int × Int) := [(6, 4, 0), (10, 4, 54), (14, 4, 40), (26, 2, 1), (30, 4, 0), (46, 4, 0), (50, 4, 0)]
abbrev wtG (j : Nat) : Int × Int × Int := wtb.getD j (0, 0, 0)
abbrev wantsA : AV := .ro 3 7 (fun j => .agg [.int .i64 (wtG j).1, .int .i64 (wtG j).2.1, .int .i64 (wtG j).2.2])
theorem wants_s : SOK Tryd.prog 55 (sN wantsA) := by
  refine sok_of (C := mkC 0 [] noG) (mkC_ok pok_nil noG_ok) rfl mixed ⟨Tryd.func55, by kernel_rfl, by kernel_rfl, by kernel_rfl⟩ fun l obs v h ho => ?_
  obtain ⟨rfl, rfl, rfl⟩ := sN_inv h
  refine ⟨Nat.le_of_ble_eq_true rfl, ?_⟩
  (repeat' (first | (refine xI (fun hfk => ?_) (fun hfk => ?_) <;> ((try (first | replace hfk := oT hfk | replace hfk := oF hfk | simp only [oA, oB, dh1, dh0, ne_eq, reduceCtorEq] at hfk)); (try exact oX))) | (refine And.intro ?ob ?_; (case ob => (exact oZ))) | exact True.intro | (show _ = _; first | exact oY | (skip; done) | exact rfl) | exact oW | (apply And.intro)))
  intro j hj
  have : j = 0 ∨ j = 1 ∨ j = 2 ∨ j = 3 ∨ j = 4 ∨ j = 5 ∨ j = 6 := by omega
  rcases this with k | k | k | k | k | k | k <;> subst k <;> rfl
theorem wt_in {j : Nat} (h : j < 7) : 0 ≤ (wtG j).1 ∧ 0 ≤ (wtG j).2.1 ∧ (wtG j).2.1 ≤ 4 ∧ (wtG j).1 + (wtG j).2.1 ≤ 54 := by
  have : j = 0 ∨ j = 1 ∨ j = 2 ∨ j = 3 ∨ j = 4 ∨ j = 5 ∨ j = 6 := by omega
  rcases this with k | k | k | k | k | k | k <;> subst k <;> decide
def frm0 (b : List Int) : Prop := lw b 6 4 = 0 ∧ lw b 10 4 = 54 ∧ lw b 14 4 = 40 ∧ lw b 26 2 = 1 ∧ lw b 30 4 = 0 ∧ lw b 46 4 = 0 ∧ lw b 50 4 = 0
instance (b : List Int) : Decidable (frm0 b) := by unfold frm0; exact inferInstance
def hdE (b : List Int) : Int :=
  if b.length = 0 ∨ (b.length = 1 ∧ b.getD 0 0 = 66) then 20 else if b.getD 0 0 ≠ 66 ∨ (1 < b.length ∧ b.getD 1 0 ≠ 77) then 21
  else if b.length < 54 then 20 else if frm0 b ∧ (lw b 28 2 = 24 ∨ lw b 28 2 = 32) then 0 else 21
end Go.Proofs.YtocboijpmmlegaaDoor
namespace Go.Proofs.YtocboijpmmlegaaDoor
open Go Go.RowKit
set_option maxHeartbeats 4000000
abbrev hdownS : PSpec := fun l => match l with | [.rop (.agg [.int .u32 x0, .int .u32 x1, .int .u32 x2, .int .u32 x3, .int .u32 x4, .int .u32 x5, .int .u32 x6, .int .u32 x7, .int .u32 x8, .int .u32 x9, .int .u32 x10, .int .u32 x11, .int .u32 x12, .int .u32 x13])] => some ([], .bool (decide (2147483648 ≤ x5))) | _ => none
theorem hdown_s : SOK Tryd.prog 62 hdownS := by
  refine sok_of (C := mkC 0 [] noG) (mkC_ok pok_nil noG_ok) rfl mixed ⟨Tryd.func62, by kernel_rfl, by kernel_rfl, by kernel_rfl⟩ fun l obs v h ho => ?_
  (unfold hdownS at h; split at h; rotate_left; (focus (cases h)); rename_i x0 x1 x2 x3 x4 x5 x6 x7 x8 x9 x10 x11 x12 x13; simp only [Option.some.injEq, Prod.mk.injEq] at h; obtain ⟨rfl, rfl⟩ := h; simp only [List.mem_cons, List.not_mem_nil, or_false, forall_eq_or_imp, forall_eq, false_implies, implies_true] at ho)
  refine ⟨Nat.le_of_ble_eq_true rfl, ?_⟩
  (repeat' (first | (refine xI (fun hfk => ?_) (fun hfk => ?_) <;> ((try (first | replace hfk := oT hfk | replace hfk := oF hfk | simp only [oA, oB, dh1, dh0, ne_eq, reduceCtorEq] at hfk)); (try exact oX))) | (refine And.intro ?ob ?_; (case ob => (exact oZ))) | exact True.intro | (show _ = _; first | exact oY | (rfl; done) | exact rfl) | exact oW | (apply And.intro)))
def hrV (x : Int) : Int := if 2147483648 ≤ x then 4294967296 - x else x
abbrev hrowsS : PSpec := fun l => match l with | [.rop (.agg [.int .u32 x0, .int .u32 x1, .int .u32 x2, .int .u32 x3, .int .u32 x4, .int .u32 x5, .int .u32 x6, .int .u32 x7, .int .u32 x8, .int .u32 x9, .int .u32 x10, .int .u32 x11, .int .u32 x12, .int .u32 x13])] => some ([0 ≤ x5, x5 < 4294967296], .int .u32 (hrV x5)) | _ => none
theorem hrows_s : SOK Tryd.prog 83 hrowsS := by
  refine sok_of (C := mkC 0 [(62, hdownS)] noG) (mkC_ok (pok_cons hdown_s pok_nil) noG_ok) rfl mixed ⟨Tryd.func83, by kernel_rfl, by kernel_rfl, by kernel_rfl⟩ fun l obs v h ho => ?_
  (unfold hrowsS at h; split at h; rotate_left; (focus (cases h)); rename_i x0 x1 x2 x3 x4 x5 x6 x7 x8 x9 x10 x11 x12 x13; simp only [Option.some.injEq, Prod.mk.injEq] at h; obtain ⟨rfl, rfl⟩ := h; simp only [List.mem_cons, List.not_mem_nil, or_false, forall_eq_or_imp, forall_eq, false_implies, implies_true] at ho)
  refine ⟨Nat.le_of_ble_eq_true rfl, ?_⟩
  obtain ⟨h0, h1⟩ := ho
  by_cases hd : 2147483648 ≤ x5
  · have e : hrV x5 = 4294967296 - x5 := if_pos hd
    have e2 : IntKind.u32.wrap (0 - x5) = 4294967296 - x5 := by
      have : IntKind.u32.wrap (0 - x5) = (0 - x5) % 4294967296 := by simp [IntKind.wrap, IntKind.signed, IntKind.bits]
      omega
    rw [e]
    (repeat' (first | (refine xI (fun hfk => ?_) (fun hfk => ?_) <;> ((try (first | replace hfk := oT hfk | replace hfk := oF hfk | simp only [oA, oB, dh1, dh0, ne_eq, reduceCtorEq] at hfk)); (try exact oX))) | (refine And.intro ?ob ?_; (case ob => (exact oZ))) | exact True.intro | (show _ = _; first | exact oY | (exact e2; done) | exact rfl) | exact oW | (apply And.intro)))
  · have e : hrV x5 = x5 := if_neg hd
    rw [e]
    (repeat' (first | (refine xI (fun hfk => ?_) (fun hfk => ?_) <;> ((try (first | replace hfk := oT hfk | replace hfk := oF hfk | simp only [oA, oB, dh1, dh0, ne_eq, reduceCtorEq] at hfk)); (try exact oX))) | (refine And.intro ?ob ?_; (case ob => (exact oZ))) | exact True.intro | (show _ = _; first | exact oY | (rfl; done) | exact rfl) | exact oW | (apply And.intro)))
def shC (w r : Int) : Int := if w = 0 ∨ r = 0 then 12 else if 32768 < w ∨ 32768 < r ∨ 4194304 < w * r then 30 else 0
def shI (k w : Int) : Int := if k = 0 then w else 0
abbrev hshapeS : PSpec := fun l => match l with | [.rop (.agg [.int .u32 x0, .int .u32 x1, .int .u32 x2, .int .u32 x3, .int .u32 x4, .int .u32 x5, .int .u32 x6, .int .u32 x7, .int .u32 x8, .int .u32 x9, .int .u32 x10, .int .u32 x11, .int .u32 x12, .int .u32 x13])] => some ([0 ≤ x4, x4 < 4294967296, 0 ≤ x5, x5 < 4294967296, x7 = 24 ∨ x7 = 32], .tup [.agg [.int .i64 (shI (shC x4 (hrV x5)) x4), .int .i64 (shI (shC x4 (hrV x5)) (hrV x5)), .int .i64 (shI (shC x4 (hrV x5)) (x7 / 8)), .nils], .int .i64 (shC x4 (hrV x5))]) | _ => none
theorem hshape_s : SOK Tryd.prog 59 hshapeS := by
  refine sok_of (C := mkC 0 [(83, hrowsS)] noG) (mkC_ok (pok_cons hrows_s pok_nil) noG_ok) rfl mixed ⟨Tryd.func59, by kernel_rfl, by kernel_rfl, by kernel_rfl⟩ fun l obs v h ho => ?_
  (unfold hshapeS at h; split at h; rotate_left; (focus (cases h)); rename_i x0 x1 x2 x3 x4 x5 x6 x7 x8 x9 x10 x11 x12 x13; simp only [Option.some.injEq, Prod.mk.injEq] at h; obtain ⟨rfl, rfl⟩ := h; simp only [List.mem_cons, List.not_mem_nil, or_false, forall_eq_or_imp, forall_eq, false_implies, implies_true] at ho)
  refine ⟨Nat.le_of_ble_eq_true rfl, ?_⟩
  obtain ⟨w0, w1, r0', r1', h7⟩ := ho
  obtain ⟨r, hr⟩ : ∃ r, hrV x5 = r := ⟨_, rfl⟩
  have r01 : 0 ≤ r ∧ r < 4294967296 := by rw [← hr]; unfold hrV; split <;> omega
  obtain ⟨r0, r1⟩ := r01
  rw [hr]
  by_cases k1 : x4 = 0 ∨ r = 0
  · have e : shC x4 r = 12 := if_pos k1
    rw [e]
    rcases Classical.em (x4 = 0) with k | k
    · (repeat' (first | (refine xI (fun hfk => ?_) (fun hfk => ?_) <;> ((try (first | replace hfk := oT hfk | replace hfk := oF hfk | simp only [oA, oB, dh1, dh0, ne_eq, reduceCtorEq] at hfk)); (try exact oX))) | (refine And.intro ?ob ?_; (case ob => (exact oZ))) | exact True.intro | (show _ = _; first | exact oY | (rfl; done) | exact rfl) | exact oW | (apply And.intro)))
    · have k2 : hrV x5 = 0 := by omega
      (repeat' (first | (refine xI (fun hfk => ?_) (fun hfk => ?_) <;> ((try (first | replace hfk := oT hfk | replace hfk := oF hfk | simp only [oA, oB, dh1, dh0, ne_eq, reduceCtorEq] at hfk)); (try exact oX))) | (refine And.intro ?ob ?_; (case ob => (exact oZ))) | exact True.intro | (show _ = _; first | exact oY | (rfl; done) | exact rfl) | exact oW | (apply And.intro)))
  by_cases k2 : 32768 < x4 ∨ 32768 < r
  · have e : shC x4 r = 30 := by unfold shC; rw [if_neg k1, if_pos (by omega)]
    rw [e]
    rcases Classical.em (32768 < x4) with k | k
    · (repeat' (first | (refine xI (fun hfk => ?_) (fun hfk => ?_) <;> ((try (first | replace hfk := oT hfk | replace hfk := oF hfk | simp only [oA, oB, dh1, dh0, ne_eq, reduceCtorEq] at hfk)); (try exact oX))) | (refine And.intro ?ob ?_; (case ob => (exact oZ))) | exact True.intro | (show _ = _; first | exact oY | (rfl; done) | exact rfl) | exact oW | (apply And.intro)))
    · have k3 : 32768 < hrV x5 := by omega
      (repeat' (first | (refine xI (fun hfk => ?_) (fun hfk => ?_) <;> ((try (first | replace hfk := oT hfk | replace hfk := oF hfk | simp only [oA, oB, dh1, dh0, ne_eq, reduceCtorEq] at hfk)); (try exact oX))) | (refine And.intro ?ob ?_; (case ob => (exact oZ))) | exact True.intro | (show _ = _; first | exact oY | (rfl; done) | exact rfl) | exact oW | (apply And.intro)))
  have p1 : 0 ≤ x4 * r := Int.mul_nonneg (by omega) (by omega)
  have p2 : x4 * r ≤ 32768 * 32768 := Int.le_trans (Int.mul_le_mul_of_nonneg_right (by omega) (by omega)) (Int.mul_le_mul_of_nonneg_left (by omega) (by omega))
  have ep : IntKind.u32.wrap (x4 * hrV x5) = x4 * r := by rw [hr]; exact u32_id (by omega) (by omega)
  by_cases k3 : 4194304 < x4 * r
  · have e : shC x4 r = 30 := by unfold shC; rw [if_neg k1, if_pos (by omega)]
    rw [e]
    (repeat' (first | (refine xI (fun hfk => ?_) (fun hfk => ?_) <;> ((try (first | replace hfk := oT hfk | replace hfk := oF hfk | simp only [oA, oB, dh1, dh0, ne_eq, reduceCtorEq] at hfk)); (try exact oX))) | (refine And.intro ?ob ?_; (case ob => (exact oZ))) | exact True.intro | (show _ = _; first | exact oY | (rfl; done) | exact rfl) | exact oW | (apply And.intro)))
  have e : shC x4 r = 0 := by unfold shC; rw [if_neg k1, if_neg (by omega)]
  have g1 : rngI .i64 x4 := rng64 (by omega) (by omega)
  have g2 : rngI .i64 (hrV x5) := rng64 (by omega) (by omega)
  have g3 : IntKind.u32.wrap (x7.tdiv 8) = x7 / 8 := by rcases h7 with k | k <;> subst k <;> decide
  have g4 : rngI .i64 (IntKind.u32.wrap (x7.tdiv 8)) := by rw [g3]; exact rng64 (by omega) (by omega)
  have s1 : shI 0 x4 = x4 := rfl
  have s2 : shI 0 r = r := rfl
  have s3 : shI 0 (x7 / 8) = x7 / 8 := rfl
  rw [e, s1, s2, s3]
  (repeat' (first | (refine xI (fun hfk => ?_) (fun hfk => ?_) <;> ((try (first | replace hfk := oT hfk | replace hfk := oF hfk | simp only [oA, oB, dh1, dh0, ne_eq, reduceCtorEq] at hfk)); (try exact oX))) | (refine And.intro ?ob ?_; (case ob => (exact oZ))) | exact True.intro | (show _ = _; first | exact oY | (first | exact hr | exact g3 | rfl; done) | exact rfl) | exact oW | (apply And.intro)))
def fmP (x1 x2 x3 x6 x7 x8 x12 x13 : Int) : Prop := x1 = 0 ∧ x8 = 0 ∧ x12 = 0 ∧ x13 = 0 ∧ x2 = 54 ∧ x3 = 40 ∧ x6 = 1 ∧ (x7 = 24 ∨ x7 = 32)
instance (x1 x2 x3 x6 x7 x8 x12 x13 : Int) : Decidable (fmP x1 x2 x3 x6 x7 x8 x12 x13) := by unfold fmP; exact inferInstance
abbrev hformS : PSpec := fun l => match l with | [.rop (.agg [.int .u32 x0, .int .u32 x1, .int .u32 x2, .int .u32 x3, .int .u32 x4, .int .u32 x5, .int .u32 x6, .int .u32 x7, .int .u32 x8, .int .u32 x9, .int .u32 x10, .int .u32 x11, .int .u32 x12, .int .u32 x13])] => some ([], .bool (decide (fmP x1 x2 x3 x6 x7 x8 x12 x13))) | _ => none
theorem hform_s : SOK Tryd.prog 58 hformS := by
  refine sok_of (C := mkC 0 [] noG) (mkC_ok pok_nil noG_ok) rfl mixed ⟨Tryd.func58, by kernel_rfl, by kernel_rfl, by kernel_rfl⟩ fun l obs v h ho => ?_
  (unfold hformS at h; split at h; rotate_left; (focus (cases h)); rename_i x0 x1 x2 x3 x4 x5 x6 x7 x8 x9 x10 x11 x12 x13; simp only [Option.some.injEq, Prod.mk.injEq] at h; obtain ⟨rfl, rfl⟩ := h; simp only [List.mem_cons, List.not_mem_nil, or_false, forall_eq_or_imp, forall_eq, false_implies, implies_true] at ho)
  refine ⟨Nat.le_of_ble_eq_true rfl, ?_⟩
  (repeat' (first | (refine xI (fun hfk => ?_) (fun hfk => ?_) <;> ((try (first | replace hfk := oT hfk | replace hfk := oF hfk | simp only [oA, oB, dh1, dh0, ne_eq, reduceCtorEq] at hfk)); (try exact oX))) | (refine And.intro ?ob ?_; (case ob => (exact oZ))) | exact True.intro | (show _ = _; first | exact oY | (skip; done) | exact rfl) | exact oW | (apply And.intro)))
  refine ⟨Nat, fun i => [(0, .rop (.agg [.int .u32 x0, .int .u32 x1, .int .u32 x2, .int .u32 x3, .int .u32 x4, .int .u32 x5, .int .u32 x6, .int .u32 x7, .int .u32 x8, .int .u32 x9, .int .u32 x10, .int .u32 x11, .int .u32 x12, .int .u32 x13])), (21, .agg [.int .u32 x1, .int .u32 x8, .int .u32 x12, .int .u32 x13]), (22, .int .i64 (i : Int))], fun i => ⟨0, []⟩, fun i => i ≤ 4 ∧ ∀ j, j < i → [x1, x8, x12, x13].getD j 0 = 0, fun i => 4 - i, ⟨0, [], ⟨by omega, fun j hj => by omega⟩, ?_⟩, fun i hi => ?_⟩
  · (repeat' (first | (refine And.intro ?_ ?_) | exact True.intro | (show _ = _; with_reducible rfl) | exact Chk.mk (by kernel_rfl)))
    all_goals rfl
  obtain ⟨i1, i2⟩ := hi
  have i1 : i ≤ 4 := i1
  by_cases hlt : i < 4
  · have ri : rngI .i64 ((i : Int) + 1) := rng64 (by omega) (by omega)
    by_cases hx : [x1, x8, x12, x13].getD i 0 = 0
    · have hx' : ¬ [x1, x8, x12, x13].getD (i : Int).toNat 0 ≠ 0 := fun k => k hx
      (repeat' (first | (refine xI (fun hfk => ?_) (fun hfk => ?_) <;> ((try (first | replace hfk := oT hfk | replace hfk := oF hfk | simp only [oA, oB, dh1, dh0, ne_eq, reduceCtorEq] at hfk)); (try exact oX))) | (refine And.intro ?ob ?_; (case ob => (exact oZ))) | exact True.intro | (show _ = _; first | exact oY | (skip; done) | exact rfl) | exact oW | (apply And.intro)))
      refine ⟨i + 1, [], ⟨hlt, fun j hj => ?_⟩, ?mu, ?_⟩
      case mu => (show 4 - (i + 1) < 4 - i; omega)
      · by_cases hji : j = i
        · subst hji; exact hx
        · exact i2 j (by omega)
      (repeat' (first | (refine And.intro ?_ ?_) | exact True.intro | (show _ = _; with_reducible rfl) | exact Chk.mk (by kernel_rfl)))
      all_goals first | rfl | (show (_ : Int) = _; omega)
    · have hx' : [x1, x8, x12, x13].getD (i : Int).toNat 0 ≠ 0 := hx
      have hn : decide (fmP x1 x2 x3 x6 x7 x8 x12 x13) = false := decide_eq_false fun k => by
        obtain ⟨a1, a2, a3, a4, _⟩ := k
        have : i = 0 ∨ i = 1 ∨ i = 2 ∨ i = 3 := by omega
        rcases this with q | q | q | q <;> subst q
        · exact hx a1
        · exact hx a2
        · exact hx a3
        · exact hx a4
      rw [hn]
      (repeat' (first | (refine xI (fun hfk => ?_) (fun hfk => ?_) <;> ((try (first | replace hfk := oT hfk | replace hfk := oF hfk | simp only [oA, oB, dh1, dh0, ne_eq, reduceCtorEq] at hfk)); (try exact oX))) | (refine And.intro ?ob ?_; (case ob => (exact oZ))) | exact True.intro | (show _ = _; first | exact oY | (rfl; done) | exact rfl) | exact oW | (apply And.intro)))
  · have a1 : x1 = 0 := i2 0 (by omega)
    have a2 : x8 = 0 := i2 1 (by omega)
    have a3 : x12 = 0 := i2 2 (by omega)
    have a4 : x13 = 0 := i2 3 (by omega)
    by_cases b1 : x2 = 54
    · by_cases b2 : x3 = 40
      · by_cases b3 : x6 = 1
        · by_cases b4 : x7 = 24
          · have hn : decide (fmP x1 x2 x3 x6 x7 x8 x12 x13) = true := decide_eq_true ⟨a1, a2, a3, a4, b1, b2, b3, .inl b4⟩
            rw [hn]
            (repeat' (first | (refine xI (fun hfk => ?_) (fun hfk => ?_) <;> ((try (first | replace hfk := oT hfk | replace hfk := oF hfk | simp only [oA, oB, dh1, dh0, ne_eq, reduceCtorEq] at hfk)); (try exact oX))) | (refine And.intro ?ob ?_; (case ob => (exact oZ))) | exact True.intro | (show _ = _; first | exact oY | (rfl; done) | exact rfl) | exact oW | (apply And.intro)))
          · have hn : decide (fmP x1 x2 x3 x6 x7 x8 x12 x13) = decide (x7 = 32) := decide_eq_decide.2 ⟨fun k => k.2.2.2.2.2.2.2.elim (fun k => absurd k b4) id, fun k => ⟨a1, a2, a3, a4, b1, b2, b3, .inr k⟩⟩
            rw [hn]
            (repeat' (first | (refine xI (fun hfk => ?_) (fun hfk => ?_) <;> ((try (first | replace hfk := oT hfk | replace hfk := oF hfk | simp only [oA, oB, dh1, dh0, ne_eq, reduceCtorEq] at hfk)); (try exact oX))) | (refine And.intro ?ob ?_; (case ob => (exact oZ))) | exact True.intro | (show _ = _; first | exact oY | (rfl; done) | exact rfl) | exact oW | (apply And.intro)))
        · have hn : decide (fmP x1 x2 x3 x6 x7 x8 x12 x13) = false := decide_eq_false fun k => b3 k.2.2.2.2.2.2.1
          rw [hn]
          (repeat' (first | (refine xI (fun hfk => ?_) (fun hfk => ?_) <;> ((try (first | replace hfk := oT hfk | replace hfk := oF hfk | simp only [oA, oB, dh1, dh0, ne_eq, reduceCtorEq] at hfk)); (try exact oX))) | (refine And.intro ?ob ?_; (case ob => (exact oZ))) | exact True.intro | (show _ = _; first | exact oY | (rfl; done) | exact rfl) | exact oW | (apply And.intro)))
      · have hn : decide (fmP x1 x2 x3 x6 x7 x8 x12 x13) = false := decide_eq_false fun k => b2 k.2.2.2.2.2.1
        rw [hn]
        (repeat' (first | (refine xI (fun hfk => ?_) (fun hfk => ?_) <;> ((try (first | replace hfk := oT hfk | replace hfk := oF hfk | simp only [oA, oB, dh1, dh0, ne_eq, reduceCtorEq] at hfk)); (try exact oX))) | (refine And.intro ?ob ?_; (case ob => (exact oZ))) | exact True.intro | (show _ = _; first | exact oY | (rfl; done) | exact rfl) | exact oW | (apply And.intro)))
    · have hn : decide (fmP x1 x2 x3 x6 x7 x8 x12 x13) = false := decide_eq_false fun k => b1 k.2.2.2.2.1
      rw [hn]
      (repeat' (first | (refine xI (fun hfk => ?_) (fun hfk => ?_) <;> ((try (first | replace hfk := oT hfk | replace hfk := oF hfk | simp only [oA, oB, dh1, dh0, ne_eq, reduceCtorEq] at hfk)); (try exact oX))) | (refine And.intro ?ob ?_; (case ob => (exact oZ))) | exact True.intro | (show _ = _; first | exact oY | (rfl; done) | exact rfl) | exact oW | (apply And.intro)))
abbrev hsumsS : PSpec := fun l => match l with | [.rop (.agg [.int .u32 x0, .int .u32 x1, .int .u32 x2, .int .u32 x3, .int .u32 x4, .int .u32 x5, .int .u32 x6, .int .u32 x7, .int .u32 x8, .int .u32 x9, .int .u32 x10, .int .u32 x11, .int .u32 x12, .int .u32 x13]), .int .i64 all] => some ([54 ≤ all, all < 4294967296], .bool (decide (x0 = all ∧ (x9 = 0 ∨ x9 = all - 54)))) | _ => none
theorem hsums_s : SOK Tryd.prog 61 hsumsS := by
  refine sok_of (C := mkC 0 [] noG) (mkC_ok pok_nil noG_ok) rfl mixed ⟨Tryd.func61, by kernel_rfl, by kernel_rfl, by kernel_rfl⟩ fun l obs v h ho => ?_
  (unfold hsumsS at h; split at h; rotate_left; (focus (cases h)); rename_i x0 x1 x2 x3 x4 x5 x6 x7 x8 x9 x10 x11 x12 x13 all; simp only [Option.some.injEq, Prod.mk.injEq] at h; obtain ⟨rfl, rfl⟩ := h; simp only [List.mem_cons, List.not_mem_nil, or_false, forall_eq_or_imp, forall_eq, false_implies, implies_true] at ho)
  refine ⟨Nat.le_of_ble_eq_true rfl, ?_⟩
  obtain ⟨h0, h1⟩ := ho
  have r1 : rngI .i64 (all - 54) := rng64 (by omega) (by omega)
  have e1 : IntKind.u32.wrap (all - 54) = all - 54 := u32_id (by omega) (by omega)
  have e2 : IntKind.u32.wrap all = all := u32_id (by omega) h1
  by_cases b1 : x0 = all
  · by_cases b2 : x9 = 0
    · have hn : decide (x0 = all ∧ (x9 = 0 ∨ x9 = all - 54)) = true := decide_eq_true ⟨b1, .inl b2⟩
      rw [hn]
      (repeat' (first | (refine xI (fun hfk => ?_) (fun hfk => ?_) <;> ((try (first | replace hfk := oT hfk | replace hfk := oF hfk | simp only [oA, oB, dh1, dh0, ne_eq, reduceCtorEq] at hfk)); (try exact oX))) | (refine And.intro ?ob ?_; (case ob => (exact oZ))) | exact True.intro | (show _ = _; first | exact oY | (rfl; done) | exact rfl) | exact oW | (apply And.intro)))
    · have hn : decide (x9 = IntKind.u32.wrap (all - 54)) = decide (x0 = all ∧ (x9 = 0 ∨ x9 = all - 54)) := by
        rw [e1]; exact decide_eq_decide.2 ⟨fun k => ⟨b1, .inr k⟩, fun k => k.2.elim (fun k => absurd k b2) id⟩
      (repeat' (first | (refine xI (fun hfk => ?_) (fun hfk => ?_) <;> ((try (first | replace hfk := oT hfk | replace hfk := oF hfk | simp only [oA, oB, dh1, dh0, ne_eq, reduceCtorEq] at hfk)); (try exact oX))) | (refine And.intro ?ob ?_; (case ob => (exact oZ))) | exact True.intro | (show _ = _; first | exact oY | (exact hn; done) | exact rfl) | exact oW | (apply And.intro)))
  · have hn : decide (x0 = all ∧ (x9 = 0 ∨ x9 = all - 54)) = false := decide_eq_false fun k => b1 k.1
    have b1' : ¬ x0 = IntKind.u32.wrap all := by rw [e2]; exact b1
    rw [hn]
    (repeat' (first | (refine xI (fun hfk => ?_) (fun hfk => ?_) <;> ((try (first | replace hfk := oT hfk | replace hfk := oF hfk | simp only [oA, oB, dh1, dh0, ne_eq, reduceCtorEq] at hfk)); (try exact oX))) | (refine And.intro ?ob ?_; (case ob => (exact oZ))) | exact True.intro | (show _ = _; first | exact oY | (rfl; done) | exact rfl) | exact oW | (apply And.intro)))
abbrev hdEn (x0 x1 x2 x3 x4 x5 x6 x7 x8 x9 x10 x11 x12 x13 : Int) : Ent := .cells 89 [.int .u32 x0, .int .u32 x1, .int .u32 x2, .int .u32 x3, .int .u32 x4, .int .u32 x5, .int .u32 x6, .int .u32 x7, .int .u32 x8, .int .u32 x9, .int .u32 x10, .int .u32 x11, .int .u32 x12, .int .u32 x13]
def fieldsF : FSpec := fun l es => match l, es with
  | [.ptr 0 0], [.cells 89 [.int .u32 x0, .int .u32 x1, .int .u32 x2, .int .u32 x3, .int .u32 x4, .int .u32 x5, .int .u32 x6, .int .u32 x7, .int .u32 x8, .int .u32 x9, .int .u32 x10, .int .u32 x11, .int .u32 x12, .int .u32 x13]] => some ([], .sl 1 2 0 14, [some (hdEn x0 x1 x2 x3 x4 x5 x6 x7 x8 x9 x10 x11 x12 x13), some (.cells 108 [.ptr 0 0, .int .i64 4, .ptr 0 1, .int .i64 4, .ptr 0 2, .int .i64 4, .ptr 0 3, .int .i64 4, .ptr 0 4, .int .i64 4, .ptr 0 5, .int .i64 4, .ptr 0 6, .int .i64 2, .ptr 0 7, .int .i64 2, .ptr 0 8, .int .i64 4, .ptr 0 9, .int .i64 4, .ptr 0 10, .int .i64 4, .ptr 0 11, .int .i64 4, .ptr 0 12, .int .i64 4, .ptr 0 13, .int .i64 4])])
  | _, _ => none
theorem fields_g : GSOK Tryd.prog 81 (fG fieldsF) := by
  refine fokE (S := []) (G := noG) [] [] [] pok_nil noG_ok dl_nil ⟨Tryd.func81, by kernel_rfl, by kernel_rfl, by kernel_rfl⟩ fun l es obs v es' h ho => ?_
  (unfold fieldsF at h; split at h; rotate_left; (focus (cases h)); rename_i x0 x1 x2 x3 x4 x5 x6 x7 x8 x9 x10 x11 x12 x13; simp only [Option.some.injEq, Prod.mk.injEq] at h; obtain ⟨rfl, rfl, rfl⟩ := h; simp only [List.mem_cons, List.not_mem_nil, or_false, forall_eq_or_imp, forall_eq, false_implies, implies_true] at ho)
  refine ⟨Nat.le_of_ble_eq_true rfl, ?_⟩
  (repeat' (first | (refine xI (fun hfk => ?_) (fun hfk => ?_) <;> ((try (first | replace hfk := oT hfk | replace hfk := oF hfk | simp only [oA, oB, dh1, dh0, ne_eq, reduceCtorEq] at hfk)); (try exact oX))) | (refine And.intro ?ob ?_; (case ob => (exact oZ))) | exact True.intro | (show _ = _; first | exact oY | (skip; done) | exact rfl) | exact oW | (apply And.intro)))
  refine ⟨[some 0, some 1], ?_⟩
  (repeat' (first | (refine xI (fun hfk => ?_) (fun hfk => ?_) <;> ((try (first | replace hfk := oT hfk | replace hfk := oF hfk | simp only [oA, oB, dh1, dh0, ne_eq, reduceCtorEq] at hfk)); (try exact oX))) | (refine And.intro ?ob ?_; (case ob => (exact oZ))) | exact True.intro | (show _ = _; first | exact oY | (skip; done) | exact rfl) | exact oW | (apply And.intro)))
end Go.Proofs.YtocboijpmmlegaaDoor

