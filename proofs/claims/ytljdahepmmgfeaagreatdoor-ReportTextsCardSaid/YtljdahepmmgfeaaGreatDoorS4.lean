/- Texts laid together. No condition. -/
import Derived.Test.YtljdahepmmgfeaaGreatDoorS3
set_option maxRecDepth 100000
set_option linter.unusedVariables false
set_option linter.unusedSimpArgs false
namespace Go.Proofs.YtljdahepmmgfeaaGreatDoor
open Go Go.RowKit
set_option maxHeartbeats 4000000
theorem oneV_bd (r : List Int) : 0 ≤ (oneV r).1 ∧ (oneV r).1 ≤ r.length := by
  unfold oneV
  (repeat' split) <;> simp <;> omega
theorem dpP_bd (r : List Int) : 0 ≤ dpP r ∧ dpP r ≤ r.length := by
  have h1 := nbP_le r 255
  have h2 := oneV_bd (r.drop (nbP r 255))
  rw [List.length_drop] at h2
  unfold dpP
  split <;> omega
theorem pgP_bd (r : List Int) : 0 ≤ pgP r ∧ pgP r ≤ r.length := by
  have h1 := szP_le (r.drop 2)
  have h2 := dpP_bd ((r.drop 2).drop (szP (r.drop 2)))
  have h3 := kdP_le r
  rw [List.length_drop, List.length_drop] at h2
  rw [List.length_drop] at h1
  unfold pgP
  unfold kdP at h3
  split
  · omega
  · rename_i k
    rw [if_pos (Classical.not_not.1 k)] at h3
    split <;> omega
def pnN (r : List Int) : Int := pgW r * pgH r * kdV r
def pnE (b : List Int) : Int := if pgE b ≠ 0 then pgE b else if (b.length : Int) - pgP b < pnN b then 20 else if pnN b < (b.length : Int) - pgP b then 22 else 0
def pnL (b : List Int) : List Int := if pnE b = 0 then b.drop (pgP b).toNat else []
def pnK (b : List Int) (x : Int) : Int := if pnE b = 0 then x else 0
theorem pn_bad {b : List Int} (h : pnE b ≠ 0) : (∀ x, pnK b x = 0) ∧ pnL b = [] := ⟨fun x => if_neg h, if_neg h⟩
theorem szC0 {r : List Int} (h : szC r = 0) : 1 ≤ szW r ∧ szW r ≤ 32768 ∧ 1 ≤ szH r ∧ szH r ≤ 32768 ∧ szW r * szH r ≤ 4194304 := by
  have e1 : szW r = nbV r 32768 := if_pos h
  have e2 : szH r = nbV (r.drop (nbP r 32768)) 32768 := if_pos h
  have r1 := nbV_rng r (m := 32768) (by decide)
  have r2 := nbV_rng (r.drop (nbP r 32768)) (m := 32768) (by decide)
  rw [e1, e2]
  unfold szC at h
  split at h
  · rename_i k; exact absurd h k
  split at h
  · rename_i k; exact absurd h k
  split at h
  · cases h
  split at h
  · cases h
  omega
theorem kdV_cs (r : List Int) : kdV r = 1 ∨ kdV r = 3 := by unfold kdV; split <;> simp
theorem pgE0 {b : List Int} (h : pgE b = 0) : kdC b = 0 ∧ szC (b.drop 2) = 0 ∧ dpC ((b.drop 2).drop (szP (b.drop 2))) = 0 := by
  unfold pgE at h
  split at h
  · rename_i k; exact absurd h k
  rename_i k
  split at h
  · rename_i k2; exact absurd h k2
  rename_i k2
  exact ⟨Classical.not_not.1 k, Classical.not_not.1 k2, h⟩
theorem pn_sz {b : List Int} (h : pgE b = 0) : 1 ≤ pgW b ∧ pgW b ≤ 32768 ∧ 1 ≤ pgH b ∧ pgH b ≤ 32768 ∧ pgW b * pgH b ≤ 4194304 ∧ 0 ≤ pgW b * pgH b ∧ 0 ≤ pnN b ∧ pnN b ≤ 16777216 := by
  obtain ⟨k1, k2, _⟩ := pgE0 h
  have e1 : pgW b = szW (b.drop 2) := if_pos k1
  have e2 : pgH b = szH (b.drop 2) := if_pos k1
  obtain ⟨a1, a2, a3, a4, a5⟩ := szC0 k2
  have h0 : 0 ≤ pgW b * pgH b := Int.mul_nonneg (by omega) (by omega)
  rw [← e1, ← e2] at a5
  unfold pnN
  rcases kdV_cs b with k | k <;> rw [k] <;> exact ⟨by omega, by omega, by omega, by omega, by omega, by omega, by omega, by omega⟩
abbrev pnmS : PSpec := fun l => match l with
  | [.roi .u8 b] => some ([Byt b], .tup [imA (pnK b (pgW b)) (pnK b (pgH b)) (pnK b (kdV b)) (pnL b), .int .i64 (pnE b)])
  | _ => none
theorem pread_s : SOK Tryz.prog 31 pnmS := by
  refine sok_of (C := mkC 0 [(52, leftS)] (glook [(50, fG newcF), (51, fG pheadF), (53, fG takeF)])) (mkC_ok (pok_cons left_s pok_nil) (gl_cons newc_g (gl_cons phead_g (gl_cons take_g gl_nil)))) rfl mixed ⟨Tryz.func31, by kernel_rfl, by kernel_rfl, by kernel_rfl⟩ fun l obs v h ho => ?_
  (unfold pnmS at h; split at h; rotate_left; (focus (cases h)); rename_i b; simp only [Option.some.injEq, Prod.mk.injEq] at h; obtain ⟨rfl, rfl⟩ := h; simp only [List.mem_cons, List.not_mem_nil, or_false, forall_eq_or_imp, forall_eq, false_implies, implies_true] at ho)
  refine ⟨Nat.le_of_ble_eq_true rfl, ?_⟩
  have bl := ho.le
  have c0 : cR b 0 = b := by rw [cR_eq]; rfl
  have hp := pgP_bd b
  by_cases k1 : pgE b = 0
  rotate_left
  · have e : pnE b = pgE b := if_pos k1
    obtain ⟨z1, z2⟩ := pn_bad (b := b) (by rw [e]; exact k1)
    rw [z1, z1, z1, z2, e]
    rw [← c0] at k1
    have ee : pgE (cR b 0) = pgE b := by rw [c0]
    (repeat' (first | (refine xI (fun hfk => ?_) (fun hfk => ?_) <;> ((try (first | replace hfk := oT hfk | replace hfk := oF hfk | simp only [oD, ne_eq, reduceCtorEq] at hfk)); (try exact oX))) | refine And.intro oZ ?_ | exact True.intro | (show _ = _; first | exact oY | exact rfl) | exact oW | (apply And.intro)))
    (refine ⟨[], ⟨by kernel_rfl⟩, ?_⟩)
    (repeat' (first | (refine xI (fun hfk => ?_) (fun hfk => ?_) <;> ((try (first | replace hfk := oT hfk | replace hfk := oF hfk | simp only [oD, ne_eq, reduceCtorEq] at hfk)); (try exact oX))) | refine And.intro oZ ?_ | exact True.intro | (show _ = _; first | exact oY | exact rfl) | exact oW | (apply And.intro)))
    (refine ⟨[1, 2], ⟨by kernel_rfl⟩, ?_⟩)
    (repeat' (first | (refine xI (fun hfk => ?_) (fun hfk => ?_) <;> ((try (first | replace hfk := oT hfk | replace hfk := oF hfk | simp only [oD, ne_eq, reduceCtorEq] at hfk)); (try exact oX))) | refine And.intro oZ ?_ | exact True.intro | (show _ = _; first | exact oY | (exact ee; done) | exact rfl) | exact oW | (apply And.intro)))
  obtain ⟨a1, a2, a3, a4, a5, a6, a7, a8⟩ := pn_sz k1
  have k0 : pgE (cR b 0) = 0 := by rw [c0]; exact k1
  have eW : pgW (cR b 0) = pgW b := by rw [c0]
  have eH : pgH (cR b 0) = pgH b := by rw [c0]
  have eC : kdV (cR b 0) = kdV b := by rw [c0]
  have eP : pgP (cR b 0) = pgP b := by rw [c0]
  have eN : pgW (cR b 0) * pgH (cR b 0) * kdV (cR b 0) = pnN b := by rw [c0]; rfl
  have eM : pgW (cR b 0) * pgH (cR b 0) = pgW b * pgH b := by rw [c0]
  have r1 : rngI .i64 (pgW (cR b 0) * pgH (cR b 0)) := by rw [eM]; exact rng64 (by omega) (by omega)
  have r2 : rngI .i64 (pgW (cR b 0) * pgH (cR b 0) * kdV (cR b 0)) := by rw [eN]; exact rng64 (by omega) (by omega)
  have tl : (List.take b.length (List.drop 0 b)).length = b.length := by simp
  by_cases k2 : (b.length : Int) - pgP b < pnN b
  · have e : pnE b = 20 := by unfold pnE; rw [if_neg (fun k => k k1), if_pos k2]
    obtain ⟨z1, z2⟩ := pn_bad (b := b) (by rw [e]; decide)
    rw [z1, z1, z1, z2, e]
    clear eW eH eC eM z1 z2 e
    (repeat' (first | (refine xI (fun hfk => ?_) (fun hfk => ?_) <;> ((try (first | replace hfk := oT hfk | replace hfk := oF hfk | simp only [oD, ne_eq, reduceCtorEq] at hfk)); (try exact oX))) | refine And.intro oZ ?_ | exact True.intro | (show _ = _; first | exact oY | exact rfl) | exact oW | (apply And.intro)))
    (refine ⟨[], ⟨by kernel_rfl⟩, ?_⟩)
    (repeat' (first | (refine xI (fun hfk => ?_) (fun hfk => ?_) <;> ((try (first | replace hfk := oT hfk | replace hfk := oF hfk | simp only [oD, ne_eq, reduceCtorEq] at hfk)); (try exact oX))) | refine And.intro oZ ?_ | exact True.intro | (show _ = _; first | exact oY | exact rfl) | exact oW | (apply And.intro)))
    (refine ⟨[1, 2], ⟨by kernel_rfl⟩, ?_⟩)
    (repeat' (first | (refine xI (fun hfk => ?_) (fun hfk => ?_) <;> ((try (first | replace hfk := oT hfk | replace hfk := oF hfk | simp only [oD, ne_eq, reduceCtorEq] at hfk)); (try exact oX))) | refine And.intro oZ ?_ | exact True.intro | (show _ = _; first | exact oY | exact rfl) | exact oW | (apply And.intro)))
  by_cases k3 : pnN b < (b.length : Int) - pgP b
  · have e : pnE b = 22 := by unfold pnE; rw [if_neg (fun k => k k1), if_neg k2, if_pos k3]
    obtain ⟨z1, z2⟩ := pn_bad (b := b) (by rw [e]; decide)
    rw [z1, z1, z1, z2, e]
    clear eW eH eC eM z1 z2 e
    (repeat' (first | (refine xI (fun hfk => ?_) (fun hfk => ?_) <;> ((try (first | replace hfk := oT hfk | replace hfk := oF hfk | simp only [oD, ne_eq, reduceCtorEq] at hfk)); (try exact oX))) | refine And.intro oZ ?_ | exact True.intro | (show _ = _; first | exact oY | exact rfl) | exact oW | (apply And.intro)))
    (refine ⟨[], ⟨by kernel_rfl⟩, ?_⟩)
    (repeat' (first | (refine xI (fun hfk => ?_) (fun hfk => ?_) <;> ((try (first | replace hfk := oT hfk | replace hfk := oF hfk | simp only [oD, ne_eq, reduceCtorEq] at hfk)); (try exact oX))) | refine And.intro oZ ?_ | exact True.intro | (show _ = _; first | exact oY | exact rfl) | exact oW | (apply And.intro)))
    (refine ⟨[1, 2], ⟨by kernel_rfl⟩, ?_⟩)
    (repeat' (first | (refine xI (fun hfk => ?_) (fun hfk => ?_) <;> ((try (first | replace hfk := oT hfk | replace hfk := oF hfk | simp only [oD, ne_eq, reduceCtorEq] at hfk)); (try exact oX))) | refine And.intro oZ ?_ | exact True.intro | (show _ = _; first | exact oY | exact rfl) | exact oW | (apply And.intro)))
  have e : pnE b = 0 := by unfold pnE; rw [if_neg (fun k => k k1), if_neg k2, if_neg k3]
  have f1 : pnK b (pgW b) = pgW (cR b 0) := (if_pos e).trans eW.symm
  have f2 : pnK b (pgH b) = pgH (cR b 0) := (if_pos e).trans eH.symm
  have f3 : pnK b (kdV b) = kdV (cR b 0) := (if_pos e).trans eC.symm
  have f4 : pnL b = b.drop (pgP b).toNat := if_pos e
  rw [f1, f2, f3, f4, e]
  have tk : takeC ((b.length : Int) - (0 + pgP (cR b 0))) (pgW (cR b 0) * pgH (cR b 0) * kdV (cR b 0)) = 0 := by
    unfold takeC; rw [if_neg (by omega), if_neg (by omega)]
  have tL : takeL (cR b (0 + pgP (cR b 0))) (pgW (cR b 0) * pgH (cR b 0) * kdV (cR b 0)) = b.drop (pgP b).toNat := by
    have h1 : cR b (0 + pgP (cR b 0)) = b.drop (pgP b).toNat := by rw [cR_eq, eP, Int.zero_add]
    rw [h1]
    unfold takeL
    rw [List.length_drop, show ((b.length - (pgP b).toNat : Nat) : Int) = (b.length : Int) - (0 + pgP (cR b 0)) by omega, if_pos tk, List.take_of_length_le (by rw [List.length_drop]; omega)]
  have tM : List.take (takeL (cR b (0 + pgP (cR b 0))) (pgW (cR b 0) * pgH (cR b 0) * kdV (cR b 0))).length (List.drop 0 (takeL (cR b (0 + pgP (cR b 0))) (pgW (cR b 0) * pgH (cR b 0) * kdV (cR b 0)))) = b.drop (pgP b).toNat := by
    rw [tL, List.drop_zero, List.take_length]
  clear f1 f2 f3 f4 eW eH eC eM tL
  (repeat' (first | (refine xI (fun hfk => ?_) (fun hfk => ?_) <;> ((try (first | replace hfk := oT hfk | replace hfk := oF hfk | simp only [oD, ne_eq, reduceCtorEq] at hfk)); (try exact oX))) | refine And.intro oZ ?_ | exact True.intro | (show _ = _; first | exact oY | exact rfl) | exact oW | (apply And.intro)))
  (refine ⟨[], ⟨by kernel_rfl⟩, ?_⟩)
  (repeat' (first | (refine xI (fun hfk => ?_) (fun hfk => ?_) <;> ((try (first | replace hfk := oT hfk | replace hfk := oF hfk | simp only [oD, ne_eq, reduceCtorEq] at hfk)); (try exact oX))) | refine And.intro oZ ?_ | exact True.intro | (show _ = _; first | exact oY | exact rfl) | exact oW | (apply And.intro)))
  (refine ⟨[1, 2], ⟨by kernel_rfl⟩, ?_⟩)
  (repeat' (first | (refine xI (fun hfk => ?_) (fun hfk => ?_) <;> ((try (first | replace hfk := oT hfk | replace hfk := oF hfk | simp only [oD, ne_eq, reduceCtorEq] at hfk)); (try exact oX))) | refine And.intro oZ ?_ | exact True.intro | (show _ = _; first | exact oY | exact rfl) | exact oW | (apply And.intro)))
  (refine ⟨[1, 2], ⟨by kernel_rfl⟩, ?_⟩)
  (repeat' (first | (refine xI (fun hfk => ?_) (fun hfk => ?_) <;> ((try (first | replace hfk := oT hfk | replace hfk := oF hfk | simp only [oD, ne_eq, reduceCtorEq] at hfk)); (try exact oX))) | refine And.intro oZ ?_ | exact True.intro | (show _ = _; first | exact oY | (first | exact tM | exact tk | rfl; done) | exact rfl) | exact oW | (apply And.intro)))
end Go.Proofs.YtljdahepmmgfeaaGreatDoor
namespace Go.Proofs.YtljdahepmmgfeaaGreatDoor
open Go Go.RowKit
set_option maxHeartbeats 4000000
theorem rn_all {r : List Int} {m : Int} (hm : m < 9223372036854775808) : (rnV r m).2.2 = numC r m ∧ (numC r m = 0 → (rnV r m).1 = numV (r.take (dgN r)) ∧ (rnV r m).2.1 = dgN r) := by
  have h := rn_numC (b := r) hm
  refine ⟨h, fun k => ?_⟩
  rw [k] at h
  rw [dgN_eq, numV_eq]
  unfold rnV at h ⊢
  split at h
  · cases h
  rename_i k1
  split at h
  · cases h
  rename_i k2
  split at h
  · cases h
  rename_i k3
  rw [if_neg k1, if_neg k2, if_neg k3]
  exact ⟨rfl, rfl⟩
theorem rn_nb {b : List Int} {a m : Int} (h0 : 0 ≤ a) (hm : m < 9223372036854775808) (hk : blC (b.drop a.toNat) = 0) :
    (rnV (b.drop (a + (bkG false (b.drop a.toNat) : Int)).toNat) m).2.2 = nbC (b.drop a.toNat) m ∧
    (nbC (b.drop a.toNat) m = 0 → (rnV (b.drop (a + (bkG false (b.drop a.toNat) : Int)).toNat) m).1 = nbV (b.drop a.toNat) m ∧ a + (bkG false (b.drop a.toNat) : Int) + (rnV (b.drop (a + (bkG false (b.drop a.toNat) : Int)).toNat) m).2.1 = a + (nbP (b.drop a.toNat) m : Int)) := by
  have e : b.drop (a + (bkG false (b.drop a.toNat) : Int)).toNat = (b.drop a.toNat).drop (bkG false (b.drop a.toNat)) := by
    rw [List.drop_drop, show (a + (bkG false (b.drop a.toNat) : Int)).toNat = a.toNat + bkG false (b.drop a.toNat) by omega]
  rw [e]
  obtain ⟨q1, q2⟩ := rn_all (r := (b.drop a.toNat).drop (bkG false (b.drop a.toNat))) hm
  have e2 : nbC (b.drop a.toNat) m = numC ((b.drop a.toNat).drop (bkG false (b.drop a.toNat))) m := if_neg (fun k => k hk)
  rw [e2]
  refine ⟨q1, fun k => ?_⟩
  obtain ⟨q3, q4⟩ := q2 k
  have e3 : nbV (b.drop a.toNat) m = numV (((b.drop a.toNat).drop (bkG false (b.drop a.toNat))).take (dgN ((b.drop a.toNat).drop (bkG false (b.drop a.toNat))))) := if_pos (by rw [e2]; exact k)
  have e4 : nbP (b.drop a.toNat) m = nbN (b.drop a.toNat) := if_pos (by rw [e2]; exact k)
  refine ⟨by rw [q3, e3], ?_⟩
  rw [q4, e4]; unfold nbN; omega
abbrev p1 (b : List Int) : List Int := b.drop 2
abbrev p2 (b : List Int) : List Int := (p1 b).drop (nbP (p1 b) 32768)
abbrev p3 (b : List Int) : List Int := (p1 b).drop (szP (p1 b))
def dhW (b : List Int) : Int := if kdC b = 0 then nbV (p1 b) 32768 else 0
def dhH (b : List Int) : Int := if kdC b = 0 ∧ nbC (p1 b) 32768 = 0 then nbV (p2 b) 32768 else 0
def dhC (b : List Int) : Int := if kdC b = 0 then kdV b else 0
def dhA (b : List Int) : Int := if kdC b = 0 ∧ szC (p1 b) = 0 ∧ nbC (p3 b) 255 = 0 ∧ nbV (p3 b) 255 = 255 then pgP b else 0
abbrev rheadS : PSpec := fun l => match l with
  | [.roi .u8 b] => some ([Byt b], .tup [.int .i64 (dhA b), .agg [.int .i64 (dhW b), .int .i64 (dhH b), .int .i64 (dhC b), .nils], .int .i64 (pgE b)])
  | _ => none
def atI (b : List Int) : Nat → Int
  | 0 => 2
  | 1 => 2 + (nbP (p1 b) 32768 : Int)
  | 2 => 2 + (szP (p1 b) : Int)
  | _ => 2 + (szP (p1 b) : Int) + (nbP (p3 b) 255 : Int)
def wI (b : List Int) : Nat → Int
  | 0 => 0
  | _ => nbV (p1 b) 32768
def hI (b : List Int) : Nat → Int
  | 0 => 0
  | 1 => 0
  | _ => nbV (p2 b) 32768
theorem pg_e0 {b : List Int} (k : kdC b = 0) (h : nbC (p1 b) 32768 ≠ 0) : pgE b = nbC (p1 b) 32768 ∧ 0 = dhW b ∧ 0 = dhH b ∧ 0 = dhA b := by
  have e : szC (p1 b) = nbC (p1 b) 32768 := if_pos h
  refine ⟨?_, ?_, ?_, ?_⟩
  · unfold pgE; rw [if_neg (fun q => q k), if_pos (by rw [e]; exact h), e]
  · unfold dhW; rw [if_pos k]; exact (if_neg h).symm
  · exact (if_neg (fun q => h q.2)).symm
  · exact (if_neg (fun q => h (by rw [← e]; exact q.2.1))).symm
theorem pg_e1 {b : List Int} (k : kdC b = 0) (h0 : nbC (p1 b) 32768 = 0) (h : nbC (p2 b) 32768 ≠ 0) : pgE b = nbC (p2 b) 32768 ∧ nbV (p1 b) 32768 = dhW b ∧ 0 = dhH b ∧ 0 = dhA b := by
  have e : szC (p1 b) = nbC (p2 b) 32768 := by unfold szC; rw [if_neg (fun q => q h0), if_pos h]
  refine ⟨?_, (if_pos k).symm, ?_, ?_⟩
  · unfold pgE; rw [if_neg (fun q => q k), if_pos (by rw [e]; exact h), e]
  · unfold dhH; rw [if_pos ⟨k, h0⟩]; exact (if_neg h).symm
  · exact (if_neg (fun q => h (by rw [← e]; exact q.2.1))).symm
theorem pg_wh {b : List Int} (k : kdC b = 0) (h0 : nbC (p1 b) 32768 = 0) : nbV (p1 b) 32768 = dhW b ∧ nbV (p2 b) 32768 = dhH b := ⟨(if_pos k).symm, (if_pos ⟨k, h0⟩).symm⟩
theorem pg_s1 {b : List Int} (k : kdC b = 0) (h0 : nbC (p1 b) 32768 = 0) (h1 : nbC (p2 b) 32768 = 0) (h : nbV (p1 b) 32768 < 1 ∨ nbV (p2 b) 32768 < 1) : pgE b = 12 ∧ 0 = dhA b := by
  have e : szC (p1 b) = 12 := by unfold szC; rw [if_neg (fun q => q h0), if_neg (fun q => q h1), if_pos h]
  refine ⟨?_, (if_neg (fun q => by rw [e] at q; exact absurd q.2.1 (by decide))).symm⟩
  unfold pgE; rw [if_neg (fun q => q k), if_pos (by rw [e]; decide), e]
theorem pg_s2 {b : List Int} (k : kdC b = 0) (h0 : nbC (p1 b) 32768 = 0) (h1 : nbC (p2 b) 32768 = 0) (h2 : ¬ (nbV (p1 b) 32768 < 1 ∨ nbV (p2 b) 32768 < 1)) (h : 4194304 < nbV (p1 b) 32768 * nbV (p2 b) 32768) : pgE b = 30 ∧ 0 = dhA b := by
  have e : szC (p1 b) = 30 := by unfold szC; rw [if_neg (fun q => q h0), if_neg (fun q => q h1), if_neg h2, if_pos h]
  refine ⟨?_, (if_neg (fun q => by rw [e] at q; exact absurd q.2.1 (by decide))).symm⟩
  unfold pgE; rw [if_neg (fun q => q k), if_pos (by rw [e]; decide), e]
theorem pg_s3 {b : List Int} (h0 : nbC (p1 b) 32768 = 0) (h1 : nbC (p2 b) 32768 = 0) (h2 : ¬ (nbV (p1 b) 32768 < 1 ∨ nbV (p2 b) 32768 < 1)) (h : ¬ 4194304 < nbV (p1 b) 32768 * nbV (p2 b) 32768) : szC (p1 b) = 0 ∧ szP (p1 b) = nbP (p1 b) 32768 + nbP (p2 b) 32768 :=
  ⟨by unfold szC; rw [if_neg (fun q => q h0), if_neg (fun q => q h1), if_neg h2, if_neg h], if_pos h0⟩
theorem pg_e3 {b : List Int} (k : kdC b = 0) (h0 : szC (p1 b) = 0) (h : nbC (p3 b) 255 ≠ 0) : pgE b = nbC (p3 b) 255 ∧ 0 = dhA b := by
  refine ⟨?_, (if_neg (fun q => h q.2.2.1)).symm⟩
  unfold pgE; rw [if_neg (fun q => q k), if_neg (fun q => q h0)]; exact if_pos h
theorem pg_e4 {b : List Int} (k : kdC b = 0) (h0 : szC (p1 b) = 0) (h1 : nbC (p3 b) 255 = 0) (h : nbV (p3 b) 255 ≠ 255) : pgE b = 21 ∧ 0 = dhA b := by
  refine ⟨?_, (if_neg (fun q => h q.2.2.2)).symm⟩
  unfold pgE; rw [if_neg (fun q => q k), if_neg (fun q => q h0)]
  unfold dpC; rw [if_neg (fun q => q h1), if_pos h]
theorem pg_end {b : List Int} (k : kdC b = 0) (h0 : szC (p1 b) = 0) (h1 : nbC (p3 b) 255 = 0) (h : nbV (p3 b) 255 = 255) :
    (oneV (b.drop (atI b 3).toNat)).2 = pgE b ∧ atI b 3 + (oneV (b.drop (atI b 3).toNat)).1 = dhA b := by
  have ed : b.drop (atI b 3).toNat = (p3 b).drop (nbP (p3 b) 255) := by
    show b.drop (2 + (szP (p1 b) : Int) + (nbP (p3 b) 255 : Int)).toNat = ((b.drop 2).drop (szP (p1 b))).drop (nbP (p3 b) 255)
    rw [List.drop_drop, List.drop_drop, show (2 + (szP (p1 b) : Int) + (nbP (p3 b) 255 : Int)).toNat = 2 + (szP (p1 b) + nbP (p3 b) 255) by omega]
  rw [ed]
  refine ⟨?_, ?_⟩
  · unfold pgE; rw [if_neg (fun q => q k), if_neg (fun q => q h0)]
    unfold dpC; rw [if_neg (fun q => q h1), if_neg (fun q => q h)]
  · unfold dhA; rw [if_pos ⟨k, h0, h1, h⟩]
    unfold pgP; rw [if_neg (fun q => q k), if_neg (fun q => q h0)]
    unfold dpP; rw [if_pos ⟨h1, h⟩]
    exact Int.add_assoc _ _ _
structure HdI (b : List Int) (i : Nat) : Prop where
  le : i ≤ 3
  c1 : 1 ≤ i → nbC (p1 b) 32768 = 0
  c2 : 2 ≤ i → szC (p1 b) = 0
  c3 : 3 ≤ i → nbC (p3 b) 255 = 0 ∧ nbV (p3 b) 255 = 255
theorem kd_cs (b : List Int) : (b.length = 0 ∧ kdC b = 20) ∨ (b.length = 1 ∧ b.getD 0 0 = 80 ∧ kdC b = 20) ∨ (1 ≤ b.length ∧ b.getD 0 0 ≠ 80 ∧ kdC b = 21) ∨ (2 ≤ b.length ∧ b.getD 0 0 = 80 ∧ b.getD 1 0 ≠ 53 ∧ b.getD 1 0 ≠ 54 ∧ kdC b = 21)
    ∨ (2 ≤ b.length ∧ b.getD 0 0 = 80 ∧ b.getD 1 0 = 53 ∧ kdC b = 0 ∧ kdV b = 1) ∨ (2 ≤ b.length ∧ b.getD 0 0 = 80 ∧ b.getD 1 0 = 54 ∧ kdC b = 0 ∧ kdV b = 3) := by
  match b with
  | [] => exact .inl ⟨rfl, rfl⟩
  | [x] =>
    by_cases hx : x = 80
    · exact .inr (.inl ⟨rfl, hx, by rw [hx]; rfl⟩)
    · refine .inr (.inr (.inl ⟨Nat.le_refl _, hx, ?_⟩))
      simp [kdC, wordC, hx]
  | x :: y :: r =>
    have hl : 2 ≤ (x :: y :: r).length := by simp
    by_cases hx : x = 80
    · by_cases h5 : y = 53
      · refine .inr (.inr (.inr (.inr (.inl ⟨hl, hx, h5, ?_, ?_⟩)))) <;> simp [kdC, kdV, wordC, hx, h5]
      · by_cases h6 : y = 54
        · refine .inr (.inr (.inr (.inr (.inr ⟨hl, hx, h6, ?_, ?_⟩)))) <;> simp [kdC, kdV, wordC, hx, h6]
        · refine .inr (.inr (.inr (.inl ⟨hl, hx, h5, h6, ?_⟩)))
          simp [kdC, wordC, hx, h5, h6]
    · refine .inr (.inr (.inl ⟨by omega, hx, ?_⟩))
      simp [kdC, wordC, hx]
noncomputable def rhCx : Ctx := mkK 0 [(98, rblkS), (99, numberS), (100, roneS)] noG []
theorem rhCx_ok : COK Tryz.prog rhCx := mkK_ok (pok_cons rblk_s (pok_cons number_s (pok_cons rone_s pok_nil))) noG_ok
theorem rh_bad {b : List Int} (hb : Byt b) (k : kdC b ≠ 0) : vcFn rhCx Tryz.f68 [.roi .u8 b] ⟨0, []⟩ (Ret (.tup [.int .i64 (dhA b), .agg [.int .i64 (dhW b), .int .i64 (dhH b), .int .i64 (dhC b), .nils], .int .i64 (pgE b)])) := by
  have bl := hb.le
  have e1 : dhA b = 0 := if_neg (fun q => k q.1)
  have e2 : dhW b = 0 := if_neg k
  have e3 : dhH b = 0 := if_neg (fun q => k q.1)
  have e4 : dhC b = 0 := if_neg k
  have e5 : pgE b = kdC b := if_pos k
  rw [e1, e2, e3, e4, e5]
  clear e1 e2 e3 e4 e5
  rcases kd_cs b with ⟨a1, a2⟩ | ⟨a1, a2, a3⟩ | ⟨a1, a2, a3⟩ | ⟨a1, a2, a3, a4, a5⟩ | ⟨_, _, _, a, _⟩ | ⟨_, _, _, a, _⟩
  · rw [a2]
    clear a2
    (repeat' (first | (refine xI (fun hfk => ?_) (fun hfk => ?_) <;> ((try (first | replace hfk := oT hfk | replace hfk := oF hfk | simp only [oD, ne_eq, reduceCtorEq] at hfk)); (try exact oX))) | refine And.intro oZ ?_ | exact True.intro | (show _ = _; first | exact oY | exact rfl) | exact oW | (apply And.intro)))
  · rw [a3]
    clear a3
    (repeat' (first | (refine xI (fun hfk => ?_) (fun hfk => ?_) <;> ((try (first | replace hfk := oT hfk | replace hfk := oF hfk | simp only [oD, ne_eq, reduceCtorEq] at hfk)); (try exact oX))) | refine And.intro oZ ?_ | exact True.intro | (show _ = _; first | exact oY | exact rfl) | exact oW | (apply And.intro)))
  · rw [a3]
    clear a3
    (repeat' (first | (refine xI (fun hfk => ?_) (fun hfk => ?_) <;> ((try (first | replace hfk := oT hfk | replace hfk := oF hfk | simp only [oD, ne_eq, reduceCtorEq] at hfk)); (try exact oX))) | refine And.intro oZ ?_ | exact True.intro | (show _ = _; first | exact oY | exact rfl) | exact oW | (apply And.intro)))
  · rw [a5]
    clear a5
    (repeat' (first | (refine xI (fun hfk => ?_) (fun hfk => ?_) <;> ((try (first | replace hfk := oT hfk | replace hfk := oF hfk | simp only [oD, ne_eq, reduceCtorEq] at hfk)); (try exact oX))) | refine And.intro oZ ?_ | exact True.intro | (show _ = _; first | exact oY | exact rfl) | exact oW | (apply And.intro)))
  · exact absurd a k
  · exact absurd a k
theorem wh_iv (b : List Int) : wI b 0 = 0 ∧ hI b 0 = 0 ∧ hI b 1 = 0 ∧ wI b 1 = nbV (p1 b) 32768 ∧ wI b 2 = nbV (p1 b) 32768 ∧ wI b 3 = nbV (p1 b) 32768 ∧ hI b 2 = nbV (p2 b) 32768 ∧ hI b 3 = nbV (p2 b) 32768 := ⟨rfl, rfl, rfl, rfl, rfl, rfl, rfl, rfl⟩
theorem at_iv (b : List Int) : atI b 0 = 2 ∧ atI b 1 = 2 + (nbP (p1 b) 32768 : Int) ∧ atI b 2 = 2 + (szP (p1 b) : Int) ∧ atI b 3 = 2 + (szP (p1 b) : Int) + (nbP (p3 b) 255 : Int) := ⟨rfl, rfl, rfl, rfl⟩
theorem at_dr (b : List Int) : b.drop (atI b 0).toNat = p1 b ∧ b.drop (atI b 1).toNat = p2 b ∧ b.drop (atI b 2).toNat = p3 b := by
  refine ⟨rfl, ?_, ?_⟩
  · show b.drop (2 + (nbP (p1 b) 32768 : Int)).toNat = (b.drop 2).drop (nbP (p1 b) 32768)
    rw [List.drop_drop, show (2 + (nbP (p1 b) 32768 : Int)).toNat = 2 + nbP (p1 b) 32768 by omega]
  · show b.drop (2 + (szP (p1 b) : Int)).toNat = (b.drop 2).drop (szP (p1 b))
    rw [List.drop_drop, show (2 + (szP (p1 b) : Int)).toNat = 2 + szP (p1 b) by omega]
theorem nb_bl {r : List Int} {m : Int} (k : blC r ≠ 0) : nbC r m = blC r := if_pos k
attribute [local irreducible] pgE dhA dhW dhH atI wI hI rnV nbC nbV nbP blC bkG szC szP numC kdV kdC oneV
theorem rh_good {b : List Int} (hb : Byt b) (k : kdC b = 0) : vcFn rhCx Tryz.f68 [.roi .u8 b] ⟨0, []⟩ (Ret (.tup [.int .i64 (dhA b), .agg [.int .i64 (dhW b), .int .i64 (dhH b), .int .i64 (dhC b), .nils], .int .i64 (pgE b)])) := by
  have bl := hb.le
  have e4 : dhC b = kdV b := if_pos k
  have hg : 2 ≤ b.length ∧ b.getD 0 0 = 80 ∧ ((b.getD 1 0 = 53 ∧ kdV b = 1) ∨ (b.getD 1 0 = 54 ∧ kdV b = 3)) := by
    rcases kd_cs b with ⟨a1, a2⟩ | ⟨a1, a2, a3⟩ | ⟨a1, a2, a3⟩ | ⟨a1, a2, a3, a4, a5⟩ | ⟨a1, a2, a3, a4, a5⟩ | ⟨a1, a2, a3, a4, a5⟩
    · rw [a2] at k; cases k
    · rw [a3] at k; cases k
    · rw [a3] at k; cases k
    · rw [a5] at k; cases k
    · exact ⟨a1, a2, .inl ⟨a3, a5⟩⟩
    · exact ⟨a1, a2, .inr ⟨a3, a5⟩⟩
  obtain ⟨gl, g0, g1⟩ := hg
  rw [e4]
  clear e4
  have hl1 : (p1 b).length = b.length - 2 := List.length_drop
  have n1 := nbP_le (p1 b) 32768
  have n2 := szP_le (p1 b)
  have hl3 : (p3 b).length = (p1 b).length - szP (p1 b) := List.length_drop
  have n3 := nbP_le (p3 b) 255
  obtain ⟨t0, t1, t2⟩ := at_dr b
  obtain ⟨u0, u1, u2, u3⟩ := at_iv b
  obtain ⟨x1, x2, x3, x4, x5, x6, x7, x8⟩ := wh_iv b
  have hdB : ∀ n : Nat, Byt (b.drop n) := fun n => ⟨by rw [List.length_drop]; omega, fun i => by rw [drop_getD]; exact hb.bd _⟩
  rcases g1 with ⟨g1, gv⟩ | ⟨g1, gv⟩
  all_goals (
    (repeat' (first | (refine xI (fun hfk => ?_) (fun hfk => ?_) <;> ((try (first | replace hfk := oT hfk | replace hfk := oF hfk | simp only [oD, ne_eq, reduceCtorEq] at hfk)); (try exact oX))) | refine And.intro oZ ?_ | exact True.intro | (show _ = _; first | exact oY | exact rfl) | exact oW | (apply And.intro)))
    refine ⟨Nat, fun i => [(0, .roi .u8 b), (2, .int .i64 0), (3, .ptr 0 0), (4, .int .i64 0), (5, .ptr 1 0), (6, .int .i64 (atI b i)), (7, .int .i64 (i : Int))],
      fun i => ⟨2, [(0, some (.cells 42 [.int .i64 0, .int .i64 0, .int .i64 0, .nils])), (1, some (.cells 42 [.int .i64 (wI b i), .int .i64 (hI b i), .int .i64 (kdV b), .nils]))]⟩,
      fun i => HdI b i, fun i => 3 - i, ⟨0, [some 0, some 1], ⟨by decide, fun q => by omega, fun q => by omega, fun q => by omega⟩, ?_⟩, fun i hi => ?_⟩
    · (repeat' (first | (refine And.intro ?_ ?_) | exact True.intro | (show _ = _; with_reducible rfl) | exact Chk.mk (by kernel_rfl)))
      all_goals first | rfl | exact gv.symm | exact u0.symm | exact x1.symm | exact x2.symm
    have hi : HdI b i := hi
    obtain ⟨hle, c1, c2, c3⟩ := hi
    clear g0 g1
    have hi4 : i = 0 ∨ i = 1 ∨ i = 2 ∨ i = 3 := by omega
    rcases hi4 with rfl | rfl | rfl | rfl
    · have ra : (atI b 0).toNat ≤ b.length := by omega
      have ra0 : 0 ≤ atI b 0 := by omega
      have hk := bkG_le false (List.drop (atI b 0).toNat (List.take b.length b))
      have hlS : (List.drop (atI b 0).toNat (List.take b.length b)).length = b.length - (atI b 0).toNat := by rw [List.length_drop, List.take_length]
      have tS : (List.drop (atI b 0).toNat (List.take b.length b)) = p1 b := by rw [List.take_length]; exact t0
      by_cases kb : blC (List.drop (atI b 0).toNat (List.take b.length b)) = 0
      rotate_left
      · have e : nbC (p1 b) 32768 = blC (List.drop (atI b 0).toNat (List.take b.length b)) := by rw [tS] at kb ⊢; exact nb_bl kb
        have en : nbC (p1 b) 32768 ≠ 0 := by rw [e]; exact kb
        obtain ⟨f1, f2, f3, f4⟩ := pg_e0 k en
        replace f2 := x1.trans f2
        replace f3 := x2.trans f3
        rw [e] at f1
        clear e en t0 t1 t2 tS n1 n2 n3 hl1 hl3 u0 u1 u2 u3 hdB gv gl x1 x2 x3 x4 x5 x6 x7 x8
        (repeat' (first | (refine xI (fun hfk => ?_) (fun hfk => ?_) <;> ((try (first | replace hfk := oT hfk | replace hfk := oF hfk | simp only [oD, ne_eq, reduceCtorEq] at hfk)); (try exact oX))) | refine And.intro oZ ?_ | exact True.intro | (show _ = _; first | exact oY | (first | exact f1.symm | exact f2 | exact f3 | exact f4 | rfl; done) | exact rfl) | exact oW | (apply And.intro)))
      have hD : Byt (List.drop (atI b 0 + (bkG false (List.drop (atI b 0).toNat (List.take b.length b)) : Int)).toNat (List.take b.length b)) := by rw [List.take_length]; exact hdB _
      have q12 := rn_nb (b := b) (a := atI b 0) (m := 32768) ra0 (by decide) (by rw [t0, ← tS]; exact kb)
      have qD : (List.drop (atI b 0 + (bkG false (List.drop (atI b 0).toNat (List.take b.length b)) : Int)).toNat (List.take b.length b)) = b.drop (atI b 0 + (bkG false (b.drop (atI b 0).toNat) : Int)).toNat := by rw [List.take_length]
      rw [← qD, t0] at q12
      obtain ⟨q1, q2⟩ := q12
      by_cases kn : nbC (p1 b) 32768 = 0
      rotate_left
      · have en : nbC (p1 b) 32768 ≠ 0 := kn
        obtain ⟨f1, f2, f3, f4⟩ := pg_e0 k en
        replace f2 := x1.trans f2
        replace f3 := x2.trans f3
        have f5 : (rnV (List.drop (atI b 0 + (bkG false (List.drop (atI b 0).toNat (List.take b.length b)) : Int)).toNat (List.take b.length b)) 32768).2.2 = pgE b := by rw [q1, f1]
        have f6 : ¬ (rnV (List.drop (atI b 0 + (bkG false (List.drop (atI b 0).toNat (List.take b.length b)) : Int)).toNat (List.take b.length b)) 32768).2.2 = 0 := by rw [q1]; exact kn
        clear en f1 q1 q2 qD t0 t1 t2 tS n1 n2 n3 hl1 hl3 u0 u1 u2 u3 hdB gv gl x1 x2 x3 x4 x5 x6 x7 x8
        (repeat' (first | (refine xI (fun hfk => ?_) (fun hfk => ?_) <;> ((try (first | replace hfk := oT hfk | replace hfk := oF hfk | simp only [oD, ne_eq, reduceCtorEq] at hfk)); (try exact oX))) | refine And.intro oZ ?_ | exact True.intro | (show _ = _; first | exact oY | (first | exact hD | exact f5 | exact f2 | exact f3 | exact f4 | rfl; done) | exact rfl) | exact oW | (apply And.intro)))
      obtain ⟨q3, q4⟩ := q2 kn
      rw [kn] at q1
      have q5 : atI b 0 + (bkG false (List.drop (atI b 0).toNat (List.take b.length b)) : Int) + (rnV (List.drop (atI b 0 + (bkG false (List.drop (atI b 0).toNat (List.take b.length b)) : Int)).toNat (List.take b.length b)) 32768).2.1 = atI b 1 := (congrArg (fun x : List Int => atI b 0 + (bkG false x : Int) + (rnV (List.drop (atI b 0 + (bkG false (List.drop (atI b 0).toNat (List.take b.length b)) : Int)).toNat (List.take b.length b)) 32768).2.1) tS).trans (q4.trans (by rw [u1, u0]))
      have q6 : (rnV (List.drop (atI b 0 + (bkG false (List.drop (atI b 0).toNat (List.take b.length b)) : Int)).toNat (List.take b.length b)) 32768).1 = wI b 1 := by rw [q3, x4]
      have y1 : hI b 0 = hI b 1 := by rw [x2, x3]
      have h1 : HdI b 1 := ⟨by decide, fun _ => kn, fun q => by omega, fun q => by omega⟩
      have rb : 0 ≤ atI b 1 ∧ atI b 1 ≤ 100002 := by omega
      clear q2 q3 q4 qD t0 t1 t2 tS kn n1 n2 n3 hl1 hl3 u0 u1 u2 u3 hdB gv gl x1 x2 x3 x4 x5 x6 x7 x8
      (repeat' (first | (refine xI (fun hfk => ?_) (fun hfk => ?_) <;> ((try (first | replace hfk := oT hfk | replace hfk := oF hfk | simp only [oD, ne_eq, reduceCtorEq] at hfk)); (try exact oX))) | refine And.intro oZ ?_ | exact True.intro | (show _ = _; first | exact oY | (first | exact hD | rfl; done) | exact rfl) | exact oW | (apply And.intro)))
      refine ⟨1, [some 0, some 1], h1, by decide, ?_⟩
      (repeat' (first | (refine And.intro ?_ ?_) | exact True.intro | (show _ = _; with_reducible rfl) | exact Chk.mk (by kernel_rfl)))
      all_goals first | rfl | exact q5 | exact q6 | exact y1 | (show (_ : Int) = _; omega)
    · have ra : (atI b 1).toNat ≤ b.length := by omega
      have ra0 : 0 ≤ atI b 1 := by omega
      have hk := bkG_le false (List.drop (atI b 1).toNat (List.take b.length b))
      have hlS : (List.drop (atI b 1).toNat (List.take b.length b)).length = b.length - (atI b 1).toNat := by rw [List.length_drop, List.take_length]
      have tS : (List.drop (atI b 1).toNat (List.take b.length b)) = p2 b := by rw [List.take_length]; exact t1
      by_cases kb : blC (List.drop (atI b 1).toNat (List.take b.length b)) = 0
      rotate_left
      · have e : nbC (p2 b) 32768 = blC (List.drop (atI b 1).toNat (List.take b.length b)) := by rw [tS] at kb ⊢; exact nb_bl kb
        have en : nbC (p2 b) 32768 ≠ 0 := by rw [e]; exact kb
        obtain ⟨f1, f2, f3, f4⟩ := pg_e1 k (c1 (by decide)) en
        replace f2 := x4.trans f2
        replace f3 := x3.trans f3
        rw [e] at f1
        clear e en t0 t1 t2 tS n1 n2 n3 hl1 hl3 u0 u1 u2 u3 hdB gv gl x1 x2 x3 x4 x5 x6 x7 x8
        (repeat' (first | (refine xI (fun hfk => ?_) (fun hfk => ?_) <;> ((try (first | replace hfk := oT hfk | replace hfk := oF hfk | simp only [oD, ne_eq, reduceCtorEq] at hfk)); (try exact oX))) | refine And.intro oZ ?_ | exact True.intro | (show _ = _; first | exact oY | (first | exact f1.symm | exact f2 | exact f3 | exact f4 | rfl; done) | exact rfl) | exact oW | (apply And.intro)))
      have hD : Byt (List.drop (atI b 1 + (bkG false (List.drop (atI b 1).toNat (List.take b.length b)) : Int)).toNat (List.take b.length b)) := by rw [List.take_length]; exact hdB _
      have q12 := rn_nb (b := b) (a := atI b 1) (m := 32768) ra0 (by decide) (by rw [t1, ← tS]; exact kb)
      have qD : (List.drop (atI b 1 + (bkG false (List.drop (atI b 1).toNat (List.take b.length b)) : Int)).toNat (List.take b.length b)) = b.drop (atI b 1 + (bkG false (b.drop (atI b 1).toNat) : Int)).toNat := by rw [List.take_length]
      rw [← qD, t1] at q12
      obtain ⟨q1, q2⟩ := q12
      by_cases kn : nbC (p2 b) 32768 = 0
      rotate_left
      · have en : nbC (p2 b) 32768 ≠ 0 := kn
        obtain ⟨f1, f2, f3, f4⟩ := pg_e1 k (c1 (by decide)) en
        replace f2 := x4.trans f2
        replace f3 := x3.trans f3
        have f5 : (rnV (List.drop (atI b 1 + (bkG false (List.drop (atI b 1).toNat (List.take b.length b)) : Int)).toNat (List.take b.length b)) 32768).2.2 = pgE b := by rw [q1, f1]
        have f6 : ¬ (rnV (List.drop (atI b 1 + (bkG false (List.drop (atI b 1).toNat (List.take b.length b)) : Int)).toNat (List.take b.length b)) 32768).2.2 = 0 := by rw [q1]; exact kn
        clear en f1 q1 q2 qD t0 t1 t2 tS n1 n2 n3 hl1 hl3 u0 u1 u2 u3 hdB gv gl x1 x2 x3 x4 x5 x6 x7 x8
        (repeat' (first | (refine xI (fun hfk => ?_) (fun hfk => ?_) <;> ((try (first | replace hfk := oT hfk | replace hfk := oF hfk | simp only [oD, ne_eq, reduceCtorEq] at hfk)); (try exact oX))) | refine And.intro oZ ?_ | exact True.intro | (show _ = _; first | exact oY | (first | exact hD | exact f5 | exact f2 | exact f3 | exact f4 | rfl; done) | exact rfl) | exact oW | (apply And.intro)))
      obtain ⟨q3, q4⟩ := q2 kn
      rw [kn] at q1
      have h0 := c1 (by decide)
      have q5 : atI b 1 + (bkG false (List.drop (atI b 1).toNat (List.take b.length b)) : Int) + (rnV (List.drop (atI b 1 + (bkG false (List.drop (atI b 1).toNat (List.take b.length b)) : Int)).toNat (List.take b.length b)) 32768).2.1 = atI b 1 + (nbP (p2 b) 32768 : Int) := (congrArg (fun x : List Int => atI b 1 + (bkG false x : Int) + (rnV (List.drop (atI b 1 + (bkG false (List.drop (atI b 1).toNat (List.take b.length b)) : Int)).toNat (List.take b.length b)) 32768).2.1) tS).trans (q4.trans (rfl))
      have q6 : (rnV (List.drop (atI b 1 + (bkG false (List.drop (atI b 1).toNat (List.take b.length b)) : Int)).toNat (List.take b.length b)) 32768).1 = nbV (p2 b) 32768 := q3
      have hl2 : (p2 b).length = (p1 b).length - nbP (p1 b) 32768 := List.length_drop
      have n4 := nbP_le (p2 b) 32768
      obtain ⟨w1, w2⟩ := pg_wh k h0
      have v1 := nbV_rng (p1 b) (m := 32768) (by decide)
      have v2 := nbV_rng (p2 b) (m := 32768) (by decide)
      have v3 : 0 ≤ nbV (p1 b) 32768 * nbV (p2 b) 32768 := Int.mul_nonneg v1.1 v2.1
      have v4 : nbV (p1 b) 32768 * nbV (p2 b) 32768 ≤ 32768 * 32768 := Int.le_trans (Int.mul_le_mul_of_nonneg_right v1.2 v2.1) (Int.mul_le_mul_of_nonneg_left v2.2 (by omega))
      have w5 : wI b 1 = nbV (p1 b) 32768 := x4
      have rm : rngI .i64 (wI b 1 * (rnV (List.drop (atI b 1 + (bkG false (List.drop (atI b 1).toNat (List.take b.length b)) : Int)).toNat (List.take b.length b)) 32768).1) := by rw [w5, q6]; exact rng64 (by omega) (by omega)
      have em : wI b 1 * (rnV (List.drop (atI b 1 + (bkG false (List.drop (atI b 1).toNat (List.take b.length b)) : Int)).toNat (List.take b.length b)) 32768).1 = nbV (p1 b) 32768 * nbV (p2 b) 32768 := by rw [w5, q6]
      have wD : wI b 1 = dhW b := x4.trans w1
      have hD2 : (rnV (List.drop (atI b 1 + (bkG false (List.drop (atI b 1).toNat (List.take b.length b)) : Int)).toNat (List.take b.length b)) 32768).1 = dhH b := q6.trans w2
      have rq : rngI .i64 (atI b 1 + (bkG false (List.drop (atI b 1).toNat (List.take b.length b)) : Int) + (rnV (List.drop (atI b 1 + (bkG false (List.drop (atI b 1).toNat (List.take b.length b)) : Int)).toNat (List.take b.length b)) 32768).2.1) := by rw [q5]; exact rng64 (by omega) (by omega)
      by_cases z1 : nbV (p1 b) 32768 < 1 ∨ nbV (p2 b) 32768 < 1
      · obtain ⟨f1, f2⟩ := pg_s1 k h0 kn z1
        clear q2 q3 q4 qD t0 t1 t2 tS kn w1 w2 v3 v4 rm em n1 n2 n3 n4 hl1 hl2 hl3 u0 u1 u2 u3 hdB gv gl x1 x2 x3 x4 x5 x6 x7 x8
        (repeat' (first | (refine xI (fun hfk => ?_) (fun hfk => ?_) <;> ((try (first | replace hfk := oT hfk | replace hfk := oF hfk | simp only [oD, ne_eq, reduceCtorEq] at hfk)); (try exact oX))) | refine And.intro oZ ?_ | exact True.intro | (show _ = _; first | exact oY | (first | exact hD | exact f1.symm | exact f2 | exact wD | exact hD2 | exact rq | rfl; done) | exact rfl) | exact oW | (apply And.intro)))
      by_cases z2 : 4194304 < nbV (p1 b) 32768 * nbV (p2 b) 32768
      · obtain ⟨f1, f2⟩ := pg_s2 k h0 kn z1 z2
        clear q2 q3 q4 qD t0 t1 t2 tS kn w1 w2 n1 n2 n3 n4 hl1 hl2 hl3 u0 u1 u2 u3 hdB gv gl x1 x2 x3 x4 x5 x6 x7 x8
        (repeat' (first | (refine xI (fun hfk => ?_) (fun hfk => ?_) <;> ((try (first | replace hfk := oT hfk | replace hfk := oF hfk | simp only [oD, ne_eq, reduceCtorEq] at hfk)); (try exact oX))) | refine And.intro oZ ?_ | exact True.intro | (show _ = _; first | exact oY | (first | exact hD | exact f1.symm | exact f2 | exact wD | exact hD2 | exact rq | exact rm | rfl; done) | exact rfl) | exact oW | (apply And.intro)))
      obtain ⟨s1, s2⟩ := pg_s3 h0 kn z1 z2
      have h1 : HdI b 2 := ⟨by decide, fun _ => h0, fun q => s1, fun q => by omega⟩
      have q7 : atI b 1 + (bkG false (List.drop (atI b 1).toNat (List.take b.length b)) : Int) + (rnV (List.drop (atI b 1 + (bkG false (List.drop (atI b 1).toNat (List.take b.length b)) : Int)).toNat (List.take b.length b)) 32768).2.1 = atI b 2 := by rw [q5, u1, u2, s2]; omega
      have q8 : (rnV (List.drop (atI b 1 + (bkG false (List.drop (atI b 1).toNat (List.take b.length b)) : Int)).toNat (List.take b.length b)) 32768).1 = hI b 2 := q6.trans x7.symm
      have y1 : wI b 1 = wI b 2 := by rw [x4, x5]
      have rb : 0 ≤ atI b 2 ∧ atI b 2 ≤ 100002 := by omega
      clear q2 q3 q4 qD t0 t1 t2 tS kn w1 w2 n1 n2 n3 n4 hl1 hl2 hl3 u0 u1 u2 u3 hdB gv gl x1 x2 x3 x4 x5 x6 x7 x8
      (repeat' (first | (refine xI (fun hfk => ?_) (fun hfk => ?_) <;> ((try (first | replace hfk := oT hfk | replace hfk := oF hfk | simp only [oD, ne_eq, reduceCtorEq] at hfk)); (try exact oX))) | refine And.intro oZ ?_ | exact True.intro | (show _ = _; first | exact oY | (first | exact hD | exact rm | exact rq | rfl; done) | exact rfl) | exact oW | (apply And.intro)))
      refine ⟨2, [some 0, some 1], h1, by decide, ?_⟩
      (repeat' (first | (refine And.intro ?_ ?_) | exact True.intro | (show _ = _; with_reducible rfl) | exact Chk.mk (by kernel_rfl)))
      all_goals first | rfl | exact q7 | exact q8 | exact y1 | (show (_ : Int) = _; omega)
    · have h0 := c2 (by decide)
      obtain ⟨w1, w2⟩ := pg_wh k (c1 (by decide))
      have f3 : wI b 2 = dhW b := x5.trans w1
      have f4 : hI b 2 = dhH b := x7.trans w2
      have ra : (atI b 2).toNat ≤ b.length := by omega
      have ra0 : 0 ≤ atI b 2 := by omega
      have hk := bkG_le false (List.drop (atI b 2).toNat (List.take b.length b))
      have hlS : (List.drop (atI b 2).toNat (List.take b.length b)).length = b.length - (atI b 2).toNat := by rw [List.length_drop, List.take_length]
      have tS : (List.drop (atI b 2).toNat (List.take b.length b)) = p3 b := by rw [List.take_length]; exact t2
      by_cases kb : blC (List.drop (atI b 2).toNat (List.take b.length b)) = 0
      rotate_left
      · have e : nbC (p3 b) 255 = blC (List.drop (atI b 2).toNat (List.take b.length b)) := by rw [tS] at kb ⊢; exact nb_bl kb
        have en : nbC (p3 b) 255 ≠ 0 := by rw [e]; exact kb
        obtain ⟨f1, f2⟩ := pg_e3 k h0 en
        rw [e] at f1
        clear e en t0 t1 t2 tS n1 n2 n3 hl1 hl3 u0 u1 u2 u3 hdB gv gl x1 x2 x3 x4 x5 x6 x7 x8
        (repeat' (first | (refine xI (fun hfk => ?_) (fun hfk => ?_) <;> ((try (first | replace hfk := oT hfk | replace hfk := oF hfk | simp only [oD, ne_eq, reduceCtorEq] at hfk)); (try exact oX))) | refine And.intro oZ ?_ | exact True.intro | (show _ = _; first | exact oY | (first | exact f1.symm | exact f2 | exact f3 | exact f4 | rfl; done) | exact rfl) | exact oW | (apply And.intro)))
      have hD : Byt (List.drop (atI b 2 + (bkG false (List.drop (atI b 2).toNat (List.take b.length b)) : Int)).toNat (List.take b.length b)) := by rw [List.take_length]; exact hdB _
      have q12 := rn_nb (b := b) (a := atI b 2) (m := 255) ra0 (by decide) (by rw [t2, ← tS]; exact kb)
      have qD : (List.drop (atI b 2 + (bkG false (List.drop (atI b 2).toNat (List.take b.length b)) : Int)).toNat (List.take b.length b)) = b.drop (atI b 2 + (bkG false (b.drop (atI b 2).toNat) : Int)).toNat := by rw [List.take_length]
      rw [← qD, t2] at q12
      obtain ⟨q1, q2⟩ := q12
      by_cases kn : nbC (p3 b) 255 = 0
      rotate_left
      · have en : nbC (p3 b) 255 ≠ 0 := kn
        obtain ⟨f1, f2⟩ := pg_e3 k h0 en
        have f5 : (rnV (List.drop (atI b 2 + (bkG false (List.drop (atI b 2).toNat (List.take b.length b)) : Int)).toNat (List.take b.length b)) 255).2.2 = pgE b := by rw [q1, f1]
        have f6 : ¬ (rnV (List.drop (atI b 2 + (bkG false (List.drop (atI b 2).toNat (List.take b.length b)) : Int)).toNat (List.take b.length b)) 255).2.2 = 0 := by rw [q1]; exact kn
        clear en f1 q1 q2 qD t0 t1 t2 tS n1 n2 n3 hl1 hl3 u0 u1 u2 u3 hdB gv gl x1 x2 x3 x4 x5 x6 x7 x8
        (repeat' (first | (refine xI (fun hfk => ?_) (fun hfk => ?_) <;> ((try (first | replace hfk := oT hfk | replace hfk := oF hfk | simp only [oD, ne_eq, reduceCtorEq] at hfk)); (try exact oX))) | refine And.intro oZ ?_ | exact True.intro | (show _ = _; first | exact oY | (first | exact hD | exact f5 | exact f2 | exact f3 | exact f4 | rfl; done) | exact rfl) | exact oW | (apply And.intro)))
      obtain ⟨q3, q4⟩ := q2 kn
      rw [kn] at q1
      have q5 : atI b 2 + (bkG false (List.drop (atI b 2).toNat (List.take b.length b)) : Int) + (rnV (List.drop (atI b 2 + (bkG false (List.drop (atI b 2).toNat (List.take b.length b)) : Int)).toNat (List.take b.length b)) 255).2.1 = atI b 3 := (congrArg (fun x : List Int => atI b 2 + (bkG false x : Int) + (rnV (List.drop (atI b 2 + (bkG false (List.drop (atI b 2).toNat (List.take b.length b)) : Int)).toNat (List.take b.length b)) 255).2.1) tS).trans (q4.trans (by rw [u3, u2]))
      have q6 : (rnV (List.drop (atI b 2 + (bkG false (List.drop (atI b 2).toNat (List.take b.length b)) : Int)).toNat (List.take b.length b)) 255).1 = nbV (p3 b) 255 := q3
      have rb : 0 ≤ atI b 3 ∧ atI b 3 ≤ 100002 := by omega
      have y1 : wI b 2 = wI b 3 := by rw [x5, x6]
      have y2 : hI b 2 = hI b 3 := by rw [x7, x8]
      by_cases z1 : nbV (p3 b) 255 = 255
      · have h1 : HdI b 3 := ⟨by decide, fun _ => c1 (by decide), fun _ => h0, fun q => ⟨kn, z1⟩⟩
        clear q2 q3 q4 qD t0 t1 t2 tS kn n1 n2 n3 hl1 hl3 u0 u1 u2 u3 hdB gv gl x1 x2 x3 x4 x5 x6 x7 x8
        (repeat' (first | (refine xI (fun hfk => ?_) (fun hfk => ?_) <;> ((try (first | replace hfk := oT hfk | replace hfk := oF hfk | simp only [oD, ne_eq, reduceCtorEq] at hfk)); (try exact oX))) | refine And.intro oZ ?_ | exact True.intro | (show _ = _; first | exact oY | (first | exact hD | rfl; done) | exact rfl) | exact oW | (apply And.intro)))
        refine ⟨3, [some 0, some 1], h1, by decide, ?_⟩
        (repeat' (first | (refine And.intro ?_ ?_) | exact True.intro | (show _ = _; with_reducible rfl) | exact Chk.mk (by kernel_rfl)))
        all_goals first | rfl | exact q5 | exact y1 | exact y2 | (show (_ : Int) = _; omega)
      · obtain ⟨f1, f2⟩ := pg_e4 k h0 kn z1
        clear q2 q3 q4 qD t0 t1 t2 tS kn n1 n2 n3 hl1 hl3 u0 u1 u2 u3 hdB gv gl x1 x2 x3 x4 x5 x6 x7 x8
        (repeat' (first | (refine xI (fun hfk => ?_) (fun hfk => ?_) <;> ((try (first | replace hfk := oT hfk | replace hfk := oF hfk | simp only [oD, ne_eq, reduceCtorEq] at hfk)); (try exact oX))) | refine And.intro oZ ?_ | exact True.intro | (show _ = _; first | exact oY | (first | exact hD | exact f1.symm | exact f2 | exact f3 | exact f4 | rfl; done) | exact rfl) | exact oW | (apply And.intro)))
    · obtain ⟨d1, d2⟩ := c3 (by decide)
      have d3 := c2 (by decide)
      obtain ⟨w1, w2⟩ := pg_wh k (c1 (by decide))
      obtain ⟨w3, w4⟩ := pg_end k d3 d1 d2
      have w5 : wI b 3 = dhW b := x6.trans w1
      have w6 : hI b 3 = dhH b := x8.trans w2
      have ob := oneV_bd (b.drop (atI b 3).toNat)
      rw [List.length_drop] at ob
      have hbt : List.take b.length b = b := List.take_length
      have w3' : (oneV (List.drop (atI b 3).toNat (List.take b.length b))).2 = pgE b := by rw [hbt]; exact w3
      have w4' : atI b 3 + (oneV (List.drop (atI b 3).toNat (List.take b.length b))).1 = dhA b := by rw [hbt]; exact w4
      have rr : rngI .i64 (atI b 3 + (oneV (List.drop (atI b 3).toNat (List.take b.length b))).1) := by rw [hbt]; exact rng64 (by omega) (by omega)
      clear c1 c2 c3 t0 t1 t2 u0 u1 u2 w1 w2 w3 w4 hbt
      (repeat' (first | (refine xI (fun hfk => ?_) (fun hfk => ?_) <;> ((try (first | replace hfk := oT hfk | replace hfk := oF hfk | simp only [oD, ne_eq, reduceCtorEq] at hfk)); (try exact oX))) | refine And.intro oZ ?_ | exact True.intro | (show _ = _; first | exact oY | (first | exact w3' | exact w4' | exact w5 | exact w6 | exact rr | rfl; done) | exact rfl) | exact oW | (apply And.intro))))
theorem rhead_s : SOK Tryz.prog 68 rheadS := by
  refine sok_of (C := rhCx) rhCx_ok rfl mixed ⟨Tryz.func68, by kernel_rfl, by kernel_rfl, by kernel_rfl⟩ fun l obs v h ho => ?_
  (unfold rheadS at h; split at h; rotate_left; (focus (cases h)); rename_i b; simp only [Option.some.injEq, Prod.mk.injEq] at h; obtain ⟨rfl, rfl⟩ := h; simp only [List.mem_cons, List.not_mem_nil, or_false, forall_eq_or_imp, forall_eq, false_implies, implies_true] at ho)
  refine ⟨Nat.le_of_ble_eq_true rfl, ?_⟩
  by_cases k : kdC b = 0
  · exact rh_good ho k
  · exact rh_bad ho k
end Go.Proofs.YtljdahepmmgfeaaGreatDoor
namespace Go.Proofs.YtljdahepmmgfeaaGreatDoor
open Go Go.RowKit
set_option maxHeartbeats 4000000
abbrev madeRS : PSpec := fun l => match l with | [.int .i64 w, .int .i64 h, .int .i64 c, .roi .u8 p] => some ([], imA w h c p) | _ => none
theorem madeR_s : SOK Tryz.prog 69 madeRS := by
  refine sok_of (C := mkC 0 [] noG) (mkC_ok pok_nil noG_ok) rfl mixed ⟨Tryz.func69, by kernel_rfl, by kernel_rfl, by kernel_rfl⟩ fun l obs v h ho => ?_
  (unfold madeRS at h; split at h; rotate_left; (focus (cases h)); rename_i w hh c p; simp only [Option.some.injEq, Prod.mk.injEq] at h; obtain ⟨rfl, rfl⟩ := h; simp only [List.mem_cons, List.not_mem_nil, or_false, forall_eq_or_imp, forall_eq, false_implies, implies_true] at ho)
  refine ⟨Nat.le_of_ble_eq_true rfl, ?_⟩
  (repeat' (first | (refine xI (fun hfk => ?_) (fun hfk => ?_) <;> ((try (first | replace hfk := oT hfk | replace hfk := oF hfk | simp only [oD, ne_eq, reduceCtorEq] at hfk)); (try exact oX))) | refine And.intro oZ ?_ | exact True.intro | (show _ = _; first | exact oY | exact rfl) | exact oW | (apply And.intro)))
theorem pg_good {b : List Int} (h : pgE b = 0) : pgW b = dhW b ∧ pgH b = dhH b ∧ kdV b = dhC b ∧ dhA b = pgP b := by
  obtain ⟨k1, k2, k3⟩ := pgE0 h
  have e1 : szC (p1 b) = 0 := k2
  have n0 : nbC (p1 b) 32768 = 0 := by
    by_cases z : nbC (p1 b) 32768 = 0
    · exact z
    · unfold szC at e1; rw [if_pos z] at e1; exact absurd e1 z
  have n1 : nbC (p3 b) 255 = 0 := by
    by_cases z : nbC (p3 b) 255 = 0
    · exact z
    · unfold dpC at k3; rw [if_pos (show nbC ((b.drop 2).drop (szP (b.drop 2))) 255 ≠ 0 from z)] at k3; exact absurd k3 z
  have n2 : nbV (p3 b) 255 = 255 := by
    by_cases z : nbV (p3 b) 255 = 255
    · exact z
    · unfold dpC at k3
      rw [if_neg (show ¬ nbC ((b.drop 2).drop (szP (b.drop 2))) 255 ≠ 0 from fun q => q n1), if_pos (show nbV ((b.drop 2).drop (szP (b.drop 2))) 255 ≠ 255 from z)] at k3
      cases k3
  obtain ⟨w1, w2⟩ := pg_wh k1 n0
  have e2 : pgW b = nbV (p1 b) 32768 := (if_pos k1).trans (if_pos e1)
  have e3 : pgH b = nbV (p2 b) 32768 := (if_pos k1).trans (if_pos e1)
  exact ⟨e2.trans w1, e3.trans w2, (if_pos k1).symm, if_pos ⟨k1, e1, n1, n2⟩⟩
attribute [local irreducible] pgE dhA dhW dhH dhC kdV kdC pgW pgH pgP
theorem rread15_s : SOK Tryz.prog 42 pnmS := by
  refine sok_of (C := mkC 0 [(68, rheadS), (69, madeRS)] noG) (mkC_ok (pok_cons rhead_s (pok_cons madeR_s pok_nil)) noG_ok) rfl mixed ⟨Tryz.func42, by kernel_rfl, by kernel_rfl, by kernel_rfl⟩ fun l obs v h ho => ?_
  (unfold pnmS at h; split at h; rotate_left; (focus (cases h)); rename_i b; simp only [Option.some.injEq, Prod.mk.injEq] at h; obtain ⟨rfl, rfl⟩ := h; simp only [List.mem_cons, List.not_mem_nil, or_false, forall_eq_or_imp, forall_eq, false_implies, implies_true] at ho)
  refine ⟨Nat.le_of_ble_eq_true rfl, ?_⟩
  have bl := ho.le
  by_cases k1 : pgE b = 0
  rotate_left
  · have e : pnE b = pgE b := if_pos k1
    obtain ⟨z1, z2⟩ := pn_bad (b := b) (by rw [e]; exact k1)
    rw [z1, z1, z1, z2, e]
    clear e z1 z2
    (repeat' (first | (refine xI (fun hfk => ?_) (fun hfk => ?_) <;> ((try (first | replace hfk := oT hfk | replace hfk := oF hfk | simp only [oD, ne_eq, reduceCtorEq] at hfk)); (try exact oX))) | refine And.intro oZ ?_ | exact True.intro | (show _ = _; first | exact oY | (first | exact ho | rfl; done) | exact rfl) | exact oW | (apply And.intro)))
  obtain ⟨a1, a2, a3, a4, a5, a6, a7, a8⟩ := pn_sz k1
  obtain ⟨g1, g2, g3, g4⟩ := pg_good k1
  have eN : dhW b * dhH b * dhC b = pnN b := by rw [← g1, ← g2, ← g3]; rfl
  have hp := pgP_bd b
  rw [g1, g2] at a6
  have r1 : rngI .i64 (dhW b * dhH b) := rng64 (by omega) (by rw [← g1, ← g2]; omega)
  have r2 : rngI .i64 (dhW b * dhH b * dhC b) := by rw [eN]; exact rng64 (by omega) (by omega)
  by_cases k2 : (b.length : Int) - pgP b < pnN b
  · have e : pnE b = 20 := by unfold pnE; rw [if_neg (fun k => k k1), if_pos k2]
    obtain ⟨z1, z2⟩ := pn_bad (b := b) (by rw [e]; decide)
    rw [z1, z1, z1, z2, e]
    clear e z1 z2 g1 g2 g3
    (repeat' (first | (refine xI (fun hfk => ?_) (fun hfk => ?_) <;> ((try (first | replace hfk := oT hfk | replace hfk := oF hfk | simp only [oD, ne_eq, reduceCtorEq] at hfk)); (try exact oX))) | refine And.intro oZ ?_ | exact True.intro | (show _ = _; first | exact oY | (first | exact ho | exact r1 | exact r2 | rfl; done) | exact rfl) | exact oW | (apply And.intro)))
  by_cases k3 : pnN b < (b.length : Int) - pgP b
  · have e : pnE b = 22 := by unfold pnE; rw [if_neg (fun k => k k1), if_neg k2, if_pos k3]
    obtain ⟨z1, z2⟩ := pn_bad (b := b) (by rw [e]; decide)
    rw [z1, z1, z1, z2, e]
    clear e z1 z2 g1 g2 g3
    (repeat' (first | (refine xI (fun hfk => ?_) (fun hfk => ?_) <;> ((try (first | replace hfk := oT hfk | replace hfk := oF hfk | simp only [oD, ne_eq, reduceCtorEq] at hfk)); (try exact oX))) | refine And.intro oZ ?_ | exact True.intro | (show _ = _; first | exact oY | (first | exact ho | exact r1 | exact r2 | rfl; done) | exact rfl) | exact oW | (apply And.intro)))
  have e : pnE b = 0 := by unfold pnE; rw [if_neg (fun k => k k1), if_neg k2, if_neg k3]
  have f1 : pnK b (pgW b) = dhW b := (if_pos e).trans g1
  have f2 : pnK b (pgH b) = dhH b := (if_pos e).trans g2
  have f3 : pnK b (kdV b) = dhC b := (if_pos e).trans g3
  have f4 : pnL b = b.drop (pgP b).toNat := if_pos e
  have f5 : List.drop (dhA b).toNat (List.take b.length b) = b.drop (pgP b).toNat := by rw [List.take_length, g4]
  rw [f1, f2, f3, f4, e]
  clear e f1 f2 f3 f4 g1 g2 g3
  (repeat' (first | (refine xI (fun hfk => ?_) (fun hfk => ?_) <;> ((try (first | replace hfk := oT hfk | replace hfk := oF hfk | simp only [oD, ne_eq, reduceCtorEq] at hfk)); (try exact oX))) | refine And.intro oZ ?_ | exact True.intro | (show _ = _; first | exact oY | (first | exact ho | exact r1 | exact r2 | exact f5 | rfl; done) | exact rfl) | exact oW | (apply And.intro)))
end Go.Proofs.YtljdahepmmgfeaaGreatDoor
namespace Go.Proofs.YtljdahepmmgfeaaGreatDoor
open Go Go.RowKit
set_option maxHeartbeats 4000000
theorem lowV_snoc : ∀ (l : List Int) (x : Int), lowV (l ++ [x]) = lowV l + x * 256 ^ l.length
  | [], x => by simp [lowV]
  | d :: l, x => by
    rw [List.cons_append, lowV, lowV, lowV_snoc l x, List.length_cons, Int.pow_succ]
    rw [Int.mul_add, Int.mul_comm (256 ^ l.length) 256, ← Int.mul_assoc, ← Int.mul_assoc, Int.mul_comm 256 x]
    omega
theorem or_put {a v : Int} {i : Nat} (hi : i < 4) (h0 : 0 ≤ a) (h1 : a < 256 ^ i) (h2 : 0 ≤ v) (h3 : v ≤ 255) :
    IntKind.u32.wrap (BitVec.ofInt IntKind.u32.bits a ||| BitVec.ofInt IntKind.u32.bits (IntKind.u32.wrap (v * 2 ^ min (8 * (i : Int)).toNat IntKind.u32.bits))).toNat = a + v * 256 ^ i := by
  obtain ⟨n, rfl⟩ := Int.eq_ofNat_of_zero_le h0
  obtain ⟨m, rfl⟩ := Int.eq_ofNat_of_zero_le h2
  have hm : m < 256 := by omega
  have e8 : (8 * (i : Int)).toNat = 8 * i := by omega
  have hb : IntKind.u32.bits = 32 := rfl
  have p0 : (256 : Int) ^ i = 2 ^ (8 * i) := by rw [Int.pow_mul]; rfl
  have p1 : (256 : Nat) ^ i = 2 ^ (8 * i) := by rw [Nat.pow_mul]
  have hn : n < 2 ^ (8 * i) := by
    rw [p0] at h1
    exact_mod_cast h1
  have hP : 2 ^ (8 * i) ≤ 2 ^ 24 := Nat.pow_le_pow_right (by omega) (by omega)
  have hQ : m * 2 ^ (8 * i) ≤ 255 * 2 ^ (8 * i) := Nat.mul_le_mul_right _ (by omega)
  have hR : (2 : Nat) ^ 24 = 16777216 := rfl
  have hM : m * 2 ^ (8 * i) < 4294967296 := by omega
  have hS : n + m * 2 ^ (8 * i) < 4294967296 := by omega
  rw [e8, hb, Nat.min_eq_left (by omega), p0]
  have w1 : IntKind.u32.wrap ((m : Int) * 2 ^ (8 * i)) = ((m * 2 ^ (8 * i) : Nat) : Int) := by
    have h : (m : Int) * 2 ^ (8 * i) = ((m * 2 ^ (8 * i) : Nat) : Int) := by push_cast; rfl
    rw [h]; exact u32_id (Int.natCast_nonneg _) (Int.ofNat_lt.2 hM)
  rw [w1]
  have b1 : BitVec.ofInt 32 (n : Int) = BitVec.ofNat 32 n := rfl
  have b2 : BitVec.ofInt 32 ((m * 2 ^ (8 * i) : Nat) : Int) = BitVec.ofNat 32 (m * 2 ^ (8 * i)) := rfl
  rw [b1, b2, BitVec.toNat_or, BitVec.toNat_ofNat, BitVec.toNat_ofNat, Nat.mod_eq_of_lt (show n < 2 ^ 32 by omega), Nat.mod_eq_of_lt (show m * 2 ^ (8 * i) < 2 ^ 32 by omega)]
  have e : n ||| m * 2 ^ (8 * i) = n + m * 2 ^ (8 * i) := by
    rw [← Nat.shiftLeft_eq, Nat.or_comm, ← Nat.shiftLeft_add_eq_or_of_lt hn, Nat.add_comm]
  rw [e, u32_id (Int.natCast_nonneg _) (Int.ofNat_lt.2 hS)]
  push_cast; rfl
def clowF : FSpec := fun l es => match l, es with
  | [.ptr 0 0, .int .i64 k], [.cells 120 [.sl 1 1 0 n, .int .i64 a], .ints 5 .u8 b] =>
    some ([n = b.length, 0 ≤ a, a ≤ b.length, b.length ≤ 140737488355328, ∀ i, 0 ≤ b.getD i 0 ∧ b.getD i 0 ≤ 255], .tup [.int .u32 (if lowC k (cR b a).length = 0 then lowV ((cR b a).take k.toNat) else 0), .int .i64 (lowC k (cR b a).length)], [some (cutE n (a + if lowC k (cR b a).length = 0 then k else 0)), some (bE b)])
  | _, _ => none
theorem clow_g : GSOK Tryz.prog 91 (fG clowF) := by
  refine fok (S := []) (G := glook [(53, fG takeF)]) pok_nil (gl_cons take_g gl_nil) ⟨Tryz.func91, by kernel_rfl, by kernel_rfl, by kernel_rfl⟩ fun l es obs v es' h ho => ?_
  (unfold clowF at h; split at h; rotate_left; (focus (cases h)); rename_i k n a b; simp only [Option.some.injEq, Prod.mk.injEq] at h; obtain ⟨rfl, rfl, rfl⟩ := h; simp only [List.mem_cons, List.not_mem_nil, or_false, forall_eq_or_imp, forall_eq, false_implies, implies_true] at ho)
  obtain ⟨rfl, ho1, ho2, ho3, ho4⟩ := ho
  refine ⟨Nat.le_of_ble_eq_true rfl, ?_⟩
  have el : (cR b a).length = b.length - a.toNat := by simp
  by_cases k1 : k < 1
  · have e : lowC k (cR b a).length = 10 := if_pos (Or.inl k1)
    rw [e]
    (repeat' (first | (refine xI (fun hfk => ?_) (fun hfk => ?_) <;> ((try (first | replace hfk := oT hfk | replace hfk := oF hfk | simp only [oD, ne_eq, reduceCtorEq] at hfk)); (try exact oX))) | refine And.intro oZ ?_ | exact True.intro | (show _ = _; first | exact oY | exact rfl) | exact oW | (apply And.intro)))
    refine ⟨[some 0, some 1], ?_⟩
    (repeat' (first | (refine xI (fun hfk => ?_) (fun hfk => ?_) <;> ((try (first | replace hfk := oT hfk | replace hfk := oF hfk | simp only [oD, ne_eq, reduceCtorEq] at hfk)); (try exact oX))) | refine And.intro oZ ?_ | exact True.intro | (show _ = _; first | exact oY | (first | rfl | (show (_ : Int) = _; omega); done) | exact rfl) | exact oW | (apply And.intro)))
  by_cases k2 : 4 < k
  · have e : lowC k (cR b a).length = 10 := if_pos (Or.inr k2)
    rw [e]
    (repeat' (first | (refine xI (fun hfk => ?_) (fun hfk => ?_) <;> ((try (first | replace hfk := oT hfk | replace hfk := oF hfk | simp only [oD, ne_eq, reduceCtorEq] at hfk)); (try exact oX))) | refine And.intro oZ ?_ | exact True.intro | (show _ = _; first | exact oY | exact rfl) | exact oW | (apply And.intro)))
    refine ⟨[some 0, some 1], ?_⟩
    (repeat' (first | (refine xI (fun hfk => ?_) (fun hfk => ?_) <;> ((try (first | replace hfk := oT hfk | replace hfk := oF hfk | simp only [oD, ne_eq, reduceCtorEq] at hfk)); (try exact oX))) | refine And.intro oZ ?_ | exact True.intro | (show _ = _; first | exact oY | (first | rfl | (show (_ : Int) = _; omega); done) | exact rfl) | exact oW | (apply And.intro)))
  by_cases k3 : ((cR b a).length : Int) < k
  · have e : lowC k (cR b a).length = 20 := by unfold lowC; rw [if_neg (by omega), if_pos k3]
    have t0 : takeC ((b.length : Int) - a) k = 20 := by unfold takeC; rw [if_neg (by omega), if_pos (by omega)]
    have t1 : takeL (cR b a) k = [] := by unfold takeL takeC; rw [if_neg (by omega : ¬ k < 0), if_pos k3, if_neg (by decide)]
    have t2 : ((takeL (cR b a) k).length : Int) = 0 := by rw [t1]; rfl
    rw [e]
    (repeat' (first | (refine xI (fun hfk => ?_) (fun hfk => ?_) <;> ((try (first | replace hfk := oT hfk | replace hfk := oF hfk | simp only [oD, ne_eq, reduceCtorEq] at hfk)); (try exact oX))) | refine And.intro oZ ?_ | exact True.intro | (show _ = _; first | exact oY | exact rfl) | exact oW | (apply And.intro)))
    (refine ⟨[0, 1], ⟨by kernel_rfl⟩, ?_⟩)
    (repeat' (first | (refine xI (fun hfk => ?_) (fun hfk => ?_) <;> ((try (first | replace hfk := oT hfk | replace hfk := oF hfk | simp only [oD, ne_eq, reduceCtorEq] at hfk)); (try exact oX))) | refine And.intro oZ ?_ | exact True.intro | (show _ = _; first | exact oY | exact rfl) | exact oW | (apply And.intro)))
    refine ⟨[some 0, some 1], ?_⟩
    (repeat' (first | (refine xI (fun hfk => ?_) (fun hfk => ?_) <;> ((try (first | replace hfk := oT hfk | replace hfk := oF hfk | simp only [oD, ne_eq, reduceCtorEq] at hfk)); (try exact oX))) | refine And.intro oZ ?_ | exact True.intro | (show _ = _; first | exact oY | (first | rfl | (show (_ : Int) = _; omega); done) | exact rfl) | exact oW | (apply And.intro)))
  have e : lowC k (cR b a).length = 0 := by unfold lowC; rw [if_neg (by omega), if_neg k3]
  have t0 : takeC ((b.length : Int) - a) k = 0 := by unfold takeC; rw [if_neg (by omega), if_neg (by omega)]
  have t1 : takeL (cR b a) k = (cR b a).take k.toNat := by unfold takeL takeC; rw [if_neg (by omega : ¬ k < 0), if_neg k3, if_pos rfl]
  obtain ⟨L, hL⟩ : ∃ L, takeL (cR b a) k = L := ⟨_, rfl⟩
  have hLl : L.length = k.toNat := by rw [← hL, t1, List.length_take]; omega
  have hLi : (L.length : Int) = k := by omega
  have hLe : (takeL (cR b a) k).length = L.length := congrArg List.length hL
  have hLf : ((takeL (cR b a) k).length : Int) = L.length := by rw [hLe]
  have hM : ∀ j, 0 ≤ L.getD j 0 ∧ L.getD j 0 ≤ 255 := by
    intro j
    rw [← hL, t1]
    by_cases hj : j < k.toNat
    · have := cR_get (b := b) (a := a) (i := j) (by omega)
      rw [take_getD hj, ← this]; exact ho4 _
    · have : ((cR b a).take k.toNat).length ≤ j := by rw [List.length_take]; omega
      rw [List.getD, List.getElem?_eq_none this]; exact ⟨Int.le_refl _, by decide⟩
  have hMm : ∀ x ∈ L, 0 ≤ x ∧ x ≤ 255 := fun x hx => by
    obtain ⟨j, hj, rfl⟩ := List.getElem_of_mem hx
    have := hM j
    rwa [List.getD, List.getElem?_eq_getElem hj] at this
  rw [e, if_pos rfl, if_pos rfl, ← t1, hL]
  (repeat' (first | (refine xI (fun hfk => ?_) (fun hfk => ?_) <;> ((try (first | replace hfk := oT hfk | replace hfk := oF hfk | simp only [oD, ne_eq, reduceCtorEq] at hfk)); (try exact oX))) | refine And.intro oZ ?_ | exact True.intro | (show _ = _; first | exact oY | exact rfl) | exact oW | (apply And.intro)))
  (refine ⟨[0, 1], ⟨by kernel_rfl⟩, ?_⟩)
  (repeat' (first | (refine xI (fun hfk => ?_) (fun hfk => ?_) <;> ((try (first | replace hfk := oT hfk | replace hfk := oF hfk | simp only [oD, ne_eq, reduceCtorEq] at hfk)); (try exact oX))) | refine And.intro oZ ?_ | exact True.intro | (show _ = _; first | exact oY | exact rfl) | exact oW | (apply And.intro)))
  refine ⟨Nat, fun i => [(0, .ptr 0 0), (1, .int .i64 k), (8, .int .u32 (lowV (L.take i))), (26, .sl 2 1 0 L.length), (27, .int .i64 (L.length : Int)), (28, .int .i64 (i : Int))],
    fun i => ⟨3, [(0, some (cutE b.length (a + k))), (1, some (bE b)), (2, some (bE L))]⟩,
    fun i => i ≤ L.length, fun i => L.length - i, ⟨0, [some 0, some 1, some 2], Nat.zero_le _, ?_⟩, fun i hi => ?_⟩
  · (repeat' (first | (refine And.intro ?_ ?_) | exact True.intro | (show _ = _; with_reducible rfl) | exact Chk.mk (by kernel_rfl)))
    all_goals first | exact hL | exact hLe | exact hLf | rfl | (show (_ : Int) = _; omega)
  have hi : i ≤ L.length := hi
  by_cases hlt : i < L.length
  · have ri : rngI .i64 ((i : Int) + 1) := rng64 (by omega) (by omega)
    have r8 : rngI .i64 (8 * (i : Int)) := rng64 (by omega) (by omega)
    have gm := hM (0 + (i : Int).toNat)
    have gi := hM i
    obtain ⟨a0, a1⟩ := lowV_bd (l := L.take i) fun x hx => hMm x (List.mem_of_mem_take hx)
    rw [List.length_take, Nat.min_eq_left (by omega)] at a1
    have w8 : IntKind.u64.wrap (8 * (i : Int)) = 8 * (i : Int) := w64 (by omega) (by omega)
    have wv : IntKind.u32.wrap (L.getD (0 + (i : Int).toNat) 0) = L.getD i 0 := by
      rw [show 0 + (i : Int).toNat = i by omega]; exact u32_id (by omega) (by omega)
    have st : IntKind.u32.wrap (BitVec.ofInt IntKind.u32.bits (lowV (L.take i)) ||| BitVec.ofInt IntKind.u32.bits (IntKind.u32.wrap (IntKind.u32.wrap (L.getD (0 + (i : Int).toNat) 0) * 2 ^ min (IntKind.u64.wrap (8 * (i : Int))).toNat IntKind.u32.bits))).toNat = lowV (L.take (i + 1)) := by
      rw [w8, wv, or_put (by omega) a0 a1 gi.1 gi.2, take_succ' hlt, lowV_snoc, List.length_take, Nat.min_eq_left (by omega)]
    have sh : 0 ≤ IntKind.u64.wrap (8 * (i : Int)) := by rw [w8]; omega
    (repeat' (first | (refine xI (fun hfk => ?_) (fun hfk => ?_) <;> ((try (first | replace hfk := oT hfk | replace hfk := oF hfk | simp only [oD, ne_eq, reduceCtorEq] at hfk)); (try exact oX))) | refine And.intro oZ ?_ | exact True.intro | (show _ = _; first | exact oY | exact rfl) | exact oW | (apply And.intro)))
    (refine ⟨i + 1, [some 0, some 1, some 2], ?_, ?mu, ?_⟩; (case mu => ((try dsimp only); omega)))
    · exact hlt
    (repeat' (first | (refine And.intro ?_ ?_) | exact True.intro | (show _ = _; with_reducible rfl) | exact Chk.mk (by kernel_rfl)))
    all_goals first | rfl | exact st | (show (_ : Int) = _; omega)
  · have eL : lowV (L.take i) = lowV L := by rw [List.take_of_length_le (by omega)]
    (repeat' (first | (refine xI (fun hfk => ?_) (fun hfk => ?_) <;> ((try (first | replace hfk := oT hfk | replace hfk := oF hfk | simp only [oD, ne_eq, reduceCtorEq] at hfk)); (try exact oX))) | refine And.intro oZ ?_ | exact True.intro | (show _ = _; first | exact oY | exact rfl) | exact oW | (apply And.intro)))
    refine ⟨[some 0, some 1], ?_⟩
    (repeat' (first | (refine xI (fun hfk => ?_) (fun hfk => ?_) <;> ((try (first | replace hfk := oT hfk | replace hfk := oF hfk | simp only [oD, ne_eq, reduceCtorEq] at hfk)); (try exact oX))) | refine And.intro oZ ?_ | exact True.intro | (show _ = _; first | exact oY | (first | exact eL | rfl | (show (_ : Int) = _; omega); done) | exact rfl) | exact oW | (apply And.intro)))
end Go.Proofs.YtljdahepmmgfeaaGreatDoor
namespace Go.Proofs.YtljdahepmmgfeaaGreatDoor
open Go Go.RowKit
set_option maxHeartbeats 4000000
theorem low_rng {b : List Int} (hb : ∀ i, 0 ≤ b.getD i 0 ∧ b.getD i 0 ≤ 255) {n : Int} (hn : n ≤ 4) : 0 ≤ lowV (b.take n.toNat) ∧ lowV (b.take n.toNat) < 4294967296 := by
  have hm : ∀ x ∈ b.take n.toNat, 0 ≤ x ∧ x ≤ 255 := fun x hx => by
    obtain ⟨j, hj, rfl⟩ := List.getElem_of_mem (List.mem_of_mem_take hx)
    have := hb j
    rwa [List.getD, List.getElem?_eq_getElem hj] at this
  obtain ⟨h1, h2⟩ := lowV_bd hm
  have := p256 (L := (b.take n.toNat).length) (by rw [List.length_take]; omega)
  omega
end Go.Proofs.YtljdahepmmgfeaaGreatDoor
namespace Go.Proofs.YtljdahepmmgfeaaGreatDoor
open Go Go.RowKit
def sameE : List Nat → AH → AH → Prop
  | [], _, _ => True
  | i :: l, H, H' => H'.get i = H.get i ∧ sameE l H H'
abbrev RSpec : Type := List AV → AH → Option (List Prop × Nat × (Nat → List AV))
def KWof (cap : List AV) (H : AH) (R R' : PN) (O' : Nat → Prop) (W : World) : Prop :=
  (∀ (i : Nat) (x : Option Nat), R[i]? = some x → R'[i]? = some x) ∧ ∃ (F' Ob' : Nat → Prop) (W0' : World) (H' : AH), HRel F' Ob' W0' R' H' W ∧ O' = Wr F' R' H' ∧ sameE (nmsL cap) H H'
def RSOK (P : Program) (gf : FuncId) (rs : RSpec) : Prop := callable P gf ∧ ∀ cap H obs N items, rs cap H = some (obs, N, items) → (∀ p ∈ obs, p) → ∀ (F Ob : Nat → Prop) (W0 : World) (R : PN) (w : World) (lb : List Value), HRel F Ob W0 R H w → CRel R w (Wr F R H) cap lb →
  IterOK P gf lb.toArray N items (KWof cap H R)
def putl : List Tmp → List AV → Env → Env
  | t :: l, x :: xs, e => putl l xs ((t, x) :: e)
  | _, _, e => e
def atP (C : Ctx) (q : Nat) : Ctx := ⟨q, C.T, C.S, C.G, C.xs, C.X, C.cut, C.XD, C.XN, C.DX⟩
noncomputable def rangeVC (C : Ctx) (RT : FuncId → Option RSpec) (g : Operand) (ps : List Tmp) (assign body : Code) (e : Env) (H : AH) (K : KK) : Prop :=
  ∃ (E : Env) (H0 : AH) (σ : Names), Le C.p σ e H E H0 ∧
    match evA E g with
    | some (.fn gf 0 cap) => (match RT gf with
      | some rs => (match rs cap H0 with
        | some (obs, N, items) => obl obs ((∀ k, (items k).length = ps.length) ∧ ∃ (γ : Type) (A : Nat → γ → AH) (φ : Nat → γ → Prop),
            (∃ g0 σ, φ 0 g0 ∧ Le H0.nx σ [] H0 [] (A 0 g0)) ∧ (∀ k g, φ k g → sameE (nmsL cap) H0 (A k g)) ∧
            (∀ k, k < N → ∀ g, φ k g → vc (atP C H0.nx) assign (putl ps (items k) E) (A k g)
              ⟨fun e1 H1 => vc (atP C H0.nx) body e1 H1 ⟨fun _ H' => ∃ g' σ, φ (k + 1) g' ∧ Le H0.nx σ [] H' [] (A (k + 1) g'), fun i _ H' => K.ext i E H', fun _ H' => K.ret E H'⟩, fun _ _ _ => False, fun _ _ => False⟩) ∧
            (∀ g, φ N g → K.nor E (A N g)))
        | none => False)
      | none => False)
    | _ => False
noncomputable def vcR (C : Ctx) (RT : FuncId → Option RSpec) (c : Code) : Env → AH → KK → Prop :=
  Code.rec (motive := fun _ => Env → AH → KK → Prop)
    (fun e H K => K.nor e H)
    (fun id ops draw e H K => vcRegion C ops.toList draw e H (cutK C id K.nor))
    (fun _ _ va vb e H K => va e H ⟨fun e' H' => vb e' H' K, K.ext, K.ret⟩)
    (fun c _ _ vx vy e H K => match evA e c with
      | some .tru => vx e H K
      | some .fls => vy e H K
      | some (.bool b) => (b = true → vx e H K) ∧ (b = false → vy e H K)
      | _ => False)
    (fun id _ vb e H K => vb e H ⟨K.nor, fun i e' H' => bif Nat.beq i id then K.nor e' H' else K.ext i e' H', K.ret⟩)
    (fun _ vb e H K => LoopVC C.p e H fun e' H' K' => vb e' H' ⟨K', K.ext, K.ret⟩)
    (fun g ps assign body _ _ e H K => rangeVC C RT g ps.toList assign body e H K)
    (fun id e H K => K.ext id e H)
    (fun _ _ _ _ _ => False)
    (fun _ _ _ _ => False)
    (fun _ _ _ _ => False)
    (fun e H K => K.ret e H)
    (fun _ _ _ _ => False) c
noncomputable def vcFnR (C : Ctx) (RT : FuncId → Option RSpec) (fn : Func) (args : List AV) (H : AH) (K : AV → AH → Prop) : Prop :=
  match fn.body with
  | some c => vcR C RT c (args0 0 args) H ⟨fun e H => resA C.T fn e H K, fun _ _ _ => False, fun e H => resA C.T fn e H K⟩
  | none => False
def rgB (n : Nat) : Code → Bool
  | .rangeFunc _ ps assign body => ps.toList.all (fun t => Nat.blt t n) && dstB n assign && dstB n body && flatC assign && flatC body
  | .seq a b | .cond _ a b => rgB n a && rgB n b
  | .block _ c | .loop c => rgB n c
  | _ => true
section
variable {P : Program} {C : Ctx} {RT : FuncId → Option RSpec} {R : PN} {w : World} {F Ob : Nat → Prop} {W0 : World} {A : PN} {H H' : AH} {dz : List Deferred} {n : Nat} {O : Nat → Prop} {σ : Names}
theorem erel_params : ∀ (l : List Tmp) (xs : List AV) (vs : List Value) (e : Env) (tmps : Array Value), ERel R w O e tmps → CRel R w O xs vs → (∀ t ∈ l, t < tmps.size) →
    ERel R w O (putl l xs e) ((l.zip vs).foldl (fun t p => t.setIfInBounds p.1 p.2) tmps)
  | [], xs, vs, e, tmps, h, _, _ => by cases xs <;> simpa [putl] using h
  | t :: l, [], vs, e, tmps, h, hc, _ => by
    have := hc.1
    cases vs with
    | nil => simpa [putl] using h
    | cons v vs => simp at this
  | t :: l, x :: xs, vs, e, tmps, h, hc, ht => by
    cases vs with
    | nil => have := hc.1; simp at this
    | cons v vs =>
      simp only [putl, List.zip_cons_cons, List.foldl_cons]
      refine erel_params l xs vs _ _ (fun s y hy => ?_) ⟨by have := hc.1; simpa using this, fun j a b ha hb => hc.2 (j + 1) a b (by simpa using ha) (by simpa using hb)⟩ (fun s hs => by rw [Array.size_setIfInBounds]; exact ht s (by simp [hs]))
      rw [lk_cons] at hy
      have hlt := ht t (by simp)
      split at hy
      · rename_i e1
        subst e1
        cases hy
        refine ⟨by rw [Array.size_setIfInBounds]; exact hlt, ?_⟩
        have : (tmps.setIfInBounds t v).getD t undef = v := by simp [Array.getD_eq_getD_getElem?, hlt]
        rw [this]
        exact hc.2 0 x v rfl rfl
      · rename_i e1
        obtain ⟨k1, k2⟩ := h s y hy
        refine ⟨by rw [Array.size_setIfInBounds]; exact k1, ?_⟩
        have : (tmps.setIfInBounds t v).getD s undef = tmps.getD s undef := by
          simp only [Array.getD_eq_getD_getElem?]
          rw [Array.getElem?_setIfInBounds_ne e1]
        rw [this]
        exact k2
theorem fold_size : ∀ (l : List (Tmp × Value)) (tmps : Array Value), (l.foldl (fun t p => t.setIfInBounds p.1 p.2) tmps).size = tmps.size
  | [], _ => rfl
  | p :: l, tmps => by rw [List.foldl_cons, fold_size l, Array.size_setIfInBounds]
def mark (D : Nat) : Deferred := { target := .collected D, args := #[] }
def Marks (W0 W1 : World) (Ob' : Nat → Prop) (dz : List Deferred) : Prop := ∃ Ds : List Nat, dz = Ds.map mark ∧ Ds.Nodup ∧ ∀ D ∈ Ds, W0.heap.size ≤ D ∧ W1.heap[D]? = some (.deferred (some [])) ∧ ¬ Ob' D
inductive StB (F Ob : Nat → Prop) (W0 : World) (A : PN) (n : Nat) (e : Env) (H : AH) (a : Act) (w : World) : Prop
  | mk (Ob' : Nat → Prop) (W1 : World) (dz : List Deferred) (hm : Marks W0 W1 Ob' dz) (hx : Ext Ob W0 W1) (ho : ∀ b, Ob' b → Ob b ∨ W0.heap.size ≤ b) (hf : FB F Ob W0) (hs : St F Ob' W1 A dz n e H a w) : StB F Ob W0 A n e H a w
theorem toBase {Ob' : Nat → Prop} {W1 : World} (hx : Ext Ob W0 W1) (ho : ∀ b, Ob' b → Ob b ∨ W0.heap.size ≤ b) (hf : FB F Ob W0) (k : HRel F Ob' W1 R H w) : HRel F Ob W0 R H w :=
  ⟨k.len, hx.trans k.ext (fun x h1 h2 => (ho x h2).resolve_right (Nat.not_le.2 h1)), hf, fun b hb => (k.own b hb).elim (ho b) (fun g => .inr (Nat.le_trans hx.size g)), k.ent, k.dis⟩
theorem Le.soundB {p : Nat} (hp : ∀ (i : Nat) (x : Option Nat), A[i]? = some x → i < p) {e e' : Env} {a : Act} (h : Le p σ e H e' H') (hS : StB F Ob W0 A n e H a w) : StB F Ob W0 A n e' H' a w := by
  obtain ⟨Ob', W1, dz, hm, hx, ho, hf, hS⟩ := hS
  exact .mk Ob' W1 dz hm hx ho hf (h.sound hp hS)
theorem cok_at (hC : COK P C) (q : Nat) : COK P (atP C q) := ⟨hC.T, hC.S, hC.G, hC.D, ⟨hC.Y.congr, hC.Y.out⟩⟩
theorem range_sound (hC : COK P C) (hRT : ∀ g rs, RT g = some rs → RSOK P g rs) (hp : ∀ (i : Nat) (x : Option Nat), A[i]? = some x → i < C.p) (hmo : P.follows .mixedOrders = true) {g : Operand} {ps : Array Tmp} {assign body : Code} {K : KK} {Q : Exit → Act → World → Prop}
    (h1 : ∀ e H a w, K.nor e H → StB F Ob W0 A n e H a w → Q .normal a w) (h2 : ∀ i e H a w, K.ext i e H → StB F Ob W0 A n e H a w → Q (.exit i) a w) (h3 : ∀ e H a w, K.ret e H → StB F Ob W0 A n e H a w → Q .ret a w)
    (hr : rgB n (.rangeFunc g ps assign body) = true) {e : Env} {a : Act} (h : rangeVC C RT g ps.toList assign body e H K) (hS : StB F Ob W0 A n e H a w) : (Code.rangeFunc g ps assign body).wp P Q a w := by
  obtain ⟨Ob', W1, dz, hm, hx, ho, hf, hS⟩ := hS
  obtain ⟨E, H0, σ, hle, h⟩ := h
  obtain ⟨R0, hA, g1, g2, g3, g4⟩ := hle.sound hp hS
  clear hS hle
  simp only [rgB, Bool.and_eq_true] at hr
  obtain ⟨⟨⟨⟨r1, r2⟩, r3⟩, r4⟩, r5⟩ := hr
  split at h
  rotate_left
  · exact h.elim
  rename_i gf cap hg
  split at h
  rotate_left
  · exact h.elim
  rename_i rs hrs
  split at h
  rotate_left
  · exact h.elim
  rename_i obs N items hit
  obtain ⟨hob, hlen, γ, AA, φ, ⟨g0, σ0, hφ0, hle0⟩, hsame, hround, hend⟩ := obl_inv h
  obtain ⟨hcall, hrs'⟩ := hRT gf rs hrs
  have hrep := evA_rep g2 hg
  generalize hv : a.eval g = v at hrep
  obtain ⟨vs, rfl, hc⟩ : ∃ vs : List Value, v = .func (.func gf) #[] vs.toArray ∧ CRel R0 w (Wr F R0 H0) cap vs := by
    cases hrep with
    | fn _ _ _ vs hl hvs => exact ⟨vs, rfl, hl, hvs⟩
  have hiter := hrs' cap H0 obs N items hit hob F Ob' W1 R0 w vs g1 hc
  have hp' : ∀ (i : Nat) (x : Option Nat), R0[i]? = some x → i < H0.nx := fun i x hi => by
    rcases Nat.lt_or_ge i H0.nx with k | k
    · exact k
    · rw [g1.len i k] at hi; cases hi
  have base : ∀ {R' : PN} {H' : AH} {W : World}, HRel F (Own R0 H0) w R' H' W → HRel F Ob W0 R' H' W := fun k => toBase hx ho hf (g1.back k)
  -- the state behind the loop
  have behind : ∀ {D : Nat} {R' : PN} {H' : AH} {W : World}, w.heap.size ≤ D → (∀ (i : Nat) (x : Option Nat), R0[i]? = some x → R'[i]? = some x) → HRel F (Own R0 H0) w R' H' W → W.heap[D]? = some (.deferred (some [])) →
      StB F Ob W0 A n E H' { a with defers := { target := .collected D, args := #[] } :: a.defers } W := by
    intro D R' H' W hD hRR hH hdef
    refine .mk (Own R' H') W (mark D :: dz) ?_ (base hH).ext (base hH).own hf (.mk R' (fun i x hi => hRR i x (hA i x hi)) (base hH).rebase (g2.later g1 hH hRR) (by rw [← g3]; rfl) g4)
    obtain ⟨Ds, rfl, hnd, hDs⟩ := hm
    refine ⟨D :: Ds, rfl, List.nodup_cons.2 ⟨fun hmem => ?_, hnd⟩, fun D' hD' => ?_⟩
    · have k1 := (Array.getElem?_eq_some_iff.1 (hDs D hmem).2.1).1
      have k2 := g1.ext.size
      omega
    · rcases List.mem_cons.1 hD' with rfl | hD'
      · refine ⟨Nat.le_trans (Nat.le_trans hx.size g1.ext.size) hD, hdef, fun k => hH.own_nc k ⟨_, hdef, rfl⟩⟩
      · obtain ⟨k1, k2, k3⟩ := hDs D' hD'
        have k4 : W.heap[D']? = some (.deferred (some [])) := ((g1.back hH).ext.blk D' (Array.getElem?_eq_some_iff.1 k2).1 k3).trans k2
        exact ⟨k1, k4, fun k => hH.own_nc k ⟨_, k4, rfl⟩⟩
  refine wp_rangeIx (lb := vs.toArray) (N := N) hv (enters_callable hcall) hiter (fun k => by have := hlen k; simp at this; exact this)
    (fun k R' O' W => ∃ g, φ k g ∧ (∀ (i : Nat) (x : Option Nat), R0[i]? = some x → R'[i]? = some x) ∧ HRel F (Own R0 H0) w R' (AA k g) W ∧ O' = Wr F R' (AA k g))
    (fun c W => ∃ R' H', (∀ (i : Nat) (x : Option Nat), R0[i]? = some x → R'[i]? = some x) ∧ HRel F (Own R0 H0) w R' H' W ∧ (match c with | .ret => K.ret E H' | .exit i => K.ext i E H' | _ => False))
    (fun k R' O' W W' ⟨g, q1, q2, q3, q4⟩ hx => ⟨g, q1, q2, q3.monoN hx, q4⟩) (fun c W W' ⟨R', H', q1, q2, q3⟩ hx => ⟨R', H', q1, q2.monoN hx, q3⟩)
    (fun k R' O' W ⟨g, q1, q2, q3, q4⟩ => ⟨q2, F, Own R0 H0, w, AA k g, q3, q4, hsame k g q1⟩) ?_ ?_ ?_ ?_
  · obtain ⟨R', q1, q2, _, _, _⟩ := Le.sound (A := R0) hp' hle0 (St.mk (F := F) (Ob := Own R0 H0) (W0 := w) (dz := dz) (n := n) (a := a) R0 (fun _ _ k => k) g1.rebase (fun t v k => by cases k) g3 g4)
    exact ⟨R', _, g0, hφ0, q1, q2, rfl⟩
  · intro l k R' O' W args K' hk ⟨gg, hφ, hRR, hH, hO⟩ hitk hl hK
    subst hO
    have hEW := g2.later g1 hH hRR
    have hzip : (ps.zip args.toArray).foldl (fun t (p, v) => t.setIfInBounds p v) a.tmps = (ps.toList.zip args).foldl (fun t p => t.setIfInBounds p.1 p.2) a.tmps := by
      obtain ⟨ps⟩ := ps
      simp [List.zip_toArray]
    rw [hzip]
    have hS1 : St F (Own R' (AA k gg)) W R0 [] n (putl ps.toList (items k) E) (AA k gg) { tmps := (ps.toList.zip args).foldl (fun t p => t.setIfInBounds p.1 p.2) a.tmps, defers := [] } W :=
      .mk R' hRR hH.rebase (erel_params _ _ _ _ _ hEW hitk (fun t ht => by rw [g4]; exact Nat.le_of_ble_eq_true (List.all_eq_true.1 r1 t ht))) rfl (by rw [fold_size]; exact g4)
    refine vc_fl (C := atP C H0.nx) (lo := some l) (d := 0) (cok_at hC _) hp' hmo assign ⟨fun e1 H1 => vc (atP C H0.nx) body e1 H1 ⟨fun _ H' => ∃ g' σ, φ (k + 1) g' ∧ Le H0.nx σ [] H' [] (AA (k + 1) g'), fun i _ H' => K.ext i E H', fun _ H' => K.ret E H'⟩, fun _ _ _ => False, fun _ _ => False⟩ (Exit.then K' (fun _ _ _ => False)) (fun _ _ k => k) ?_ (fun i e H a w k _ => k.elim) (fun e H a w k _ => k.elim) r2 r4 _ _ _ _ (hround k hk gg hφ) hS1
    intro e1 H1 a1 w1 hv1 hS2
    obtain ⟨R1, hA1, k1, k2, k3, k4⟩ := hS2
    refine hK a1 w1 (hH.keeps k1) fun w2 hx2 => ?_
    have b2 : HRel F (Own R0 H0) w R1 H1 w2 := (hH.back k1).monoN hx2
    refine vc_fl (C := atP C H0.nx) (lo := some l) (d := 0) (cok_at hC _) hp' hmo body ⟨fun _ H' => ∃ g' σ, φ (k + 1) g' ∧ Le H0.nx σ [] H' [] (AA (k + 1) g'), fun i _ H' => K.ext i E H', fun _ H' => K.ret E H'⟩ _ (fun _ _ k => k) ?_ ?_ ?_ r3 r5 _ _ _ _ hv1 (.mk R1 hA1 b2.rebase (k2.monoN (hx2.weaken fun _ _ k => k.2)) k3 k4)
    · intro e3 H3 a3 w3 ⟨g', σ', hφ', hle'⟩ hS3
      obtain ⟨R3, hA3, m1, m2, m3, m4⟩ := hS3
      obtain ⟨R4, q1, q2, _, _, _⟩ := Le.sound (A := R0) hp' hle' (St.mk (a := a3) R3 hA3 m1 (fun t v k => by cases k) m3 m4)
      exact ⟨b2.keeps m1, R4, _, g', hφ', q1, b2.back q2, rfl⟩
    · intro i e3 H3 a3 w3 hk3 hS3
      obtain ⟨R3, hA3, m1, m2, m3, m4⟩ := hS3
      exact ⟨b2.keeps m1, R3, H3, hA3, b2.back m1, hk3⟩
    · intro e3 H3 a3 w3 hk3 hS3
      obtain ⟨R3, hA3, m1, m2, m3, m4⟩ := hS3
      exact ⟨b2.keeps m1, R3, H3, hA3, b2.back m1, hk3⟩
  · intro D R' O' W hD ⟨gg, hφ, hRR, hH, _⟩ hdef
    exact h1 _ _ _ _ (hend gg hφ) (behind hD hRR hH hdef)
  · intro D c W hD ⟨R', H', hRR, hH, hk⟩ hdef
    cases c with
    | ret => exact wp_ret (h3 _ _ _ _ hk (behind hD hRR hH hdef))
    | exit i => exact wp_exit (h2 _ _ _ _ _ hk (behind hD hRR hH hdef))
    | _ => exact hk.elim
theorem vcR_sound (hC : COK P C) (hRT : ∀ g rs, RT g = some rs → RSOK P g rs) (hp : ∀ (i : Nat) (x : Option Nat), A[i]? = some x → i < C.p) (hmo : P.follows .mixedOrders = true) : ∀ (c : Code) (K : KK) (Q : Exit → Act → World → Prop),
    (∀ e H a w, K.nor e H → StB F Ob W0 A n e H a w → Q .normal a w) → (∀ i e H a w, K.ext i e H → StB F Ob W0 A n e H a w → Q (.exit i) a w) → (∀ e H a w, K.ret e H → StB F Ob W0 A n e H a w → Q .ret a w) →
    dstB n c = true → rgB n c = true → ∀ (e : Env) (H : AH) (a : Act) (w : World), vcR C RT c e H K → StB F Ob W0 A n e H a w → c.wp P Q a w := by
  intro c
  induction c with
  | skip => intro K Q h1 h2 h3 hd hr e H a w h hS; exact wp_skip (h1 _ _ _ _ h hS)
  | region id ops draw =>
    intro K Q h1 h2 h3 hd hr e H a w h hS
    obtain ⟨Ob', W1, dz, hm, hx, ho, hf, hS⟩ := hS
    obtain ⟨ops⟩ := ops
    have hd' : dstsIn n ops := fun o ho t ht => by
      have hd := List.all_eq_true.1 (show ops.all (fun o => match o.dst with | some t => Nat.blt t n | none => true) = true from hd) o ho
      rw [ht] at hd
      exact Nat.le_of_ble_eq_true hd
    have h1' : ∀ e H a w, cutK C id K.nor e H → St F Ob' W1 A dz n e H a w → Q .normal a w := by
      intro e H a w hk hS
      unfold cutK at hk
      split at hk
      · obtain ⟨e', H', σ, hle, hk⟩ := hk
        exact h1 e' H' a w hk (.mk Ob' W1 dz hm hx ho hf (hle.sound hp hS))
      · split at hk
        · obtain ⟨ts, hk⟩ := hk
          obtain ⟨e1, H1, ⟨e', H', σ, hle, hk⟩, hS⟩ := frzGo_sound ts hk hS
          exact h1 e' H' a w hk (.mk Ob' W1 dz hm hx ho hf (hle.sound hp hS))
        · exact h1 e H a w hk (.mk Ob' W1 dz hm hx ho hf hS)
    cases draw with
    | false => exact wp_region_list (vcOps_sound hC h1' ops e H a w hd' h hS)
    | true => exact wp_region_any hmo (vcDraw_sound hC hmo h1' hd' h hS)
  | seq x y ihx ihy =>
    intro K Q h1 h2 h3 hd hr e H a w h hS
    have hd' := Bool.and_eq_true_iff.1 hd
    have hr' := Bool.and_eq_true_iff.1 hr
    refine wp_seq (ihx ⟨fun e' H' => vcR C RT y e' H' K, K.ext, K.ret⟩ (Exit.then (y.wp P Q) Q) (fun e' H' a' w' h' hS' => ?_) (fun i e' H' a' w' h' hS' => h2 i e' H' a' w' h' hS') (fun e' H' a' w' h' hS' => h3 e' H' a' w' h' hS') hd'.1 hr'.1 e H a w h hS)
    exact ihy K Q h1 h2 h3 hd'.2 hr'.2 e' H' a' w' h' hS'
  | cond b x y ihx ihy =>
    intro K Q h1 h2 h3 hd hr e H a w h hS
    have hd' := Bool.and_eq_true_iff.1 hd
    have hr' := Bool.and_eq_true_iff.1 hr
    have hS0 := hS
    obtain ⟨Ob', W1, dz, hm, hx, ho, hf, R, hA, g1, g2, g3, g4⟩ := hS
    have h : (match evA e b with | some .tru => vcR C RT x e H K | some .fls => vcR C RT y e H K | some (.bool t) => (t = true → vcR C RT x e H K) ∧ (t = false → vcR C RT y e H K) | _ => False) := h
    split at h
    · rename_i hb
      have hr := evA_rep g2 hb
      generalize hv : a.eval b = v at hr
      cases hr
      exact wp_cond_true hv (ihx K Q h1 h2 h3 hd'.1 hr'.1 e H a w h hS0)
    · rename_i hb
      have hr := evA_rep g2 hb
      generalize hv : a.eval b = v at hr
      cases hr
      exact wp_cond_false hv (ihy K Q h1 h2 h3 hd'.2 hr'.2 e H a w h hS0)
    · rename_i t hb
      have hr := evA_rep g2 hb
      generalize hv : a.eval b = v at hr
      cases hr
      exact wp_cond_split hv (fun ht => ihx K Q h1 h2 h3 hd'.1 hr'.1 e H a w (h.1 ht) hS0) (fun ht => ihy K Q h1 h2 h3 hd'.2 hr'.2 e H a w (h.2 ht) hS0)
    · exact h.elim
  | block id x ih =>
    intro K Q h1 h2 h3 hd hr e H a w h hS
    refine wp_block (ih ⟨K.nor, fun i e' H' => bif Nat.beq i id then K.nor e' H' else K.ext i e' H', K.ret⟩ (Exit.inBlock id Q) (fun e' H' a' w' h' hS' => h1 e' H' a' w' h' hS') (fun i e' H' a' w' h' hS' => ?_) (fun e' H' a' w' h' hS' => h3 e' H' a' w' h' hS') hd hr e H a w h hS)
    simp only at h'
    simp only [Exit.inBlock]
    cases hb : Nat.beq i id
    · rw [hb] at h'
      have : ¬ i = id := fun e => by rw [beq_iff.2 e] at hb; cases hb
      rw [if_neg this]
      exact h2 i e' H' a' w' h' hS'
    · rw [hb] at h'
      rw [if_pos (beq_iff.1 hb)]
      exact h1 e' H' a' w' h' hS'
  | exit id => intro K Q h1 h2 h3 hd hr e H a w h hS; exact wp_exit (h2 _ _ _ _ _ h hS)
  | ret => intro K Q h1 h2 h3 hd hr e H a w h hS; exact wp_ret (h3 _ _ _ _ h hS)
  | rangeFunc g ps assign body _ _ => intro K Q h1 h2 h3 hd hr e H a w h hS; exact range_sound hC hRT hp hmo h1 h2 h3 hr h hS
  | loop x ih =>
    intro K Q h1 h2 h3 hd hr e H a w h hS
    obtain ⟨γ, E, AA, φ, μ, ⟨g, σ, hg, hle⟩, hround⟩ := h
    refine wp_loop_ghost (fun k a w => ∃ g, φ g ∧ μ g = k ∧ StB F Ob W0 A n (E g) (AA g) a w) (μ g) ⟨g, hg, rfl, Le.soundB hp hle hS⟩ ?_
    rintro k a w ⟨g, hg, rfl, hS⟩
    refine ih ⟨fun e' H' => ∃ g' σ, φ g' ∧ μ g' < μ g ∧ Le C.p σ e' H' (E g') (AA g'), K.ext, K.ret⟩ (Exit.then (fun a' w' => ∃ n', n' < μ g ∧ ∃ g, φ g ∧ μ g = n' ∧ StB F Ob W0 A n (E g) (AA g) a' w') Q) (fun e' H' a' w' h' hS' => ?_) (fun i e' H' a' w' h' hS' => h2 i e' H' a' w' h' hS') (fun e' H' a' w' h' hS' => h3 e' H' a' w' h' hS') hd hr (E g) (AA g) a w (hround g hg) hS
    obtain ⟨g', σ', hg', hlt, hle'⟩ := h'
    exact ⟨μ g', hlt, g', hg', rfl, Le.soundB hp hle' hS'⟩
  | _ => intro K Q h1 h2 h3 hd hr e H a w h hS; exact h.elim
theorem leaves {fn : Func} {tmps : Array Value} {RR : Ending → World → Prop} {e : Env} (post : ∀ w', HRel F Ob W0 R H w' → ERel R w' (Wr F R H) e tmps → ∃ v, (results fn tmps).run P w' = .ok v w' ∧ RR (.returned v) w') :
    ∀ (Ds : List Nat) (w : World), Ds.Nodup → (∀ D ∈ Ds, W0.heap.size ≤ D ∧ w.heap[D]? = some (.deferred (some []))) → HRel F Ob W0 R H w → ERel R w (Wr F R H) e tmps → LeavesInM Fence.wide 1 P fn tmps RR (Ds.map mark) .returning w
  | [], w, _, _, hH, hE => post w hH hE
  | D :: Ds, w, hnd, hD, hH, hE => by
    obtain ⟨k1, k2⟩ := hD D (by simp)
    have hx := ext_put (o' := .deferred none) k2 rfl
    refine ⟨by simp, .inl ⟨D, _, rfl, run_takeDeferred k2, leaves post Ds _ (List.nodup_cons.1 hnd).2 (fun D' hD' => ?_) (hH.monoN (hx.weaken fun b _ k => ⟨by omega, k.2⟩)) (hE.monoN (hx.weaken fun b _ k => k.2))⟩⟩
    obtain ⟨q1, q2⟩ := hD D' (by simp [hD'])
    exact ⟨q1, (World.putObj_heap_other (fun e => (List.nodup_cons.1 hnd).1 (by rw [← e]; exact hD'))).trans q2⟩
theorem snd_ofR (hC : COK P C) (hRT : ∀ g rs, RT g = some rs → RSOK P g rs) (hmo : P.follows .mixedOrders = true) {g : FuncId} {fn : Func} (hf : FnOK P g fn) (hr : (match fn.body with | some c => rgB fn.ntmps c | none => false) = true) {l : List AV} {K : AV → AH → Prop} (hl : l.length ≤ fn.ntmps) (h : vcFnR C RT fn l H K) : Snd P C.p g l H K := by
  intro F Ob W0 A R w cl hp hA hH hc
  have hd := hf.d
  cases hb : fn.body with
  | none => have := hf.b; rw [hb] at this; cases this
  | some body =>
    rw [hb] at hd hr
    unfold vcFnR at h
    rw [hb] at h
    simp only at h hd hr
    have post : ∀ e H a w, resA C.T fn e H K → StB F Ob W0 A fn.ntmps e H a w → LeavesInM Fence.wide 1 P fn a.tmps (fun en w' => ∃ R' v H' cv, K v H' ∧ en = .returned cv ∧ (∀ (i : Nat) (x : Option Nat), A[i]? = some x → R'[i]? = some x) ∧ HRel F Ob W0 R' H' w' ∧ Rep R' w' (Wr F R' H') v cv) a.defers .returning w := by
      rintro e H a w hr ⟨Ob', W1, dz, hm, hx, ho, hf, R, hA, g1, g2, g3, g4⟩
      obtain ⟨Ds, rfl, hnd, hDs⟩ := hm
      rw [g3]
      refine leaves (F := F) (Ob := Ob) (W0 := W0) (R := R) (H := H) (e := e) (fun w' k1 k2 => ?_) Ds w hnd (fun D hD => ?_) (toBase hx ho hf g1) g2
      · obtain ⟨v, cv, hk, hrun, hrep⟩ := resA_ok hC.T k1 k2 hr
        exact ⟨cv, hrun, R, v, H, cv, hk, rfl, hA, k1, hrep⟩
      · obtain ⟨q1, q2, q3⟩ := hDs D hD
        exact ⟨q1, (g1.ext.blk D (Array.getElem?_eq_some_iff.1 q2).1 q3).trans q2⟩
    refine (callsIn_wide (n := 1)).1 (callsIn_of_wp_marks hf.f hb trivial (wpIn_wide.2 (vcR_sound (F := F) (Ob := Ob) (W0 := W0) (A := A) (n := fn.ntmps) hC hRT hp hmo body ⟨fun e H => resA C.T fn e H K, fun _ _ _ => False, fun e H => resA C.T fn e H K⟩ _ (fun e H a w hr hS => post e H a w hr hS) (fun i e H a w hr hS => False.elim hr) (fun e H a w hr hS => post e H a w hr hS) hd hr _ _ _ _ h (.mk Ob W0 [] ⟨[], rfl, List.nodup_nil, by simp⟩ (Ext.refl _ _) (fun b k => .inl k) hH.fb (.mk R hA hH ?_ rfl ?_)))) rfl)
    · intro t y hy
      obtain ⟨_, h2⟩ := lk_args l 0 t y hy
      simp only [Nat.sub_zero] at h2
      obtain ⟨v, hv, hr⟩ := hc.get h2
      have hlt : t < cl.length := (List.getElem?_eq_some_iff.1 hv).1
      refine ⟨by simp; omega, ?_⟩
      have e : (cl.toArray ++ Array.replicate (fn.ntmps - cl.toArray.size) undef).getD t undef = v := by
        simp [Array.getD_eq_getD_getElem?, Array.getElem?_append, hlt]
        simpa [hlt] using hv
      rw [e]
      exact hr
    · have := hc.1
      simp
      omega
end
end Go.Proofs.YtljdahepmmgfeaaGreatDoor
namespace Go.Proofs.YtljdahepmmgfeaaGreatDoor
open Go Go.RowKit
attribute [local go_sem] Oper.semAt_some
section
variable {P : Program} {R R' : PN} {w W : World} {F Ob : Nat → Prop} {W0 : World} {H : AH} {O O' : Nat → Prop}
theorem kw_cells {cap : List AV} (h : KWof cap H R R' O' W) {i b : Nat} {t : TypeId} {l : List AV} (hi : H.get i = some (.cells t l)) (hm : i ∈ nmsL cap) (hR : R[i]? = some (some b)) :
    ∀ j x, l[j]? = some x → ∃ v, W.cell? ⟨b, j, none⟩ = some v ∧ v.oneCell' = true ∧ Rep R' W O' x v := by
  obtain ⟨hRR, F', Ob', W0', H', hH, rfl, hs⟩ := h
  have hi' : H'.get i = some (.cells t l) := by
    have key : ∀ l : List Nat, i ∈ l → sameE l H H' → H'.get i = H.get i := by
      intro l
      induction l with
      | nil => intro h; cases h
      | cons a l ih =>
        intro h ⟨k1, k2⟩
        rcases List.mem_cons.1 h with rfl | h
        · exact k1
        · exact ih h k2
    rw [key _ hm hs, hi]
  obtain ⟨b', h1, h2⟩ := hH.ent i _ hi'
  rw [hRR i _ hR] at h1
  cases h1
  obtain ⟨vs, fr, h3, h4, h5, h6⟩ := h2
  intro j x hj
  have hlt : j < vs.length := by rw [← h5]; exact (List.getElem?_eq_some_iff.1 hj).1
  obtain ⟨k1, k2⟩ := h6 j x vs[j] hj (by simp [hlt])
  exact ⟨vs[j], by simp [World.cell?, h3, hlt], k1, k2⟩
def Pieces (R : PN) (W : World) (O : Nat → Prop) (pc : Nat → Nat → AV) (m : Nat) (sv : Value) : Prop :=
  (m = 0 ∧ ∃ A c, sv = .slice A 0 c) ∨ ∃ b off c, sv = .slice (some ⟨b, off, none⟩) m c ∧ m ≤ c ∧ c ≤ maxLen ∧ ∀ lo hi, lo ≤ hi → hi ≤ m → Rep R W O (pc lo (hi - lo)) (.slice (some ⟨b, off + lo, none⟩) (hi - lo) (hi - lo))
theorem pieces_roi {k : IntKind} {l : List Int} {v : Value} (h : Rep R W O (.roi k l) v) : Pieces R W O (fun lo n => .roi k ((l.drop lo).take n)) l.length v := by
  cases h with
  | roinil => exact .inl ⟨rfl, none, 0, rfl⟩
  | roiz _ a c hc => exact .inl ⟨rfl, _, _, rfl⟩
  | roi _ _ b off c hn hc hO hb hcell =>
    refine .inr ⟨b, off, c, rfl, hn, hc, fun lo hi h1 h2 => ?_⟩
    have hl : ((l.drop lo).take (hi - lo)).length = hi - lo := by simp; omega
    have := Rep.roi (R := R) (w := W) (O := O) k ((l.drop lo).take (hi - lo)) b (off + lo) (hi - lo) (by omega) (by omega) hO hb (fun j x hj => by
      have hj1 : j < hi - lo := by have := (List.getElem?_eq_some_iff.1 hj).1; omega
      rw [List.getElem?_take_of_lt hj1, List.getElem?_drop] at hj
      rw [Nat.add_assoc]
      exact hcell _ x hj)
    rw [hl] at this
    exact this
theorem pieces_sl {i o m : Nat} {v : Value} (h : Rep R W O (.sl i 1 o m) v) : Pieces R W O (fun lo n => .sl i 1 (o + lo) n) m v := by
  cases h with
  | slnil _ _ _ h => exact .inl ⟨rfl, none, 0, rfl⟩
  | sl _ _ _ _ b c off s h hn hc ho hs hl =>
    by_cases hm : m = 0
    · subst hm; exact .inl ⟨rfl, _, _, rfl⟩
    · refine .inr ⟨b, off, c, rfl, hn, hc, fun lo hi h1 h2 => ?_⟩
      have := ho (by omega)
      exact .sl i 1 (o + lo) (hi - lo) b (hi - lo) (off + lo) s h (Nat.le_refl _) (by omega) (fun _ => by omega) hs (by omega)
end
set_option maxRecDepth 100000 in
set_option maxHeartbeats 4000000 in
theorem chunk1_in (l b1 b2 m : Nat) (n : Int) (hn : 1 ≤ n) (hm : (m : Int) + n ≤ 9223372036854775807) (pc : Nat → Nat → AV) (J : Nat → PN → (Nat → Prop) → World → Prop) (Jx : World → Prop) (d : Nat)
    (hq : ∀ k R O w w', J k R O w → Ext NoO w w' → J k R O w')
    (hkw : ∀ k R O W, J k R O W → ∃ sv, W.cell? ⟨b1, 0, none⟩ = some sv ∧ Pieces R W O pc m sv ∧ W.cell? ⟨b2, 0, none⟩ = some (.int .i64 n))
    (hY : ∀ k R O W (args : List Value), k * n.toNat < m → J k R O W → CRel R W O [pc (k * n.toNat) (min n.toNat (m - k * n.toNat))] args → YieldAt Fence.wide d Tryz.prog l args.toArray W fun e W' => (e = .returned (.bool true) ∧ ∃ R' O', J (k + 1) R' O' W') ∨ (e = .returned (.bool false) ∧ Jx W'))
    (W : World) (h0 : ∃ R O, J 0 R O W) :
    CallsIn Fence.wide (d + 1) Tryz.prog 118 #[.func (.yield l) #[] #[], .pointer (some ⟨b1, 0, none⟩), .pointer (some ⟨b2, 0, none⟩)] W fun e W' => (∃ v, e = .returned v) ∧ ((∃ k R O, m ≤ k * n.toNat ∧ (k = 0 ∨ (k - 1) * n.toNat < m) ∧ J k R O W') ∨ Jx W') := by
  refine callsIn_of_wp Tryz.func118 rfl trivial ?_ rfl
  simp only [Tryz.ntmps118, List.size_toArray, List.length_cons, List.length_nil, Nat.reduceAdd, Nat.reduceSub, Array.replicate_succ, Array.replicate_zero, List.push_toArray, List.append_toArray, List.nil_append, List.cons_append]
  obtain ⟨R0, O0, h0⟩ := h0
  gi_wp2
  gi_loopw [4] (fun i wr => ∃ (k : Nat) (R : PN) (O : Nat → Prop), (k = 0 ∨ (k - 1) * n.toNat < m) ∧ i = .int .i64 ((k * n.toNat : Nat) : Int) ∧ J k R O wr)
    (fun i _ => m + n.toNat - (intOf i).toNat)
  case atStart => exact ⟨0, R0, O0, .inl rfl, by simp, h0⟩
  case round =>
    obtain ⟨k, R, O, hk, rfl, hJ⟩ := hrel
    obtain ⟨sv, hc1, hpc, hc2⟩ := hkw k R O wr hJ
    generalize hK : k * n.toNat = K at *
    by_cases hlt : K < m
    · rcases hpc with ⟨rfl, _⟩ | ⟨b, off, c, rfl, hmc, hcm, hpc⟩
      · omega
      have hY' := hY k R O wr.drew
      rw [hK] at hY'
      by_cases hcase : n ≤ ((m - K : Nat) : Int)
      · obtain ⟨fn, tmps, assign, body, hy, hR⟩ := hY' [.slice (some ⟨b, off + K, none⟩) (((K : Int) + n).toNat - K) (((K : Int) + n).toNat - K)] hlt (hq _ _ _ _ _ hJ (Ext.drew _ _)) (by
          have e : min n.toNat (m - K) = ((K : Int) + n).toNat - K := by omega
          rw [e]
          exact crel_cons ((hpc K ((K : Int) + n).toNat (by omega) (by omega)).mono (fun _ _ k => k) (Ext.drew O _) (fun _ _ k => k)) crel_nil)
        gi_wp2
        gi_region
        all_goals gi_wp2
        all_goals first
          | (exfalso; omega)
          | skip
        refine hR.mono ?_
        rintro e W3 (⟨rfl, R', O', hJ3⟩ | ⟨rfl, hJx3⟩)
        · obtain ⟨sv', hc1', _, hc2'⟩ := hkw (k + 1) R' O' W3 hJ3
          gi_wp2
          go_roundw
          case rel =>
            refine ⟨k + 1, R', O', .inr (by rw [Nat.add_sub_cancel, hK]; exact hlt), ?_, hJ3⟩
            rw [Nat.add_mul, hK, Nat.one_mul]
            congr 1
            omega
          case measure => simp [intOf]; omega
        · gi_wp2
          refine ⟨rfl, _, results_none rfl _ _ _, ⟨_, rfl⟩, .inr hJx3⟩
      · obtain ⟨fn, tmps, assign, body, hy, hR⟩ := hY' [.slice (some ⟨b, off + K, none⟩) (m - K) (m - K)] hlt (hq _ _ _ _ _ hJ (Ext.drew _ _)) (by
          have e : min n.toNat (m - K) = m - K := by omega
          rw [e]
          exact crel_cons ((hpc K m (by omega) (by omega)).mono (fun _ _ k => k) (Ext.drew O _) (fun _ _ k => k)) crel_nil)
        gi_wp2
        gi_region
        all_goals gi_wp2
        all_goals first
          | (exfalso; omega)
          | skip
        refine hR.mono ?_
        rintro e W3 (⟨rfl, R', O', hJ3⟩ | ⟨rfl, hJx3⟩)
        · obtain ⟨sv', hc1', _, hc2'⟩ := hkw (k + 1) R' O' W3 hJ3
          gi_wp2
          go_roundw
          case rel =>
            refine ⟨k + 1, R', O', .inr (by rw [Nat.add_sub_cancel, hK]; exact hlt), ?_, hJ3⟩
            rw [Nat.add_mul, hK, Nat.one_mul]
            congr 1
            omega
          case measure => simp [intOf]; omega
        · gi_wp2
          refine ⟨rfl, _, results_none rfl _ _ _, ⟨_, rfl⟩, .inr hJx3⟩
    · rcases hpc with ⟨rfl, A, c, rfl⟩ | ⟨b, off, c, rfl, hmc, hcm, hpc⟩
      · gi_wp2
        exact ⟨rfl, _, results_none rfl _ _ _, ⟨_, rfl⟩, .inl ⟨k, R, O, by omega, by rw [hK] at *; exact hk, hJ⟩⟩
      · gi_wp2
        exact ⟨rfl, _, results_none rfl _ _ _, ⟨_, rfl⟩, .inl ⟨k, R, O, by omega, hk, hJ⟩⟩
theorem ceil_lt {k n m : Nat} (hn : 0 < n) (h : k * n < m) : k < (m + n - 1) / n := by
  have : k + 1 ≤ (m + n - 1) / n := (Nat.le_div_iff_mul_le hn).2 (by rw [Nat.add_mul]; omega)
  omega
theorem ceil_eq {k n m : Nat} (hn : 0 < n) (h1 : m ≤ k * n) (h2 : k = 0 ∨ (k - 1) * n < m) : k = (m + n - 1) / n := by
  have a : ¬ (k < (m + n - 1) / n) := fun h => by
    have := (Nat.le_div_iff_mul_le hn).1 (Nat.succ_le_of_lt h)
    rw [Nat.succ_mul] at this
    omega
  rcases h2 with rfl | h2
  · exact (Nat.eq_zero_of_not_pos a).symm
  · have := ceil_lt hn h2
    omega
theorem take_min (l : List Int) (n : Nat) : l.take (min n l.length) = l.take n := by
  rcases Nat.le_total n l.length with h | h
  · rw [Nat.min_eq_left h]
  · rw [Nat.min_eq_right h, List.take_of_length_le (Nat.le_refl _), List.take_of_length_le h]
def chunkRS : RSpec := fun cap H => match cap with
  | [.ptr i 0, .ptr j 0] => (match H.get i, H.get j with
    | some (.cells _ [.roi k l]), some (.cells _ [.int .i64 n]) => some ([1 ≤ n, (l.length : Int) + n ≤ 9223372036854775807], (l.length + n.toNat - 1) / n.toNat, fun q => [.roi k ((l.drop (q * n.toNat)).take n.toNat)])
    | some (.cells _ [.sl a 1 o m]), some (.cells _ [.int .i64 n]) => some ([1 ≤ n, (m : Int) + n ≤ 9223372036854775807], (m + n.toNat - 1) / n.toNat, fun q => [.sl a 1 (o + q * n.toNat) (min n.toNat (m - q * n.toNat))])
    | _, _ => none)
  | _ => none
theorem chunk_core {i j : Nat} {x : AV} {n : Int} {m : Nat} {pc : Nat → Nat → AV} {H : AH} {t1 t2 : TypeId} (hi : H.get i = some (.cells t1 [x])) (hj : H.get j = some (.cells t2 [.int .i64 n])) (hn : 1 ≤ n) (hm : (m : Int) + n ≤ 9223372036854775807)
    (hpc : ∀ (R : PN) (W : World) (O : Nat → Prop) (v : Value), Rep R W O x v → Pieces R W O pc m v) {R : PN} {w : World} {O : Nat → Prop} {lb : List Value} (hc : CRel R w O [.ptr i 0, .ptr j 0] lb) {items : Nat → List AV} (hit : ∀ q, items q = [pc (q * n.toNat) (min n.toNat (m - q * n.toNat))]) :
    IterOK Tryz.prog 118 lb.toArray ((m + n.toNat - 1) / n.toNat) items (KWof [.ptr i 0, .ptr j 0] H R) := by
  intro d l J Jx W hq hqx hkw hY h0
  have e1 := hc.1
  obtain ⟨v1, v2, rfl⟩ : ∃ v1 v2, lb = [v1, v2] := by match lb, e1 with | [a, b], _ => exact ⟨a, b, rfl⟩
  have r1 := hc.2 0 _ v1 rfl rfl
  have r2 := hc.2 1 _ v2 rfl rfl
  cases r1 with
  | ptr _ _ b1 hb1 =>
  cases r2 with
  | ptr _ _ b2 hb2 =>
  refine (chunk1_in l b1 b2 m n hn hm pc J Jx d hq (fun k R' O' W' hJ => ?_) (fun k R' O' W' args hk hJ ha => ?_) W h0).mono ?_
  · have kw := hkw k R' O' W' hJ
    obtain ⟨v, k1, k2, k3⟩ := kw_cells kw hi (by simp [nmsL, nms0]) hb1 0 x rfl
    obtain ⟨u, q1, q2, q3⟩ := kw_cells kw hj (by simp [nmsL, nms0]) hb2 0 (.int .i64 n) rfl
    cases q3
    exact ⟨v, k1, hpc _ _ _ _ k3, q1⟩
  · exact hY k R' O' W' args (ceil_lt (by omega) hk) hJ (by rw [hit]; exact ha)
  · rintro e W' ⟨hv, ⟨k, R', O', h1, h2, h3⟩ | h⟩
    · have := ceil_eq (by omega) h1 h2
      subst this
      exact ⟨hv, .inl ⟨R', O', h3⟩⟩
    · exact ⟨hv, .inr h⟩
theorem chunk_it : RSOK Tryz.prog 118 chunkRS := by
  refine ⟨⟨_, Tryz.func118, by kernel_rfl, by kernel_rfl⟩, fun cap H obs N items hs ho F Ob W0 R w lb hH hc => ?_⟩
  unfold chunkRS at hs
  split at hs
  · split at hs
    · rename_i hi hj
      simp only [Option.some.injEq, Prod.mk.injEq] at hs
      obtain ⟨rfl, rfl, rfl⟩ := hs
      refine chunk_core (pc := fun lo n => .roi _ ((List.drop lo _).take n)) hi hj (ho _ (by simp)) (ho _ (by simp)) (fun R W O v h => pieces_roi h) hc (fun q => ?_)
      rw [← List.length_drop, take_min]
    · rename_i hi hj
      simp only [Option.some.injEq, Prod.mk.injEq] at hs
      obtain ⟨rfl, rfl, rfl⟩ := hs
      exact chunk_core hi hj (ho _ (by simp)) (ho _ (by simp)) (fun R W O v h => pieces_sl h) hc (fun q => rfl)
    · cases hs
  · cases hs
end Go.Proofs.YtljdahepmmgfeaaGreatDoor
namespace Go.Proofs.YtljdahepmmgfeaaGreatDoor
open Go Go.RowKit
def rlook : List (FuncId × RSpec) → FuncId → Option RSpec
  | [], _ => none
  | (g, s) :: r, f => bif Nat.beq g f then some s else rlook r f
theorem rl_nil : ∀ g s, rlook [] g = some s → RSOK Tryz.prog g s := fun g s h => by cases h
theorem rl_cons {g : FuncId} {s : RSpec} {r : List (FuncId × RSpec)} (h : RSOK Tryz.prog g s) (k : ∀ g s, rlook r g = some s → RSOK Tryz.prog g s) : ∀ f t, rlook ((g, s) :: r) f = some t → RSOK Tryz.prog f t := fun f t ht => by
  unfold rlook at ht
  cases hb : Nat.beq g f
  · rw [hb] at ht; exact k f t ht
  · rw [hb] at ht
    cases ht
    have := beq_iff.1 hb
    subst this
    exact h
theorem fokR {S : List (FuncId × PSpec)} {G : FuncId → Option GSpec} {RT : FuncId → Option RSpec} (cuts : List Nat) (hS : POK Tryz.prog (slook S)) (hG : ∀ g s, G g = some s → GSOK Tryz.prog g s) (hRT : ∀ g s, RT g = some s → RSOK Tryz.prog g s) {g : FuncId} {fn : Func} (hf : FnOK Tryz.prog g fn) (hr : (match fn.body with | some c => rgB fn.ntmps c | none => false) = true) {FS : FSpec}
    (h : ∀ l es obs v es', FS l es = some (obs, v, es') → (∀ p ∈ obs, p) → l.length ≤ fn.ntmps ∧ vcFnR (mkK es.length S G cuts) RT fn l ⟨es.length, num 0 (es.map some)⟩ (RetF es.length v es')) : GSOK Tryz.prog g (fG FS) :=
  fok_snd hf fun l es obs v es' hF hob => by
    obtain ⟨h1, h2⟩ := h _ _ _ _ _ hF hob
    exact snd_ofR (mkK_ok hS hG) hRT mixed hf hr h1 h2
def chunkF : FSpec := fun l es => match l, es with
  | [.roi .u8 p, .int .i64 n], [] => some ([1 ≤ n], .fn 118 0 [.ptr 0 0, .ptr 1 0], [some (.cells 22 [.roi .u8 p]), some (.cells 3 [.int .i64 n])])
  | [.sl 0 1 o m, .int .i64 n], [.ints 5 .u8 p] => some ([1 ≤ n], .fn 118 0 [.ptr 1 0, .ptr 2 0], [some (.ints 5 .u8 p), some (.cells 22 [.sl 0 1 o m]), some (.cells 3 [.int .i64 n])])
  | _, _ => none
theorem chunk_g : GSOK Tryz.prog 93 (fG chunkF) := by
  refine fok (S := []) (G := noG) pok_nil noG_ok ⟨Tryz.func93, by kernel_rfl, by kernel_rfl, by kernel_rfl⟩ fun l es obs v es' h ho => ?_
  unfold chunkF at h
  split at h
  · rename_i p n
    simp only [Option.some.injEq, Prod.mk.injEq] at h
    obtain ⟨rfl, rfl, rfl⟩ := h
    simp only [List.mem_cons, List.not_mem_nil, or_false, forall_eq] at ho
    refine ⟨Nat.le_of_ble_eq_true rfl, ?_⟩
    (repeat' (first | (refine xI (fun hfk => ?_) (fun hfk => ?_) <;> ((try (first | replace hfk := oT hfk | replace hfk := oF hfk | simp only [oD, ne_eq, reduceCtorEq] at hfk)); (try exact oX))) | refine And.intro oZ ?_ | exact True.intro | (show _ = _; first | exact oY | exact rfl) | exact oW | (apply And.intro)))
    refine ⟨[some 0, some 1], ?_⟩
    (repeat' (first | (refine xI (fun hfk => ?_) (fun hfk => ?_) <;> ((try (first | replace hfk := oT hfk | replace hfk := oF hfk | simp only [oD, ne_eq, reduceCtorEq] at hfk)); (try exact oX))) | refine And.intro oZ ?_ | exact True.intro | (show _ = _; first | exact oY | exact rfl) | exact oW | (apply And.intro)))
  · rename_i o m n p
    simp only [Option.some.injEq, Prod.mk.injEq] at h
    obtain ⟨rfl, rfl, rfl⟩ := h
    simp only [List.mem_cons, List.not_mem_nil, or_false, forall_eq] at ho
    refine ⟨Nat.le_of_ble_eq_true rfl, ?_⟩
    (repeat' (first | (refine xI (fun hfk => ?_) (fun hfk => ?_) <;> ((try (first | replace hfk := oT hfk | replace hfk := oF hfk | simp only [oD, ne_eq, reduceCtorEq] at hfk)); (try exact oX))) | refine And.intro oZ ?_ | exact True.intro | (show _ = _; first | exact oY | exact rfl) | exact oW | (apply And.intro)))
    refine ⟨[some 0, some 1, some 2], ?_⟩
    (repeat' (first | (refine xI (fun hfk => ?_) (fun hfk => ?_) <;> ((try (first | replace hfk := oT hfk | replace hfk := oF hfk | simp only [oD, ne_eq, reduceCtorEq] at hfk)); (try exact oX))) | refine And.intro oZ ?_ | exact True.intro | (show _ = _; first | exact oY | exact rfl) | exact oW | (apply And.intro)))
  · cases h
def swapTo (L : List Int) (o c : Nat) : Nat → List Int
  | 0 => L
  | k + 1 => ((swapTo L o c k).set (o + k * c) ((swapTo L o c k).getD (o + k * c + 2) 0)).set (o + k * c + 2) ((swapTo L o c k).getD (o + k * c) 0)
theorem swapTo_len (L : List Int) (o c : Nat) : ∀ k, (swapTo L o c k).length = L.length
  | 0 => rfl
  | k + 1 => by simp [swapTo, swapTo_len L o c k]
theorem ceil_mul {w c : Nat} (hc : 0 < c) : (w * c + c - 1) / c = w := by
  rw [show w * c + c - 1 = (c - 1) + c * w by rw [Nat.mul_comm]; omega, Nat.add_mul_div_left _ _ hc, Nat.div_eq_of_lt (by omega), Nat.zero_add]
def turnF : FSpec := fun l es => match l, es with
  | [.sl 0 1 o m, .int .i64 c], [.ints 5 .u8 L] => some ([3 ≤ c, m = (m / c.toNat) * c.toNat, o + m ≤ L.length, (m : Int) + c ≤ 9223372036854775807], .tup [], [some (.ints 5 .u8 (swapTo L o c.toNat (m / c.toNat)))])
  | _, _ => none
theorem turn_g : GSOK Tryz.prog 60 (fG turnF) := by
  refine fokR (S := []) (G := glook [(93, fG chunkF)]) (RT := rlook [(118, chunkRS)]) [] pok_nil (gl_cons chunk_g gl_nil) (rl_cons chunk_it rl_nil) ⟨Tryz.func60, by kernel_rfl, by kernel_rfl, by kernel_rfl⟩ (by kernel_rfl) fun l es obs v es' h ho => ?_
  (unfold turnF at h; split at h; rotate_left; (focus (cases h)); rename_i o m c L; simp only [Option.some.injEq, Prod.mk.injEq] at h; obtain ⟨rfl, rfl, rfl⟩ := h; simp only [List.mem_cons, List.not_mem_nil, or_false, forall_eq_or_imp, forall_eq, false_implies, implies_true] at ho)
  obtain ⟨ho1, ho2, ho3, ho4⟩ := ho
  refine ⟨Nat.le_of_ble_eq_true rfl, ?_⟩
  (repeat' (first | (refine xI (fun hfk => ?_) (fun hfk => ?_) <;> ((try (first | replace hfk := oT hfk | replace hfk := oF hfk | simp only [oD, ne_eq, reduceCtorEq] at hfk)); (try exact oX))) | refine And.intro oZ ?_ | exact True.intro | (show _ = _; first | exact oY | exact rfl) | exact oW | (apply And.intro)))
  (refine ⟨[0], ⟨by kernel_rfl⟩, ?_⟩)
  (repeat' (first | (refine xI (fun hfk => ?_) (fun hfk => ?_) <;> ((try (first | replace hfk := oT hfk | replace hfk := oF hfk | simp only [oD, ne_eq, reduceCtorEq] at hfk)); (try exact oX))) | refine And.intro oZ ?_ | exact True.intro | (show _ = _; first | exact oY | exact rfl) | exact oW | (apply And.intro)))
  refine ⟨[(7, .fn 118 0 [.ptr 1 0, .ptr 2 0])], ⟨3, [(0, some (.ints 5 .u8 L)), (1, some (.cells 22 [.sl 0 1 o m])), (2, some (.cells 3 [.int .i64 c]))]⟩, [some 0, some 1, some 2], ?_, ?_⟩
  · (repeat' (first | (refine xI (fun hfk => ?_) (fun hfk => ?_) <;> ((try (first | replace hfk := oT hfk | replace hfk := oF hfk | simp only [oD, ne_eq, reduceCtorEq] at hfk)); (try exact oX))) | refine And.intro oZ ?_ | exact True.intro | (show _ = _; first | exact oY | exact rfl) | exact oW | (apply And.intro)))
  have e0 : (m + c.toNat - 1) / c.toNat = m / c.toNat := by
    have := ceil_mul (w := m / c.toNat) (c := c.toNat) (by omega)
    rwa [← ho2] at this
  rw [← e0]
  rw [← e0] at ho2
  refine ⟨by omega, by omega, fun k => rfl, Unit, fun k _ => ⟨3, [(0, some (.ints 5 .u8 (swapTo L o c.toNat k))), (1, some (.cells 22 [.sl 0 1 o m])), (2, some (.cells 3 [.int .i64 c]))]⟩, fun k _ => True, ⟨(), [some 0, some 1, some 2], trivial, ?_⟩, fun k _ _ => ⟨rfl, rfl, trivial⟩, fun k hk _ _ => ?_, fun _ _ => ?_⟩
  · (repeat' (first | (refine xI (fun hfk => ?_) (fun hfk => ?_) <;> ((try (first | replace hfk := oT hfk | replace hfk := oF hfk | simp only [oD, ne_eq, reduceCtorEq] at hfk)); (try exact oX))) | refine And.intro oZ ?_ | exact True.intro | (show _ = _; first | exact oY | exact rfl) | exact oW | (apply And.intro)))
  · have hlen := swapTo_len L o c.toNat k
    have hk2 : k * c.toNat + c.toNat ≤ m := by
      have := Nat.mul_le_mul_right c.toNat (Nat.succ_le_of_lt hk)
      rw [Nat.succ_mul] at this
      omega
    (repeat' (first | (refine xI (fun hfk => ?_) (fun hfk => ?_) <;> ((try (first | replace hfk := oT hfk | replace hfk := oF hfk | simp only [oD, ne_eq, reduceCtorEq] at hfk)); (try exact oX))) | refine And.intro oZ ?_ | exact True.intro | (show _ = _; first | exact oY | ((simp only [List.length_set]; omega); done) | exact rfl) | exact oW | (apply And.intro)))
    refine ⟨(), [some 0, some 1, some 2], trivial, ?_⟩
    (repeat' (first | (refine xI (fun hfk => ?_) (fun hfk => ?_) <;> ((try (first | replace hfk := oT hfk | replace hfk := oF hfk | simp only [oD, ne_eq, reduceCtorEq] at hfk)); (try exact oX))) | refine And.intro oZ ?_ | exact True.intro | (show _ = _; first | exact oY | exact rfl) | exact oW | (apply And.intro)))
  · (repeat' (first | (refine xI (fun hfk => ?_) (fun hfk => ?_) <;> ((try (first | replace hfk := oT hfk | replace hfk := oF hfk | simp only [oD, ne_eq, reduceCtorEq] at hfk)); (try exact oX))) | refine And.intro oZ ?_ | exact True.intro | (show _ = _; first | exact oY | exact rfl) | exact oW | (apply And.intro)))
    refine ⟨[some 0], ?_⟩
    (repeat' (first | (refine xI (fun hfk => ?_) (fun hfk => ?_) <;> ((try (first | replace hfk := oT hfk | replace hfk := oF hfk | simp only [oD, ne_eq, reduceCtorEq] at hfk)); (try exact oX))) | refine And.intro oZ ?_ | exact True.intro | (show _ = _; first | exact oY | exact rfl) | exact oW | (apply And.intro)))
end Go.Proofs.YtljdahepmmgfeaaGreatDoor
namespace Go.Proofs.YtljdahepmmgfeaaGreatDoor
open Go Go.RowKit
def sMM (f : Int → Int → Int → List Int → Int → Int → Int → List Int → AV) : PSpec := fun l => match l with
  | [.agg [.int .i64 w, .int .i64 h, .int .i64 c, .roi .u8 p], .agg [.int .i64 v, .int .i64 g, .int .i64 d, .roi .u8 q]] => some ([p.length ≤ 1152921504606846975], f w h c p v g d q) | _ => none
theorem list_getD {p q : List Int} (hl : p.length = q.length) (h : ∀ j, j < p.length → p.getD j 0 = q.getD j 0) : p = q := by
  refine List.ext_getElem hl fun j h1 h2 => ?_
  have := h j h1
  simpa [List.getD, h1, h2] using this
def madeF : FSpec := fun l es => match l, es with
  | [.int .i64 w, .int .i64 h, .int .i64 c, .sl 0 1 0 n], [.ints 5 .u8 p] => some ([], .agg [.int .i64 w, .int .i64 h, .int .i64 c, .sl 0 1 0 n], [some (.ints 5 .u8 p)])
  | _, _ => none
theorem made_g : GSOK Tryz.prog 69 (fG madeF) := by
  refine fok (S := []) (G := noG) pok_nil noG_ok ⟨Tryz.func69, by kernel_rfl, by kernel_rfl, by kernel_rfl⟩ fun l es obs v es' h ho => ?_
  unfold madeF at h
  split at h
  · rename_i w hh c n p
    simp only [Option.some.injEq, Prod.mk.injEq] at h
    obtain ⟨rfl, rfl, rfl⟩ := h
    refine ⟨Nat.le_of_ble_eq_true rfl, ?_⟩
    refine ⟨[some 0], ?_⟩
    (repeat' (first | apply And.intro | intro h)); (all_goals (try exact Chk.mk (by kernel_rfl)))
    (all_goals (try first | assumption | exact rfl | exact True.intro | contradiction | (exfalso; simp only [decide_eq_true_eq, decide_eq_false_iff_not, Bool.not_eq_true', Bool.not_eq_false', Bool.and_eq_true, Bool.or_eq_true, Bool.and_eq_false_iff, Bool.or_eq_false_iff, Int.not_lt, Int.not_le, ne_eq, Classical.not_not] at *; omega)))
  · cases h
end Go.Proofs.YtljdahepmmgfeaaGreatDoor
namespace Go.Proofs.YtljdahepmmgfeaaGreatDoor
open Go Go.RowKit
def spl (L : List Int) (o : Nat) (q : List Int) : List Int := L.take o ++ (q ++ L.drop (o + q.length))
theorem spl_len {L q : List Int} {o : Nat} (h : o + q.length ≤ L.length) : (spl L o q).length = L.length := by
  simp only [spl, List.length_append, List.length_take, List.length_drop]; omega
theorem spl_set {L q : List Int} {o i : Nat} {v : Int} (hi : i < q.length) (ho : o ≤ L.length) : (spl L o q).set (o + i) v = spl L o (q.set i v) := by
  have hl : (L.take o).length = o := by rw [List.length_take]; omega
  unfold spl
  rw [List.set_append_right _ _ (by omega), hl, Nat.add_sub_cancel_left, List.set_append_left _ _ hi, List.length_set]
theorem spl_get {L q : List Int} {o i : Nat} (hi : i < q.length) (ho : o ≤ L.length) : (spl L o q).getD (o + i) 0 = q.getD i 0 := by
  have hl : (L.take o).length = o := by rw [List.length_take]; omega
  unfold spl
  rw [List.getD_eq_getElem?_getD, List.getD_eq_getElem?_getD, List.getElem?_append_right (by omega), hl, Nat.add_sub_cancel_left, List.getElem?_append_left hi]
def piece (p : List Int) (c k : Nat) : List Int := (p.drop (k * c)).take c
theorem prod_of {a b n : Nat} (h : a < b) : a * n + n ≤ b * n := by
  have := Nat.mul_le_mul_right n (Nat.succ_le_of_lt h)
  rwa [Nat.succ_mul] at this
end Go.Proofs.YtljdahepmmgfeaaGreatDoor
namespace Go.Proofs.YtljdahepmmgfeaaGreatDoor
open Go Go.RowKit
set_option maxHeartbeats 4000000
def up4 (n : Int) : Int := (n + 3) / 4 * 4
theorem up4_bd (n : Int) : n ≤ up4 n ∧ up4 n ≤ n + 3 ∧ up4 n % 4 = 0 := by unfold up4; omega
theorem not3 (n : Nat) (h : n < 18446744073709551616) : (BitVec.ofNat 64 n &&& ~~~ BitVec.ofNat 64 3).toNat = n / 4 * 4 := by
  have e : n / 4 * 4 = (n >>> 2) <<< 2 := by rw [Nat.shiftRight_eq_div_pow, Nat.shiftLeft_eq]
  rw [e]
  apply Nat.eq_of_testBit_eq
  intro i
  rw [Nat.testBit_shiftLeft, Nat.testBit_shiftRight, ← BitVec.getLsbD]
  rw [BitVec.getLsbD_and, BitVec.getLsbD_not, BitVec.getLsbD_ofNat, BitVec.getLsbD_ofNat]
  have h3 : ∀ i, Nat.testBit 3 i = decide (i < 2) := by
    intro i
    match i with
    | 0 => rfl
    | 1 => rfl
    | i + 2 => rw [Nat.testBit_succ, Nat.testBit_succ]; simp
  rw [h3]
  by_cases h2 : i < 2
  · simp [h2]
    intro k; omega
  · by_cases h64 : i < 64
    · have : 2 + (i - 2) = i := by omega
      simp [h2, h64, this, show 2 ≤ i by omega]
    · have hz : n.testBit i = false := Nat.testBit_lt_two_pow (Nat.lt_of_lt_of_le h (Nat.le_trans (by decide : 18446744073709551616 ≤ 2 ^ 64) (Nat.pow_le_pow_right (by decide) (by omega))))
      have : 2 + (i - 2) = i := by omega
      simp [h64, this, hz]
theorem andnot3 {n : Int} (h0 : 0 ≤ n) (h1 : n < 4294967296) : IntKind.i64.wrap (BitVec.ofInt IntKind.i64.bits n &&& ~~~ BitVec.ofInt IntKind.i64.bits 3).toNat = n / 4 * 4 := by
  obtain ⟨m, rfl⟩ := Int.eq_ofNat_of_zero_le h0
  have hb : IntKind.i64.bits = 64 := rfl
  rw [hb]
  have b1 : BitVec.ofInt 64 (m : Int) = BitVec.ofNat 64 m := rfl
  have b2 : BitVec.ofInt 64 3 = BitVec.ofNat 64 3 := rfl
  rw [b1, b2, not3 m (by omega), wrap_rng ⟨by show (-9223372036854775808 : Int) ≤ _; omega, by show _ ≤ (9223372036854775807 : Int); omega⟩]
  omega
def strV (w c : Int) : Int := if w < 1 ∨ 32768 < w ∨ (c ≠ 3 ∧ c ≠ 4) then 0 else up4 (w * c)
abbrev strideS : PSpec := fun l => match l with | [.int .i64 w, .int .i64 c] => some ([], .int .i64 (strV w c)) | _ => none
theorem stride_s : SOK Tryz.prog 57 strideS := by
  refine sok_of (C := mkC 0 [] noG) (mkC_ok pok_nil noG_ok) rfl mixed ⟨Tryz.func57, by kernel_rfl, by kernel_rfl, by kernel_rfl⟩ fun l obs v h ho => ?_
  (unfold strideS at h; split at h; rotate_left; (focus (cases h)); rename_i w c; simp only [Option.some.injEq, Prod.mk.injEq] at h; obtain ⟨rfl, rfl⟩ := h; simp only [List.mem_cons, List.not_mem_nil, or_false, forall_eq_or_imp, forall_eq, false_implies, implies_true] at ho)
  refine ⟨Nat.le_of_ble_eq_true rfl, ?_⟩
  by_cases h : w < 1 ∨ 32768 < w ∨ (c ≠ 3 ∧ c ≠ 4)
  · have e : strV w c = 0 := if_pos h
    rw [e]
    (repeat' (first | (refine xI (fun hfk => ?_) (fun hfk => ?_) <;> ((try (first | replace hfk := oT hfk | replace hfk := oF hfk | simp only [oD, ne_eq, reduceCtorEq] at hfk)); (try exact oX))) | refine And.intro oZ ?_ | exact True.intro | (show _ = _; first | exact oY | exact rfl) | exact oW | (apply And.intro)))
  · have e : strV w c = up4 (w * c) := if_neg h
    have hc : c = 3 ∨ c = 4 := by omega
    have hb : 3 ≤ w * c ∧ w * c ≤ 131072 := by rcases hc with k | k <;> subst k <;> omega
    have r1 : rngI .i64 (w * c) := rng64 (by omega) (by omega)
    have r2 : rngI .i64 (w * c + 3) := rng64 (by omega) (by omega)
    have e2 := andnot3 (n := w * c + 3) (by omega) (by omega)
    rw [e]
    (repeat' (first | (refine xI (fun hfk => ?_) (fun hfk => ?_) <;> ((try (first | replace hfk := oT hfk | replace hfk := oF hfk | simp only [oD, ne_eq, reduceCtorEq] at hfk)); (try exact oX))) | refine And.intro oZ ?_ | exact True.intro | (show _ = _; first | exact oY | (exact e2; done) | exact rfl) | exact oW | (apply And.intro)))
abbrev rstrS : PSpec := fun l => match l with | [.int .i64 w, .int .i64 c] => some ([0 ≤ w * c, w * c ≤ 4294967296], .int .i64 (up4 (w * c))) | _ => none
theorem rstr_s : SOK Tryz.prog 72 rstrS := by
  refine sok_of (C := mkC 0 [] noG) (mkC_ok pok_nil noG_ok) rfl mixed ⟨Tryz.func72, by kernel_rfl, by kernel_rfl, by kernel_rfl⟩ fun l obs v h ho => ?_
  (unfold rstrS at h; split at h; rotate_left; (focus (cases h)); rename_i w c; simp only [Option.some.injEq, Prod.mk.injEq] at h; obtain ⟨rfl, rfl⟩ := h; simp only [List.mem_cons, List.not_mem_nil, or_false, forall_eq_or_imp, forall_eq, false_implies, implies_true] at ho)
  obtain ⟨h0, h1⟩ := ho
  refine ⟨Nat.le_of_ble_eq_true rfl, ?_⟩
  have hb := up4_bd (w * c)
  have r1 : rngI .i64 (w * c) := rng64 (by omega) (by omega)
  (repeat' (first | (refine xI (fun hfk => ?_) (fun hfk => ?_) <;> ((try (first | replace hfk := oT hfk | replace hfk := oF hfk | simp only [oD, ne_eq, reduceCtorEq] at hfk)); (try exact oX))) | refine And.intro oZ ?_ | exact True.intro | (show _ = _; first | exact oY | exact rfl) | exact oW | (apply And.intro)))
  refine ⟨Nat, fun i => [(5, .int .i64 (w * c + (i : Int)))], fun i => ⟨0, []⟩, fun i => w * c + (i : Int) ≤ up4 (w * c), fun i => 4 - i, ⟨0, [], by show w * c + 0 ≤ _; omega, ?_⟩, fun i hi => ?_⟩
  · (repeat' (first | (refine And.intro ?_ ?_) | exact True.intro | (show _ = _; with_reducible rfl) | exact Chk.mk (by kernel_rfl)))
    all_goals (show (_ : Int) = _; omega)
  have hi : w * c + (i : Int) ≤ up4 (w * c) := hi
  have hm : (w * c + (i : Int)).tmod 4 = (w * c + (i : Int)) % 4 := Int.tmod_eq_emod_of_nonneg (by omega)
  by_cases he : w * c + (i : Int) = up4 (w * c)
  · have hz : (w * c + (i : Int)).tmod 4 = 0 := by rw [hm, he]; exact hb.2.2
    (repeat' (first | (refine xI (fun hfk => ?_) (fun hfk => ?_) <;> ((try (first | replace hfk := oT hfk | replace hfk := oF hfk | simp only [oD, ne_eq, reduceCtorEq] at hfk)); (try exact oX))) | refine And.intro oZ ?_ | exact True.intro | (show _ = _; first | exact oY | (exact he; done) | exact rfl) | exact oW | (apply And.intro)))
  · have hz : ¬ (w * c + (i : Int)).tmod 4 = 0 := by rw [hm]; unfold up4 at he hi hb; omega
    have r2 : rngI .i64 (w * c + (i : Int) + 1) := rng64 (by omega) (by omega)
    (repeat' (first | (refine xI (fun hfk => ?_) (fun hfk => ?_) <;> ((try (first | replace hfk := oT hfk | replace hfk := oF hfk | simp only [oD, ne_eq, reduceCtorEq] at hfk)); (try exact oX))) | refine And.intro oZ ?_ | exact True.intro | (show _ = _; first | exact oY | exact rfl) | exact oW | (apply And.intro)))
    refine ⟨i + 1, [], ?_, ?mu, ?_⟩
    case mu => (show 4 - (i + 1) < 4 - i; omega)
    · show w * c + ((i + 1 : Nat) : Int) ≤ _; omega
    (repeat' (first | (refine And.intro ?_ ?_) | exact True.intro | (show _ = _; with_reducible rfl) | exact Chk.mk (by kernel_rfl)))
    all_goals (show (_ : Int) = _; omega)
def lw (b : List Int) (a n : Int) : Int := lowV ((b.drop a.toNat).take n.toNat)
abbrev rlw16S : PSpec := fun l => match l with | [.roi .u8 b, .int .i64 a, .int .i64 n] => some ([0 ≤ a, 0 ≤ n, n ≤ 4, a + n ≤ b.length, Byt b], .int .i64 (lw b a n)) | _ => none
theorem rlw16_s : SOK Tryz.prog 71 rlw16S := by
  refine sok_of (C := mkC 0 [] noG) (mkC_ok pok_nil noG_ok) rfl mixed ⟨Tryz.func71, by kernel_rfl, by kernel_rfl, by kernel_rfl⟩ fun l obs v h ho => ?_
  (unfold rlw16S at h; split at h; rotate_left; (focus (cases h)); rename_i b a n; simp only [Option.some.injEq, Prod.mk.injEq] at h; obtain ⟨rfl, rfl⟩ := h; simp only [List.mem_cons, List.not_mem_nil, or_false, forall_eq_or_imp, forall_eq, false_implies, implies_true] at ho)
  obtain ⟨a0, n0, n4, han, hb⟩ := ho
  have bl := hb.le
  refine ⟨Nat.le_of_ble_eq_true rfl, ?_⟩
  obtain ⟨L, hL⟩ : ∃ L, (b.drop a.toNat).take n.toNat = L := ⟨_, rfl⟩
  have hLl : L.length = n.toNat := by rw [← hL, List.length_take, List.length_drop]; omega
  have hLg : ∀ j, j < n.toNat → L.getD j 0 = b.getD (a.toNat + j) 0 := fun j hj => by rw [← hL, take_getD hj, drop_getD]
  have hM : ∀ x ∈ L, 0 ≤ x ∧ x ≤ 255 := fun x hx => by
    obtain ⟨j, hj, rfl⟩ := List.getElem_of_mem hx
    have := hLg j (by omega)
    rw [List.getD, List.getElem?_eq_getElem hj] at this
    simp only [Option.getD_some] at this
    rw [this]; exact hb.bd _
  have hv : lw b a n = lowV L := by unfold lw; rw [hL]
  rw [hv]
  (repeat' (first | (refine xI (fun hfk => ?_) (fun hfk => ?_) <;> ((try (first | replace hfk := oT hfk | replace hfk := oF hfk | simp only [oD, ne_eq, reduceCtorEq] at hfk)); (try exact oX))) | refine And.intro oZ ?_ | exact True.intro | (show _ = _; first | exact oY | exact rfl) | exact oW | (apply And.intro)))
  refine ⟨Nat, fun k => [(0, .roi .u8 b), (1, .int .i64 a), (7, .int .i64 (lowV (L.drop k))), (8, .int .i64 ((k : Int) - 1))], fun k => ⟨0, []⟩, fun k => k ≤ n.toNat, fun k => k, ⟨n.toNat, [], Nat.le_refl _, ?_⟩, fun k hk => ?_⟩
  · have e0 : (0 : Int) = lowV (L.drop n.toNat) := by rw [List.drop_of_length_le (by omega)]; rfl
    (repeat' (first | (refine And.intro ?_ ?_) | exact True.intro | (show _ = _; with_reducible rfl) | exact Chk.mk (by kernel_rfl)))
    all_goals first | exact e0 | rfl | (show (_ : Int) = _; omega)
  have hk : k ≤ n.toNat := hk
  cases k with
  | zero =>
    have e0 : lowV (L.drop 0) = lowV L := by rw [List.drop_zero]
    (repeat' (first | (refine xI (fun hfk => ?_) (fun hfk => ?_) <;> ((try (first | replace hfk := oT hfk | replace hfk := oF hfk | simp only [oD, ne_eq, reduceCtorEq] at hfk)); (try exact oX))) | refine And.intro oZ ?_ | exact True.intro | (show _ = _; first | exact oY | (exact e0; done) | exact rfl) | exact oW | (apply And.intro)))
  | succ j =>
    have hx := lowV_drop (l := L) (i := j) (by omega)
    obtain ⟨c0, c1⟩ := lowV_bd (l := L.drop (j + 1)) fun x hx => hM x (List.mem_of_mem_drop hx)
    have pw := p256 (L := (L.drop (j + 1)).length) (by rw [List.length_drop]; omega)
    have gb := hb.bd (a.toNat + j)
    rw [hLg j (by omega)] at hx
    have et : (a + (((j + 1 : Nat) : Int) - 1)).toNat = a.toNat + j := by omega
    have w3 : lowV (L.drop (j + 1)) * 256 + b.getD (a + (((j + 1 : Nat) : Int) - 1)).toNat 0 = lowV (L.drop j) := by rw [et, hx]; omega
    have r1 : rngI .i64 (lowV (L.drop (j + 1)) * 256) := rng64 (by omega) (by omega)
    have r2 : rngI .i64 (a + (((j + 1 : Nat) : Int) - 1)) := rng64 (by omega) (by omega)
    have r3 : rngI .i64 (b.getD (a + (((j + 1 : Nat) : Int) - 1)).toNat 0) := by rw [et]; exact rng64 (by omega) (by omega)
    have r4 : rngI .i64 (lowV (L.drop (j + 1)) * 256 + b.getD (a + (((j + 1 : Nat) : Int) - 1)).toNat 0) := by rw [et]; exact rng64 (by omega) (by omega)
    have rj : rngI .i64 (((j + 1 : Nat) : Int) - 1 - 1) := rng64 (by omega) (by omega)
    (repeat' (first | (refine xI (fun hfk => ?_) (fun hfk => ?_) <;> ((try (first | replace hfk := oT hfk | replace hfk := oF hfk | simp only [oD, ne_eq, reduceCtorEq] at hfk)); (try exact oX))) | refine And.intro oZ ?_ | exact True.intro | (show _ = _; first | exact oY | exact rfl) | exact oW | (apply And.intro)))
    refine ⟨j, [], by omega, ?mu, ?_⟩
    case mu => (show j < j + 1; omega)
    (repeat' (first | (refine And.intro ?_ ?_) | exact True.intro | (show _ = _; with_reducible rfl) | exact Chk.mk (by kernel_rfl)))
    all_goals first | exact w3 | rfl | (show (_ : Int) = _; omega)
def wtb : List (Int × Int × Int) := [(6, 4, 0), (10, 4, 54), (14, 4, 40), (26, 2, 1), (30, 4, 0), (46, 4, 0), (50, 4, 0)]
abbrev wtG (j : Nat) : Int × Int × Int := wtb.getD j (0, 0, 0)
abbrev wantsA : AV := .ro 3 7 (fun j => .agg [.int .i64 (wtG j).1, .int .i64 (wtG j).2.1, .int .i64 (wtG j).2.2])
theorem wants_s : SOK Tryz.prog 101 (sN wantsA) := by
  refine sok_of (C := mkC 0 [] noG) (mkC_ok pok_nil noG_ok) rfl mixed ⟨Tryz.func101, by kernel_rfl, by kernel_rfl, by kernel_rfl⟩ fun l obs v h ho => ?_
  obtain ⟨rfl, rfl, rfl⟩ := sN_inv h
  refine ⟨Nat.le_of_ble_eq_true rfl, ?_⟩
  (repeat' (first | (refine xI (fun hfk => ?_) (fun hfk => ?_) <;> ((try (first | replace hfk := oT hfk | replace hfk := oF hfk | simp only [oD, ne_eq, reduceCtorEq] at hfk)); (try exact oX))) | refine And.intro oZ ?_ | exact True.intro | (show _ = _; first | exact oY | exact rfl) | exact oW | (apply And.intro)))
  intro j hj
  have : j = 0 ∨ j = 1 ∨ j = 2 ∨ j = 3 ∨ j = 4 ∨ j = 5 ∨ j = 6 := by omega
  rcases this with k | k | k | k | k | k | k <;> subst k <;> rfl
theorem wt_in {j : Nat} (h : j < 7) : 0 ≤ (wtG j).1 ∧ 0 ≤ (wtG j).2.1 ∧ (wtG j).2.1 ≤ 4 ∧ (wtG j).1 + (wtG j).2.1 ≤ 54 := by
  have : j = 0 ∨ j = 1 ∨ j = 2 ∨ j = 3 ∨ j = 4 ∨ j = 5 ∨ j = 6 := by omega
  rcases this with k | k | k | k | k | k | k <;> subst k <;> decide
def frm0 (b : List Int) : Prop := lw b 6 4 = 0 ∧ lw b 10 4 = 54 ∧ lw b 14 4 = 40 ∧ lw b 26 2 = 1 ∧ lw b 30 4 = 0 ∧ lw b 46 4 = 0 ∧ lw b 50 4 = 0
instance (b : List Int) : Decidable (frm0 b) := by unfold frm0; exact inferInstance
theorem frm0_iff {b : List Int} : frm0 b ↔ ∀ j, j < 7 → lw b (wtG j).1 (wtG j).2.1 = (wtG j).2.2 := by
  constructor
  · rintro ⟨h0, h1, h2, h3, h4, h5, h6⟩ j hj
    have : j = 0 ∨ j = 1 ∨ j = 2 ∨ j = 3 ∨ j = 4 ∨ j = 5 ∨ j = 6 := by omega
    rcases this with k | k | k | k | k | k | k <;> subst k <;> assumption
  · intro h
    exact ⟨h 0 (by omega), h 1 (by omega), h 2 (by omega), h 3 (by omega), h 4 (by omega), h 5 (by omega), h 6 (by omega)⟩
def hdE (b : List Int) : Int :=
  if b.length = 0 ∨ (b.length = 1 ∧ b.getD 0 0 = 66) then 20 else if b.getD 0 0 ≠ 66 ∨ (1 < b.length ∧ b.getD 1 0 ≠ 77) then 21
  else if b.length < 54 then 20 else if frm0 b ∧ (lw b 28 2 = 24 ∨ lw b 28 2 = 32) then 0 else 21
abbrev rform16S : PSpec := fun l => match l with | [.roi .u8 b] => some ([Byt b], .int .i64 (hdE b)) | _ => none
theorem rform16_s : SOK Tryz.prog 70 rform16S := by
  refine sok_of (C := mkC 0 [(71, rlw16S), (101, sN wantsA)] noG) (mkC_ok (pok_cons rlw16_s (pok_cons wants_s pok_nil)) noG_ok) rfl mixed ⟨Tryz.func70, by kernel_rfl, by kernel_rfl, by kernel_rfl⟩ fun l obs v h ho => ?_
  (unfold rform16S at h; split at h; rotate_left; (focus (cases h)); rename_i b; simp only [Option.some.injEq, Prod.mk.injEq] at h; obtain ⟨rfl, rfl⟩ := h; simp only [List.mem_cons, List.not_mem_nil, or_false, forall_eq_or_imp, forall_eq, false_implies, implies_true] at ho)
  have hb := ho
  have bl := hb.le
  refine ⟨Nat.le_of_ble_eq_true rfl, ?_⟩
  have g0 : b.getD (0 : Int).toNat 0 = b.getD 0 0 := rfl
  have g1 : b.getD (1 : Int).toNat 0 = b.getD 1 0 := rfl
  by_cases k1 : b.length = 0 ∨ (b.length = 1 ∧ b.getD 0 0 = 66)
  · have e : hdE b = 20 := if_pos k1
    rw [e]
    (repeat' (first | (refine xI (fun hfk => ?_) (fun hfk => ?_) <;> ((try (first | replace hfk := oT hfk | replace hfk := oF hfk | simp only [oD, ne_eq, reduceCtorEq] at hfk)); (try exact oX))) | refine And.intro oZ ?_ | exact True.intro | (show _ = _; first | exact oY | exact rfl) | exact oW | (apply And.intro)))
  by_cases k2 : b.getD 0 0 ≠ 66 ∨ (1 < b.length ∧ b.getD 1 0 ≠ 77)
  · have e : hdE b = 21 := by unfold hdE; rw [if_neg k1, if_pos k2]
    rw [e]
    (repeat' (first | (refine xI (fun hfk => ?_) (fun hfk => ?_) <;> ((try (first | replace hfk := oT hfk | replace hfk := oF hfk | simp only [oD, ne_eq, reduceCtorEq] at hfk)); (try exact oX))) | refine And.intro oZ ?_ | exact True.intro | (show _ = _; first | exact oY | exact rfl) | exact oW | (apply And.intro)))
  by_cases k3 : b.length < 54
  · have e : hdE b = 20 := by unfold hdE; rw [if_neg k1, if_neg k2, if_pos k3]
    rw [e]
    (repeat' (first | (refine xI (fun hfk => ?_) (fun hfk => ?_) <;> ((try (first | replace hfk := oT hfk | replace hfk := oF hfk | simp only [oD, ne_eq, reduceCtorEq] at hfk)); (try exact oX))) | refine And.intro oZ ?_ | exact True.intro | (show _ = _; first | exact oY | exact rfl) | exact oW | (apply And.intro)))
  have e : hdE b = if frm0 b ∧ (lw b 28 2 = 24 ∨ lw b 28 2 = 32) then 0 else 21 := by unfold hdE; rw [if_neg k1, if_neg k2, if_neg k3]
  rw [e]
  (repeat' (first | (refine xI (fun hfk => ?_) (fun hfk => ?_) <;> ((try (first | replace hfk := oT hfk | replace hfk := oF hfk | simp only [oD, ne_eq, reduceCtorEq] at hfk)); (try exact oX))) | refine And.intro oZ ?_ | exact True.intro | (show _ = _; first | exact oY | exact rfl) | exact oW | (apply And.intro)))
  all_goals
    refine ⟨Nat, fun i => [(0, .roi .u8 b), (37, wantsA), (38, .int .i64 7), (39, .int .i64 (i : Int))], fun i => ⟨0, []⟩, fun i => i ≤ 7 ∧ ∀ j, j < i → lw b (wtG j).1 (wtG j).2.1 = (wtG j).2.2, fun i => 7 - i, ⟨0, [], ⟨by omega, fun j hj => by omega⟩, ?_⟩, fun i hi => ?_⟩
    · (repeat' (first | (refine And.intro ?_ ?_) | exact True.intro | (show _ = _; with_reducible rfl) | exact Chk.mk (by kernel_rfl)))
      all_goals first | (intro j hj; rfl) | rfl
    obtain ⟨i1, i2⟩ := hi
    have i1 : i ≤ 7 := i1
    by_cases hlt : i < 7
    · obtain ⟨q1, q2, q3, q4⟩ := wt_in hlt
      have q1' : 0 ≤ (wtG (i : Int).toNat).1 := q1
      have q2' : 0 ≤ (wtG (i : Int).toNat).2.1 := q2
      have q3' : (wtG (i : Int).toNat).2.1 ≤ 4 := q3
      have q4' : (wtG (i : Int).toNat).1 + (wtG (i : Int).toNat).2.1 ≤ b.length := Int.le_trans q4 (by omega)
      have ri : rngI .i64 ((i : Int) + 1) := rng64 (by omega) (by omega)
      by_cases hx : lw b (wtG i).1 (wtG i).2.1 = (wtG i).2.2
      · have hx' : ¬ lw b (wtG (i : Int).toNat).1 (wtG (i : Int).toNat).2.1 ≠ (wtG (i : Int).toNat).2.2 := fun k => k hx
        (repeat' (first | (refine xI (fun hfk => ?_) (fun hfk => ?_) <;> ((try (first | replace hfk := oT hfk | replace hfk := oF hfk | simp only [oD, ne_eq, reduceCtorEq] at hfk)); (try exact oX))) | refine And.intro oZ ?_ | exact True.intro | (show _ = _; first | exact oY | (exact hb; done) | exact rfl) | exact oW | (apply And.intro)))
        refine ⟨i + 1, [], ⟨hlt, fun j hj => ?_⟩, ?mu, ?_⟩
        case mu => (show 7 - (i + 1) < 7 - i; omega)
        · by_cases hji : j = i
          · subst hji; exact hx
          · exact i2 j (by omega)
        (repeat' (first | (refine And.intro ?_ ?_) | exact True.intro | (show _ = _; with_reducible rfl) | exact Chk.mk (by kernel_rfl)))
        all_goals first | (intro j hj; rfl) | rfl | (show (_ : Int) = _; omega)
      · have hx' : lw b (wtG (i : Int).toNat).1 (wtG (i : Int).toNat).2.1 ≠ (wtG (i : Int).toNat).2.2 := hx
        rw [if_neg (show ¬ (frm0 b ∧ (lw b 28 2 = 24 ∨ lw b 28 2 = 32)) from fun k => hx (frm0_iff.1 k.1 i hlt))]
        (repeat' (first | (refine xI (fun hfk => ?_) (fun hfk => ?_) <;> ((try (first | replace hfk := oT hfk | replace hfk := oF hfk | simp only [oD, ne_eq, reduceCtorEq] at hfk)); (try exact oX))) | refine And.intro oZ ?_ | exact True.intro | (show _ = _; first | exact oY | (exact hb; done) | exact rfl) | exact oW | (apply And.intro)))
    · have hf : frm0 b := frm0_iff.2 fun j hj => i2 j (by omega)
      by_cases h24 : lw b 28 2 = 24
      · rw [if_pos ⟨hf, .inl h24⟩]
        (repeat' (first | (refine xI (fun hfk => ?_) (fun hfk => ?_) <;> ((try (first | replace hfk := oT hfk | replace hfk := oF hfk | simp only [oD, ne_eq, reduceCtorEq] at hfk)); (try exact oX))) | refine And.intro oZ ?_ | exact True.intro | (show _ = _; first | exact oY | (exact hb; done) | exact rfl) | exact oW | (apply And.intro)))
      · by_cases h32 : lw b 28 2 = 32
        · rw [if_pos ⟨hf, .inr h32⟩]
          (repeat' (first | (refine xI (fun hfk => ?_) (fun hfk => ?_) <;> ((try (first | replace hfk := oT hfk | replace hfk := oF hfk | simp only [oD, ne_eq, reduceCtorEq] at hfk)); (try exact oX))) | refine And.intro oZ ?_ | exact True.intro | (show _ = _; first | exact oY | (exact hb; done) | exact rfl) | exact oW | (apply And.intro)))
        · rw [if_neg (show ¬ (frm0 b ∧ (lw b 28 2 = 24 ∨ lw b 28 2 = 32)) from fun k => k.2.elim h24 h32)]
          (repeat' (first | (refine xI (fun hfk => ?_) (fun hfk => ?_) <;> ((try (first | replace hfk := oT hfk | replace hfk := oF hfk | simp only [oD, ne_eq, reduceCtorEq] at hfk)); (try exact oX))) | refine And.intro oZ ?_ | exact True.intro | (show _ = _; first | exact oY | (exact hb; done) | exact rfl) | exact oW | (apply And.intro)))
end Go.Proofs.YtljdahepmmgfeaaGreatDoor

