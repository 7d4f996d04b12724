/- Texts laid together. No condition. -/
import Derived.Test.YtljdahepmmgfeaaGreatDoorS1
set_option maxRecDepth 100000
set_option linter.unusedVariables false
set_option linter.unusedSimpArgs false
namespace Go.Proofs.YtljdahepmmgfeaaGreatDoor
open Go Go.RowKit
set_option maxHeartbeats 4000000
abbrev sL1 (ob : List Int → List Prop) (f : List Int → AV) : PSpec := fun l => match l with | [.roi .i64 d] => some (ob d, f d) | _ => none
abbrev sL2 (ob : List Int → List Int → List Prop) (f : List Int → List Int → AV) : PSpec := fun l => match l with | [.roi .i64 a, .roi .i64 b] => some (ob a b, f a b) | _ => none
structure Sh (l : List Int) : Prop where
  le : l.length ≤ 1000000
structure ShT (l : List Int) : Prop where
  le : l.length ≤ 4000000
abbrev digitS : PSpec := fun l => match l with | [.roi .i64 d, .int .i64 i] => some ([], .int .i64 (dgAt d i)) | _ => none
theorem digit_s : SOK Tryz.prog 103 digitS := by
  refine sok_of (C := mkC 0 [] noG) (mkC_ok pok_nil noG_ok) rfl mixed ⟨Tryz.func103, by kernel_rfl, by kernel_rfl, by kernel_rfl⟩ fun l obs v h ho => ?_
  (unfold digitS at h; split at h; rotate_left; (focus (cases h)); rename_i d i; simp only [Option.some.injEq, Prod.mk.injEq] at h; obtain ⟨rfl, rfl⟩ := h; simp only [List.mem_cons, List.not_mem_nil, or_false, forall_eq_or_imp, forall_eq, false_implies, implies_true] at ho)
  refine ⟨Nat.le_of_ble_eq_true rfl, ?_⟩
  by_cases hi : 0 ≤ i ∧ i < (d.length : Int)
  · have e : dgAt d i = d.getD i.toNat 0 := if_pos hi
    obtain ⟨i0, i1⟩ := hi
    (repeat' (first | (refine xI (fun hfk => ?_) (fun hfk => ?_) <;> ((try (first | replace hfk := oT hfk | replace hfk := oF hfk | simp only [oA, oB, dh1, dh0, ne_eq, reduceCtorEq] at hfk)); (try exact oX))) | (refine And.intro ?ob ?_; (case ob => (exact oZ))) | exact True.intro | (show _ = _; first | exact oY | (exact e.symm; done) | exact rfl) | exact oW | (apply And.intro)))
  · have e : dgAt d i = 0 := if_neg hi
    by_cases h0 : 0 ≤ i
    · have h1 : ¬ i < (d.length : Int) := fun k => hi ⟨h0, k⟩
      (repeat' (first | (refine xI (fun hfk => ?_) (fun hfk => ?_) <;> ((try (first | replace hfk := oT hfk | replace hfk := oF hfk | simp only [oA, oB, dh1, dh0, ne_eq, reduceCtorEq] at hfk)); (try exact oX))) | (refine And.intro ?ob ?_; (case ob => (exact oZ))) | exact True.intro | (show _ = _; first | exact oY | (exact e.symm; done) | exact rfl) | exact oW | (apply And.intro)))
    · (repeat' (first | (refine xI (fun hfk => ?_) (fun hfk => ?_) <;> ((try (first | replace hfk := oT hfk | replace hfk := oF hfk | simp only [oA, oB, dh1, dh0, ne_eq, reduceCtorEq] at hfk)); (try exact oX))) | (refine And.intro ?ob ?_; (case ob => (exact oZ))) | exact True.intro | (show _ = _; first | exact oY | (exact e.symm; done) | exact rfl) | exact oW | (apply And.intro)))
abbrev trimS : PSpec := sL1 (fun d => [ShT d]) fun d => .roi .i64 (trimL d)
theorem trim_s : SOK Tryz.prog 104 trimS := by
  refine sok_of (C := mkC 0 [] noG) (mkC_ok pok_nil noG_ok) rfl mixed ⟨Tryz.func104, by kernel_rfl, by kernel_rfl, by kernel_rfl⟩ fun l obs v h ho => ?_
  unfold trimS at h
  (unfold sL1 at h; split at h; rotate_left; (focus (cases h)); rename_i d; simp only [Option.some.injEq, Prod.mk.injEq] at h; obtain ⟨rfl, rfl⟩ := h; simp only [List.mem_cons, List.not_mem_nil, or_false, forall_eq_or_imp, forall_eq, false_implies, implies_true] at ho)
  have hsh := ho.le
  refine ⟨Nat.le_of_ble_eq_true rfl, ?_⟩
  (repeat' (first | (refine xI (fun hfk => ?_) (fun hfk => ?_) <;> ((try (first | replace hfk := oT hfk | replace hfk := oF hfk | simp only [oA, oB, dh1, dh0, ne_eq, reduceCtorEq] at hfk)); (try exact oX))) | (refine And.intro ?ob ?_; (case ob => (exact oZ))) | exact True.intro | (show _ = _; first | exact oY | (skip; done) | exact rfl) | exact oW | (apply And.intro)))
  refine ⟨Nat, fun i => [(0, .roi .i64 d), (3, .int .i64 (i : Int))], fun i => ⟨0, []⟩, fun i => i ≤ d.length ∧ trimL (d.take i) = trimL d, fun i => i, ⟨d.length, [], ⟨Nat.le_refl _, by rw [List.take_length]⟩, ?_⟩, fun i hi => ?_⟩
  · (repeat' (first | (refine xI (fun hfk => ?_) (fun hfk => ?_) <;> ((try (first | replace hfk := oT hfk | replace hfk := oF hfk | simp only [oA, oB, dh1, dh0, ne_eq, reduceCtorEq] at hfk)); (try exact oX))) | (refine And.intro ?ob ?_; (case ob => (exact oZ))) | exact True.intro | (show _ = _; first | exact oY | (skip; done) | exact rfl) | exact oW | (apply And.intro)))
  obtain ⟨hi, ht⟩ := hi
  cases i with
  | zero =>
    have e : List.drop 0 (List.take ((0 : Nat) : Int).toNat d) = trimL d := by rw [← ht]; rfl
    (repeat' (first | (refine xI (fun hfk => ?_) (fun hfk => ?_) <;> ((try (first | replace hfk := oT hfk | replace hfk := oF hfk | simp only [oA, oB, dh1, dh0, ne_eq, reduceCtorEq] at hfk)); (try exact oX))) | (refine And.intro ?ob ?_; (case ob => (exact oZ))) | exact True.intro | (show _ = _; first | exact oY | (exact e; done) | exact rfl) | exact oW | (apply And.intro)))
  | succ j =>
    have hj : j < d.length := hi
    have et : d.take (j + 1) = d.take j ++ [d.getD j 0] := by
      rw [List.take_add_one]
      simp [List.getD, List.getElem?_eq_getElem hj]
    have ej : (((j + 1 : Nat) : Int) - 1).toNat = j := by omega
    have rj : rngI .i64 (((j + 1 : Nat) : Int) - 1) := rng64 (by omega) (by omega)
    by_cases hz : d.getD j 0 = 0
    · have hz' : d.getD (((j + 1 : Nat) : Int) - 1).toNat 0 = 0 := by rw [ej]; exact hz
      (repeat' (first | (refine xI (fun hfk => ?_) (fun hfk => ?_) <;> ((try (first | replace hfk := oT hfk | replace hfk := oF hfk | simp only [oA, oB, dh1, dh0, ne_eq, reduceCtorEq] at hfk)); (try exact oX))) | (refine And.intro ?ob ?_; (case ob => (exact oZ))) | exact True.intro | (show _ = _; first | exact oY | (skip; done) | exact rfl) | exact oW | (apply And.intro)))
      (refine ⟨j, [], ?_, ?mu, ?_⟩; (case mu => ((try dsimp only); omega)))
      · refine ⟨by omega, ?_⟩
        rw [← ht, et, hz, trimL_snoc0]
      (repeat' (first | (refine xI (fun hfk => ?_) (fun hfk => ?_) <;> ((try (first | replace hfk := oT hfk | replace hfk := oF hfk | simp only [oA, oB, dh1, dh0, ne_eq, reduceCtorEq] at hfk)); (try exact oX))) | (refine And.intro ?ob ?_; (case ob => (exact oZ))) | exact True.intro | (show _ = _; first | exact oY | (skip; done) | exact rfl) | exact oW | (apply And.intro)))
    · have hz' : ¬ d.getD (((j + 1 : Nat) : Int) - 1).toNat 0 = 0 := by rw [ej]; exact hz
      have e : List.drop 0 (List.take ((j + 1 : Nat) : Int).toNat d) = trimL d := by
        rw [List.drop_zero, Int.toNat_natCast, ← ht, et, trimL_snoc hz]
      (repeat' (first | (refine xI (fun hfk => ?_) (fun hfk => ?_) <;> ((try (first | replace hfk := oT hfk | replace hfk := oF hfk | simp only [oA, oB, dh1, dh0, ne_eq, reduceCtorEq] at hfk)); (try exact oX))) | (refine And.intro ?ob ?_; (case ob => (exact oZ))) | exact True.intro | (show _ = _; first | exact oY | (exact e; done) | exact rfl) | exact oW | (apply And.intro)))
abbrev madeS : PSpec := fun l => match l with | [.bool s, .roi .i64 d] => some ([], .agg [.bool (s && decide (0 < (d.length : Int))), .roi .i64 d]) | _ => none
theorem made_s : SOK Tryz.prog 107 madeS := by
  refine sok_of (C := mkC 0 [] noG) (mkC_ok pok_nil noG_ok) rfl mixed ⟨Tryz.func107, by kernel_rfl, by kernel_rfl, by kernel_rfl⟩ fun l obs v h ho => ?_
  (unfold madeS at h; split at h; rotate_left; (focus (cases h)); rename_i s d; simp only [Option.some.injEq, Prod.mk.injEq] at h; obtain ⟨rfl, rfl⟩ := h; simp only [List.mem_cons, List.not_mem_nil, or_false, forall_eq_or_imp, forall_eq, false_implies, implies_true] at ho)
  refine ⟨Nat.le_of_ble_eq_true rfl, ?_⟩
  cases s with
  | true =>
    (repeat' (first | (refine xI (fun hfk => ?_) (fun hfk => ?_) <;> ((try (first | replace hfk := oT hfk | replace hfk := oF hfk | simp only [oA, oB, dh1, dh0, ne_eq, reduceCtorEq] at hfk)); (try exact oX))) | (refine And.intro ?ob ?_; (case ob => (exact oZ))) | exact True.intro | (show _ = _; first | exact oY | (rfl; done) | exact rfl) | exact oW | (apply And.intro)))
  | false =>
    (repeat' (first | (refine xI (fun hfk => ?_) (fun hfk => ?_) <;> ((try (first | replace hfk := oT hfk | replace hfk := oF hfk | simp only [oA, oB, dh1, dh0, ne_eq, reduceCtorEq] at hfk)); (try exact oX))) | (refine And.intro ?ob ?_; (case ob => (exact oZ))) | exact True.intro | (show _ = _; first | exact oY | (rfl; done) | exact rfl) | exact oW | (apply And.intro)))
abbrev sumS : PSpec := sL2 (fun a b => [Sh a, Sh b, Dig a, Dig b]) fun a b => .roi .i64 (dgs (valD a + valD b).toNat)
theorem sum_s : SOK Tryz.prog 108 sumS := by
  refine sok_of (C := mkC 0 [(103, digitS)] (glook [(104, frzP trimS)])) (mkC_ok (pok_cons digit_s pok_nil) (gl_cons (gfrzP trim_s) gl_nil)) rfl mixed ⟨Tryz.func108, by kernel_rfl, by kernel_rfl, by kernel_rfl⟩ fun l obs v h ho => ?_
  unfold sumS at h
  (unfold sL2 at h; split at h; rotate_left; (focus (cases h)); rename_i a b; simp only [Option.some.injEq, Prod.mk.injEq] at h; obtain ⟨rfl, rfl⟩ := h; simp only [List.mem_cons, List.not_mem_nil, or_false, forall_eq_or_imp, forall_eq, false_implies, implies_true] at ho)
  obtain ⟨sa, sb, da, db⟩ := ho
  have la := sa.le
  have lb := sb.le
  refine ⟨Nat.le_of_ble_eq_true rfl, ?_⟩
  (repeat' (first | (refine xI (fun hfk => ?_) (fun hfk => ?_) <;> ((try (first | replace hfk := oT hfk | replace hfk := oF hfk | simp only [oA, oB, dh1, dh0, ne_eq, reduceCtorEq] at hfk)); (try exact oX))) | (refine And.intro ?ob ?_; (case ob => (exact oZ))) | exact True.intro | (show _ = _; first | exact oY | (skip; done) | exact rfl) | exact oW | (apply And.intro)))
  refine ⟨Nat × List Int × Int, fun g => [(0, .roi .i64 a), (1, .roi .i64 b), (5, .sl 0 1 0 g.1), (6, .int .i64 g.2.2), (7, .int .i64 (g.1 : Int))], fun g => ⟨1, [(0, some (.ints 3 .i64 g.2.1))]⟩,
    fun g => g.1 ≤ max a.length b.length ∧ g.2.1.length = g.1 ∧ 0 ≤ g.2.2 ∧ g.2.2 ≤ 1 ∧ g.2.1 ++ sumR (a.drop g.1) (b.drop g.1) g.2.2 = sumR a b 0, fun g => max a.length b.length - g.1, ⟨(0, [], 0), [none], ⟨Nat.zero_le _, rfl, by decide, by decide, rfl⟩, ?_⟩, fun g hg => ?_⟩
  · (repeat' (first | (refine And.intro ?_ ?_) | exact True.intro | (show _ = _; with_reducible rfl) | exact Chk.mk (by kernel_rfl)))
    all_goals rfl
  obtain ⟨i, out, c⟩ := g
  obtain ⟨g1, g2, g3, g4, g5⟩ := hg
  have g1 : i ≤ max a.length b.length := g1
  have g2 : out.length = i := g2
  have g3 : 0 ≤ c := g3
  have g4 : c ≤ 1 := g4
  have g5 : out ++ sumR (a.drop i) (b.drop i) c = sumR a b 0 := g5
  by_cases hlt : i < max a.length b.length
  · obtain ⟨a1, a2⟩ := dgAt_bd da (i : Int)
    obtain ⟨b1, b2⟩ := dgAt_bd db (i : Int)
    have hm : Int.tmod (dgAt a i + dgAt b i + c) 32768 = (dgAt a i + dgAt b i + c) % 32768 := Int.tmod_eq_emod_of_nonneg (by omega)
    have hd : Int.tdiv (dgAt a i + dgAt b i + c) 32768 = (dgAt a i + dgAt b i + c) / 32768 := Int.tdiv_eq_ediv_of_nonneg (by omega)
    have rd : rngI .i64 (Int.tdiv (dgAt a i + dgAt b i + c) 32768) := by rw [hd]; exact rng64 (by omega) (by omega)
    have r1 : rngI .i64 (dgAt a i + dgAt b i) := rng64 (by omega) (by omega)
    have r2 : rngI .i64 (dgAt a i + dgAt b i + c) := rng64 (by omega) (by omega)
    (repeat' (first | (refine xI (fun hfk => ?_) (fun hfk => ?_) <;> ((try (first | replace hfk := oT hfk | replace hfk := oF hfk | simp only [oA, oB, dh1, dh0, ne_eq, reduceCtorEq] at hfk)); (try exact oX))) | (refine And.intro ?ob ?_; (case ob => (exact oZ))) | exact True.intro | (show _ = _; first | exact oY | (skip; done) | exact rfl) | exact oW | (apply And.intro)))
    all_goals
      refine ⟨(i + 1, out ++ [(dgAt a i + dgAt b i + c) % 32768], (dgAt a i + dgAt b i + c) / 32768), [some 2], ?_, ?mu, ?_⟩
      case mu => (show max a.length b.length - (i + 1) < max a.length b.length - i; omega)
      · refine ⟨hlt, by simp [g2], by show 0 ≤ (dgAt a i + dgAt b i + c) / 32768; omega, by show (dgAt a i + dgAt b i + c) / 32768 ≤ 1; omega, ?_⟩
        show (out ++ [_]) ++ sumR (a.drop (i + 1)) (b.drop (i + 1)) _ = _
        rw [← g5, sumR_step hlt, List.append_assoc]; rfl
      have qa : out ++ List.take 1 (List.drop 0 [Int.tmod (dgAt a i + dgAt b i + c) 32768]) = out ++ [(dgAt a i + dgAt b i + c) % 32768] := by rw [hm]; rfl
      (repeat' (first | (refine And.intro ?_ ?_) | exact True.intro | (show _ = _; with_reducible rfl) | exact Chk.mk (by kernel_rfl)))
      all_goals first | exact hd | exact qa | (show (_ : Int) = _; omega) | (show out.length + 1 = i + 1; omega)
  · have ge := sumR_end (c := c) hlt
    rw [ge] at g5
    have gd : Dig (out ++ [c]) := by rw [g5]; exact sumR_dig da db (by decide) (by decide)
    have gv : trimL (out ++ [c]) = dgs (valD a + valD b).toNat := by
      rw [trim_dgs gd, g5, sumR_val, Int.add_zero]
    have qv : List.take (out.length + (List.take 1 (List.drop 0 [c])).length) (List.drop 0 (out ++ List.take 1 (List.drop 0 [c]))) = out ++ [c] := by
      show List.take (out.length + 1) (out ++ [c]) = _
      rw [List.take_of_length_le (by simp)]
    have qs : ShT (List.take (out.length + (List.take 1 (List.drop 0 [c])).length) (List.drop 0 (out ++ List.take 1 (List.drop 0 [c])))) := by
      rw [qv]
      exact ⟨by rw [List.length_append, List.length_singleton]; omega⟩
    have qt : trimL (List.take (out.length + (List.take 1 (List.drop 0 [c])).length) (List.drop 0 (out ++ List.take 1 (List.drop 0 [c])))) = dgs (valD a + valD b).toNat := by rw [qv]; exact gv
    (repeat' (first | (refine xI (fun hfk => ?_) (fun hfk => ?_) <;> ((try (first | replace hfk := oT hfk | replace hfk := oF hfk | simp only [oA, oB, dh1, dh0, ne_eq, reduceCtorEq] at hfk)); (try exact oX))) | (refine And.intro ?ob ?_; (case ob => (exact oZ))) | exact True.intro | (show _ = _; first | exact oY | (exact qt; done) | exact rfl) | exact oW | (apply And.intro)))
end Go.Proofs.YtljdahepmmgfeaaGreatDoor
namespace Go.Proofs.YtljdahepmmgfeaaGreatDoor
open Go Go.RowKit
set_option maxHeartbeats 4000000
def cmpV (a b : Int) : Int := if a < b then -1 else if b < a then 1 else 0
abbrev lessS : PSpec := sL2 (fun a b => [Sh a, Sh b, Dig a, Dig b]) fun a b => .int .i64 (cmpV (valD a) (valD b))
theorem less_s : SOK Tryz.prog 105 lessS := by
  refine sok_of (C := mkC 0 [(103, digitS)] noG) (mkC_ok (pok_cons digit_s pok_nil) noG_ok) rfl mixed ⟨Tryz.func105, by kernel_rfl, by kernel_rfl, by kernel_rfl⟩ fun l obs v h ho => ?_
  unfold lessS at h
  (unfold sL2 at h; split at h; rotate_left; (focus (cases h)); rename_i a b; simp only [Option.some.injEq, Prod.mk.injEq] at h; obtain ⟨rfl, rfl⟩ := h; simp only [List.mem_cons, List.not_mem_nil, or_false, forall_eq_or_imp, forall_eq, false_implies, implies_true] at ho)
  obtain ⟨sa, sb, da, db⟩ := ho
  have la := sa.le
  have lb := sb.le
  obtain ⟨M, hM⟩ : ∃ M, max a.length b.length = M := ⟨_, rfl⟩
  have hMi : max (a.length : Int) (b.length : Int) = (M : Int) := by omega
  have r0 : rngI .i64 (max (a.length : Int) (b.length : Int) - 1) := rng64 (by omega) (by omega)
  refine ⟨Nat.le_of_ble_eq_true rfl, ?_⟩
  (repeat' (first | (refine xI (fun hfk => ?_) (fun hfk => ?_) <;> ((try (first | replace hfk := oT hfk | replace hfk := oF hfk | simp only [oA, oB, dh1, dh0, ne_eq, reduceCtorEq] at hfk)); (try exact oX))) | (refine And.intro ?ob ?_; (case ob => (exact oZ))) | exact True.intro | (show _ = _; first | exact oY | (skip; done) | exact rfl) | exact oW | (apply And.intro)))
  refine ⟨Nat, fun k => [(0, .roi .i64 a), (1, .roi .i64 b), (5, .int .i64 ((k : Int) - 1))], fun k => ⟨0, []⟩, fun k => k ≤ M ∧ valD (a.drop k) = valD (b.drop k), fun k => k, ⟨M, [], ⟨Nat.le_refl _, ?_⟩, ?_⟩, fun k hk => ?_⟩
  · rw [drop_out (l := a) (by omega), drop_out (l := b) (by omega)]
  · (repeat' (first | (refine And.intro ?_ ?_) | exact True.intro | (show _ = _; with_reducible rfl) | exact Chk.mk (by kernel_rfl)))
    show max (a.length : Int) (b.length : Int) - 1 = (M : Int) - 1
    omega
  obtain ⟨hk, he⟩ := hk
  cases k with
  | zero =>
    rw [List.drop_zero, List.drop_zero] at he
    have e : (0 : Int) = cmpV (valD a) (valD b) := by unfold cmpV; rw [if_neg (by omega), if_neg (by omega)]
    (repeat' (first | (refine xI (fun hfk => ?_) (fun hfk => ?_) <;> ((try (first | replace hfk := oT hfk | replace hfk := oF hfk | simp only [oA, oB, dh1, dh0, ne_eq, reduceCtorEq] at hfk)); (try exact oX))) | (refine And.intro ?ob ?_; (case ob => (exact oZ))) | exact True.intro | (show _ = _; first | exact oY | (exact e; done) | exact rfl) | exact oW | (apply And.intro)))
  | succ j =>
    have ej : (((j + 1 : Nat) : Int) - 1) = (j : Int) := by omega
    have va := valD_drop a j
    have vb := valD_drop b j
    rcases Int.lt_trichotomy (dgAt a j) (dgAt b j) with hc | hc | hc
    · have hl := lt_drop (i := j) da db (by omega)
      have hc' : dgAt a (((j + 1 : Nat) : Int) - 1) < dgAt b (((j + 1 : Nat) : Int) - 1) := by rw [ej]; exact hc
      have e : (-1 : Int) = cmpV (valD a) (valD b) := by unfold cmpV; rw [if_pos hl]
      (repeat' (first | (refine xI (fun hfk => ?_) (fun hfk => ?_) <;> ((try (first | replace hfk := oT hfk | replace hfk := oF hfk | simp only [oA, oB, dh1, dh0, ne_eq, reduceCtorEq] at hfk)); (try exact oX))) | (refine And.intro ?ob ?_; (case ob => (exact oZ))) | exact True.intro | (show _ = _; first | exact oY | (exact e; done) | exact rfl) | exact oW | (apply And.intro)))
    · have hc' : dgAt a (((j + 1 : Nat) : Int) - 1) = dgAt b (((j + 1 : Nat) : Int) - 1) := by rw [ej]; exact hc
      have rj : rngI .i64 (((j + 1 : Nat) : Int) - 1 - 1) := rng64 (by omega) (by omega)
      (repeat' (first | (refine xI (fun hfk => ?_) (fun hfk => ?_) <;> ((try (first | replace hfk := oT hfk | replace hfk := oF hfk | simp only [oA, oB, dh1, dh0, ne_eq, reduceCtorEq] at hfk)); (try exact oX))) | (refine And.intro ?ob ?_; (case ob => (exact oZ))) | exact True.intro | (show _ = _; first | exact oY | (skip; done) | exact rfl) | exact oW | (apply And.intro)))
      (refine ⟨j, [], ?_, ?mu, ?_⟩; (case mu => ((try dsimp only); omega)))
      · exact ⟨by omega, by omega⟩
      (repeat' (first | (refine xI (fun hfk => ?_) (fun hfk => ?_) <;> ((try (first | replace hfk := oT hfk | replace hfk := oF hfk | simp only [oA, oB, dh1, dh0, ne_eq, reduceCtorEq] at hfk)); (try exact oX))) | (refine And.intro ?ob ?_; (case ob => (exact oZ))) | exact True.intro | (show _ = _; first | exact oY | (skip; done) | exact rfl) | exact oW | (apply And.intro)))
    · have hl := lt_drop (i := j) db da (by omega)
      have hc' : dgAt b (((j + 1 : Nat) : Int) - 1) < dgAt a (((j + 1 : Nat) : Int) - 1) := by rw [ej]; exact hc
      have e : (1 : Int) = cmpV (valD a) (valD b) := by unfold cmpV; rw [if_neg (by omega), if_pos hl]
      (repeat' (first | (refine xI (fun hfk => ?_) (fun hfk => ?_) <;> ((try (first | replace hfk := oT hfk | replace hfk := oF hfk | simp only [oA, oB, dh1, dh0, ne_eq, reduceCtorEq] at hfk)); (try exact oX))) | (refine And.intro ?ob ?_; (case ob => (exact oZ))) | exact True.intro | (show _ = _; first | exact oY | (exact e; done) | exact rfl) | exact oW | (apply And.intro)))
abbrev restS01 : PSpec := sL2 (fun a b => [Sh a, Sh b, Dig a, Dig b, valD b ≤ valD a]) fun a b => .roi .i64 (dgs (valD a - valD b).toNat)
theorem rest01_s : SOK Tryz.prog 106 restS01 := by
  refine sok_of (C := mkC 0 [(103, digitS)] (glook [(104, frzP trimS)])) (mkC_ok (pok_cons digit_s pok_nil) (gl_cons (gfrzP trim_s) gl_nil)) rfl mixed ⟨Tryz.func106, by kernel_rfl, by kernel_rfl, by kernel_rfl⟩ fun l obs v h ho => ?_
  unfold restS01 at h
  (unfold sL2 at h; split at h; rotate_left; (focus (cases h)); rename_i a b; simp only [Option.some.injEq, Prod.mk.injEq] at h; obtain ⟨rfl, rfl⟩ := h; simp only [List.mem_cons, List.not_mem_nil, or_false, forall_eq_or_imp, forall_eq, false_implies, implies_true] at ho)
  obtain ⟨sa, sb, da, db, hle⟩ := ho
  have la := sa.le
  refine ⟨Nat.le_of_ble_eq_true rfl, ?_⟩
  (repeat' (first | (refine xI (fun hfk => ?_) (fun hfk => ?_) <;> ((try (first | replace hfk := oT hfk | replace hfk := oF hfk | simp only [oA, oB, dh1, dh0, ne_eq, reduceCtorEq] at hfk)); (try exact oX))) | (refine And.intro ?ob ?_; (case ob => (exact oZ))) | exact True.intro | (show _ = _; first | exact oY | (skip; done) | exact rfl) | exact oW | (apply And.intro)))
  refine ⟨Nat × List Int × Int, fun g => [(0, .roi .i64 a), (1, .roi .i64 b), (5, .sl 0 1 0 g.1), (6, .int .i64 g.2.2), (7, .int .i64 (g.1 : Int))], fun g => ⟨1, [(0, some (.ints 3 .i64 g.2.1))]⟩,
    fun g => g.1 ≤ a.length ∧ g.2.1.length = g.1 ∧ 0 ≤ g.2.2 ∧ g.2.2 ≤ 1 ∧ g.2.1 ++ restR (a.drop g.1) (b.drop g.1) g.2.2 = restR a b 0, fun g => a.length - g.1, ⟨(0, [], 0), [none], ⟨Nat.zero_le _, rfl, by decide, by decide, rfl⟩, ?_⟩, fun g hg => ?_⟩
  · (repeat' (first | (refine And.intro ?_ ?_) | exact True.intro | (show _ = _; with_reducible rfl) | exact Chk.mk (by kernel_rfl)))
    all_goals rfl
  obtain ⟨i, out, c⟩ := g
  obtain ⟨g1, g2, g3, g4, g5⟩ := hg
  have g1 : i ≤ a.length := g1
  have g2 : out.length = i := g2
  have g3 : 0 ≤ c := g3
  have g4 : c ≤ 1 := g4
  have g5 : out ++ restR (a.drop i) (b.drop i) c = restR a b 0 := g5
  by_cases hlt : i < a.length
  · obtain ⟨a1, a2⟩ := dgAt_bd da (i : Int)
    obtain ⟨b1, b2⟩ := dgAt_bd db (i : Int)
    have r1 : rngI .i64 (dgAt a i - dgAt b i) := rng64 (by omega) (by omega)
    have r2 : rngI .i64 (dgAt a i - dgAt b i - c) := rng64 (by omega) (by omega)
    have r3 : rngI .i64 (dgAt a i - dgAt b i - c + 32768) := rng64 (by omega) (by omega)
    have st := restR_step (b := b) (c := c) hlt
    by_cases hs : dgAt a i - dgAt b i - c < 0
    · rw [if_pos hs, if_pos hs] at st
      (repeat' (first | (refine xI (fun hfk => ?_) (fun hfk => ?_) <;> ((try (first | replace hfk := oT hfk | replace hfk := oF hfk | simp only [oA, oB, dh1, dh0, ne_eq, reduceCtorEq] at hfk)); (try exact oX))) | (refine And.intro ?ob ?_; (case ob => (exact oZ))) | exact True.intro | (show _ = _; first | exact oY | (skip; done) | exact rfl) | exact oW | (apply And.intro)))
      refine ⟨(i + 1, out ++ [dgAt a i - dgAt b i - c + 32768], 1), [some 2], ?_, ?mu, ?_⟩
      case mu => (show a.length - (i + 1) < a.length - i; omega)
      · refine ⟨hlt, by simp [g2], by show (0:Int) ≤ 1; decide, by show (1:Int) ≤ 1; decide, ?_⟩
        show (out ++ [_]) ++ restR (a.drop (i + 1)) (b.drop (i + 1)) _ = _
        rw [← g5, st, List.append_assoc]; rfl
      (repeat' (first | (refine And.intro ?_ ?_) | exact True.intro | (show _ = _; with_reducible rfl) | exact Chk.mk (by kernel_rfl)))
      all_goals first | rfl | (show (_ : Int) = _; omega) | (show out.length + 1 = i + 1; omega)
    · rw [if_neg hs, if_neg hs] at st
      (repeat' (first | (refine xI (fun hfk => ?_) (fun hfk => ?_) <;> ((try (first | replace hfk := oT hfk | replace hfk := oF hfk | simp only [oA, oB, dh1, dh0, ne_eq, reduceCtorEq] at hfk)); (try exact oX))) | (refine And.intro ?ob ?_; (case ob => (exact oZ))) | exact True.intro | (show _ = _; first | exact oY | (skip; done) | exact rfl) | exact oW | (apply And.intro)))
      refine ⟨(i + 1, out ++ [dgAt a i - dgAt b i - c], 0), [some 2], ?_, ?mu, ?_⟩
      case mu => (show a.length - (i + 1) < a.length - i; omega)
      · refine ⟨hlt, by simp [g2], by show (0:Int) ≤ 0; decide, by show (0:Int) ≤ 1; decide, ?_⟩
        show (out ++ [_]) ++ restR (a.drop (i + 1)) (b.drop (i + 1)) _ = _
        rw [← g5, st, List.append_assoc]; rfl
      (repeat' (first | (refine And.intro ?_ ?_) | exact True.intro | (show _ = _; with_reducible rfl) | exact Chk.mk (by kernel_rfl)))
      all_goals first | rfl | (show (_ : Int) = _; omega) | (show out.length + 1 = i + 1; omega)
  · have hi : i = a.length := by omega
    have ge : restR (a.drop i) (b.drop i) c = [] := by rw [drop_out (l := a) (by omega), restR]
    rw [ge, List.append_nil] at g5
    have gd : Dig out := by rw [g5]; exact restR_dig da db (by decide) (by decide)
    have gv : trimL out = dgs (valD a - valD b).toNat := by
      rw [trim_dgs gd, g5, restR_val da db (by decide) (by decide) (by omega), Int.sub_zero]
    have qv : List.take i (List.drop 0 out) = out := by rw [List.drop_zero, List.take_of_length_le (by omega)]
    have qs : ShT (List.take i (List.drop 0 out)) := by
      rw [qv]
      exact ⟨by omega⟩
    have qt : trimL (List.take i (List.drop 0 out)) = dgs (valD a - valD b).toNat := by rw [qv]; exact gv
    (repeat' (first | (refine xI (fun hfk => ?_) (fun hfk => ?_) <;> ((try (first | replace hfk := oT hfk | replace hfk := oF hfk | simp only [oA, oB, dh1, dh0, ne_eq, reduceCtorEq] at hfk)); (try exact oX))) | (refine And.intro ?ob ?_; (case ob => (exact oZ))) | exact True.intro | (show _ = _; first | exact oY | (exact qt; done) | exact rfl) | exact oW | (apply And.intro)))
end Go.Proofs.YtljdahepmmgfeaaGreatDoor
namespace Go.Proofs.YtljdahepmmgfeaaGreatDoor
open Go Go.RowKit
set_option maxHeartbeats 4000000
structure Bg (s : Bool) (l : List Int) : Prop where
  dig : Dig l
  can : dgs (valD l).toNat = l
  sh : Sh l
  sg : s = true → valD l ≠ 0
def bzv (s : Bool) (l : List Int) : Int := if s = true then -(valD l) else valD l
abbrev bigA (z : Int) : AV := .agg [.bool (decide (z < 0)), .roi .i64 (dgs z.natAbs)]
theorem bzv_big (z : Int) : bzv (decide (z < 0)) (dgs z.natAbs) = z := by
  unfold bzv
  rw [valD_dgs]
  by_cases h : z < 0
  · rw [decide_eq_true h, if_pos rfl]; omega
  · rw [decide_eq_false h, if_neg (by simp)]; omega
theorem Bg_big {z : Int} (h : (dgs z.natAbs).length ≤ 1000000) : Bg (decide (z < 0)) (dgs z.natAbs) :=
  ⟨Dig_dgs _, by rw [valD_dgs, Int.toNat_natCast], ⟨h⟩, fun k => by have k := of_decide_eq_true k; rw [valD_dgs]; omega⟩
theorem dgs_len0 {n : Nat} : (0 < ((dgs n).length : Int)) ↔ 0 < n := by
  by_cases h : n = 0
  · subst h; rw [dgs_0]; simp
  · rw [dgs_pos h, List.length_cons]; constructor <;> intro _ <;> omega
theorem made_sg (t : Bool) (n : Nat) : (t && decide (0 < ((dgs n).length : Int))) = decide ((if t = true then -(n : Int) else n) < 0) := by
  cases t with
  | true =>
    rw [if_pos rfl, Bool.true_and]
    exact decide_eq_decide.2 ⟨fun h => by have := dgs_len0.1 h; omega, fun h => dgs_len0.2 (by omega)⟩
  | false =>
    rw [if_neg (by simp), Bool.false_and]
    exact (decide_eq_false (by omega)).symm
theorem made_dg (t : Bool) (n : Nat) : dgs n = dgs (if t = true then -(n : Int) else n).natAbs := by
  cases t with
  | true => rw [if_pos rfl]; congr 1; omega
  | false => rw [if_neg (by simp)]; congr 1
theorem made_z {t : Bool} {n : Nat} {z : Int} (h : (if t = true then -(n : Int) else n) = z) : (t && decide (0 < ((dgs n).length : Int))) = decide (z < 0) ∧ dgs n = dgs z.natAbs := by
  rw [← h]; exact ⟨made_sg t n, made_dg t n⟩
theorem dgs_len : ∀ {k n : Nat}, n < 32768 ^ k → (dgs n).length ≤ k
  | 0, n, h => by
    have : n = 0 := by simpa using h
    subst this; rw [dgs_0]; exact Nat.le_refl _
  | k + 1, n, h => by
    by_cases hn : n = 0
    · subst hn; rw [dgs_0]; exact Nat.zero_le _
    · rw [dgs_pos hn, List.length_cons]
      have : n / 32768 < 32768 ^ k := by
        rw [Nat.pow_succ] at h
        exact Nat.div_lt_of_lt_mul (by rw [Nat.mul_comm]; exact h)
      have := dgs_len this
      omega
abbrev gB1 (ob : Bool → List Int → List Prop) (f : Bool → List Int → AV) : PSpec := fun l => match l with | [.agg [.bool s, .roi .i64 d]] => some (ob s d, f s d) | _ => none
abbrev gB2 (ob : Bool → List Int → Bool → List Int → List Prop) (f : Bool → List Int → Bool → List Int → AV) : PSpec := fun l => match l with | [.agg [.bool s, .roi .i64 d], .agg [.bool t, .roi .i64 e]] => some (ob s d t e, f s d t e) | _ => none
abbrev negS : PSpec := gB1 (fun s d => [Bg s d]) fun s d => bigA (-(bzv s d))
theorem neg_s : SOK Tryz.prog 110 negS := by
  refine sok_of (C := mkC 0 [(107, madeS)] noG) (mkC_ok (pok_cons made_s pok_nil) noG_ok) rfl mixed ⟨Tryz.func110, by kernel_rfl, by kernel_rfl, by kernel_rfl⟩ fun l obs v h ho => ?_
  unfold negS at h
  (unfold gB1 at h; split at h; rotate_left; (focus (cases h)); rename_i s d; simp only [Option.some.injEq, Prod.mk.injEq] at h; obtain ⟨rfl, rfl⟩ := h; simp only [List.mem_cons, List.not_mem_nil, or_false, forall_eq_or_imp, forall_eq, false_implies, implies_true] at ho)
  have hn := valD_nn ho.dig
  have hz : (if (!s) = true then -((valD d).toNat : Int) else ((valD d).toNat : Int)) = -(bzv s d) := by
    unfold bzv
    cases s <;> simp <;> omega
  obtain ⟨e1, e2⟩ := made_z hz
  rw [ho.can] at e1 e2
  refine ⟨Nat.le_of_ble_eq_true rfl, ?_⟩
  (repeat' (first | (refine xI (fun hfk => ?_) (fun hfk => ?_) <;> ((try (first | replace hfk := oT hfk | replace hfk := oF hfk | simp only [oA, oB, dh1, dh0, ne_eq, reduceCtorEq] at hfk)); (try exact oX))) | (refine And.intro ?ob ?_; (case ob => (exact oZ))) | exact True.intro | (show _ = _; first | exact oY | (first | exact e1 | exact e2 | exact ⟨e1, e2⟩; done) | exact rfl) | exact oW | (apply And.intro)))
abbrev addS : PSpec := gB2 (fun s d t e => [Bg s d, Bg t e]) fun s d t e => bigA (bzv s d + bzv t e)
theorem add_s : SOK Tryz.prog 109 addS := by
  refine sok_of (C := mkC 0 [(107, madeS), (108, sumS), (106, restS01), (105, lessS)] noG) (mkC_ok (pok_cons made_s (pok_cons sum_s (pok_cons rest01_s (pok_cons less_s pok_nil)))) noG_ok) rfl mixed ⟨Tryz.func109, by kernel_rfl, by kernel_rfl, by kernel_rfl⟩ fun l obs v h ho => ?_
  unfold addS at h
  (unfold gB2 at h; split at h; rotate_left; (focus (cases h)); rename_i s d t e; simp only [Option.some.injEq, Prod.mk.injEq] at h; obtain ⟨rfl, rfl⟩ := h; simp only [List.mem_cons, List.not_mem_nil, or_false, forall_eq_or_imp, forall_eq, false_implies, implies_true] at ho)
  obtain ⟨hd, he⟩ := ho
  have nd := valD_nn hd.dig
  have ne := valD_nn he.dig
  have dd := hd.dig
  have de := he.dig
  have sd := hd.sh
  have se := he.sh
  refine ⟨Nat.le_of_ble_eq_true rfl, ?_⟩
  by_cases hs : s = t
  · have hz : (if s = true then -((valD d + valD e).toNat : Int) else ((valD d + valD e).toNat : Int)) = bzv s d + bzv t e := by
      subst hs
      unfold bzv
      cases s <;> simp <;> omega
    obtain ⟨e1, e2⟩ := made_z hz
    (repeat' (first | (refine xI (fun hfk => ?_) (fun hfk => ?_) <;> ((try (first | replace hfk := oT hfk | replace hfk := oF hfk | simp only [oA, oB, dh1, dh0, ne_eq, reduceCtorEq] at hfk)); (try exact oX))) | (refine And.intro ?ob ?_; (case ob => (exact oZ))) | exact True.intro | (show _ = _; first | exact oY | (first | exact e1 | exact e2 | exact ⟨e1, e2⟩; done) | exact rfl) | exact oW | (apply And.intro)))
  · by_cases hc : valD e ≤ valD d
    · have hl : 0 ≤ cmpV (valD d) (valD e) := by unfold cmpV; rw [if_neg (by omega)]; split <;> decide
      have hz : (if s = true then -((valD d - valD e).toNat : Int) else ((valD d - valD e).toNat : Int)) = bzv s d + bzv t e := by
        unfold bzv
        cases s <;> cases t <;> simp at hs ⊢ <;> omega
      obtain ⟨e1, e2⟩ := made_z hz
      (repeat' (first | (refine xI (fun hfk => ?_) (fun hfk => ?_) <;> ((try (first | replace hfk := oT hfk | replace hfk := oF hfk | simp only [oA, oB, dh1, dh0, ne_eq, reduceCtorEq] at hfk)); (try exact oX))) | (refine And.intro ?ob ?_; (case ob => (exact oZ))) | exact True.intro | (show _ = _; first | exact oY | (first | exact e1 | exact e2 | exact ⟨e1, e2⟩; done) | exact rfl) | exact oW | (apply And.intro)))
    · have hc' : valD d ≤ valD e := by omega
      have hl : ¬ 0 ≤ cmpV (valD d) (valD e) := by unfold cmpV; rw [if_pos (by omega)]; decide
      have hz : (if t = true then -((valD e - valD d).toNat : Int) else ((valD e - valD d).toNat : Int)) = bzv s d + bzv t e := by
        unfold bzv
        cases s <;> cases t <;> simp at hs ⊢ <;> omega
      obtain ⟨e1, e2⟩ := made_z hz
      (repeat' (first | (refine xI (fun hfk => ?_) (fun hfk => ?_) <;> ((try (first | replace hfk := oT hfk | replace hfk := oF hfk | simp only [oA, oB, dh1, dh0, ne_eq, reduceCtorEq] at hfk)); (try exact oX))) | (refine And.intro ?ob ?_; (case ob => (exact oZ))) | exact True.intro | (show _ = _; first | exact oY | (first | exact e1 | exact e2 | exact ⟨e1, e2⟩; done) | exact rfl) | exact oW | (apply And.intro)))
end Go.Proofs.YtljdahepmmgfeaaGreatDoor
namespace Go.Proofs.YtljdahepmmgfeaaGreatDoor
open Go Go.RowKit
set_option maxHeartbeats 4000000
theorem Bg.nat {s : Bool} {l : List Int} (h : Bg s l) : dgs (bzv s l).natAbs = l := by
  have := valD_nn h.dig
  have e : (bzv s l).natAbs = (valD l).toNat := by unfold bzv; cases s <;> simp <;> omega
  rw [e, h.can]
theorem Bg.neg {s : Bool} {l : List Int} (h : Bg s l) : Bg (decide (-(bzv s l) < 0)) (dgs (-(bzv s l)).natAbs) :=
  Bg_big (by rw [Int.natAbs_neg, h.nat]; exact h.sh.le)
abbrev subS : PSpec := gB2 (fun s d t e => [Bg s d, Bg t e]) fun s d t e => bigA (bzv s d - bzv t e)
theorem sub_s : SOK Tryz.prog 75 subS := by
  refine sok_of (C := mkC 0 [(109, addS), (110, negS)] noG) (mkC_ok (pok_cons add_s (pok_cons neg_s pok_nil)) noG_ok) rfl mixed ⟨Tryz.func75, by kernel_rfl, by kernel_rfl, by kernel_rfl⟩ fun l obs v h ho => ?_
  unfold subS at h
  (unfold gB2 at h; split at h; rotate_left; (focus (cases h)); rename_i s d t e; simp only [Option.some.injEq, Prod.mk.injEq] at h; obtain ⟨rfl, rfl⟩ := h; simp only [List.mem_cons, List.not_mem_nil, or_false, forall_eq_or_imp, forall_eq, false_implies, implies_true] at ho)
  obtain ⟨hd, he⟩ := ho
  have hn := he.neg
  have hz : bzv s d + bzv (decide (-(bzv t e) < 0)) (dgs (-(bzv t e)).natAbs) = bzv s d - bzv t e := by rw [bzv_big]; omega
  have e1 : decide (bzv s d + bzv (decide (-(bzv t e) < 0)) (dgs (-(bzv t e)).natAbs) < 0) = decide (bzv s d - bzv t e < 0) := by rw [hz]
  have e2 : dgs (bzv s d + bzv (decide (-(bzv t e) < 0)) (dgs (-(bzv t e)).natAbs)).natAbs = dgs (bzv s d - bzv t e).natAbs := by rw [hz]
  refine ⟨Nat.le_of_ble_eq_true rfl, ?_⟩
  (repeat' (first | (refine xI (fun hfk => ?_) (fun hfk => ?_) <;> ((try (first | replace hfk := oT hfk | replace hfk := oF hfk | simp only [oA, oB, dh1, dh0, ne_eq, reduceCtorEq] at hfk)); (try exact oX))) | (refine And.intro ?ob ?_; (case ob => (exact oZ))) | exact True.intro | (show _ = _; first | exact oY | (first | exact e1 | exact e2 | exact ⟨e1, e2⟩; done) | exact rfl) | exact oW | (apply And.intro)))
abbrev cmpS : PSpec := gB2 (fun s d t e => [Bg s d, Bg t e]) fun s d t e => .int .i64 (cmpV (bzv s d) (bzv t e))
theorem cmp_s : SOK Tryz.prog 121 cmpS := by
  refine sok_of (C := mkC 0 [(75, subS)] noG) (mkC_ok (pok_cons sub_s pok_nil) noG_ok) rfl mixed ⟨Tryz.func121, by kernel_rfl, by kernel_rfl, by kernel_rfl⟩ fun l obs v h ho => ?_
  unfold cmpS at h
  (unfold gB2 at h; split at h; rotate_left; (focus (cases h)); rename_i s d t e; simp only [Option.some.injEq, Prod.mk.injEq] at h; obtain ⟨rfl, rfl⟩ := h; simp only [List.mem_cons, List.not_mem_nil, or_false, forall_eq_or_imp, forall_eq, false_implies, implies_true] at ho)
  obtain ⟨hd, he⟩ := ho
  refine ⟨Nat.le_of_ble_eq_true rfl, ?_⟩
  rcases Int.lt_trichotomy (bzv s d) (bzv t e) with hc | hc | hc
  · have hb : decide (bzv s d - bzv t e < 0) = true := decide_eq_true (by omega)
    have hl : ¬ ((dgs (bzv s d - bzv t e).natAbs).length : Int) = 0 := by
      intro h; have := dgs_len0 (n := (bzv s d - bzv t e).natAbs); omega
    have e : (-1 : Int) = cmpV (bzv s d) (bzv t e) := by unfold cmpV; rw [if_pos hc]
    (repeat' (first | (refine xI (fun hfk => ?_) (fun hfk => ?_) <;> ((try (first | replace hfk := oT hfk | replace hfk := oF hfk | simp only [oA, oB, dh1, dh0, ne_eq, reduceCtorEq] at hfk)); (try exact oX))) | (refine And.intro ?ob ?_; (case ob => (exact oZ))) | exact True.intro | (show _ = _; first | exact oY | (exact e; done) | exact rfl) | exact oW | (apply And.intro)))
  · have hl : ((dgs (bzv s d - bzv t e).natAbs).length : Int) = 0 := by
      have := dgs_len0 (n := (bzv s d - bzv t e).natAbs); omega
    have e : (0 : Int) = cmpV (bzv s d) (bzv t e) := by unfold cmpV; rw [if_neg (by omega), if_neg (by omega)]
    (repeat' (first | (refine xI (fun hfk => ?_) (fun hfk => ?_) <;> ((try (first | replace hfk := oT hfk | replace hfk := oF hfk | simp only [oA, oB, dh1, dh0, ne_eq, reduceCtorEq] at hfk)); (try exact oX))) | (refine And.intro ?ob ?_; (case ob => (exact oZ))) | exact True.intro | (show _ = _; first | exact oY | (exact e; done) | exact rfl) | exact oW | (apply And.intro)))
  · have hb : ¬ decide (bzv s d - bzv t e < 0) = true := fun k => by have := of_decide_eq_true k; omega
    have hl : ¬ ((dgs (bzv s d - bzv t e).natAbs).length : Int) = 0 := by
      intro h; have := dgs_len0 (n := (bzv s d - bzv t e).natAbs); omega
    have e : (1 : Int) = cmpV (bzv s d) (bzv t e) := by unfold cmpV; rw [if_neg (by omega), if_pos hc]
    (repeat' (first | (refine xI (fun hfk => ?_) (fun hfk => ?_) <;> ((try (first | replace hfk := oT hfk | replace hfk := oF hfk | simp only [oA, oB, dh1, dh0, ne_eq, reduceCtorEq] at hfk)); (try exact oX))) | (refine And.intro ?ob ?_; (case ob => (exact oZ))) | exact True.intro | (show _ = _; first | exact oY | (exact e; done) | exact rfl) | exact oW | (apply And.intro)))
abbrev unsS : PSpec := fun l => match l with | [.int .u64 x] => some ([0 ≤ x, x < 18446744073709551616], bigA x) | _ => none
theorem uns_s : SOK Tryz.prog 77 unsS := by
  refine sok_of (C := mkC 0 [] noG) (mkC_ok pok_nil noG_ok) rfl mixed ⟨Tryz.func77, by kernel_rfl, by kernel_rfl, by kernel_rfl⟩ fun l obs v h ho => ?_
  (unfold unsS at h; split at h; rotate_left; (focus (cases h)); rename_i x; simp only [Option.some.injEq, Prod.mk.injEq] at h; obtain ⟨rfl, rfl⟩ := h; simp only [List.mem_cons, List.not_mem_nil, or_false, forall_eq_or_imp, forall_eq, false_implies, implies_true] at ho)
  obtain ⟨h0, h1⟩ := ho
  have hk : (dgs x.toNat).length ≤ 5 := dgs_len (by rw [show (32768 : Nat) ^ 5 = 37778931862957161709568 from by decide]; omega)
  refine ⟨Nat.le_of_ble_eq_true rfl, ?_⟩
  (repeat' (first | (refine xI (fun hfk => ?_) (fun hfk => ?_) <;> ((try (first | replace hfk := oT hfk | replace hfk := oF hfk | simp only [oA, oB, dh1, dh0, ne_eq, reduceCtorEq] at hfk)); (try exact oX))) | (refine And.intro ?ob ?_; (case ob => (exact oZ))) | exact True.intro | (show _ = _; first | exact oY | (skip; done) | exact rfl) | exact oW | (apply And.intro)))
  refine ⟨Int × List Int, fun g => [(0, .int .u64 g.1), (2, .ptr 0 0), (3, .sl 1 1 0 g.2.length)], fun g => ⟨2, [(0, some (.cells 76 [.fls, .nils])), (1, some (.ints 3 .i64 g.2))]⟩,
    fun g => 0 ≤ g.1 ∧ g.1 ≤ x ∧ g.2 ++ dgs g.1.toNat = dgs x.toNat, fun g => g.1.toNat, ⟨(x, []), [some 0, none], ⟨h0, Int.le_refl _, rfl⟩, ?_⟩, fun g hg => ?_⟩
  · (repeat' (first | (refine And.intro ?_ ?_) | exact True.intro | (show _ = _; with_reducible rfl) | exact Chk.mk (by kernel_rfl)))
    all_goals rfl
  obtain ⟨y, out⟩ := g
  obtain ⟨g0, g1, g2⟩ := hg
  have g0 : 0 ≤ y := g0
  have g1 : y ≤ x := g1
  have g2 : out ++ dgs y.toNat = dgs x.toNat := g2
  have g3 : out.length + (dgs y.toNat).length ≤ 5 := by rw [← List.length_append, g2]; exact hk
  by_cases hp : 0 < y
  · have hm : Int.tmod y 32768 = y % 32768 := Int.tmod_eq_emod_of_nonneg g0
    have hd : Int.tdiv y 32768 = y / 32768 := Int.tdiv_eq_ediv_of_nonneg g0
    have hw : IntKind.u64.wrap (Int.tdiv y 32768) = y / 32768 := by
      rw [hd]; exact wrap_rng ⟨by show (0 : Int) ≤ _; omega, by show _ ≤ (18446744073709551615 : Int); omega⟩
    have rm : rngI .i64 (Int.tmod y 32768) := by rw [hm]; exact rng64 (by omega) (by omega)
    have st : dgs y.toNat = (y % 32768) :: dgs (y / 32768).toNat := by
      rw [dgs_pos (by omega)]
      congr 1
      · omega
      · congr 1; omega
    (repeat' (first | (refine xI (fun hfk => ?_) (fun hfk => ?_) <;> ((try (first | replace hfk := oT hfk | replace hfk := oF hfk | simp only [oA, oB, dh1, dh0, ne_eq, reduceCtorEq] at hfk)); (try exact oX))) | (refine And.intro ?ob ?_; (case ob => (exact oZ))) | exact True.intro | (show _ = _; first | exact oY | (skip; done) | exact rfl) | exact oW | (apply And.intro)))
    refine ⟨(y / 32768, out ++ [y % 32768]), [some 0, some 3], ?_, ?mu, ?_⟩
    case mu => (show (y / 32768).toNat < y.toNat; omega)
    · refine ⟨by show 0 ≤ y / 32768; omega, by show y / 32768 ≤ x; omega, ?_⟩
      show (out ++ [_]) ++ dgs (y / 32768).toNat = _
      rw [← g2, st, List.append_assoc]; rfl
    have qa : out ++ List.take 1 (List.drop 0 [Int.tmod y 32768]) = out ++ [y % 32768] := by rw [hm]; rfl
    have ql : out.length + (List.take 1 (List.drop 0 [Int.tmod y 32768])).length = (out ++ [y % 32768]).length := by rw [List.length_append]; rfl
    (repeat' (first | (refine And.intro ?_ ?_) | exact True.intro | (show _ = _; with_reducible rfl) | exact Chk.mk (by kernel_rfl)))
    all_goals first | exact hw | exact qa | exact ql
  · have hy : y = 0 := by omega
    have e2 : List.take out.length (List.drop 0 out) = dgs x.natAbs := by
      rw [hy] at g2
      rw [show x.natAbs = x.toNat from by omega, ← g2, List.drop_zero, List.take_length]
      show out = out ++ dgs 0
      rw [dgs_0, List.append_nil]
    have e1 : false = decide (x < 0) := (decide_eq_false (by omega)).symm
    (repeat' (first | (refine xI (fun hfk => ?_) (fun hfk => ?_) <;> ((try (first | replace hfk := oT hfk | replace hfk := oF hfk | simp only [oA, oB, dh1, dh0, ne_eq, reduceCtorEq] at hfk)); (try exact oX))) | (refine And.intro ?ob ?_; (case ob => (exact oZ))) | exact True.intro | (show _ = _; first | exact oY | (first | exact e1 | exact e2 | exact ⟨e1, e2⟩; done) | exact rfl) | exact oW | (apply And.intro)))
end Go.Proofs.YtljdahepmmgfeaaGreatDoor
namespace Go.Proofs.YtljdahepmmgfeaaGreatDoor
open Go Go.RowKit
set_option maxHeartbeats 4000000
theorem u64_id {n : Int} (h0 : 0 ≤ n) (h1 : n < 18446744073709551616) : IntKind.u64.wrap n = n :=
  wrap_rng ⟨by show (0 : Int) ≤ _; exact h0, by show _ ≤ (18446744073709551615 : Int); omega⟩
abbrev ofS : PSpec := fun l => match l with | [.int .i64 x] => some ([-9223372036854775808 ≤ x, x < 9223372036854775808], bigA x) | _ => none
theorem of_s : SOK Tryz.prog 46 ofS := by
  refine sok_of (C := mkC 0 [(77, unsS)] noG) (mkC_ok (pok_cons uns_s pok_nil) noG_ok) rfl mixed ⟨Tryz.func46, by kernel_rfl, by kernel_rfl, by kernel_rfl⟩ fun l obs v h ho => ?_
  (unfold ofS at h; split at h; rotate_left; (focus (cases h)); rename_i x; simp only [Option.some.injEq, Prod.mk.injEq] at h; obtain ⟨rfl, rfl⟩ := h; simp only [List.mem_cons, List.not_mem_nil, or_false, forall_eq_or_imp, forall_eq, false_implies, implies_true] at ho)
  obtain ⟨h0, h1⟩ := ho
  refine ⟨Nat.le_of_ble_eq_true rfl, ?_⟩
  by_cases hx : x < 0
  · have w1 : IntKind.u64.wrap (0 - (x + 1)) = 0 - (x + 1) := u64_id (by omega) (by omega)
    have w2 : IntKind.u64.wrap (IntKind.u64.wrap (0 - (x + 1)) + 1) = -x := by rw [w1, u64_id (by omega) (by omega)]; omega
    have k0 : 0 ≤ IntKind.u64.wrap (IntKind.u64.wrap (0 - (x + 1)) + 1) := by rw [w2]; omega
    have k1 : IntKind.u64.wrap (IntKind.u64.wrap (0 - (x + 1)) + 1) < 18446744073709551616 := by rw [w2]; omega
    have e1 : true = decide (x < 0) := (decide_eq_true hx).symm
    have e2 : dgs (IntKind.u64.wrap (IntKind.u64.wrap (0 - (x + 1)) + 1)).natAbs = dgs x.natAbs := by rw [w2, Int.natAbs_neg]
    have r1 : rngI .i64 (x + 1) := rng64 (by omega) (by omega)
    have r2 : rngI .i64 (0 - (x + 1)) := rng64 (by omega) (by omega)
    (repeat' (first | (refine xI (fun hfk => ?_) (fun hfk => ?_) <;> ((try (first | replace hfk := oT hfk | replace hfk := oF hfk | simp only [oA, oB, dh1, dh0, ne_eq, reduceCtorEq] at hfk)); (try exact oX))) | (refine And.intro ?ob ?_; (case ob => (exact oZ))) | exact True.intro | (show _ = _; first | exact oY | (first | exact e1 | exact e2 | exact ⟨e1, e2⟩; done) | exact rfl) | exact oW | (apply And.intro)))
  · have w1 : IntKind.u64.wrap x = x := u64_id (by omega) (by omega)
    have k0 : 0 ≤ IntKind.u64.wrap x := by rw [w1]; omega
    have k1 : IntKind.u64.wrap x < 18446744073709551616 := by rw [w1]; omega
    have e1 : decide (IntKind.u64.wrap x < 0) = decide (x < 0) := by rw [w1]
    have e2 : dgs (IntKind.u64.wrap x).natAbs = dgs x.natAbs := by rw [w1]
    (repeat' (first | (refine xI (fun hfk => ?_) (fun hfk => ?_) <;> ((try (first | replace hfk := oT hfk | replace hfk := oF hfk | simp only [oA, oB, dh1, dh0, ne_eq, reduceCtorEq] at hfk)); (try exact oX))) | (refine And.intro ?ob ?_; (case ob => (exact oZ))) | exact True.intro | (show _ = _; first | exact oY | (first | exact e1 | exact e2 | exact ⟨e1, e2⟩; done) | exact rfl) | exact oW | (apply And.intro)))
theorem valD_drop_le : ∀ {l : List Int} (k : Nat), Dig l → valD (l.drop k) ≤ valD l
  | [], k, h => by simp
  | d :: l, 0, h => by simp
  | d :: l, k + 1, h => by
    have := valD_drop_le (l := l) k h.tail
    have := valD_nn h.tail
    have := h.head.lo
    simp only [List.drop_succ_cons, valD]
    omega
abbrev unsignedS : PSpec := gB1 (fun s d => [Bg s d, valD d < 18446744073709551616]) fun s d => .int .u64 (valD d)
theorem unsigned_s : SOK Tryz.prog 74 unsignedS := by
  refine sok_of (C := mkC 0 [] noG) (mkC_ok pok_nil noG_ok) rfl mixed ⟨Tryz.func74, by kernel_rfl, by kernel_rfl, by kernel_rfl⟩ fun l obs v h ho => ?_
  unfold unsignedS at h
  (unfold gB1 at h; split at h; rotate_left; (focus (cases h)); rename_i s d; simp only [Option.some.injEq, Prod.mk.injEq] at h; obtain ⟨rfl, rfl⟩ := h; simp only [List.mem_cons, List.not_mem_nil, or_false, forall_eq_or_imp, forall_eq, false_implies, implies_true] at ho)
  obtain ⟨hd, hv⟩ := ho
  have dd := hd.dig
  have hl := hd.sh.le
  refine ⟨Nat.le_of_ble_eq_true rfl, ?_⟩
  have r0 : rngI .i64 ((d.length : Int) - 1) := rng64 (by omega) (by omega)
  (repeat' (first | (refine xI (fun hfk => ?_) (fun hfk => ?_) <;> ((try (first | replace hfk := oT hfk | replace hfk := oF hfk | simp only [oA, oB, dh1, dh0, ne_eq, reduceCtorEq] at hfk)); (try exact oX))) | (refine And.intro ?ob ?_; (case ob => (exact oZ))) | exact True.intro | (show _ = _; first | exact oY | (skip; done) | exact rfl) | exact oW | (apply And.intro)))
  refine ⟨Nat, fun k => [(1, .ptr 0 0), (3, .int .u64 (valD (d.drop k))), (4, .int .i64 ((k : Int) - 1))], fun k => ⟨1, [(0, some (.cells 76 [.bool s, .roi .i64 d]))]⟩, fun k => k ≤ d.length, fun k => k, ⟨d.length, [some 0], Nat.le_refl _, ?_⟩, fun k hk => ?_⟩
  · have e : (0 : Int) = valD (d.drop d.length) := by rw [List.drop_length]; rfl
    (repeat' (first | (refine And.intro ?_ ?_) | exact True.intro | (show _ = _; with_reducible rfl) | exact Chk.mk (by kernel_rfl)))
    all_goals first | rfl | exact e
  have hk : k ≤ d.length := hk
  cases k with
  | zero =>
    have e : valD (d.drop 0) = valD d := by rw [List.drop_zero]
    (repeat' (first | (refine xI (fun hfk => ?_) (fun hfk => ?_) <;> ((try (first | replace hfk := oT hfk | replace hfk := oF hfk | simp only [oA, oB, dh1, dh0, ne_eq, reduceCtorEq] at hfk)); (try exact oX))) | (refine And.intro ?ob ?_; (case ob => (exact oZ))) | exact True.intro | (show _ = _; first | exact oY | (exact e; done) | exact rfl) | exact oW | (apply And.intro)))
  | succ j =>
    have ej : (((j + 1 : Nat) : Int) - 1) = (j : Int) := by omega
    have et : (((j + 1 : Nat) : Int) - 1).toNat = j := by omega
    have va := valD_drop d j
    have vle := valD_drop_le j dd
    have vn := valD_nn (dd.drop (j + 1))
    obtain ⟨b0, b1⟩ := dgAt_bd dd (j : Int)
    have eg : dgAt d j = d.getD j 0 := dgAt_in hk
    have w1 : IntKind.u64.wrap (valD (d.drop (j + 1)) * 32768) = valD (d.drop (j + 1)) * 32768 := u64_id (by omega) (by omega)
    have w2 : IntKind.u64.wrap (d.getD (((j + 1 : Nat) : Int) - 1).toNat 0) = d.getD j 0 := by rw [et]; exact u64_id (by omega) (by omega)
    have w3 : IntKind.u64.wrap (IntKind.u64.wrap (valD (d.drop (j + 1)) * 32768) + IntKind.u64.wrap (d.getD (((j + 1 : Nat) : Int) - 1).toNat 0)) = valD (d.drop j) := by
      rw [w1, w2, u64_id (by omega) (by omega), va]; omega
    have rj : rngI .i64 (((j + 1 : Nat) : Int) - 1 - 1) := rng64 (by omega) (by omega)
    (repeat' (first | (refine xI (fun hfk => ?_) (fun hfk => ?_) <;> ((try (first | replace hfk := oT hfk | replace hfk := oF hfk | simp only [oA, oB, dh1, dh0, ne_eq, reduceCtorEq] at hfk)); (try exact oX))) | (refine And.intro ?ob ?_; (case ob => (exact oZ))) | exact True.intro | (show _ = _; first | exact oY | (skip; done) | exact rfl) | exact oW | (apply And.intro)))
    refine ⟨j, [some 0], by omega, ?mu, ?_⟩
    case mu => (show j < j + 1; omega)
    (repeat' (first | (refine And.intro ?_ ?_) | exact True.intro | (show _ = _; with_reducible rfl) | exact Chk.mk (by kernel_rfl)))
    all_goals first | rfl | exact w3 | (show (_ : Int) = _; omega)
abbrev smallS : PSpec := gB1 (fun s d => [Bg s d, valD d < 9223372036854775808]) fun s d => .int .i64 (bzv s d)
theorem small_s : SOK Tryz.prog 122 smallS := by
  refine sok_of (C := mkC 0 [(74, unsignedS)] noG) (mkC_ok (pok_cons unsigned_s pok_nil) noG_ok) rfl mixed ⟨Tryz.func122, by kernel_rfl, by kernel_rfl, by kernel_rfl⟩ fun l obs v h ho => ?_
  unfold smallS at h
  (unfold gB1 at h; split at h; rotate_left; (focus (cases h)); rename_i s d; simp only [Option.some.injEq, Prod.mk.injEq] at h; obtain ⟨rfl, rfl⟩ := h; simp only [List.mem_cons, List.not_mem_nil, or_false, forall_eq_or_imp, forall_eq, false_implies, implies_true] at ho)
  obtain ⟨hd, hv⟩ := ho
  have hn := valD_nn hd.dig
  have hv' : valD d < 18446744073709551616 := by omega
  refine ⟨Nat.le_of_ble_eq_true rfl, ?_⟩
  have r0 : rngI .i64 (valD d) := rng64 (by omega) (by omega)
  have r1 : rngI .i64 (-(valD d)) := rng64 (by omega) (by omega)
  cases s with
  | true =>
    have e : -(valD d) = bzv true d := rfl
    (repeat' (first | (refine xI (fun hfk => ?_) (fun hfk => ?_) <;> ((try (first | replace hfk := oT hfk | replace hfk := oF hfk | simp only [oA, oB, dh1, dh0, ne_eq, reduceCtorEq] at hfk)); (try exact oX))) | (refine And.intro ?ob ?_; (case ob => (exact oZ))) | exact True.intro | (show _ = _; first | exact oY | (exact e; done) | exact rfl) | exact oW | (apply And.intro)))
  | false =>
    have e : valD d = bzv false d := rfl
    (repeat' (first | (refine xI (fun hfk => ?_) (fun hfk => ?_) <;> ((try (first | replace hfk := oT hfk | replace hfk := oF hfk | simp only [oA, oB, dh1, dh0, ne_eq, reduceCtorEq] at hfk)); (try exact oX))) | (refine And.intro ?ob ?_; (case ob => (exact oZ))) | exact True.intro | (show _ = _; first | exact oY | (exact e; done) | exact rfl) | exact oW | (apply And.intro)))
end Go.Proofs.YtljdahepmmgfeaaGreatDoor
namespace Go.Proofs.YtljdahepmmgfeaaGreatDoor
open Go Go.RowKit
set_option maxHeartbeats 4000000
theorem set_take {o : List Int} {p : Nat} (h : p < o.length) (v : Int) : (o.set p v).take (p + 1) = o.take p ++ [v] := by
  rw [List.set_eq_take_append_cons_drop, if_pos h, List.take_append, List.length_take, List.take_of_length_le (by rw [List.length_take]; omega)]
  congr 1
  rw [show p + 1 - min p o.length = 1 from by omega]; rfl
theorem set_drop {o : List Int} {p : Nat} (h : p < o.length) (v : Int) : (o.set p v).drop (p + 1) = o.drop (p + 1) := by
  rw [List.set_eq_take_append_cons_drop, if_pos h, List.drop_append, List.length_take, List.drop_of_length_le (by rw [List.length_take]; omega)]
  rw [show p + 1 - min p o.length = 1 from by omega]; rfl
theorem Dig.set {o : List Int} (h : Dig o) (p : Nat) {v : Int} (hv : Dg v) : Dig (o.set p v) := fun x hx => (List.mem_or_eq_of_mem_set hx).elim (h x) fun e => e ▸ hv
theorem am_next {o b : List Int} {x c : Int} {p k : Nat} (hp : p < o.length) (hk : k < b.length) :
    (o.set p ((o.getD p 0 + x * b.getD k 0 + c) % 32768)).take (p + 1) ++ amR ((o.set p ((o.getD p 0 + x * b.getD k 0 + c) % 32768)).drop (p + 1)) x (b.drop (k + 1)) ((o.getD p 0 + x * b.getD k 0 + c) / 32768) = o.take p ++ amR (o.drop p) x (b.drop k) c := by
  rw [set_take hp, set_drop hp, drop_dg hp, drop_dg hk, amR, dgAt_in hp, dgAt_in hk, List.append_assoc]
  rfl
theorem am_end {o : List Int} {x c : Int} {p : Nat} (hp : p < o.length) : o.set p (o.getD p 0 + c) = o.take p ++ amR (o.drop p) x [] c := by
  rw [drop_dg hp, amR, dgAt_in hp, List.set_eq_take_append_cons_drop, if_pos hp]
theorem mul_next {a b o q : List Int} {i : Nat} (hi : i < a.length) (ho : i < o.length) (e : q = o.take i ++ amR (o.drop i) (dgAt a i) b 0) :
    q.take (i + 1) ++ mulR (q.drop (i + 1)) (a.drop (i + 1)) b = o.take i ++ mulR (o.drop i) (a.drop i) b := by
  have hl := amR_len (o.drop i) (dgAt a i) b 0
  rw [drop_dg hi, mulR]
  cases hA : amR (o.drop i) (dgAt a i) b 0 with
  | nil => rw [hA, List.length_drop] at hl; simp at hl; omega
  | cons y A =>
    rw [hA] at e
    have hm : min i o.length = i := by omega
    have e1 : q.take (i + 1) = o.take i ++ [y] := by
      rw [e, List.take_append, List.length_take, hm, List.take_of_length_le (by rw [List.length_take]; omega), show i + 1 - i = 1 from by omega]; rfl
    have e2 : q.drop (i + 1) = A := by
      rw [e, List.drop_append, List.length_take, hm, List.drop_of_length_le (by rw [List.length_take]; omega), show i + 1 - i = 1 from by omega]; rfl
    rw [e1, e2, List.append_assoc]; rfl
theorem mul_dig {a b o q : List Int} {i : Nat} (da : Dig a) (db : Dig b) (dO : Dig o) (hz : ∀ j, i + b.length ≤ j → o.getD j 0 = 0) (hi : i < a.length) (e : q = o.take i ++ amR (o.drop i) (dgAt a i) b 0) : Dig q := by
  rw [e]
  refine (dO.take i).app (amR_dig (dO.drop i) ⟨(dgAt_bd da i).1, (dgAt_bd da i).2⟩ db (by decide) (by decide) fun j hj => ?_)
  have := hz (i + j) (by omega)
  simpa [List.getD, List.getElem?_drop] using this
theorem mul_zero {a b o q : List Int} {i : Nat} (hz : ∀ j, i + b.length ≤ j → o.getD j 0 = 0) (ho : i < o.length) (e : q = o.take i ++ amR (o.drop i) (dgAt a i) b 0) : ∀ j, i + 1 + b.length ≤ j → q.getD j 0 = 0 := by
  intro j hj
  have h1 := amR_zero (o.drop i) (dgAt a i) b 0 (j - i) (by omega)
  have h2 := hz j (by omega)
  have h3 : (o.drop i).getD (j - i) 0 = o.getD j 0 := by
    simp only [List.getD, List.getElem?_drop]
    rw [show i + (j - i) = j from by omega]
  have hm : min i o.length = i := by omega
  have h4 : q.getD j 0 = (amR (o.drop i) (dgAt a i) b 0).getD (j - i) 0 := by
    rw [e]
    simp only [List.getD]
    rw [List.getElem?_append_right (by rw [List.length_take]; omega), List.length_take, hm]
  rw [h4, h1, h3, h2]
theorem valD_zero : ∀ n : Nat, valD (List.replicate n 0) = 0
  | 0 => rfl
  | n + 1 => by rw [List.replicate_succ, valD, valD_zero n]; rfl
abbrev mulS : PSpec := gB2 (fun s d t e => [Bg s d, Bg t e]) fun s d t e => bigA (bzv s d * bzv t e)
theorem mul_s : SOK Tryz.prog 76 mulS := by
  refine sok_of (C := mkK 0 [(107, madeS), (104, trimS)] noG [1000003]) (mkK_ok (pok_cons made_s (pok_cons trim_s pok_nil)) noG_ok) rfl mixed ⟨Tryz.func76, by kernel_rfl, by kernel_rfl, by kernel_rfl⟩ fun l obs v h ho => ?_
  unfold mulS at h
  (unfold gB2 at h; split at h; rotate_left; (focus (cases h)); rename_i s a t b; simp only [Option.some.injEq, Prod.mk.injEq] at h; obtain ⟨rfl, rfl⟩ := h; simp only [List.mem_cons, List.not_mem_nil, or_false, forall_eq_or_imp, forall_eq, false_implies, implies_true] at ho)
  obtain ⟨ha, hb⟩ := ho
  have da := ha.dig
  have db := hb.dig
  have la := ha.sh.le
  have lb := hb.sh.le
  refine ⟨Nat.le_of_ble_eq_true rfl, ?_⟩
  obtain ⟨N, hN⟩ : ∃ N : Nat, a.length + b.length + 1 = N := ⟨_, rfl⟩
  have hNt : ((a.length : Int) + b.length + 1).toNat = N := by omega
  have r0 : rngI .i64 ((a.length : Int) + b.length) := rng64 (by omega) (by omega)
  have r1 : rngI .i64 ((a.length : Int) + b.length + 1) := rng64 (by omega) (by omega)
  (repeat' (first | (refine xI (fun hfk => ?_) (fun hfk => ?_) <;> ((try (first | replace hfk := oT hfk | replace hfk := oF hfk | simp only [oA, oB, dh1, dh0, ne_eq, reduceCtorEq] at hfk)); (try exact oX))) | (refine And.intro ?ob ?_; (case ob => (exact oZ))) | exact True.intro | (show _ = _; first | exact oY | (skip; done) | exact rfl) | exact oW | (apply And.intro)))
  refine ⟨Nat × List Int, fun g => [(2, .ptr 0 0), (3, .ptr 1 0), (4, .ptr 2 0), (5, .sl 3 1 0 N), (6, .int .i64 (g.1 : Int))],
    fun g => ⟨4, [(0, some (.cells 76 [.bool s, .roi .i64 a])), (1, some (.cells 76 [.bool t, .roi .i64 b])), (2, some (.cells 76 [.fls, .nils])), (3, some (.ints 3 .i64 g.2))]⟩,
    fun g => g.1 ≤ a.length ∧ g.2.length = N ∧ Dig g.2 ∧ (∀ j, g.1 + b.length ≤ j → g.2.getD j 0 = 0) ∧ g.2.take g.1 ++ mulR (g.2.drop g.1) (a.drop g.1) b = mulR (List.replicate N 0) a b, fun g => a.length - g.1,
    ⟨(0, List.replicate N 0), [some 0, some 1, some 2, some 3], ⟨Nat.zero_le _, List.length_replicate, fun x hx => by rw [List.eq_of_mem_replicate hx]; exact ⟨by decide, by decide⟩, fun j _ => by simp [List.getD, List.getElem?_replicate]; split <;> rfl, rfl⟩, ?_⟩, fun g hg => ?_⟩
  · have q1 : List.replicate ((a.length : Int) + b.length + 1).toNat (0 : Int) = List.replicate N 0 := by rw [hNt]
    (repeat' (first | (refine And.intro ?_ ?_) | exact True.intro | (show _ = _; with_reducible rfl) | exact Chk.mk (by kernel_rfl)))
    all_goals first | rfl | exact hNt | exact q1
  obtain ⟨i, o⟩ := g
  obtain ⟨g1, g2, g3, g4, g5⟩ := hg
  have g1 : i ≤ a.length := g1
  have g2 : o.length = N := g2
  have g3 : Dig o := g3
  have g4 : ∀ j, i + b.length ≤ j → o.getD j 0 = 0 := g4
  have g5 : o.take i ++ mulR (o.drop i) (a.drop i) b = mulR (List.replicate N 0) a b := g5
  by_cases hlt : i < a.length
  · have hlt' : (i : Int) < (a.length : Int) := by omega
    (repeat' (first | (refine xI (fun hfk => ?_) (fun hfk => ?_) <;> ((try (first | replace hfk := oT hfk | replace hfk := oF hfk | simp only [oA, oB, dh1, dh0, ne_eq, reduceCtorEq] at hfk)); (try exact oX))) | (refine And.intro ?ob ?_; (case ob => (exact oZ))) | exact True.intro | (show _ = _; first | exact oY | (skip; done) | exact rfl) | exact oW | (apply And.intro)))
    refine ⟨[], ?_⟩
    refine ⟨[(2, .ptr 0 0), (3, .ptr 1 0), (4, .ptr 2 0), (5, .sl 3 1 0 N), (6, .int .i64 (i : Int)), (23, .bool (decide ((i : Int) < (a.length : Int))))],
      ⟨4, [(0, some (.cells 76 [.bool s, .roi .i64 a])), (1, some (.cells 76 [.bool t, .roi .i64 b])), (2, some (.cells 76 [.fls, .nils])), (3, some (.ints 3 .i64 o))]⟩, [some 0, some 1, some 2, some 3], ?_, ?_⟩
    · (repeat' (first | (refine And.intro ?_ ?_) | exact True.intro | (show _ = _; with_reducible rfl) | exact Chk.mk (by kernel_rfl)))
      all_goals rfl
    (repeat' (first | (refine xI (fun hfk => ?_) (fun hfk => ?_) <;> ((try (first | replace hfk := oT hfk | replace hfk := oF hfk | simp only [oA, oB, dh1, dh0, ne_eq, reduceCtorEq] at hfk)); (try exact oX))) | (refine And.intro ?ob ?_; (case ob => (exact oZ))) | exact True.intro | (show _ = _; first | exact oY | (skip; done) | exact rfl) | exact oW | (apply And.intro)))
    refine ⟨Nat × List Int × Int, fun g => [(2, .ptr 0 0), (3, .ptr 1 0), (4, .ptr 2 0), (5, .sl 3 1 0 N), (6, .int .i64 (i : Int)), (7, .int .i64 g.2.2), (8, .int .i64 (g.1 : Int))],
      fun g => ⟨4, [(0, some (.cells 76 [.bool s, .roi .i64 a])), (1, some (.cells 76 [.bool t, .roi .i64 b])), (2, some (.cells 76 [.fls, .nils])), (3, some (.ints 3 .i64 g.2.1))]⟩,
      fun g => g.1 ≤ b.length ∧ g.2.1.length = N ∧ Dig g.2.1 ∧ 0 ≤ g.2.2 ∧ g.2.2 < 32768 ∧ g.2.1.take (i + g.1) ++ amR (g.2.1.drop (i + g.1)) (dgAt a i) (b.drop g.1) g.2.2 = o.take i ++ amR (o.drop i) (dgAt a i) b 0, fun g => b.length - g.1,
      ⟨(0, o, 0), [some 0, some 1, some 2, some 3], ⟨Nat.zero_le _, g2, g3, by show (0 : Int) ≤ 0; decide, by show (0 : Int) < 32768; decide, rfl⟩, ?_⟩, fun g hg => ?_⟩
    · (repeat' (first | (refine And.intro ?_ ?_) | exact True.intro | (show _ = _; with_reducible rfl) | exact Chk.mk (by kernel_rfl)))
      all_goals rfl
    obtain ⟨k, q, c⟩ := g
    obtain ⟨k1, k2, k3, k4, k5, k6⟩ := hg
    have k1 : k ≤ b.length := k1
    have k2 : q.length = N := k2
    have k3 : Dig q := k3
    have k4 : 0 ≤ c := k4
    have k5 : c < 32768 := k5
    have k6 : q.take (i + k) ++ amR (q.drop (i + k)) (dgAt a i) (b.drop k) c = o.take i ++ amR (o.drop i) (dgAt a i) b 0 := k6
    have hp : i + k < q.length := by omega
    have et : ((i : Int) + (k : Int)).toNat = i + k := by omega
    obtain ⟨q0, q1⟩ := dgAt_bd k3 ((i + k : Nat) : Int)
    rw [dgAt_in hp] at q0 q1
    obtain ⟨x0, x1⟩ := dgAt_bd da (i : Int)
    have ex := dgAt_in hlt
    have r2 : rngI .i64 ((i : Int) + (k : Int)) := rng64 (by omega) (by omega)
    by_cases hk : k < b.length
    · have hk' : (k : Int) < (b.length : Int) := by omega
      obtain ⟨y0, y1⟩ := dgAt_bd db (k : Int)
      have ey := dgAt_in hk
      rw [ex] at x0 x1
      rw [ey] at y0 y1
      have p0 : 0 ≤ a.getD i 0 * b.getD k 0 := Int.mul_nonneg x0 y0
      have p1 : a.getD i 0 * b.getD k 0 ≤ 32767 * 32767 := Int.mul_le_mul (by omega) (by omega) y0 (by omega)
      have r3 : rngI .i64 (a.getD i 0 * b.getD k 0) := rng64 (by omega) (by omega)
      have r4 : rngI .i64 (q.getD (i + k) 0 + a.getD i 0 * b.getD k 0) := rng64 (by omega) (by omega)
      have r5 : rngI .i64 (q.getD (i + k) 0 + a.getD i 0 * b.getD k 0 + c) := rng64 (by omega) (by omega)
      have ea : a.getD (i : Int).toNat 0 = a.getD i 0 := rfl
      have eb : b.getD (k : Int).toNat 0 = b.getD k 0 := rfl
      have eq : q.getD (0 + ((i : Int) + (k : Int)).toNat) 0 = q.getD (i + k) 0 := by rw [et, Nat.zero_add]
      have r4' : rngI .i64 (q.getD (0 + ((i : Int) + (k : Int)).toNat) 0 + a.getD (i : Int).toNat 0 * b.getD (k : Int).toNat 0) := by rw [eq]; exact r4
      have r5' : rngI .i64 (q.getD (0 + ((i : Int) + (k : Int)).toNat) 0 + a.getD (i : Int).toNat 0 * b.getD (k : Int).toNat 0 + c) := by rw [eq]; exact r5
      have hd : Int.tdiv (q.getD (i + k) 0 + a.getD i 0 * b.getD k 0 + c) 32768 = (q.getD (i + k) 0 + a.getD i 0 * b.getD k 0 + c) / 32768 := Int.tdiv_eq_ediv_of_nonneg (by omega)
      have hm : Int.tmod (q.getD (i + k) 0 + a.getD i 0 * b.getD k 0 + c) 32768 = (q.getD (i + k) 0 + a.getD i 0 * b.getD k 0 + c) % 32768 := Int.tmod_eq_emod_of_nonneg (by omega)
      have hd' : Int.tdiv (q.getD (0 + ((i : Int) + (k : Int)).toNat) 0 + a.getD (i : Int).toNat 0 * b.getD (k : Int).toNat 0 + c) 32768 = (q.getD (i + k) 0 + a.getD i 0 * b.getD k 0 + c) / 32768 := by rw [eq]; exact hd
      have r6 : rngI .i64 (Int.tdiv (q.getD (0 + ((i : Int) + (k : Int)).toNat) 0 + a.getD (i : Int).toNat 0 * b.getD (k : Int).toNat 0 + c) 32768) := by rw [hd']; exact rng64 (by omega) (by omega)
      have r3' : rngI .i64 (a.getD (i : Int).toNat 0 * b.getD (k : Int).toNat 0) := r3
      have nx := am_next (o := q) (b := b) (x := a.getD i 0) (c := c) hp hk
      (repeat' (first | (refine xI (fun hfk => ?_) (fun hfk => ?_) <;> ((try (first | replace hfk := oT hfk | replace hfk := oF hfk | simp only [oA, oB, dh1, dh0, ne_eq, reduceCtorEq] at hfk)); (try exact oX))) | (refine And.intro ?ob ?_; (case ob => (exact oZ))) | exact True.intro | (show _ = _; first | exact oY | (first | exact r3' | exact r4' | exact r5' | exact r6; done) | exact rfl) | exact oW | (apply And.intro)))
      refine ⟨(k + 1, q.set (i + k) ((q.getD (i + k) 0 + a.getD i 0 * b.getD k 0 + c) % 32768), (q.getD (i + k) 0 + a.getD i 0 * b.getD k 0 + c) / 32768), [some 0, some 1, some 2, some 3], ?_, ?mu, ?_⟩
      case mu => (show b.length - (k + 1) < b.length - k; omega)
      · refine ⟨hk, ?_, k3.set _ ⟨by omega, by omega⟩, ?_, ?_, ?_⟩
        · show (q.set _ _).length = N
          rw [List.length_set]; exact k2
        · show 0 ≤ (q.getD (i + k) 0 + a.getD i 0 * b.getD k 0 + c) / 32768
          omega
        · show (q.getD (i + k) 0 + a.getD i 0 * b.getD k 0 + c) / 32768 < 32768
          omega
        · rw [ex] at k6 ⊢
          rw [← k6, ← nx]
          rfl
      have qa : q.set (0 + ((i : Int) + (k : Int)).toNat) (Int.tmod (q.getD (0 + ((i : Int) + (k : Int)).toNat) 0 + a.getD (i : Int).toNat 0 * b.getD (k : Int).toNat 0 + c) 32768) = q.set (i + k) ((q.getD (i + k) 0 + a.getD i 0 * b.getD k 0 + c) % 32768) := by
        rw [eq, et, Nat.zero_add]
        exact congrArg (q.set (i + k)) hm
      (repeat' (first | (refine And.intro ?_ ?_) | exact True.intro | (show _ = _; with_reducible rfl) | exact Chk.mk (by kernel_rfl)))
      all_goals first | rfl | exact hd' | exact qa | (show (_ : Int) = _; omega)
    · have hk' : ¬ (k : Int) < (b.length : Int) := by omega
      have hkb : k = b.length := by omega
      subst hkb
      rw [List.drop_length] at k6
      have eq : q.getD (0 + ((i : Int) + (b.length : Int)).toNat) 0 = q.getD (i + b.length) 0 := by rw [et, Nat.zero_add]
      have r7 : rngI .i64 (q.getD (0 + ((i : Int) + (b.length : Int)).toNat) 0 + c) := by rw [eq]; exact rng64 (by omega) (by omega)
      have ri : rngI .i64 ((i : Int) + 1) := rng64 (by omega) (by omega)
      have nq : q.set (i + b.length) (q.getD (i + b.length) 0 + c) = o.take i ++ amR (o.drop i) (dgAt a i) b 0 := by rw [am_end hp]; exact k6
      (repeat' (first | (refine xI (fun hfk => ?_) (fun hfk => ?_) <;> ((try (first | replace hfk := oT hfk | replace hfk := oF hfk | simp only [oA, oB, dh1, dh0, ne_eq, reduceCtorEq] at hfk)); (try exact oX))) | (refine And.intro ?ob ?_; (case ob => (exact oZ))) | exact True.intro | (show _ = _; first | exact oY | (exact r7; done) | exact rfl) | exact oW | (apply And.intro)))
      refine ⟨(i + 1, q.set (i + b.length) (q.getD (i + b.length) 0 + c)), [some 0, some 1, some 2, some 3], ?_, ?mu, ?_⟩
      case mu => (show a.length - (i + 1) < a.length - i; omega)
      · refine ⟨hlt, ?_, mul_dig da db g3 g4 hlt nq, mul_zero g4 (by omega) nq, ?_⟩
        · show (q.set _ _).length = N
          rw [List.length_set]; exact k2
        · rw [← g5, ← mul_next hlt (by omega) nq]
      have qa : q.set (0 + ((i : Int) + (b.length : Int)).toNat) (q.getD (0 + ((i : Int) + (b.length : Int)).toNat) 0 + c) = q.set (i + b.length) (q.getD (i + b.length) 0 + c) := by
        rw [eq, et, Nat.zero_add]
      (repeat' (first | (refine And.intro ?_ ?_) | exact True.intro | (show _ = _; with_reducible rfl) | exact Chk.mk (by kernel_rfl)))
      all_goals first | rfl | exact qa | (show (_ : Int) = _; omega)
  · have hlt' : ¬ (i : Int) < (a.length : Int) := by omega
    have hi : i = a.length := by omega
    have hM : o = mulR (List.replicate N 0) a b := by
      rw [← g5, hi, List.drop_length, mulR, List.take_append_drop]
    have hv : valD o = valD a * valD b := by
      rw [hM, mulR_val _ _ _ (by rw [List.length_replicate]; omega), valD_zero, Int.zero_add]
    (repeat' (first | (refine xI (fun hfk => ?_) (fun hfk => ?_) <;> ((try (first | replace hfk := oT hfk | replace hfk := oF hfk | simp only [oA, oB, dh1, dh0, ne_eq, reduceCtorEq] at hfk)); (try exact oX))) | (refine And.intro ?ob ?_; (case ob => (exact oZ))) | exact True.intro | (show _ = _; first | exact oY | (skip; done) | exact rfl) | exact oW | (apply And.intro)))
    refine ⟨[5], ?_⟩
    (repeat' (first | (refine xI (fun hfk => ?_) (fun hfk => ?_) <;> ((try (first | replace hfk := oT hfk | replace hfk := oF hfk | simp only [oA, oB, dh1, dh0, ne_eq, reduceCtorEq] at hfk)); (try exact oX))) | (refine And.intro ?ob ?_; (case ob => (exact oZ))) | exact True.intro | (show _ = _; first | exact oY | (skip; done) | exact rfl) | exact oW | (apply And.intro)))
    refine ⟨[(2, .ptr 0 0), (3, .ptr 1 0), (4, .ptr 2 0), (5, .roi .i64 o), (23, .bool (decide ((i : Int) < (a.length : Int))))],
      ⟨3, [(0, some (.cells 76 [.bool s, .roi .i64 a])), (1, some (.cells 76 [.bool t, .roi .i64 b])), (2, some (.cells 76 [.fls, .nils]))]⟩, [some 0, some 1, some 2], ?_, ?_⟩
    · have qo : List.take N (List.drop 0 o) = o := by rw [List.drop_zero, List.take_of_length_le (by omega)]
      (repeat' (first | (refine And.intro ?_ ?_) | exact True.intro | (show _ = _; with_reducible rfl) | exact Chk.mk (by kernel_rfl)))
      all_goals first | rfl | exact qo
    have qs : ShT o := ⟨by omega⟩
    have ha0 := valD_nn da
    have hb0 := valD_nn db
    have hp0 : 0 ≤ valD a * valD b := Int.mul_nonneg ha0 hb0
    have tr : trimL o = dgs (valD a * valD b).toNat := by rw [trim_dgs g3, hv]
    have hz : (if (!(s == t)) = true then -((valD a * valD b).toNat : Int) else ((valD a * valD b).toNat : Int)) = bzv s a * bzv t b := by
      unfold bzv
      rw [Int.toNat_of_nonneg hp0]
      cases s <;> cases t <;> simp [Int.neg_mul, Int.mul_neg]
    obtain ⟨e1, e2⟩ := made_z hz
    rw [← tr] at e1 e2
    (repeat' (first | (refine xI (fun hfk => ?_) (fun hfk => ?_) <;> ((try (first | replace hfk := oT hfk | replace hfk := oF hfk | simp only [oA, oB, dh1, dh0, ne_eq, reduceCtorEq] at hfk)); (try exact oX))) | (refine And.intro ?ob ?_; (case ob => (exact oZ))) | exact True.intro | (show _ = _; first | exact oY | (first | exact e1 | exact e2 | exact ⟨e1, e2⟩; done) | exact rfl) | exact oW | (apply And.intro)))
end Go.Proofs.YtljdahepmmgfeaaGreatDoor
namespace Go.Proofs.YtljdahepmmgfeaaGreatDoor
open Go Go.RowKit
set_option maxHeartbeats 4000000
def isDec (d : Int) : Bool := decide (48 ≤ d) && decide (d ≤ 57)
def digN : List Int → Nat
  | [] => 0
  | d :: l => if isDec d = true then digN l + 1 else 0
def decV (l : List Int) : Int := l.foldl (fun x d => x * 10 + (d - 48)) 0
theorem digN_le : ∀ l : List Int, digN l ≤ l.length
  | [] => Nat.le_refl _
  | d :: l => by have := digN_le l; unfold digN; split <;> simp <;> omega
theorem digN_in : ∀ {l : List Int} {n : Nat}, n < digN l → n < l.length ∧ 48 ≤ l.getD n 0 ∧ l.getD n 0 ≤ 57
  | [], n, h => by simp [digN] at h
  | d :: l, n, h => by
    unfold digN at h
    split at h
    · rename_i hd
      unfold isDec at hd
      rw [Bool.and_eq_true] at hd
      cases n with
      | zero => exact ⟨by simp, of_decide_eq_true hd.1, of_decide_eq_true hd.2⟩
      | succ n =>
        obtain ⟨a, b, c⟩ := digN_in (l := l) (n := n) (by omega)
        exact ⟨by simp; omega, by simpa using b, by simpa using c⟩
    · omega
theorem digN_out : ∀ {l : List Int}, digN l < l.length → ¬ (48 ≤ l.getD (digN l) 0 ∧ l.getD (digN l) 0 ≤ 57)
  | [], h => by simp at h
  | d :: l, h => by
    by_cases hd : isDec d = true
    · have e : digN (d :: l) = digN l + 1 := by rw [digN, if_pos hd]
      rw [e] at h ⊢
      have := digN_out (l := l) (by simpa using h)
      simpa using this
    · have e : digN (d :: l) = 0 := by rw [digN, if_neg hd]
      rw [e]
      intro k
      exact hd (by unfold isDec; rw [Bool.and_eq_true]; exact ⟨decide_eq_true (by simpa using k.1), decide_eq_true (by simpa using k.2)⟩)
theorem decV_snoc (l : List Int) (d : Int) : decV (l ++ [d]) = decV l * 10 + (d - 48) := by unfold decV; rw [List.foldl_append]; rfl
theorem decV_step {l : List Int} {n : Nat} (h : n < l.length) : decV (l.take (n + 1)) = decV (l.take n) * 10 + (l.getD n 0 - 48) := by
  rw [show l.take (n + 1) = l.take n ++ [l.getD n 0] from by rw [List.take_add_one]; simp [List.getD, List.getElem?_eq_getElem h], decV_snoc]
theorem decV_bd {l : List Int} : ∀ n : Nat, n ≤ digN l → 0 ≤ decV (l.take n) ∧ decV (l.take n) < 10 ^ n
  | 0, _ => by rw [List.take_zero]; exact ⟨by decide, by decide⟩
  | n + 1, h => by
    obtain ⟨a, b⟩ := decV_bd (l := l) n (by omega)
    obtain ⟨c, d, e⟩ := digN_in (l := l) (n := n) (by omega)
    rw [decV_step c, Int.pow_succ]
    constructor <;> omega
theorem ten_le : ∀ n : Nat, (10 : Int) ^ n ≤ ((32768 ^ n : Nat) : Int)
  | 0 => by decide
  | n + 1 => by
    have := ten_le n
    rw [Int.pow_succ, Nat.pow_succ, Int.natCast_mul]
    have h0 : (0 : Int) ≤ ((32768 ^ n : Nat) : Int) := Int.natCast_nonneg _
    show (10 : Int) ^ n * 10 ≤ ((32768 ^ n : Nat) : Int) * 32768
    omega
theorem Bg_pow {z : Int} {n : Nat} (h0 : 0 ≤ z) (h1 : z < 10 ^ n) (hn : n ≤ 1000000) : Bg (decide (z < 0)) (dgs z.natAbs) :=
  Bg_big (Nat.le_trans (dgs_len (k := n) (by have := ten_le n; omega)) hn)
theorem Bg_i64 {z : Int} (h0 : -9223372036854775808 ≤ z) (h1 : z < 9223372036854775808) : Bg (decide (z < 0)) (dgs z.natAbs) :=
  Bg_big (Nat.le_trans (dgs_len (k := 5) (by rw [show (32768 : Nat) ^ 5 = 37778931862957161709568 from by decide]; omega)) (by decide))
end Go.Proofs.YtljdahepmmgfeaaGreatDoor
namespace Go.Proofs.YtljdahepmmgfeaaGreatDoor
open Go Go.RowKit
set_option maxHeartbeats 4000000
def rnV (b : List Int) (most : Int) : Int × Int × Int :=
  if b.length = 0 then (0, 0, 20)
  else if digN b = 0 ∨ (1 < digN b ∧ b.getD 0 0 = 48) then (0, 0, 21)
  else if most < decV (b.take (digN b)) then (0, 0, 30)
  else (decV (b.take (digN b)), digN b, 0)
structure Byt (b : List Int) : Prop where
  le : b.length ≤ 100000
  bd : ∀ i, 0 ≤ b.getD i 0 ∧ b.getD i 0 ≤ 255
abbrev numberS : PSpec := fun l => match l with | [.roi .u8 b, .int .i64 m] => some ([Byt b, -9223372036854775808 ≤ m, m < 9223372036854775808], .tup [.int .i64 (rnV b m).1, .int .i64 (rnV b m).2.1, .int .i64 (rnV b m).2.2]) | _ => none
theorem number_s : SOK Tryz.prog 99 numberS := by
  refine sok_of (C := mkC 0 [(46, ofS), (76, mulS), (109, addS), (121, cmpS), (122, smallS)] noG) (mkC_ok (pok_cons of_s (pok_cons mul_s (pok_cons add_s (pok_cons cmp_s (pok_cons small_s pok_nil))))) noG_ok) rfl mixed ⟨Tryz.func99, by kernel_rfl, by kernel_rfl, by kernel_rfl⟩ fun l obs v h ho => ?_
  (unfold numberS at h; split at h; rotate_left; (focus (cases h)); rename_i b m; simp only [Option.some.injEq, Prod.mk.injEq] at h; obtain ⟨rfl, rfl⟩ := h; simp only [List.mem_cons, List.not_mem_nil, or_false, forall_eq_or_imp, forall_eq, false_implies, implies_true] at ho)
  obtain ⟨hb, m0, m1⟩ := ho
  have bl := hb.le
  refine ⟨Nat.le_of_ble_eq_true rfl, ?_⟩
  (repeat' (first | (refine xI (fun hfk => ?_) (fun hfk => ?_) <;> ((try (first | replace hfk := oT hfk | replace hfk := oF hfk | simp only [oA, oB, dh1, dh0, ne_eq, reduceCtorEq] at hfk)); (try exact oX))) | (refine And.intro ?ob ?_; (case ob => (exact oZ))) | exact True.intro | (show _ = _; first | exact oY | (skip; done) | exact rfl) | exact oW | (apply And.intro)))
  refine ⟨Nat, fun n => [(0, .roi .u8 b), (1, .int .i64 m), (7, .int .i64 (n : Int)), (8, .ptr 0 0)],
    fun n => ⟨1, [(0, some (.cells 76 [.bool (decide (decV (b.take n) < 0)), .roi .i64 (dgs (decV (b.take n)).natAbs)]))]⟩,
    fun n => n ≤ digN b, fun n => digN b - n, ⟨0, [some 0], Nat.zero_le _, ?_⟩, fun n hn => ?_⟩
  · (repeat' (first | (refine And.intro ?_ ?_) | exact True.intro | (show _ = _; with_reducible rfl) | exact Chk.mk (by kernel_rfl)))
    all_goals rfl
  have hn : n ≤ digN b := hn
  have hdl := digN_le b
  obtain ⟨z0, z1⟩ := decV_bd n hn
  obtain ⟨z, hz⟩ : ∃ z, decV (b.take n) = z := ⟨_, rfl⟩
  rw [hz] at z0 z1
  have B1 : Bg (decide (decV (b.take n) < 0)) (dgs (decV (b.take n)).natAbs) := by rw [hz]; exact Bg_pow z0 z1 (by omega)
  have B2 : Bg (decide ((10 : Int) < 0)) (dgs (Int.natAbs 10)) := Bg_i64 (by decide) (by decide)
  by_cases hlt : n < digN b
  · obtain ⟨d1, d2, d3⟩ := digN_in hlt
    have d2' : 48 ≤ b.getD (n : Int).toNat 0 := d2
    have d3' : b.getD (n : Int).toNat 0 ≤ 57 := d3
    have d1' : (n : Int) < (b.length : Int) := by omega
    obtain ⟨y0, y1⟩ := decV_bd (n + 1) hlt
    have st := decV_step d1
    rw [hz] at st
    have e8 : IntKind.u8.wrap (b.getD (n : Int).toNat 0 - 48) = b.getD n 0 - 48 := wrap_rng ⟨by show (0 : Int) ≤ _; omega, by show _ ≤ (255 : Int); omega⟩
    have r8 : rngI .i64 (IntKind.u8.wrap (b.getD (n : Int).toNat 0 - 48)) := by rw [e8]; exact rng64 (by omega) (by omega)
    have B3 : Bg (decide (IntKind.u8.wrap (b.getD (n : Int).toNat 0 - 48) < 0)) (dgs (IntKind.u8.wrap (b.getD (n : Int).toNat 0 - 48)).natAbs) := by rw [e8]; exact Bg_i64 (by omega) (by omega)
    have z2 : z * 10 < 10 ^ (n + 1) := by rw [Int.pow_succ]; omega
    have B4 : Bg (decide (bzv (decide (decV (b.take n) < 0)) (dgs (decV (b.take n)).natAbs) * bzv (decide ((10 : Int) < 0)) (dgs (Int.natAbs 10)) < 0)) (dgs (bzv (decide (decV (b.take n) < 0)) (dgs (decV (b.take n)).natAbs) * bzv (decide ((10 : Int) < 0)) (dgs (Int.natAbs 10))).natAbs) := by
      rw [bzv_big, bzv_big, hz]
      exact Bg_pow (by omega) z2 (by omega)
    have o1 : -9223372036854775808 ≤ IntKind.u8.wrap (b.getD (n : Int).toNat 0 - 48) := by rw [e8]; omega
    have o2 : IntKind.u8.wrap (b.getD (n : Int).toNat 0 - 48) < 9223372036854775808 := by rw [e8]; omega
    (repeat' (first | (refine xI (fun hfk => ?_) (fun hfk => ?_) <;> ((try (first | replace hfk := oT hfk | replace hfk := oF hfk | simp only [oA, oB, dh1, dh0, ne_eq, reduceCtorEq] at hfk)); (try exact oX))) | (refine And.intro ?ob ?_; (case ob => (exact oZ))) | exact True.intro | (show _ = _; first | exact oY | (first | exact B1 | exact B2 | exact B3 | exact B4; done) | exact rfl) | exact oW | (apply And.intro)))
    refine ⟨n + 1, [some 0], hlt, ?mu, ?_⟩
    case mu => (show digN b - (n + 1) < digN b - n; omega)
    have eN : bzv (decide (bzv (decide (decV (b.take n) < 0)) (dgs (decV (b.take n)).natAbs) * bzv (decide ((10 : Int) < 0)) (dgs (Int.natAbs 10)) < 0)) (dgs (bzv (decide (decV (b.take n) < 0)) (dgs (decV (b.take n)).natAbs) * bzv (decide ((10 : Int) < 0)) (dgs (Int.natAbs 10))).natAbs) + bzv (decide (IntKind.u8.wrap (b.getD (n : Int).toNat 0 - 48) < 0)) (dgs (IntKind.u8.wrap (b.getD (n : Int).toNat 0 - 48)).natAbs) = decV (b.take (n + 1)) := by
      rw [bzv_big, bzv_big, bzv_big, bzv_big, e8, hz, st]
    have q1 := congrArg (fun w : Int => decide (w < 0)) eN
    have q2 := congrArg (fun w : Int => dgs w.natAbs) eN
    (repeat' (first | (refine And.intro ?_ ?_) | exact True.intro | (show _ = _; with_reducible rfl) | exact Chk.mk (by kernel_rfl)))
    all_goals first | rfl | exact q1 | exact q2 | (show (_ : Int) = _; omega)
  · have hnd : n = digN b := by omega
    by_cases h0 : b.length = 0
    · have h0' : (b.length : Int) = 0 := by omega
      have nv : rnV b m = (0, 0, 20) := if_pos h0
      rw [nv]
      (repeat' (first | (refine xI (fun hfk => ?_) (fun hfk => ?_) <;> ((try (first | replace hfk := oT hfk | replace hfk := oF hfk | simp only [oA, oB, dh1, dh0, ne_eq, reduceCtorEq] at hfk)); (try exact oX))) | (refine And.intro ?ob ?_; (case ob => (exact oZ))) | exact True.intro | (show _ = _; first | exact oY | (rfl; done) | exact rfl) | exact oW | (apply And.intro)))
    · have hout : ¬ ((n : Int) < (b.length : Int)) ∨ (n : Int) < (b.length : Int) ∧ ¬ 48 ≤ b.getD (n : Int).toNat 0 ∨ (n : Int) < (b.length : Int) ∧ 48 ≤ b.getD (n : Int).toNat 0 ∧ ¬ b.getD (n : Int).toNat 0 ≤ 57 := by
        by_cases k1 : (n : Int) < (b.length : Int)
        · by_cases k2 : 48 ≤ b.getD (n : Int).toNat 0
          · refine Or.inr (Or.inr ⟨k1, k2, fun k3 => ?_⟩)
            have := digN_out (l := b) (by omega)
            rw [← hnd] at this
            exact this ⟨k2, k3⟩
          · exact Or.inr (Or.inl ⟨k1, k2⟩)
        · exact Or.inl k1
      have h0' : ¬ (b.length : Int) = 0 := by omega
      have B5 : Bg (decide (m < 0)) (dgs m.natAbs) := Bg_i64 m0 m1
      have nv0 : rnV b m = if digN b = 0 ∨ (1 < digN b ∧ b.getD 0 0 = 48) then (0, 0, 21) else if m < decV (b.take (digN b)) then (0, 0, 30) else (decV (b.take (digN b)), (digN b : Int), 0) := if_neg h0
      rw [← hnd] at nv0
      by_cases c1 : (n : Int) = 0
      · have nv : rnV b m = (0, 0, 21) := by rw [nv0, if_pos (Or.inl (by omega))]
        rw [nv]
        rcases hout with k | ⟨k, k'⟩ | ⟨k, k', k''⟩
        · (repeat' (first | (refine xI (fun hfk => ?_) (fun hfk => ?_) <;> ((try (first | replace hfk := oT hfk | replace hfk := oF hfk | simp only [oA, oB, dh1, dh0, ne_eq, reduceCtorEq] at hfk)); (try exact oX))) | (refine And.intro ?ob ?_; (case ob => (exact oZ))) | exact True.intro | (show _ = _; first | exact oY | (rfl; done) | exact rfl) | exact oW | (apply And.intro)))
        · (repeat' (first | (refine xI (fun hfk => ?_) (fun hfk => ?_) <;> ((try (first | replace hfk := oT hfk | replace hfk := oF hfk | simp only [oA, oB, dh1, dh0, ne_eq, reduceCtorEq] at hfk)); (try exact oX))) | (refine And.intro ?ob ?_; (case ob => (exact oZ))) | exact True.intro | (show _ = _; first | exact oY | (rfl; done) | exact rfl) | exact oW | (apply And.intro)))
        · (repeat' (first | (refine xI (fun hfk => ?_) (fun hfk => ?_) <;> ((try (first | replace hfk := oT hfk | replace hfk := oF hfk | simp only [oA, oB, dh1, dh0, ne_eq, reduceCtorEq] at hfk)); (try exact oX))) | (refine And.intro ?ob ?_; (case ob => (exact oZ))) | exact True.intro | (show _ = _; first | exact oY | (rfl; done) | exact rfl) | exact oW | (apply And.intro)))
      · by_cases c2 : 1 < (n : Int)
        · by_cases c3 : b.getD 0 0 = 48
          · have nv : rnV b m = (0, 0, 21) := by rw [nv0, if_pos (Or.inr ⟨by omega, c3⟩)]
            rw [nv]
            rcases hout with k | ⟨k, k'⟩ | ⟨k, k', k''⟩
            · (repeat' (first | (refine xI (fun hfk => ?_) (fun hfk => ?_) <;> ((try (first | replace hfk := oT hfk | replace hfk := oF hfk | simp only [oA, oB, dh1, dh0, ne_eq, reduceCtorEq] at hfk)); (try exact oX))) | (refine And.intro ?ob ?_; (case ob => (exact oZ))) | exact True.intro | (show _ = _; first | exact oY | (rfl; done) | exact rfl) | exact oW | (apply And.intro)))
            · (repeat' (first | (refine xI (fun hfk => ?_) (fun hfk => ?_) <;> ((try (first | replace hfk := oT hfk | replace hfk := oF hfk | simp only [oA, oB, dh1, dh0, ne_eq, reduceCtorEq] at hfk)); (try exact oX))) | (refine And.intro ?ob ?_; (case ob => (exact oZ))) | exact True.intro | (show _ = _; first | exact oY | (rfl; done) | exact rfl) | exact oW | (apply And.intro)))
            · (repeat' (first | (refine xI (fun hfk => ?_) (fun hfk => ?_) <;> ((try (first | replace hfk := oT hfk | replace hfk := oF hfk | simp only [oA, oB, dh1, dh0, ne_eq, reduceCtorEq] at hfk)); (try exact oX))) | (refine And.intro ?ob ?_; (case ob => (exact oZ))) | exact True.intro | (show _ = _; first | exact oY | (rfl; done) | exact rfl) | exact oW | (apply And.intro)))
          · have nv1 : rnV b m = if m < z then (0, 0, 30) else (z, (n : Int), 0) := by rw [nv0, if_neg (fun k => k.elim (fun k => by omega) fun k => by exact c3 k.2), hz]
            by_cases c4 : m < z
            · have hc : 0 < cmpV (bzv (decide (decV (b.take n) < 0)) (dgs (decV (b.take n)).natAbs)) (bzv (decide (m < 0)) (dgs m.natAbs)) := by
                rw [bzv_big, bzv_big, hz]; unfold cmpV; rw [if_neg (by omega), if_pos c4]; decide
              have nv : rnV b m = (0, 0, 30) := by rw [nv1, if_pos c4]
              rw [nv]
              rcases hout with k | ⟨k, k'⟩ | ⟨k, k', k''⟩
              · (repeat' (first | (refine xI (fun hfk => ?_) (fun hfk => ?_) <;> ((try (first | replace hfk := oT hfk | replace hfk := oF hfk | simp only [oA, oB, dh1, dh0, ne_eq, reduceCtorEq] at hfk)); (try exact oX))) | (refine And.intro ?ob ?_; (case ob => (exact oZ))) | exact True.intro | (show _ = _; first | exact oY | (first | rfl | exact B1 | exact B5; done) | exact rfl) | exact oW | (apply And.intro)))
              · (repeat' (first | (refine xI (fun hfk => ?_) (fun hfk => ?_) <;> ((try (first | replace hfk := oT hfk | replace hfk := oF hfk | simp only [oA, oB, dh1, dh0, ne_eq, reduceCtorEq] at hfk)); (try exact oX))) | (refine And.intro ?ob ?_; (case ob => (exact oZ))) | exact True.intro | (show _ = _; first | exact oY | (first | rfl | exact B1 | exact B5; done) | exact rfl) | exact oW | (apply And.intro)))
              · (repeat' (first | (refine xI (fun hfk => ?_) (fun hfk => ?_) <;> ((try (first | replace hfk := oT hfk | replace hfk := oF hfk | simp only [oA, oB, dh1, dh0, ne_eq, reduceCtorEq] at hfk)); (try exact oX))) | (refine And.intro ?ob ?_; (case ob => (exact oZ))) | exact True.intro | (show _ = _; first | exact oY | (first | rfl | exact B1 | exact B5; done) | exact rfl) | exact oW | (apply And.intro)))
            · have hc : ¬ 0 < cmpV (bzv (decide (decV (b.take n) < 0)) (dgs (decV (b.take n)).natAbs)) (bzv (decide (m < 0)) (dgs m.natAbs)) := by
                rw [bzv_big, bzv_big, hz]; unfold cmpV; rw [if_neg c4]; split <;> decide
              have hv : valD (dgs (decV (b.take n)).natAbs) < 9223372036854775808 := by rw [valD_dgs, hz]; omega
              have e1 : bzv (decide (decV (b.take n) < 0)) (dgs (decV (b.take n)).natAbs) = z := by rw [bzv_big, hz]
              have nv : rnV b m = (z, (n : Int), 0) := by rw [nv1, if_neg c4]
              rw [nv]
              rcases hout with k | ⟨k, k'⟩ | ⟨k, k', k''⟩
              · (repeat' (first | (refine xI (fun hfk => ?_) (fun hfk => ?_) <;> ((try (first | replace hfk := oT hfk | replace hfk := oF hfk | simp only [oA, oB, dh1, dh0, ne_eq, reduceCtorEq] at hfk)); (try exact oX))) | (refine And.intro ?ob ?_; (case ob => (exact oZ))) | exact True.intro | (show _ = _; first | exact oY | (first | rfl | exact B1 | exact B5 | exact e1; done) | exact rfl) | exact oW | (apply And.intro)))
              · (repeat' (first | (refine xI (fun hfk => ?_) (fun hfk => ?_) <;> ((try (first | replace hfk := oT hfk | replace hfk := oF hfk | simp only [oA, oB, dh1, dh0, ne_eq, reduceCtorEq] at hfk)); (try exact oX))) | (refine And.intro ?ob ?_; (case ob => (exact oZ))) | exact True.intro | (show _ = _; first | exact oY | (first | rfl | exact B1 | exact B5 | exact e1; done) | exact rfl) | exact oW | (apply And.intro)))
              · (repeat' (first | (refine xI (fun hfk => ?_) (fun hfk => ?_) <;> ((try (first | replace hfk := oT hfk | replace hfk := oF hfk | simp only [oA, oB, dh1, dh0, ne_eq, reduceCtorEq] at hfk)); (try exact oX))) | (refine And.intro ?ob ?_; (case ob => (exact oZ))) | exact True.intro | (show _ = _; first | exact oY | (first | rfl | exact B1 | exact B5 | exact e1; done) | exact rfl) | exact oW | (apply And.intro)))
        · have nv1 : rnV b m = if m < z then (0, 0, 30) else (z, (n : Int), 0) := by rw [nv0, if_neg (fun k => k.elim (fun k => by omega) fun k => by omega), hz]
          by_cases c4 : m < z
          · have hc : 0 < cmpV (bzv (decide (decV (b.take n) < 0)) (dgs (decV (b.take n)).natAbs)) (bzv (decide (m < 0)) (dgs m.natAbs)) := by
              rw [bzv_big, bzv_big, hz]; unfold cmpV; rw [if_neg (by omega), if_pos c4]; decide
            have nv : rnV b m = (0, 0, 30) := by rw [nv1, if_pos c4]
            rw [nv]
            rcases hout with k | ⟨k, k'⟩ | ⟨k, k', k''⟩
            · (repeat' (first | (refine xI (fun hfk => ?_) (fun hfk => ?_) <;> ((try (first | replace hfk := oT hfk | replace hfk := oF hfk | simp only [oA, oB, dh1, dh0, ne_eq, reduceCtorEq] at hfk)); (try exact oX))) | (refine And.intro ?ob ?_; (case ob => (exact oZ))) | exact True.intro | (show _ = _; first | exact oY | (first | rfl | exact B1 | exact B5; done) | exact rfl) | exact oW | (apply And.intro)))
            · (repeat' (first | (refine xI (fun hfk => ?_) (fun hfk => ?_) <;> ((try (first | replace hfk := oT hfk | replace hfk := oF hfk | simp only [oA, oB, dh1, dh0, ne_eq, reduceCtorEq] at hfk)); (try exact oX))) | (refine And.intro ?ob ?_; (case ob => (exact oZ))) | exact True.intro | (show _ = _; first | exact oY | (first | rfl | exact B1 | exact B5; done) | exact rfl) | exact oW | (apply And.intro)))
            · (repeat' (first | (refine xI (fun hfk => ?_) (fun hfk => ?_) <;> ((try (first | replace hfk := oT hfk | replace hfk := oF hfk | simp only [oA, oB, dh1, dh0, ne_eq, reduceCtorEq] at hfk)); (try exact oX))) | (refine And.intro ?ob ?_; (case ob => (exact oZ))) | exact True.intro | (show _ = _; first | exact oY | (first | rfl | exact B1 | exact B5; done) | exact rfl) | exact oW | (apply And.intro)))
          · have hc : ¬ 0 < cmpV (bzv (decide (decV (b.take n) < 0)) (dgs (decV (b.take n)).natAbs)) (bzv (decide (m < 0)) (dgs m.natAbs)) := by
              rw [bzv_big, bzv_big, hz]; unfold cmpV; rw [if_neg c4]; split <;> decide
            have hv : valD (dgs (decV (b.take n)).natAbs) < 9223372036854775808 := by rw [valD_dgs, hz]; omega
            have e1 : bzv (decide (decV (b.take n) < 0)) (dgs (decV (b.take n)).natAbs) = z := by rw [bzv_big, hz]
            have nv : rnV b m = (z, (n : Int), 0) := by rw [nv1, if_neg c4]
            rw [nv]
            rcases hout with k | ⟨k, k'⟩ | ⟨k, k', k''⟩
            · (repeat' (first | (refine xI (fun hfk => ?_) (fun hfk => ?_) <;> ((try (first | replace hfk := oT hfk | replace hfk := oF hfk | simp only [oA, oB, dh1, dh0, ne_eq, reduceCtorEq] at hfk)); (try exact oX))) | (refine And.intro ?ob ?_; (case ob => (exact oZ))) | exact True.intro | (show _ = _; first | exact oY | (first | rfl | exact B1 | exact B5 | exact e1; done) | exact rfl) | exact oW | (apply And.intro)))
            · (repeat' (first | (refine xI (fun hfk => ?_) (fun hfk => ?_) <;> ((try (first | replace hfk := oT hfk | replace hfk := oF hfk | simp only [oA, oB, dh1, dh0, ne_eq, reduceCtorEq] at hfk)); (try exact oX))) | (refine And.intro ?ob ?_; (case ob => (exact oZ))) | exact True.intro | (show _ = _; first | exact oY | (first | rfl | exact B1 | exact B5 | exact e1; done) | exact rfl) | exact oW | (apply And.intro)))
            · (repeat' (first | (refine xI (fun hfk => ?_) (fun hfk => ?_) <;> ((try (first | replace hfk := oT hfk | replace hfk := oF hfk | simp only [oA, oB, dh1, dh0, ne_eq, reduceCtorEq] at hfk)); (try exact oX))) | (refine And.intro ?ob ?_; (case ob => (exact oZ))) | exact True.intro | (show _ = _; first | exact oY | (first | rfl | exact B1 | exact B5 | exact e1; done) | exact rfl) | exact oW | (apply And.intro)))
end Go.Proofs.YtljdahepmmgfeaaGreatDoor
namespace Go.Proofs.YtljdahepmmgfeaaGreatDoor
open Go Go.RowKit
set_option maxHeartbeats 4000000
abbrev rblankS : PSpec := fun l => match l with | [.int .u8 b] => some ([], .bool (isBl b)) | _ => none
theorem rblank_s : SOK Tryz.prog 120 rblankS := by
  refine sok_of (C := mkC 0 [] noG) (mkC_ok pok_nil noG_ok) rfl mixed ⟨Tryz.func120, by kernel_rfl, by kernel_rfl, by kernel_rfl⟩ fun l obs v h ho => ?_
  (unfold rblankS at h; split at h; rotate_left; (focus (cases h)); rename_i b; simp only [Option.some.injEq, Prod.mk.injEq] at h; obtain ⟨rfl, rfl⟩ := h; simp only [List.mem_cons, List.not_mem_nil, or_false, forall_eq_or_imp, forall_eq, false_implies, implies_true] at ho)
  refine ⟨Nat.le_of_ble_eq_true rfl, ?_⟩
  by_cases h1 : 9 ≤ b
  · by_cases h2 : b ≤ 13
    · have e : true = isBl b := by unfold isBl; rw [decide_eq_true h1, decide_eq_true h2]; rfl
      (repeat' (first | (refine xI (fun hfk => ?_) (fun hfk => ?_) <;> ((try (first | replace hfk := oT hfk | replace hfk := oF hfk | simp only [oA, oB, dh1, dh0, ne_eq, reduceCtorEq] at hfk)); (try exact oX))) | (refine And.intro ?ob ?_; (case ob => (exact oZ))) | exact True.intro | (show _ = _; first | exact oY | (exact e; done) | exact rfl) | exact oW | (apply And.intro)))
    · have e : decide (b = 32) = isBl b := by unfold isBl; rw [decide_eq_true h1, decide_eq_false h2]; rfl
      (repeat' (first | (refine xI (fun hfk => ?_) (fun hfk => ?_) <;> ((try (first | replace hfk := oT hfk | replace hfk := oF hfk | simp only [oA, oB, dh1, dh0, ne_eq, reduceCtorEq] at hfk)); (try exact oX))) | (refine And.intro ?ob ?_; (case ob => (exact oZ))) | exact True.intro | (show _ = _; first | exact oY | (exact e; done) | exact rfl) | exact oW | (apply And.intro)))
  · have e : decide (b = 32) = isBl b := by unfold isBl; rw [decide_eq_false h1]; rfl
    (repeat' (first | (refine xI (fun hfk => ?_) (fun hfk => ?_) <;> ((try (first | replace hfk := oT hfk | replace hfk := oF hfk | simp only [oA, oB, dh1, dh0, ne_eq, reduceCtorEq] at hfk)); (try exact oX))) | (refine And.intro ?ob ?_; (case ob => (exact oZ))) | exact True.intro | (show _ = _; first | exact oY | (exact e; done) | exact rfl) | exact oW | (apply And.intro)))
def oneV (b : List Int) : Int × Int := if b.length = 0 then (0, 20) else if isBl (b.getD 0 0) = true then (1, 0) else (0, 21)
abbrev roneS : PSpec := fun l => match l with | [.roi .u8 b] => some ([], .tup [.int .i64 (oneV b).1, .int .i64 (oneV b).2]) | _ => none
theorem rone_s : SOK Tryz.prog 100 roneS := by
  refine sok_of (C := mkC 0 [(120, rblankS)] noG) (mkC_ok (pok_cons rblank_s pok_nil) noG_ok) rfl mixed ⟨Tryz.func100, by kernel_rfl, by kernel_rfl, by kernel_rfl⟩ fun l obs v h ho => ?_
  (unfold roneS at h; split at h; rotate_left; (focus (cases h)); rename_i b; simp only [Option.some.injEq, Prod.mk.injEq] at h; obtain ⟨rfl, rfl⟩ := h; simp only [List.mem_cons, List.not_mem_nil, or_false, forall_eq_or_imp, forall_eq, false_implies, implies_true] at ho)
  refine ⟨Nat.le_of_ble_eq_true rfl, ?_⟩
  by_cases h0 : b.length = 0
  · have h0' : (b.length : Int) = 0 := by omega
    have e : oneV b = (0, 20) := if_pos h0
    rw [e]
    (repeat' (first | (refine xI (fun hfk => ?_) (fun hfk => ?_) <;> ((try (first | replace hfk := oT hfk | replace hfk := oF hfk | simp only [oA, oB, dh1, dh0, ne_eq, reduceCtorEq] at hfk)); (try exact oX))) | (refine And.intro ?ob ?_; (case ob => (exact oZ))) | exact True.intro | (show _ = _; first | exact oY | (rfl; done) | exact rfl) | exact oW | (apply And.intro)))
  · have h0' : ¬ (b.length : Int) = 0 := by omega
    have h1' : 0 < (b.length : Int) := by omega
    by_cases h2 : isBl (b.getD 0 0) = true
    · have h2k : ¬ isBl (b.getD (Int.toNat 0) 0) = false := by rw [show isBl (b.getD (Int.toNat 0) 0) = true from h2]; decide
      have e : oneV b = (1, 0) := by unfold oneV; rw [if_neg h0, if_pos h2]
      rw [e]
      (repeat' (first | (refine xI (fun hfk => ?_) (fun hfk => ?_) <;> ((try (first | replace hfk := oT hfk | replace hfk := oF hfk | simp only [oA, oB, dh1, dh0, ne_eq, reduceCtorEq] at hfk)); (try exact oX))) | (refine And.intro ?ob ?_; (case ob => (exact oZ))) | exact True.intro | (show _ = _; first | exact oY | (rfl; done) | exact rfl) | exact oW | (apply And.intro)))
    · have h2' : isBl (b.getD 0 0) = false := by simpa using h2
      have h2k : ¬ isBl (b.getD (Int.toNat 0) 0) = true := h2
      have e : oneV b = (0, 21) := by unfold oneV; rw [if_neg h0, if_neg h2]
      rw [e]
      (repeat' (first | (refine xI (fun hfk => ?_) (fun hfk => ?_) <;> ((try (first | replace hfk := oT hfk | replace hfk := oF hfk | simp only [oA, oB, dh1, dh0, ne_eq, reduceCtorEq] at hfk)); (try exact oX))) | (refine And.intro ?ob ?_; (case ob => (exact oZ))) | exact True.intro | (show _ = _; first | exact oY | (rfl; done) | exact rfl) | exact oW | (apply And.intro)))
def lowV : List Int → Int
  | [] => 0
  | d :: l => d + 256 * lowV l
theorem lowV_drop {l : List Int} {i : Nat} (h : i < l.length) : lowV (l.drop i) = l.getD i 0 + 256 * lowV (l.drop (i + 1)) := by
  rw [drop_cons h, lowV]
theorem lowV_bd : ∀ {l : List Int}, (∀ x ∈ l, 0 ≤ x ∧ x ≤ 255) → 0 ≤ lowV l ∧ lowV l < 256 ^ l.length
  | [], _ => ⟨by decide, by decide⟩
  | d :: l, h => by
    obtain ⟨a, b⟩ := lowV_bd (l := l) fun x hx => h x (List.mem_cons_of_mem _ hx)
    obtain ⟨c, e⟩ := h d List.mem_cons_self
    rw [lowV, List.length_cons, Int.pow_succ]
    constructor <;> omega
theorem p256 {L : Nat} (h : L ≤ 4) : (256 : Int) ^ L ≤ 4294967296 := by
  have : L = 0 ∨ L = 1 ∨ L = 2 ∨ L = 3 ∨ L = 4 := by omega
  rcases this with k | k | k | k | k <;> subst k <;> decide
theorem u32_id {n : Int} (h0 : 0 ≤ n) (h1 : n < 4294967296) : IntKind.u32.wrap n = n :=
  wrap_rng ⟨by show (0 : Int) ≤ _; exact h0, by show _ ≤ (4294967295 : Int); omega⟩
def lowC (n len : Int) : Int := if n < 1 ∨ 4 < n then 10 else if len < n then 20 else 0
end Go.Proofs.YtljdahepmmgfeaaGreatDoor
namespace Go.Proofs.YtljdahepmmgfeaaGreatDoor
open Go Go.RowKit
set_option maxHeartbeats 4000000
def wordC : List Int → List Int → Int
  | _, [] => 0
  | [], _ :: _ => 20
  | d :: b, c :: s => if d = c then wordC b s else 21
abbrev strI (s : List UInt8) : List Int := s.map fun c => (c.toNat : Int)
end Go.Proofs.YtljdahepmmgfeaaGreatDoor
namespace Go.Proofs.YtljdahepmmgfeaaGreatDoor
open Go Go.RowKit
set_option maxHeartbeats 4000000
abbrev rblkS : PSpec := fun l => match l with | [.roi .u8 b] => some ([b.length ≤ 140737488355328], .tup [.int .i64 (bkG false b : Int), .int .i64 (blC b)]) | _ => none
theorem rblk_s : SOK Tryz.prog 98 rblkS := by
  refine sok_of (C := mkC 0 [(120, rblankS)] noG) (mkC_ok (pok_cons rblank_s pok_nil) noG_ok) rfl mixed ⟨Tryz.func98, by kernel_rfl, by kernel_rfl, by kernel_rfl⟩ fun l obs v h ho => ?_
  (unfold rblkS at h; split at h; rotate_left; (focus (cases h)); rename_i b; simp only [Option.some.injEq, Prod.mk.injEq] at h; obtain ⟨rfl, rfl⟩ := h; simp only [List.mem_cons, List.not_mem_nil, or_false, forall_eq_or_imp, forall_eq, false_implies, implies_true] at ho)
  have lb := ho
  refine ⟨Nat.le_of_ble_eq_true rfl, ?_⟩
  by_cases h0 : b.length = 0
  · have h0' : (b.length : Int) = 0 := by omega
    have e1 : (bkG false b : Int) = 0 := by have := bkG_le false b; omega
    have e2 : blC b = 20 := if_pos h0
    rw [e1, e2]
    (repeat' (first | (refine xI (fun hfk => ?_) (fun hfk => ?_) <;> ((try (first | replace hfk := oT hfk | replace hfk := oF hfk | simp only [oA, oB, dh1, dh0, ne_eq, reduceCtorEq] at hfk)); (try exact oX))) | (refine And.intro ?ob ?_; (case ob => (exact oZ))) | exact True.intro | (show _ = _; first | exact oY | (rfl; done) | exact rfl) | exact oW | (apply And.intro)))
  have h0' : ¬ (b.length : Int) = 0 := by omega
  (repeat' (first | (refine xI (fun hfk => ?_) (fun hfk => ?_) <;> ((try (first | replace hfk := oT hfk | replace hfk := oF hfk | simp only [oA, oB, dh1, dh0, ne_eq, reduceCtorEq] at hfk)); (try exact oX))) | (refine And.intro ?ob ?_; (case ob => (exact oZ))) | exact True.intro | (show _ = _; first | exact oY | (skip; done) | exact rfl) | exact oW | (apply And.intro)))
  refine ⟨Nat, fun i => [(0, .roi .u8 b), (4, .int .i64 (i : Int))], fun i => ⟨0, []⟩, fun i => i ≤ b.length + 1 ∧ bkG false (b.drop i) + min i b.length = bkG false b, fun i => b.length + 1 - i, ⟨0, [], ⟨Nat.zero_le _, by simp⟩, ?_⟩, fun i hi => ?_⟩
  · (repeat' (first | (refine And.intro ?_ ?_) | exact True.intro | (show _ = _; with_reducible rfl) | exact Chk.mk (by kernel_rfl)))
    all_goals rfl
  obtain ⟨i1, i2⟩ := hi
  have i1 : i ≤ b.length + 1 := i1
  have i2 : bkG false (b.drop i) + min i b.length = bkG false b := i2
  have hle := bkG_le false b
  have ri : rngI .i64 ((i : Int) + 1) := rng64 (by omega) (by omega)
  by_cases hs : i < b.length
  · have hs' : (i : Int) < (b.length : Int) := by omega
    have hm : min i b.length = i := by omega
    have st : bkG false (b.drop i) = if isBl (b.getD i 0) = true then bkG false (b.drop (i + 1)) + 1 else if b.getD i 0 = 35 then bkG true (b.drop (i + 1)) + 1 else 0 := by
      rw [drop_cons hs, bkG]
    rw [hm] at i2
    by_cases hb : isBl (b.getD i 0) = true
    · have hb1 : isBl (b.getD (i : Int).toNat 0) = true := hb
      have hb2 : ¬ isBl (b.getD (i : Int).toNat 0) = false := by rw [hb1]; decide
      have hn : ¬ b.getD (i : Int).toNat 0 = 35 := by
        intro k
        have k : b.getD i 0 = 35 := k
        rw [k] at hb
        exact absurd hb (by decide)
      rw [if_pos hb] at st
      (repeat' (first | (refine xI (fun hfk => ?_) (fun hfk => ?_) <;> ((try (first | replace hfk := oT hfk | replace hfk := oF hfk | simp only [oA, oB, dh1, dh0, ne_eq, reduceCtorEq] at hfk)); (try exact oX))) | (refine And.intro ?ob ?_; (case ob => (exact oZ))) | exact True.intro | (show _ = _; first | exact oY | (skip; done) | exact rfl) | exact oW | (apply And.intro)))
      refine ⟨i + 1, [], ⟨by omega, ?_⟩, ?mu, ?_⟩
      case mu => (show b.length + 1 - (i + 1) < b.length + 1 - i; omega)
      · show bkG false (b.drop (i + 1)) + min (i + 1) b.length = bkG false b
        omega
      (repeat' (first | (refine And.intro ?_ ?_) | exact True.intro | (show _ = _; with_reducible rfl) | exact Chk.mk (by kernel_rfl)))
      all_goals first | rfl | (show (_ : Int) = _; omega)
    · have hb1 : ¬ isBl (b.getD (i : Int).toNat 0) = true := hb
      rw [if_neg hb] at st
      by_cases hx : b.getD i 0 = 35
      · have hx' : b.getD (i : Int).toNat 0 = 35 := hx
        rw [if_pos hx] at st
        (repeat' (first | (refine xI (fun hfk => ?_) (fun hfk => ?_) <;> ((try (first | replace hfk := oT hfk | replace hfk := oF hfk | simp only [oA, oB, dh1, dh0, ne_eq, reduceCtorEq] at hfk)); (try exact oX))) | (refine And.intro ?ob ?_; (case ob => (exact oZ))) | exact True.intro | (show _ = _; first | exact oY | (skip; done) | exact rfl) | exact oW | (apply And.intro)))
        have s0 : bkG true (b.drop i) = bkG true (b.drop (i + 1)) + 1 := by
          rw [drop_cons hs, bkG, if_neg (by rw [hx]; decide)]
        refine ⟨Nat, fun k => [(0, .roi .u8 b), (4, .int .i64 (k : Int))], fun k => ⟨0, []⟩, fun k => i ≤ k ∧ k ≤ b.length ∧ bkG true (b.drop k) + k = bkG false b, fun k => b.length - k, ⟨i, [], ⟨Nat.le_refl _, by omega, by omega⟩, ?_⟩, fun k hk => ?_⟩
        · (repeat' (first | (refine And.intro ?_ ?_) | exact True.intro | (show _ = _; with_reducible rfl) | exact Chk.mk (by kernel_rfl)))
          all_goals rfl
        obtain ⟨k1, k2, k3⟩ := hk
        have k1 : i ≤ k := k1
        have k2 : k ≤ b.length := k2
        have k3 : bkG true (b.drop k) + k = bkG false b := k3
        have rk : rngI .i64 ((k : Int) + 1) := rng64 (by omega) (by omega)
        by_cases hkl : k < b.length
        · have hkl' : (k : Int) < (b.length : Int) := by omega
          have sk : bkG true (b.drop k) = if b.getD k 0 = 10 then bkG false (b.drop (k + 1)) + 1 else bkG true (b.drop (k + 1)) + 1 := by
            rw [drop_cons hkl, bkG]
          by_cases ht : b.getD k 0 = 10
          · have ht' : ¬ b.getD (k : Int).toNat 0 ≠ 10 := fun h => h ht
            rw [if_pos ht] at sk
            (repeat' (first | (refine xI (fun hfk => ?_) (fun hfk => ?_) <;> ((try (first | replace hfk := oT hfk | replace hfk := oF hfk | simp only [oA, oB, dh1, dh0, ne_eq, reduceCtorEq] at hfk)); (try exact oX))) | (refine And.intro ?ob ?_; (case ob => (exact oZ))) | exact True.intro | (show _ = _; first | exact oY | (skip; done) | exact rfl) | exact oW | (apply And.intro)))
            refine ⟨k + 1, [], ⟨by omega, ?_⟩, ?mu, ?_⟩
            case mu => (show b.length + 1 - (k + 1) < b.length + 1 - i; omega)
            · show bkG false (b.drop (k + 1)) + min (k + 1) b.length = bkG false b
              omega
            (repeat' (first | (refine And.intro ?_ ?_) | exact True.intro | (show _ = _; with_reducible rfl) | exact Chk.mk (by kernel_rfl)))
            all_goals first | rfl | (show (_ : Int) = _; omega)
          · have ht' : b.getD (k : Int).toNat 0 ≠ 10 := ht
            rw [if_neg ht] at sk
            (repeat' (first | (refine xI (fun hfk => ?_) (fun hfk => ?_) <;> ((try (first | replace hfk := oT hfk | replace hfk := oF hfk | simp only [oA, oB, dh1, dh0, ne_eq, reduceCtorEq] at hfk)); (try exact oX))) | (refine And.intro ?ob ?_; (case ob => (exact oZ))) | exact True.intro | (show _ = _; first | exact oY | (skip; done) | exact rfl) | exact oW | (apply And.intro)))
            refine ⟨k + 1, [], ⟨by omega, by omega, by omega⟩, ?mu, ?_⟩
            case mu => (show b.length - (k + 1) < b.length - k; omega)
            (repeat' (first | (refine And.intro ?_ ?_) | exact True.intro | (show _ = _; with_reducible rfl) | exact Chk.mk (by kernel_rfl)))
            all_goals first | rfl | (show (_ : Int) = _; omega)
        · have hkl' : ¬ (k : Int) < (b.length : Int) := by omega
          have dk : bkG true (b.drop k) = 0 := by rw [List.drop_of_length_le (by omega), bkG]
          have dk1 : bkG false (b.drop (k + 1)) = 0 := by rw [List.drop_of_length_le (by omega), bkG]
          (repeat' (first | (refine xI (fun hfk => ?_) (fun hfk => ?_) <;> ((try (first | replace hfk := oT hfk | replace hfk := oF hfk | simp only [oA, oB, dh1, dh0, ne_eq, reduceCtorEq] at hfk)); (try exact oX))) | (refine And.intro ?ob ?_; (case ob => (exact oZ))) | exact True.intro | (show _ = _; first | exact oY | (skip; done) | exact rfl) | exact oW | (apply And.intro)))
          refine ⟨k + 1, [], ⟨by omega, ?_⟩, ?mu, ?_⟩
          case mu => (show b.length + 1 - (k + 1) < b.length + 1 - i; omega)
          · show bkG false (b.drop (k + 1)) + min (k + 1) b.length = bkG false b
            omega
          (repeat' (first | (refine And.intro ?_ ?_) | exact True.intro | (show _ = _; with_reducible rfl) | exact Chk.mk (by kernel_rfl)))
          all_goals first | rfl | (show (_ : Int) = _; omega)
      · have hx' : ¬ b.getD (i : Int).toNat 0 = 35 := hx
        rw [if_neg hx] at st
        have hk : i = bkG false b := by omega
        by_cases hz : (i : Int) = 0
        · have e1 : (bkG false b : Int) = 0 := by omega
          have e2 : blC b = 21 := by unfold blC; rw [if_neg h0, if_pos (by omega)]
          rw [e1, e2]
          (repeat' (first | (refine xI (fun hfk => ?_) (fun hfk => ?_) <;> ((try (first | replace hfk := oT hfk | replace hfk := oF hfk | simp only [oA, oB, dh1, dh0, ne_eq, reduceCtorEq] at hfk)); (try exact oX))) | (refine And.intro ?ob ?_; (case ob => (exact oZ))) | exact True.intro | (show _ = _; first | exact oY | (rfl; done) | exact rfl) | exact oW | (apply And.intro)))
        · have e1 : min (i : Int) (b.length : Int) = (bkG false b : Int) := by omega
          have e2 : (0 : Int) = blC b := by unfold blC; rw [if_neg h0, if_neg (by omega)]
          (repeat' (first | (refine xI (fun hfk => ?_) (fun hfk => ?_) <;> ((try (first | replace hfk := oT hfk | replace hfk := oF hfk | simp only [oA, oB, dh1, dh0, ne_eq, reduceCtorEq] at hfk)); (try exact oX))) | (refine And.intro ?ob ?_; (case ob => (exact oZ))) | exact True.intro | (show _ = _; first | exact oY | (first | exact e1 | exact e2; done) | exact rfl) | exact oW | (apply And.intro)))
  · have hs' : ¬ (i : Int) < (b.length : Int) := by omega
    have hz : ¬ (i : Int) = 0 := by omega
    have hd : bkG false (b.drop i) = 0 := by rw [List.drop_of_length_le (by omega), bkG]
    have e1 : min (i : Int) (b.length : Int) = (bkG false b : Int) := by omega
    have e2 : (0 : Int) = blC b := by unfold blC; rw [if_neg h0, if_neg (by omega)]
    (repeat' (first | (refine xI (fun hfk => ?_) (fun hfk => ?_) <;> ((try (first | replace hfk := oT hfk | replace hfk := oF hfk | simp only [oA, oB, dh1, dh0, ne_eq, reduceCtorEq] at hfk)); (try exact oX))) | (refine And.intro ?ob ?_; (case ob => (exact oZ))) | exact True.intro | (show _ = _; first | exact oY | (first | exact e1 | exact e2; done) | exact rfl) | exact oW | (apply And.intro)))
end Go.Proofs.YtljdahepmmgfeaaGreatDoor
namespace Go.Proofs.YtljdahepmmgfeaaGreatDoor
open Go Go.RowKit
set_option maxHeartbeats 4000000
def coneF : FSpec := fun l es => match l, es with
  | [.ptr 0 0], [.cells 120 [.sl 1 1 0 n, .int .i64 a], .ints 5 .u8 b] =>
    some ([n = b.length, 0 ≤ a, a ≤ b.length, b.length ≤ 140737488355328], .int .i64 (oneV (cR b a)).2, [some (cutE n (a + (oneV (cR b a)).1)), some (bE b)])
  | _, _ => none
theorem cone_g : GSOK Tryz.prog 117 (fG coneF) := by
  refine fok (S := [(127, sU8 fun x => .bool (isBl x))]) (G := glook [(87, fG restF), (88, fG passF)]) (pok_cons blank14_s pok_nil) (gl_cons rest_g (gl_cons pass_g gl_nil)) ⟨Tryz.func117, by kernel_rfl, by kernel_rfl, by kernel_rfl⟩ fun l es obs v es' h ho => ?_
  (unfold coneF at h; split at h; rotate_left; (focus (cases h)); rename_i n a b; simp only [Option.some.injEq, Prod.mk.injEq] at h; obtain ⟨rfl, rfl, rfl⟩ := h; simp only [List.mem_cons, List.not_mem_nil, or_false, forall_eq_or_imp, forall_eq, false_implies, implies_true] at ho)
  obtain ⟨rfl, ho1, ho2, ho3⟩ := ho
  refine ⟨Nat.le_of_ble_eq_true rfl, ?_⟩
  have el : (cR b a).length = b.length - a.toNat := by simp
  by_cases k1 : (cR b a).length = 0
  · have e : oneV (cR b a) = (0, 20) := if_pos k1
    rw [e]
    (repeat' (first | (refine xI (fun hfk => ?_) (fun hfk => ?_) <;> ((try (first | replace hfk := oT hfk | replace hfk := oF hfk | simp only [oA, oB, dh1, dh0, ne_eq, reduceCtorEq] at hfk)); (try exact oX))) | (refine And.intro ?ob ?_; (case ob => (exact oZ))) | exact True.intro | (show _ = _; first | exact oY | (skip; done) | exact rfl) | exact oW | (apply And.intro)))
    (refine ⟨[0, 1], ⟨by kernel_rfl⟩, ?_⟩)
    (repeat' (first | (refine xI (fun hfk => ?_) (fun hfk => ?_) <;> ((try (first | replace hfk := oT hfk | replace hfk := oF hfk | simp only [oA, oB, dh1, dh0, ne_eq, reduceCtorEq] at hfk)); (try exact oX))) | (refine And.intro ?ob ?_; (case ob => (exact oZ))) | exact True.intro | (show _ = _; first | exact oY | (skip; done) | exact rfl) | exact oW | (apply And.intro)))
    refine ⟨[some 0, some 1], ?_⟩
    (repeat' (first | (refine xI (fun hfk => ?_) (fun hfk => ?_) <;> ((try (first | replace hfk := oT hfk | replace hfk := oF hfk | simp only [oA, oB, dh1, dh0, ne_eq, reduceCtorEq] at hfk)); (try exact oX))) | (refine And.intro ?ob ?_; (case ob => (exact oZ))) | exact True.intro | (show _ = _; first | exact oY | (first | rfl | (show (_ : Int) = _; omega); done) | exact rfl) | exact oW | (apply And.intro)))
  have hl : 0 < (cR b a).length := by omega
  have eg : b.getD (a.toNat + (0 : Int).toNat) 0 = (cR b a).getD 0 0 := cR_get (i := 0) hl
  by_cases hb : isBl ((cR b a).getD 0 0) = true
  · have e : oneV (cR b a) = (1, 0) := by unfold oneV; rw [if_neg k1, if_pos hb]
    have hb2 : ¬ isBl (b.getD (a.toNat + (0 : Int).toNat) 0) = false := by rw [eg, hb]; decide
    have ra : rngI .i64 (a + 1) := rng64 (by omega) (by omega)
    rw [e]
    (repeat' (first | (refine xI (fun hfk => ?_) (fun hfk => ?_) <;> ((try (first | replace hfk := oT hfk | replace hfk := oF hfk | simp only [oA, oB, dh1, dh0, ne_eq, reduceCtorEq] at hfk)); (try exact oX))) | (refine And.intro ?ob ?_; (case ob => (exact oZ))) | exact True.intro | (show _ = _; first | exact oY | (skip; done) | exact rfl) | exact oW | (apply And.intro)))
    (refine ⟨[0, 1], ⟨by kernel_rfl⟩, ?_⟩)
    (repeat' (first | (refine xI (fun hfk => ?_) (fun hfk => ?_) <;> ((try (first | replace hfk := oT hfk | replace hfk := oF hfk | simp only [oA, oB, dh1, dh0, ne_eq, reduceCtorEq] at hfk)); (try exact oX))) | (refine And.intro ?ob ?_; (case ob => (exact oZ))) | exact True.intro | (show _ = _; first | exact oY | (skip; done) | exact rfl) | exact oW | (apply And.intro)))
    (refine ⟨[0, 1], ⟨by kernel_rfl⟩, ?_⟩)
    (repeat' (first | (refine xI (fun hfk => ?_) (fun hfk => ?_) <;> ((try (first | replace hfk := oT hfk | replace hfk := oF hfk | simp only [oA, oB, dh1, dh0, ne_eq, reduceCtorEq] at hfk)); (try exact oX))) | (refine And.intro ?ob ?_; (case ob => (exact oZ))) | exact True.intro | (show _ = _; first | exact oY | (skip; done) | exact rfl) | exact oW | (apply And.intro)))
    refine ⟨[some 0, some 1], ?_⟩
    (repeat' (first | (refine xI (fun hfk => ?_) (fun hfk => ?_) <;> ((try (first | replace hfk := oT hfk | replace hfk := oF hfk | simp only [oA, oB, dh1, dh0, ne_eq, reduceCtorEq] at hfk)); (try exact oX))) | (refine And.intro ?ob ?_; (case ob => (exact oZ))) | exact True.intro | (show _ = _; first | exact oY | (first | rfl | (show (_ : Int) = _; omega); done) | exact rfl) | exact oW | (apply And.intro)))
  · have e : oneV (cR b a) = (0, 21) := by unfold oneV; rw [if_neg k1, if_neg hb]
    have hb2 : ¬ isBl (b.getD (a.toNat + (0 : Int).toNat) 0) = true := by rw [eg]; exact hb
    rw [e]
    (repeat' (first | (refine xI (fun hfk => ?_) (fun hfk => ?_) <;> ((try (first | replace hfk := oT hfk | replace hfk := oF hfk | simp only [oA, oB, dh1, dh0, ne_eq, reduceCtorEq] at hfk)); (try exact oX))) | (refine And.intro ?ob ?_; (case ob => (exact oZ))) | exact True.intro | (show _ = _; first | exact oY | (skip; done) | exact rfl) | exact oW | (apply And.intro)))
    (refine ⟨[0, 1], ⟨by kernel_rfl⟩, ?_⟩)
    (repeat' (first | (refine xI (fun hfk => ?_) (fun hfk => ?_) <;> ((try (first | replace hfk := oT hfk | replace hfk := oF hfk | simp only [oA, oB, dh1, dh0, ne_eq, reduceCtorEq] at hfk)); (try exact oX))) | (refine And.intro ?ob ?_; (case ob => (exact oZ))) | exact True.intro | (show _ = _; first | exact oY | (skip; done) | exact rfl) | exact oW | (apply And.intro)))
    refine ⟨[some 0, some 1], ?_⟩
    (repeat' (first | (refine xI (fun hfk => ?_) (fun hfk => ?_) <;> ((try (first | replace hfk := oT hfk | replace hfk := oF hfk | simp only [oA, oB, dh1, dh0, ne_eq, reduceCtorEq] at hfk)); (try exact oX))) | (refine And.intro ?ob ?_; (case ob => (exact oZ))) | exact True.intro | (show _ = _; first | exact oY | (first | rfl | (show (_ : Int) = _; omega); done) | exact rfl) | exact oW | (apply And.intro)))
end Go.Proofs.YtljdahepmmgfeaaGreatDoor

