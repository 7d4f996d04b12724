/- Texts laid together. No condition. -/
import Derived.Test.YtocboijpmmlegaaDoorS1
set_option maxRecDepth 100000
set_option linter.unusedVariables false
set_option linter.unusedSimpArgs false
namespace Go.Proofs.YtocboijpmmlegaaDoor
open Go Go.RowKit
set_option maxHeartbeats 4000000
abbrev sL1 (ob : List Int → List Prop) (f : List Int → AV) : PSpec := fun l => match l with | [.roi .i64 d] => some (ob d, f d) | _ => none
abbrev sL2 (ob : List Int → List Int → List Prop) (f : List Int → List Int → AV) : PSpec := fun l => match l with | [.roi .i64 a, .roi .i64 b] => some (ob a b, f a b) | _ => none
structure Sh (l : List Int) : Prop where
  le : l.length ≤ 1000000
structure ShT (l : List Int) : Prop where
  le : l.length ≤ 4000000
abbrev digitS : PSpec := fun l => match l with | [.roi .i64 d, .int .i64 i] => some ([], .int .i64 (dgAt d i)) | _ => none
theorem digit_s : SOK Tryd.prog 65 digitS := by
  refine sok_of (C := mkC 0 [] noG) (mkC_ok pok_nil noG_ok) rfl mixed ⟨Tryd.func65, by kernel_rfl, by kernel_rfl, by kernel_rfl⟩ fun l obs v h ho => ?_
  (unfold digitS at h; split at h; rotate_left; (focus (cases h)); rename_i d i; simp only [Option.some.injEq, Prod.mk.injEq] at h; obtain ⟨rfl, rfl⟩ := h; simp only [List.mem_cons, List.not_mem_nil, or_false, forall_eq_or_imp, forall_eq, false_implies, implies_true] at ho)
  refine ⟨Nat.le_of_ble_eq_true rfl, ?_⟩
  by_cases hi : 0 ≤ i ∧ i < (d.length : Int)
  · have e : dgAt d i = d.getD i.toNat 0 := if_pos hi
    obtain ⟨i0, i1⟩ := hi
    (repeat' (first | (refine xI (fun hfk => ?_) (fun hfk => ?_) <;> ((try (first | replace hfk := oT hfk | replace hfk := oF hfk | simp only [oA, oB, dh1, dh0, ne_eq, reduceCtorEq] at hfk)); (try exact oX))) | (refine And.intro ?ob ?_; (case ob => (exact oZ))) | exact True.intro | (show _ = _; first | exact oY | (exact e.symm; done) | exact rfl) | exact oW | (apply And.intro)))
  · have e : dgAt d i = 0 := if_neg hi
    by_cases h0 : 0 ≤ i
    · have h1 : ¬ i < (d.length : Int) := fun k => hi ⟨h0, k⟩
      (repeat' (first | (refine xI (fun hfk => ?_) (fun hfk => ?_) <;> ((try (first | replace hfk := oT hfk | replace hfk := oF hfk | simp only [oA, oB, dh1, dh0, ne_eq, reduceCtorEq] at hfk)); (try exact oX))) | (refine And.intro ?ob ?_; (case ob => (exact oZ))) | exact True.intro | (show _ = _; first | exact oY | (exact e.symm; done) | exact rfl) | exact oW | (apply And.intro)))
    · (repeat' (first | (refine xI (fun hfk => ?_) (fun hfk => ?_) <;> ((try (first | replace hfk := oT hfk | replace hfk := oF hfk | simp only [oA, oB, dh1, dh0, ne_eq, reduceCtorEq] at hfk)); (try exact oX))) | (refine And.intro ?ob ?_; (case ob => (exact oZ))) | exact True.intro | (show _ = _; first | exact oY | (exact e.symm; done) | exact rfl) | exact oW | (apply And.intro)))
abbrev trimS : PSpec := sL1 (fun d => [ShT d]) fun d => .roi .i64 (trimL d)
theorem trim_s : SOK Tryd.prog 66 trimS := by
  refine sok_of (C := mkC 0 [] noG) (mkC_ok pok_nil noG_ok) rfl mixed ⟨Tryd.func66, by kernel_rfl, by kernel_rfl, by kernel_rfl⟩ fun l obs v h ho => ?_
  unfold trimS at h
  (unfold sL1 at h; split at h; rotate_left; (focus (cases h)); rename_i d; simp only [Option.some.injEq, Prod.mk.injEq] at h; obtain ⟨rfl, rfl⟩ := h; simp only [List.mem_cons, List.not_mem_nil, or_false, forall_eq_or_imp, forall_eq, false_implies, implies_true] at ho)
  have hsh := ho.le
  refine ⟨Nat.le_of_ble_eq_true rfl, ?_⟩
  (repeat' (first | (refine xI (fun hfk => ?_) (fun hfk => ?_) <;> ((try (first | replace hfk := oT hfk | replace hfk := oF hfk | simp only [oA, oB, dh1, dh0, ne_eq, reduceCtorEq] at hfk)); (try exact oX))) | (refine And.intro ?ob ?_; (case ob => (exact oZ))) | exact True.intro | (show _ = _; first | exact oY | (skip; done) | exact rfl) | exact oW | (apply And.intro)))
  refine ⟨Nat, fun i => [(0, .roi .i64 d), (3, .int .i64 (i : Int))], fun i => ⟨0, []⟩, fun i => i ≤ d.length ∧ trimL (d.take i) = trimL d, fun i => i, ⟨d.length, [], ⟨Nat.le_refl _, by rw [List.take_length]⟩, ?_⟩, fun i hi => ?_⟩
  · (repeat' (first | (refine xI (fun hfk => ?_) (fun hfk => ?_) <;> ((try (first | replace hfk := oT hfk | replace hfk := oF hfk | simp only [oA, oB, dh1, dh0, ne_eq, reduceCtorEq] at hfk)); (try exact oX))) | (refine And.intro ?ob ?_; (case ob => (exact oZ))) | exact True.intro | (show _ = _; first | exact oY | (skip; done) | exact rfl) | exact oW | (apply And.intro)))
  obtain ⟨hi, ht⟩ := hi
  cases i with
  | zero =>
    have e : List.drop 0 (List.take ((0 : Nat) : Int).toNat d) = trimL d := by rw [← ht]; rfl
    (repeat' (first | (refine xI (fun hfk => ?_) (fun hfk => ?_) <;> ((try (first | replace hfk := oT hfk | replace hfk := oF hfk | simp only [oA, oB, dh1, dh0, ne_eq, reduceCtorEq] at hfk)); (try exact oX))) | (refine And.intro ?ob ?_; (case ob => (exact oZ))) | exact True.intro | (show _ = _; first | exact oY | (exact e; done) | exact rfl) | exact oW | (apply And.intro)))
  | succ j =>
    have hj : j < d.length := hi
    have et : d.take (j + 1) = d.take j ++ [d.getD j 0] := by
      rw [List.take_add_one]
      simp [List.getD, List.getElem?_eq_getElem hj]
    have ej : (((j + 1 : Nat) : Int) - 1).toNat = j := by omega
    have rj : rngI .i64 (((j + 1 : Nat) : Int) - 1) := rng64 (by omega) (by omega)
    by_cases hz : d.getD j 0 = 0
    · have hz' : d.getD (((j + 1 : Nat) : Int) - 1).toNat 0 = 0 := by rw [ej]; exact hz
      (repeat' (first | (refine xI (fun hfk => ?_) (fun hfk => ?_) <;> ((try (first | replace hfk := oT hfk | replace hfk := oF hfk | simp only [oA, oB, dh1, dh0, ne_eq, reduceCtorEq] at hfk)); (try exact oX))) | (refine And.intro ?ob ?_; (case ob => (exact oZ))) | exact True.intro | (show _ = _; first | exact oY | (skip; done) | exact rfl) | exact oW | (apply And.intro)))
      (refine ⟨j, [], ?_, ?mu, ?_⟩; (case mu => ((try dsimp only); omega)))
      · refine ⟨by omega, ?_⟩
        rw [← ht, et, hz, trimL_snoc0]
      (repeat' (first | (refine xI (fun hfk => ?_) (fun hfk => ?_) <;> ((try (first | replace hfk := oT hfk | replace hfk := oF hfk | simp only [oA, oB, dh1, dh0, ne_eq, reduceCtorEq] at hfk)); (try exact oX))) | (refine And.intro ?ob ?_; (case ob => (exact oZ))) | exact True.intro | (show _ = _; first | exact oY | (skip; done) | exact rfl) | exact oW | (apply And.intro)))
    · have hz' : ¬ d.getD (((j + 1 : Nat) : Int) - 1).toNat 0 = 0 := by rw [ej]; exact hz
      have e : List.drop 0 (List.take ((j + 1 : Nat) : Int).toNat d) = trimL d := by
        rw [List.drop_zero, Int.toNat_natCast, ← ht, et, trimL_snoc hz]
      (repeat' (first | (refine xI (fun hfk => ?_) (fun hfk => ?_) <;> ((try (first | replace hfk := oT hfk | replace hfk := oF hfk | simp only [oA, oB, dh1, dh0, ne_eq, reduceCtorEq] at hfk)); (try exact oX))) | (refine And.intro ?ob ?_; (case ob => (exact oZ))) | exact True.intro | (show _ = _; first | exact oY | (exact e; done) | exact rfl) | exact oW | (apply And.intro)))
abbrev madeS : PSpec := fun l => match l with | [.bool s, .roi .i64 d] => some ([], .agg [.bool (s && decide (0 < (d.length : Int))), .roi .i64 d]) | _ => none
theorem made_s : SOK Tryd.prog 69 madeS := by
  refine sok_of (C := mkC 0 [] noG) (mkC_ok pok_nil noG_ok) rfl mixed ⟨Tryd.func69, by kernel_rfl, by kernel_rfl, by kernel_rfl⟩ fun l obs v h ho => ?_
  (unfold madeS at h; split at h; rotate_left; (focus (cases h)); rename_i s d; simp only [Option.some.injEq, Prod.mk.injEq] at h; obtain ⟨rfl, rfl⟩ := h; simp only [List.mem_cons, List.not_mem_nil, or_false, forall_eq_or_imp, forall_eq, false_implies, implies_true] at ho)
  refine ⟨Nat.le_of_ble_eq_true rfl, ?_⟩
  cases s with
  | true =>
    (repeat' (first | (refine xI (fun hfk => ?_) (fun hfk => ?_) <;> ((try (first | replace hfk := oT hfk | replace hfk := oF hfk | simp only [oA, oB, dh1, dh0, ne_eq, reduceCtorEq] at hfk)); (try exact oX))) | (refine And.intro ?ob ?_; (case ob => (exact oZ))) | exact True.intro | (show _ = _; first | exact oY | (rfl; done) | exact rfl) | exact oW | (apply And.intro)))
  | false =>
    (repeat' (first | (refine xI (fun hfk => ?_) (fun hfk => ?_) <;> ((try (first | replace hfk := oT hfk | replace hfk := oF hfk | simp only [oA, oB, dh1, dh0, ne_eq, reduceCtorEq] at hfk)); (try exact oX))) | (refine And.intro ?ob ?_; (case ob => (exact oZ))) | exact True.intro | (show _ = _; first | exact oY | (rfl; done) | exact rfl) | exact oW | (apply And.intro)))
abbrev sumS : PSpec := sL2 (fun a b => [Sh a, Sh b, Dig a, Dig b]) fun a b => .roi .i64 (dgs (valD a + valD b).toNat)
theorem sum_s : SOK Tryd.prog 70 sumS := by
  refine sok_of (C := mkC 0 [(65, digitS)] (glook [(66, frzP trimS)])) (mkC_ok (pok_cons digit_s pok_nil) (gl_cons (gfrzP trim_s) gl_nil)) rfl mixed ⟨Tryd.func70, by kernel_rfl, by kernel_rfl, by kernel_rfl⟩ fun l obs v h ho => ?_
  unfold sumS at h
  (unfold sL2 at h; split at h; rotate_left; (focus (cases h)); rename_i a b; simp only [Option.some.injEq, Prod.mk.injEq] at h; obtain ⟨rfl, rfl⟩ := h; simp only [List.mem_cons, List.not_mem_nil, or_false, forall_eq_or_imp, forall_eq, false_implies, implies_true] at ho)
  obtain ⟨sa, sb, da, db⟩ := ho
  have la := sa.le
  have lb := sb.le
  refine ⟨Nat.le_of_ble_eq_true rfl, ?_⟩
  (repeat' (first | (refine xI (fun hfk => ?_) (fun hfk => ?_) <;> ((try (first | replace hfk := oT hfk | replace hfk := oF hfk | simp only [oA, oB, dh1, dh0, ne_eq, reduceCtorEq] at hfk)); (try exact oX))) | (refine And.intro ?ob ?_; (case ob => (exact oZ))) | exact True.intro | (show _ = _; first | exact oY | (skip; done) | exact rfl) | exact oW | (apply And.intro)))
  refine ⟨Nat × List Int × Int, fun g => [(0, .roi .i64 a), (1, .roi .i64 b), (5, .sl 0 1 0 g.1), (6, .int .i64 g.2.2), (7, .int .i64 (g.1 : Int))], fun g => ⟨1, [(0, some (.ints 3 .i64 g.2.1))]⟩,
    fun g => g.1 ≤ max a.length b.length ∧ g.2.1.length = g.1 ∧ 0 ≤ g.2.2 ∧ g.2.2 ≤ 1 ∧ g.2.1 ++ sumR (a.drop g.1) (b.drop g.1) g.2.2 = sumR a b 0, fun g => max a.length b.length - g.1, ⟨(0, [], 0), [none], ⟨Nat.zero_le _, rfl, by decide, by decide, rfl⟩, ?_⟩, fun g hg => ?_⟩
  · (repeat' (first | (refine And.intro ?_ ?_) | exact True.intro | (show _ = _; with_reducible rfl) | exact Chk.mk (by kernel_rfl)))
    all_goals rfl
  obtain ⟨i, out, c⟩ := g
  obtain ⟨g1, g2, g3, g4, g5⟩ := hg
  have g1 : i ≤ max a.length b.length := g1
  have g2 : out.length = i := g2
  have g3 : 0 ≤ c := g3
  have g4 : c ≤ 1 := g4
  have g5 : out ++ sumR (a.drop i) (b.drop i) c = sumR a b 0 := g5
  by_cases hlt : i < max a.length b.length
  · obtain ⟨a1, a2⟩ := dgAt_bd da (i : Int)
    obtain ⟨b1, b2⟩ := dgAt_bd db (i : Int)
    have hm : Int.tmod (dgAt a i + dgAt b i + c) 32768 = (dgAt a i + dgAt b i + c) % 32768 := Int.tmod_eq_emod_of_nonneg (by omega)
    have hd : Int.tdiv (dgAt a i + dgAt b i + c) 32768 = (dgAt a i + dgAt b i + c) / 32768 := Int.tdiv_eq_ediv_of_nonneg (by omega)
    have rd : rngI .i64 (Int.tdiv (dgAt a i + dgAt b i + c) 32768) := by rw [hd]; exact rng64 (by omega) (by omega)
    have r1 : rngI .i64 (dgAt a i + dgAt b i) := rng64 (by omega) (by omega)
    have r2 : rngI .i64 (dgAt a i + dgAt b i + c) := rng64 (by omega) (by omega)
    (repeat' (first | (refine xI (fun hfk => ?_) (fun hfk => ?_) <;> ((try (first | replace hfk := oT hfk | replace hfk := oF hfk | simp only [oA, oB, dh1, dh0, ne_eq, reduceCtorEq] at hfk)); (try exact oX))) | (refine And.intro ?ob ?_; (case ob => (exact oZ))) | exact True.intro | (show _ = _; first | exact oY | (skip; done) | exact rfl) | exact oW | (apply And.intro)))
    all_goals
      refine ⟨(i + 1, out ++ [(dgAt a i + dgAt b i + c) % 32768], (dgAt a i + dgAt b i + c) / 32768), [some 2], ?_, ?mu, ?_⟩
      case mu => (show max a.length b.length - (i + 1) < max a.length b.length - i; omega)
      · refine ⟨hlt, by simp [g2], by show 0 ≤ (dgAt a i + dgAt b i + c) / 32768; omega, by show (dgAt a i + dgAt b i + c) / 32768 ≤ 1; omega, ?_⟩
        show (out ++ [_]) ++ sumR (a.drop (i + 1)) (b.drop (i + 1)) _ = _
        rw [← g5, sumR_step hlt, List.append_assoc]; rfl
      have qa : out ++ List.take 1 (List.drop 0 [Int.tmod (dgAt a i + dgAt b i + c) 32768]) = out ++ [(dgAt a i + dgAt b i + c) % 32768] := by rw [hm]; rfl
      (repeat' (first | (refine And.intro ?_ ?_) | exact True.intro | (show _ = _; with_reducible rfl) | exact Chk.mk (by kernel_rfl)))
      all_goals first | exact hd | exact qa | (show (_ : Int) = _; omega) | (show out.length + 1 = i + 1; omega)
  · have ge := sumR_end (c := c) hlt
    rw [ge] at g5
    have gd : Dig (out ++ [c]) := by rw [g5]; exact sumR_dig da db (by decide) (by decide)
    have gv : trimL (out ++ [c]) = dgs (valD a + valD b).toNat := by
      rw [trim_dgs gd, g5, sumR_val, Int.add_zero]
    have qv : List.take (out.length + (List.take 1 (List.drop 0 [c])).length) (List.drop 0 (out ++ List.take 1 (List.drop 0 [c]))) = out ++ [c] := by
      show List.take (out.length + 1) (out ++ [c]) = _
      rw [List.take_of_length_le (by simp)]
    have qs : ShT (List.take (out.length + (List.take 1 (List.drop 0 [c])).length) (List.drop 0 (out ++ List.take 1 (List.drop 0 [c])))) := by
      rw [qv]
      exact ⟨by rw [List.length_append, List.length_singleton]; omega⟩
    have qt : trimL (List.take (out.length + (List.take 1 (List.drop 0 [c])).length) (List.drop 0 (out ++ List.take 1 (List.drop 0 [c])))) = dgs (valD a + valD b).toNat := by rw [qv]; exact gv
    (repeat' (first | (refine xI (fun hfk => ?_) (fun hfk => ?_) <;> ((try (first | replace hfk := oT hfk | replace hfk := oF hfk | simp only [oA, oB, dh1, dh0, ne_eq, reduceCtorEq] at hfk)); (try exact oX))) | (refine And.intro ?ob ?_; (case ob => (exact oZ))) | exact True.intro | (show _ = _; first | exact oY | (exact qt; done) | exact rfl) | exact oW | (apply And.intro)))
end Go.Proofs.YtocboijpmmlegaaDoor
namespace Go.Proofs.YtocboijpmmlegaaDoor
open Go Go.RowKit
set_option maxHeartbeats 4000000
def cmpV (a b : Int) : Int := if a < b then -1 else if b < a then 1 else 0
abbrev lessS : PSpec := sL2 (fun a b => [Sh a, Sh b, Dig a, Dig b]) fun a b => .int .i64 (cmpV (valD a) (valD b))
theorem less_s : SOK Tryd.prog 67 lessS := by
  refine sok_of (C := mkC 0 [(65, digitS)] noG) (mkC_ok (pok_cons digit_s pok_nil) noG_ok) rfl mixed ⟨Tryd.func67, by kernel_rfl, by kernel_rfl, by kernel_rfl⟩ fun l obs v h ho => ?_
  unfold lessS at h
  (unfold sL2 at h; split at h; rotate_left; (focus (cases h)); rename_i a b; simp only [Option.some.injEq, Prod.mk.injEq] at h; obtain ⟨rfl, rfl⟩ := h; simp only [List.mem_cons, List.not_mem_nil, or_false, forall_eq_or_imp, forall_eq, false_implies, implies_true] at ho)
  obtain ⟨sa, sb, da, db⟩ := ho
  have la := sa.le
  have lb := sb.le
  obtain ⟨M, hM⟩ : ∃ M, max a.length b.length = M := ⟨_, rfl⟩
  have hMi : max (a.length : Int) (b.length : Int) = (M : Int) := by omega
  have r0 : rngI .i64 (max (a.length : Int) (b.length : Int) - 1) := rng64 (by omega) (by omega)
  refine ⟨Nat.le_of_ble_eq_true rfl, ?_⟩
  (repeat' (first | (refine xI (fun hfk => ?_) (fun hfk => ?_) <;> ((try (first | replace hfk := oT hfk | replace hfk := oF hfk | simp only [oA, oB, dh1, dh0, ne_eq, reduceCtorEq] at hfk)); (try exact oX))) | (refine And.intro ?ob ?_; (case ob => (exact oZ))) | exact True.intro | (show _ = _; first | exact oY | (skip; done) | exact rfl) | exact oW | (apply And.intro)))
  refine ⟨Nat, fun k => [(0, .roi .i64 a), (1, .roi .i64 b), (5, .int .i64 ((k : Int) - 1))], fun k => ⟨0, []⟩, fun k => k ≤ M ∧ valD (a.drop k) = valD (b.drop k), fun k => k, ⟨M, [], ⟨Nat.le_refl _, ?_⟩, ?_⟩, fun k hk => ?_⟩
  · rw [drop_out (l := a) (by omega), drop_out (l := b) (by omega)]
  · (repeat' (first | (refine And.intro ?_ ?_) | exact True.intro | (show _ = _; with_reducible rfl) | exact Chk.mk (by kernel_rfl)))
    show max (a.length : Int) (b.length : Int) - 1 = (M : Int) - 1
    omega
  obtain ⟨hk, he⟩ := hk
  cases k with
  | zero =>
    rw [List.drop_zero, List.drop_zero] at he
    have e : (0 : Int) = cmpV (valD a) (valD b) := by unfold cmpV; rw [if_neg (by omega), if_neg (by omega)]
    (repeat' (first | (refine xI (fun hfk => ?_) (fun hfk => ?_) <;> ((try (first | replace hfk := oT hfk | replace hfk := oF hfk | simp only [oA, oB, dh1, dh0, ne_eq, reduceCtorEq] at hfk)); (try exact oX))) | (refine And.intro ?ob ?_; (case ob => (exact oZ))) | exact True.intro | (show _ = _; first | exact oY | (exact e; done) | exact rfl) | exact oW | (apply And.intro)))
  | succ j =>
    have ej : (((j + 1 : Nat) : Int) - 1) = (j : Int) := by omega
    have va := valD_drop a j
    have vb := valD_drop b j
    rcases Int.lt_trichotomy (dgAt a j) (dgAt b j) with hc | hc | hc
    · have hl := lt_drop (i := j) da db (by omega)
      have hc' : dgAt a (((j + 1 : Nat) : Int) - 1) < dgAt b (((j + 1 : Nat) : Int) - 1) := by rw [ej]; exact hc
      have e : (-1 : Int) = cmpV (valD a) (valD b) := by unfold cmpV; rw [if_pos hl]
      (repeat' (first | (refine xI (fun hfk => ?_) (fun hfk => ?_) <;> ((try (first | replace hfk := oT hfk | replace hfk := oF hfk | simp only [oA, oB, dh1, dh0, ne_eq, reduceCtorEq] at hfk)); (try exact oX))) | (refine And.intro ?ob ?_; (case ob => (exact oZ))) | exact True.intro | (show _ = _; first | exact oY | (exact e; done) | exact rfl) | exact oW | (apply And.intro)))
    · have hc' : dgAt a (((j + 1 : Nat) : Int) - 1) = dgAt b (((j + 1 : Nat) : Int) - 1) := by rw [ej]; exact hc
      have rj : rngI .i64 (((j + 1 : Nat) : Int) - 1 - 1) := rng64 (by omega) (by omega)
      (repeat' (first | (refine xI (fun hfk => ?_) (fun hfk => ?_) <;> ((try (first | replace hfk := oT hfk | replace hfk := oF hfk | simp only [oA, oB, dh1, dh0, ne_eq, reduceCtorEq] at hfk)); (try exact oX))) | (refine And.intro ?ob ?_; (case ob => (exact oZ))) | exact True.intro | (show _ = _; first | exact oY | (skip; done) | exact rfl) | exact oW | (apply And.intro)))
      (refine ⟨j, [], ?_, ?mu, ?_⟩; (case mu => ((try dsimp only); omega)))
      · exact ⟨by omega, by omega⟩
      (repeat' (first | (refine xI (fun hfk => ?_) (fun hfk => ?_) <;> ((try (first | replace hfk := oT hfk | replace hfk := oF hfk | simp only [oA, oB, dh1, dh0, ne_eq, reduceCtorEq] at hfk)); (try exact oX))) | (refine And.intro ?ob ?_; (case ob => (exact oZ))) | exact True.intro | (show _ = _; first | exact oY | (skip; done) | exact rfl) | exact oW | (apply And.intro)))
    · have hl := lt_drop (i := j) db da (by omega)
      have hc' : dgAt b (((j + 1 : Nat) : Int) - 1) < dgAt a (((j + 1 : Nat) : Int) - 1) := by rw [ej]; exact hc
      have e : (1 : Int) = cmpV (valD a) (valD b) := by unfold cmpV; rw [if_neg (by omega), if_pos hl]
      (repeat' (first | (refine xI (fun hfk => ?_) (fun hfk => ?_) <;> ((try (first | replace hfk := oT hfk | replace hfk := oF hfk | simp only [oA, oB, dh1, dh0, ne_eq, reduceCtorEq] at hfk)); (try exact oX))) | (refine And.intro ?ob ?_; (case ob => (exact oZ))) | exact True.intro | (show _ = _; first | exact oY | (exact e; done) | exact rfl) | exact oW | (apply And.intro)))
abbrev restS01 : PSpec := sL2 (fun a b => [Sh a, Sh b, Dig a, Dig b, valD b ≤ valD a]) fun a b => .roi .i64 (dgs (valD a - valD b).toNat)
theorem rest01_s : SOK Tryd.prog 68 restS01 := by
  refine sok_of (C := mkC 0 [(65, digitS)] (glook [(66, frzP trimS)])) (mkC_ok (pok_cons digit_s pok_nil) (gl_cons (gfrzP trim_s) gl_nil)) rfl mixed ⟨Tryd.func68, by kernel_rfl, by kernel_rfl, by kernel_rfl⟩ fun l obs v h ho => ?_
  unfold restS01 at h
  (unfold sL2 at h; split at h; rotate_left; (focus (cases h)); rename_i a b; simp only [Option.some.injEq, Prod.mk.injEq] at h; obtain ⟨rfl, rfl⟩ := h; simp only [List.mem_cons, List.not_mem_nil, or_false, forall_eq_or_imp, forall_eq, false_implies, implies_true] at ho)
  obtain ⟨sa, sb, da, db, hle⟩ := ho
  have la := sa.le
  refine ⟨Nat.le_of_ble_eq_true rfl, ?_⟩
  (repeat' (first | (refine xI (fun hfk => ?_) (fun hfk => ?_) <;> ((try (first | replace hfk := oT hfk | replace hfk := oF hfk | simp only [oA, oB, dh1, dh0, ne_eq, reduceCtorEq] at hfk)); (try exact oX))) | (refine And.intro ?ob ?_; (case ob => (exact oZ))) | exact True.intro | (show _ = _; first | exact oY | (skip; done) | exact rfl) | exact oW | (apply And.intro)))
  refine ⟨Nat × List Int × Int, fun g => [(0, .roi .i64 a), (1, .roi .i64 b), (5, .sl 0 1 0 g.1), (6, .int .i64 g.2.2), (7, .int .i64 (g.1 : Int))], fun g => ⟨1, [(0, some (.ints 3 .i64 g.2.1))]⟩,
    fun g => g.1 ≤ a.length ∧ g.2.1.length = g.1 ∧ 0 ≤ g.2.2 ∧ g.2.2 ≤ 1 ∧ g.2.1 ++ restR (a.drop g.1) (b.drop g.1) g.2.2 = restR a b 0, fun g => a.length - g.1, ⟨(0, [], 0), [none], ⟨Nat.zero_le _, rfl, by decide, by decide, rfl⟩, ?_⟩, fun g hg => ?_⟩
  · (repeat' (first | (refine And.intro ?_ ?_) | exact True.intro | (show _ = _; with_reducible rfl) | exact Chk.mk (by kernel_rfl)))
    all_goals rfl
  obtain ⟨i, out, c⟩ := g
  obtain ⟨g1, g2, g3, g4, g5⟩ := hg
  have g1 : i ≤ a.length := g1
  have g2 : out.length = i := g2
  have g3 : 0 ≤ c := g3
  have g4 : c ≤ 1 := g4
  have g5 : out ++ restR (a.drop i) (b.drop i) c = restR a b 0 := g5
  by_cases hlt : i < a.length
  · obtain ⟨a1, a2⟩ := dgAt_bd da (i : Int)
    obtain ⟨b1, b2⟩ := dgAt_bd db (i : Int)
    have r1 : rngI .i64 (dgAt a i - dgAt b i) := rng64 (by omega) (by omega)
    have r2 : rngI .i64 (dgAt a i - dgAt b i - c) := rng64 (by omega) (by omega)
    have r3 : rngI .i64 (dgAt a i - dgAt b i - c + 32768) := rng64 (by omega) (by omega)
    have st := restR_step (b := b) (c := c) hlt
    by_cases hs : dgAt a i - dgAt b i - c < 0
    · rw [if_pos hs, if_pos hs] at st
      (repeat' (first | (refine xI (fun hfk => ?_) (fun hfk => ?_) <;> ((try (first | replace hfk := oT hfk | replace hfk := oF hfk | simp only [oA, oB, dh1, dh0, ne_eq, reduceCtorEq] at hfk)); (try exact oX))) | (refine And.intro ?ob ?_; (case ob => (exact oZ))) | exact True.intro | (show _ = _; first | exact oY | (skip; done) | exact rfl) | exact oW | (apply And.intro)))
      refine ⟨(i + 1, out ++ [dgAt a i - dgAt b i - c + 32768], 1), [some 2], ?_, ?mu, ?_⟩
      case mu => (show a.length - (i + 1) < a.length - i; omega)
      · refine ⟨hlt, by simp [g2], by show (0:Int) ≤ 1; decide, by show (1:Int) ≤ 1; decide, ?_⟩
        show (out ++ [_]) ++ restR (a.drop (i + 1)) (b.drop (i + 1)) _ = _
        rw [← g5, st, List.append_assoc]; rfl
      (repeat' (first | (refine And.intro ?_ ?_) | exact True.intro | (show _ = _; with_reducible rfl) | exact Chk.mk (by kernel_rfl)))
      all_goals first | rfl | (show (_ : Int) = _; omega) | (show out.length + 1 = i + 1; omega)
    · rw [if_neg hs, if_neg hs] at st
      (repeat' (first | (refine xI (fun hfk => ?_) (fun hfk => ?_) <;> ((try (first | replace hfk := oT hfk | replace hfk := oF hfk | simp only [oA, oB, dh1, dh0, ne_eq, reduceCtorEq] at hfk)); (try exact oX))) | (refine And.intro ?ob ?_; (case ob => (exact oZ))) | exact True.intro | (show _ = _; first | exact oY | (skip; done) | exact rfl) | exact oW | (apply And.intro)))
      refine ⟨(i + 1, out ++ [dgAt a i - dgAt b i - c], 0), [some 2], ?_, ?mu, ?_⟩
      case mu => (show a.length - (i + 1) < a.length - i; omega)
      · refine ⟨hlt, by simp [g2], by show (0:Int) ≤ 0; decide, by show (0:Int) ≤ 1; decide, ?_⟩
        show (out ++ [_]) ++ restR (a.drop (i + 1)) (b.drop (i + 1)) _ = _
        rw [← g5, st, List.append_assoc]; rfl
      (repeat' (first | (refine And.intro ?_ ?_) | exact True.intro | (show _ = _; with_reducible rfl) | exact Chk.mk (by kernel_rfl)))
      all_goals first | rfl | (show (_ : Int) = _; omega) | (show out.length + 1 = i + 1; omega)
  · have hi : i = a.length := by omega
    have ge : restR (a.drop i) (b.drop i) c = [] := by rw [drop_out (l := a) (by omega), restR]
    rw [ge, List.append_nil] at g5
    have gd : Dig out := by rw [g5]; exact restR_dig da db (by decide) (by decide)
    have gv : trimL out = dgs (valD a - valD b).toNat := by
      rw [trim_dgs gd, g5, restR_val da db (by decide) (by decide) (by omega), Int.sub_zero]
    have qv : List.take i (List.drop 0 out) = out := by rw [List.drop_zero, List.take_of_length_le (by omega)]
    have qs : ShT (List.take i (List.drop 0 out)) := by
      rw [qv]
      exact ⟨by omega⟩
    have qt : trimL (List.take i (List.drop 0 out)) = dgs (valD a - valD b).toNat := by rw [qv]; exact gv
    (repeat' (first | (refine xI (fun hfk => ?_) (fun hfk => ?_) <;> ((try (first | replace hfk := oT hfk | replace hfk := oF hfk | simp only [oA, oB, dh1, dh0, ne_eq, reduceCtorEq] at hfk)); (try exact oX))) | (refine And.intro ?ob ?_; (case ob => (exact oZ))) | exact True.intro | (show _ = _; first | exact oY | (exact qt; done) | exact rfl) | exact oW | (apply And.intro)))
end Go.Proofs.YtocboijpmmlegaaDoor
namespace Go.Proofs.YtocboijpmmlegaaDoor
open Go Go.RowKit
set_option maxHeartbeats 4000000
structure Bg (s : Bool) (l : List Int) : Prop where
  dig : Dig l
  can : dgs (valD l).toNat = l
  sh : Sh l
  sg : s = true → valD l ≠ 0
def bzv (s : Bool) (l : List Int) : Int := if s = true then -(valD l) else valD l
abbrev bigA (z : Int) : AV := .agg [.bool (decide (z < 0)), .roi .i64 (dgs z.natAbs)]
theorem bzv_big (z : Int) : bzv (decide (z < 0)) (dgs z.natAbs) = z := by
  unfold bzv
  rw [valD_dgs]
  by_cases h : z < 0
  · rw [decide_eq_true h, if_pos rfl]; omega
  · rw [decide_eq_false h, if_neg (by simp)]; omega
theorem Bg_big {z : Int} (h : (dgs z.natAbs).length ≤ 1000000) : Bg (decide (z < 0)) (dgs z.natAbs) :=
  ⟨Dig_dgs _, by rw [valD_dgs, Int.toNat_natCast], ⟨h⟩, fun k => by have k := of_decide_eq_true k; rw [valD_dgs]; omega⟩
theorem dgs_len0 {n : Nat} : (0 < ((dgs n).length : Int)) ↔ 0 < n := by
  by_cases h : n = 0
  · subst h; rw [dgs_0]; simp
  · rw [dgs_pos h, List.length_cons]; constructor <;> intro _ <;> omega
theorem made_sg (t : Bool) (n : Nat) : (t && decide (0 < ((dgs n).length : Int))) = decide ((if t = true then -(n : Int) else n) < 0) := by
  cases t with
  | true =>
    rw [if_pos rfl, Bool.true_and]
    exact decide_eq_decide.2 ⟨fun h => by have := dgs_len0.1 h; omega, fun h => dgs_len0.2 (by omega)⟩
  | false =>
    rw [if_neg (by simp), Bool.false_and]
    exact (decide_eq_false (by omega)).symm
theorem made_dg (t : Bool) (n : Nat) : dgs n = dgs (if t = true then -(n : Int) else n).natAbs := by
  cases t with
  | true => rw [if_pos rfl]; congr 1; omega
  | false => rw [if_neg (by simp)]; congr 1
theorem made_z {t : Bool} {n : Nat} {z : Int} (h : (if t = true then -(n : Int) else n) = z) : (t && decide (0 < ((dgs n).length : Int))) = decide (z < 0) ∧ dgs n = dgs z.natAbs := by
  rw [← h]; exact ⟨made_sg t n, made_dg t n⟩
theorem dgs_len : ∀ {k n : Nat}, n < 32768 ^ k → (dgs n).length ≤ k
  | 0, n, h => by
    have : n = 0 := by simpa using h
    subst this; rw [dgs_0]; exact Nat.le_refl _
  | k + 1, n, h => by
    by_cases hn : n = 0
    · subst hn; rw [dgs_0]; exact Nat.zero_le _
    · rw [dgs_pos hn, List.length_cons]
      have : n / 32768 < 32768 ^ k := by
        rw [Nat.pow_succ] at h
        exact Nat.div_lt_of_lt_mul (by rw [Nat.mul_comm]; exact h)
      have := dgs_len this
      omega
abbrev gB1 (ob : Bool → List Int → List Prop) (f : Bool → List Int → AV) : PSpec := fun l => match l with | [.agg [.bool s, .roi .i64 d]] => some (ob s d, f s d) | _ => none
abbrev gB2 (ob : Bool → List Int → Bool → List Int → List Prop) (f : Bool → List Int → Bool → List Int → AV) : PSpec := fun l => match l with | [.agg [.bool s, .roi .i64 d], .agg [.bool t, .roi .i64 e]] => some (ob s d t e, f s d t e) | _ => none
abbrev negS : PSpec := gB1 (fun s d => [Bg s d]) fun s d => bigA (-(bzv s d))
theorem neg_s : SOK Tryd.prog 72 negS := by
  refine sok_of (C := mkC 0 [(69, madeS)] noG) (mkC_ok (pok_cons made_s pok_nil) noG_ok) rfl mixed ⟨Tryd.func72, by kernel_rfl, by kernel_rfl, by kernel_rfl⟩ fun l obs v h ho => ?_
  unfold negS at h
  (unfold gB1 at h; split at h; rotate_left; (focus (cases h)); rename_i s d; simp only [Option.some.injEq, Prod.mk.injEq] at h; obtain ⟨rfl, rfl⟩ := h; simp only [List.mem_cons, List.not_mem_nil, or_false, forall_eq_or_imp, forall_eq, false_implies, implies_true] at ho)
  have hn := valD_nn ho.dig
  have hz : (if (!s) = true then -((valD d).toNat : Int) else ((valD d).toNat : Int)) = -(bzv s d) := by
    unfold bzv
    cases s <;> simp <;> omega
  obtain ⟨e1, e2⟩ := made_z hz
  rw [ho.can] at e1 e2
  refine ⟨Nat.le_of_ble_eq_true rfl, ?_⟩
  (repeat' (first | (refine xI (fun hfk => ?_) (fun hfk => ?_) <;> ((try (first | replace hfk := oT hfk | replace hfk := oF hfk | simp only [oA, oB, dh1, dh0, ne_eq, reduceCtorEq] at hfk)); (try exact oX))) | (refine And.intro ?ob ?_; (case ob => (exact oZ))) | exact True.intro | (show _ = _; first | exact oY | (first | exact e1 | exact e2 | exact ⟨e1, e2⟩; done) | exact rfl) | exact oW | (apply And.intro)))
abbrev addS : PSpec := gB2 (fun s d t e => [Bg s d, Bg t e]) fun s d t e => bigA (bzv s d + bzv t e)
theorem add_s : SOK Tryd.prog 71 addS := by
  refine sok_of (C := mkC 0 [(69, madeS), (70, sumS), (68, restS01), (67, lessS)] noG) (mkC_ok (pok_cons made_s (pok_cons sum_s (pok_cons rest01_s (pok_cons less_s pok_nil)))) noG_ok) rfl mixed ⟨Tryd.func71, by kernel_rfl, by kernel_rfl, by kernel_rfl⟩ fun l obs v h ho => ?_
  unfold addS at h
  (unfold gB2 at h; split at h; rotate_left; (focus (cases h)); rename_i s d t e; simp only [Option.some.injEq, Prod.mk.injEq] at h; obtain ⟨rfl, rfl⟩ := h; simp only [List.mem_cons, List.not_mem_nil, or_false, forall_eq_or_imp, forall_eq, false_implies, implies_true] at ho)
  obtain ⟨hd, he⟩ := ho
  have nd := valD_nn hd.dig
  have ne := valD_nn he.dig
  have dd := hd.dig
  have de := he.dig
  have sd := hd.sh
  have se := he.sh
  refine ⟨Nat.le_of_ble_eq_true rfl, ?_⟩
  by_cases hs : s = t
  · have hz : (if s = true then -((valD d + valD e).toNat : Int) else ((valD d + valD e).toNat : Int)) = bzv s d + bzv t e := by
      subst hs
      unfold bzv
      cases s <;> simp <;> omega
    obtain ⟨e1, e2⟩ := made_z hz
    (repeat' (first | (refine xI (fun hfk => ?_) (fun hfk => ?_) <;> ((try (first | replace hfk := oT hfk | replace hfk := oF hfk | simp only [oA, oB, dh1, dh0, ne_eq, reduceCtorEq] at hfk)); (try exact oX))) | (refine And.intro ?ob ?_; (case ob => (exact oZ))) | exact True.intro | (show _ = _; first | exact oY | (first | exact e1 | exact e2 | exact ⟨e1, e2⟩; done) | exact rfl) | exact oW | (apply And.intro)))
  · by_cases hc : valD e ≤ valD d
    · have hl : 0 ≤ cmpV (valD d) (valD e) := by unfold cmpV; rw [if_neg (by omega)]; split <;> decide
      have hz : (if s = true then -((valD d - valD e).toNat : Int) else ((valD d - valD e).toNat : Int)) = bzv s d + bzv t e := by
        unfold bzv
        cases s <;> cases t <;> simp at hs ⊢ <;> omega
      obtain ⟨e1, e2⟩ := made_z hz
      (repeat' (first | (refine xI (fun hfk => ?_) (fun hfk => ?_) <;> ((try (first | replace hfk := oT hfk | replace hfk := oF hfk | simp only [oA, oB, dh1, dh0, ne_eq, reduceCtorEq] at hfk)); (try exact oX))) | (refine And.intro ?ob ?_; (case ob => (exact oZ))) | exact True.intro | (show _ = _; first | exact oY | (first | exact e1 | exact e2 | exact ⟨e1, e2⟩; done) | exact rfl) | exact oW | (apply And.intro)))
    · have hc' : valD d ≤ valD e := by omega
      have hl : ¬ 0 ≤ cmpV (valD d) (valD e) := by unfold cmpV; rw [if_pos (by omega)]; decide
      have hz : (if t = true then -((valD e - valD d).toNat : Int) else ((valD e - valD d).toNat : Int)) = bzv s d + bzv t e := by
        unfold bzv
        cases s <;> cases t <;> simp at hs ⊢ <;> omega
      obtain ⟨e1, e2⟩ := made_z hz
      (repeat' (first | (refine xI (fun hfk => ?_) (fun hfk => ?_) <;> ((try (first | replace hfk := oT hfk | replace hfk := oF hfk | simp only [oA, oB, dh1, dh0, ne_eq, reduceCtorEq] at hfk)); (try exact oX))) | (refine And.intro ?ob ?_; (case ob => (exact oZ))) | exact True.intro | (show _ = _; first | exact oY | (first | exact e1 | exact e2 | exact ⟨e1, e2⟩; done) | exact rfl) | exact oW | (apply And.intro)))
end Go.Proofs.YtocboijpmmlegaaDoor
namespace Go.Proofs.YtocboijpmmlegaaDoor
open Go Go.RowKit
set_option maxHeartbeats 4000000
theorem Bg.nat {s : Bool} {l : List Int} (h : Bg s l) : dgs (bzv s l).natAbs = l := by
  have := valD_nn h.dig
  have e : (bzv s l).natAbs = (valD l).toNat := by unfold bzv; cases s <;> simp <;> omega
  rw [e, h.can]
theorem Bg.neg {s : Bool} {l : List Int} (h : Bg s l) : Bg (decide (-(bzv s l) < 0)) (dgs (-(bzv s l)).natAbs) :=
  Bg_big (by rw [Int.natAbs_neg, h.nat]; exact h.sh.le)
abbrev subS : PSpec := gB2 (fun s d t e => [Bg s d, Bg t e]) fun s d t e => bigA (bzv s d - bzv t e)
theorem sub_s : SOK Tryd.prog 41 subS := by
  refine sok_of (C := mkC 0 [(71, addS), (72, negS)] noG) (mkC_ok (pok_cons add_s (pok_cons neg_s pok_nil)) noG_ok) rfl mixed ⟨Tryd.func41, by kernel_rfl, by kernel_rfl, by kernel_rfl⟩ fun l obs v h ho => ?_
  unfold subS at h
  (unfold gB2 at h; split at h; rotate_left; (focus (cases h)); rename_i s d t e; simp only [Option.some.injEq, Prod.mk.injEq] at h; obtain ⟨rfl, rfl⟩ := h; simp only [List.mem_cons, List.not_mem_nil, or_false, forall_eq_or_imp, forall_eq, false_implies, implies_true] at ho)
  obtain ⟨hd, he⟩ := ho
  have hn := he.neg
  have hz : bzv s d + bzv (decide (-(bzv t e) < 0)) (dgs (-(bzv t e)).natAbs) = bzv s d - bzv t e := by rw [bzv_big]; omega
  have e1 : decide (bzv s d + bzv (decide (-(bzv t e) < 0)) (dgs (-(bzv t e)).natAbs) < 0) = decide (bzv s d - bzv t e < 0) := by rw [hz]
  have e2 : dgs (bzv s d + bzv (decide (-(bzv t e) < 0)) (dgs (-(bzv t e)).natAbs)).natAbs = dgs (bzv s d - bzv t e).natAbs := by rw [hz]
  refine ⟨Nat.le_of_ble_eq_true rfl, ?_⟩
  (repeat' (first | (refine xI (fun hfk => ?_) (fun hfk => ?_) <;> ((try (first | replace hfk := oT hfk | replace hfk := oF hfk | simp only [oA, oB, dh1, dh0, ne_eq, reduceCtorEq] at hfk)); (try exact oX))) | (refine And.intro ?ob ?_; (case ob => (exact oZ))) | exact True.intro | (show _ = _; first | exact oY | (first | exact e1 | exact e2 | exact ⟨e1, e2⟩; done) | exact rfl) | exact oW | (apply And.intro)))
abbrev unsS : PSpec := fun l => match l with | [.int .u64 x] => some ([0 ≤ x, x < 18446744073709551616], bigA x) | _ => none
theorem uns_s : SOK Tryd.prog 43 unsS := by
  refine sok_of (C := mkC 0 [] noG) (mkC_ok pok_nil noG_ok) rfl mixed ⟨Tryd.func43, by kernel_rfl, by kernel_rfl, by kernel_rfl⟩ fun l obs v h ho => ?_
  (unfold unsS at h; split at h; rotate_left; (focus (cases h)); rename_i x; simp only [Option.some.injEq, Prod.mk.injEq] at h; obtain ⟨rfl, rfl⟩ := h; simp only [List.mem_cons, List.not_mem_nil, or_false, forall_eq_or_imp, forall_eq, false_implies, implies_true] at ho)
  obtain ⟨h0, h1⟩ := ho
  have hk : (dgs x.toNat).length ≤ 5 := dgs_len (by rw [show (32768 : Nat) ^ 5 = 37778931862957161709568 from by decide]; omega)
  refine ⟨Nat.le_of_ble_eq_true rfl, ?_⟩
  (repeat' (first | (refine xI (fun hfk => ?_) (fun hfk => ?_) <;> ((try (first | replace hfk := oT hfk | replace hfk := oF hfk | simp only [oA, oB, dh1, dh0, ne_eq, reduceCtorEq] at hfk)); (try exact oX))) | (refine And.intro ?ob ?_; (case ob => (exact oZ))) | exact True.intro | (show _ = _; first | exact oY | (skip; done) | exact rfl) | exact oW | (apply And.intro)))
  refine ⟨Int × List Int, fun g => [(0, .int .u64 g.1), (2, .ptr 0 0), (3, .sl 1 1 0 g.2.length)], fun g => ⟨2, [(0, some (.cells 49 [.fls, .nils])), (1, some (.ints 3 .i64 g.2))]⟩,
    fun g => 0 ≤ g.1 ∧ g.1 ≤ x ∧ g.2 ++ dgs g.1.toNat = dgs x.toNat, fun g => g.1.toNat, ⟨(x, []), [some 0, none], ⟨h0, Int.le_refl _, rfl⟩, ?_⟩, fun g hg => ?_⟩
  · (repeat' (first | (refine And.intro ?_ ?_) | exact True.intro | (show _ = _; with_reducible rfl) | exact Chk.mk (by kernel_rfl)))
    all_goals rfl
  obtain ⟨y, out⟩ := g
  obtain ⟨g0, g1, g2⟩ := hg
  have g0 : 0 ≤ y := g0
  have g1 : y ≤ x := g1
  have g2 : out ++ dgs y.toNat = dgs x.toNat := g2
  have g3 : out.length + (dgs y.toNat).length ≤ 5 := by rw [← List.length_append, g2]; exact hk
  by_cases hp : 0 < y
  · have hm : Int.tmod y 32768 = y % 32768 := Int.tmod_eq_emod_of_nonneg g0
    have hd : Int.tdiv y 32768 = y / 32768 := Int.tdiv_eq_ediv_of_nonneg g0
    have hw : IntKind.u64.wrap (Int.tdiv y 32768) = y / 32768 := by
      rw [hd]; exact wrap_rng ⟨by show (0 : Int) ≤ _; omega, by show _ ≤ (18446744073709551615 : Int); omega⟩
    have rm : rngI .i64 (Int.tmod y 32768) := by rw [hm]; exact rng64 (by omega) (by omega)
    have st : dgs y.toNat = (y % 32768) :: dgs (y / 32768).toNat := by
      rw [dgs_pos (by omega)]
      congr 1
      · omega
      · congr 1; omega
    (repeat' (first | (refine xI (fun hfk => ?_) (fun hfk => ?_) <;> ((try (first | replace hfk := oT hfk | replace hfk := oF hfk | simp only [oA, oB, dh1, dh0, ne_eq, reduceCtorEq] at hfk)); (try exact oX))) | (refine And.intro ?ob ?_; (case ob => (exact oZ))) | exact True.intro | (show _ = _; first | exact oY | (skip; done) | exact rfl) | exact oW | (apply And.intro)))
    refine ⟨(y / 32768, out ++ [y % 32768]), [some 0, some 3], ?_, ?mu, ?_⟩
    case mu => (show (y / 32768).toNat < y.toNat; omega)
    · refine ⟨by show 0 ≤ y / 32768; omega, by show y / 32768 ≤ x; omega, ?_⟩
      show (out ++ [_]) ++ dgs (y / 32768).toNat = _
      rw [← g2, st, List.append_assoc]; rfl
    have qa : out ++ List.take 1 (List.drop 0 [Int.tmod y 32768]) = out ++ [y % 32768] := by rw [hm]; rfl
    have ql : out.length + (List.take 1 (List.drop 0 [Int.tmod y 32768])).length = (out ++ [y % 32768]).length := by rw [List.length_append]; rfl
    (repeat' (first | (refine And.intro ?_ ?_) | exact True.intro | (show _ = _; with_reducible rfl) | exact Chk.mk (by kernel_rfl)))
    all_goals first | exact hw | exact qa | exact ql
  · have hy : y = 0 := by omega
    have e2 : List.take out.length (List.drop 0 out) = dgs x.natAbs := by
      rw [hy] at g2
      rw [show x.natAbs = x.toNat from by omega, ← g2, List.drop_zero, List.take_length]
      show out = out ++ dgs 0
      rw [dgs_0, List.append_nil]
    have e1 : false = decide (x < 0) := (decide_eq_false (by omega)).symm
    (repeat' (first | (refine xI (fun hfk => ?_) (fun hfk => ?_) <;> ((try (first | replace hfk := oT hfk | replace hfk := oF hfk | simp only [oA, oB, dh1, dh0, ne_eq, reduceCtorEq] at hfk)); (try exact oX))) | (refine And.intro ?ob ?_; (case ob => (exact oZ))) | exact True.intro | (show _ = _; first | exact oY | (first | exact e1 | exact e2 | exact ⟨e1, e2⟩; done) | exact rfl) | exact oW | (apply And.intro)))
end Go.Proofs.YtocboijpmmlegaaDoor
namespace Go.Proofs.YtocboijpmmlegaaDoor
open Go Go.RowKit
set_option maxHeartbeats 4000000
theorem u64_id {n : Int} (h0 : 0 ≤ n) (h1 : n < 18446744073709551616) : IntKind.u64.wrap n = n :=
  wrap_rng ⟨by show (0 : Int) ≤ _; exact h0, by show _ ≤ (18446744073709551615 : Int); omega⟩
abbrev ofS : PSpec := fun l => match l with | [.int .i64 x] => some ([-9223372036854775808 ≤ x, x < 9223372036854775808], bigA x) | _ => none
theorem of_s : SOK Tryd.prog 25 ofS := by
  refine sok_of (C := mkC 0 [(43, unsS)] noG) (mkC_ok (pok_cons uns_s pok_nil) noG_ok) rfl mixed ⟨Tryd.func25, by kernel_rfl, by kernel_rfl, by kernel_rfl⟩ fun l obs v h ho => ?_
  (unfold ofS at h; split at h; rotate_left; (focus (cases h)); rename_i x; simp only [Option.some.injEq, Prod.mk.injEq] at h; obtain ⟨rfl, rfl⟩ := h; simp only [List.mem_cons, List.not_mem_nil, or_false, forall_eq_or_imp, forall_eq, false_implies, implies_true] at ho)
  obtain ⟨h0, h1⟩ := ho
  refine ⟨Nat.le_of_ble_eq_true rfl, ?_⟩
  by_cases hx : x < 0
  · have w1 : IntKind.u64.wrap (0 - (x + 1)) = 0 - (x + 1) := u64_id (by omega) (by omega)
    have w2 : IntKind.u64.wrap (IntKind.u64.wrap (0 - (x + 1)) + 1) = -x := by rw [w1, u64_id (by omega) (by omega)]; omega
    have k0 : 0 ≤ IntKind.u64.wrap (IntKind.u64.wrap (0 - (x + 1)) + 1) := by rw [w2]; omega
    have k1 : IntKind.u64.wrap (IntKind.u64.wrap (0 - (x + 1)) + 1) < 18446744073709551616 := by rw [w2]; omega
    have e1 : true = decide (x < 0) := (decide_eq_true hx).symm
    have e2 : dgs (IntKind.u64.wrap (IntKind.u64.wrap (0 - (x + 1)) + 1)).natAbs = dgs x.natAbs := by rw [w2, Int.natAbs_neg]
    have r1 : rngI .i64 (x + 1) := rng64 (by omega) (by omega)
    have r2 : rngI .i64 (0 - (x + 1)) := rng64 (by omega) (by omega)
    (repeat' (first | (refine xI (fun hfk => ?_) (fun hfk => ?_) <;> ((try (first | replace hfk := oT hfk | replace hfk := oF hfk | simp only [oA, oB, dh1, dh0, ne_eq, reduceCtorEq] at hfk)); (try exact oX))) | (refine And.intro ?ob ?_; (case ob => (exact oZ))) | exact True.intro | (show _ = _; first | exact oY | (first | exact e1 | exact e2 | exact ⟨e1, e2⟩; done) | exact rfl) | exact oW | (apply And.intro)))
  · have w1 : IntKind.u64.wrap x = x := u64_id (by omega) (by omega)
    have k0 : 0 ≤ IntKind.u64.wrap x := by rw [w1]; omega
    have k1 : IntKind.u64.wrap x < 18446744073709551616 := by rw [w1]; omega
    have e1 : decide (IntKind.u64.wrap x < 0) = decide (x < 0) := by rw [w1]
    have e2 : dgs (IntKind.u64.wrap x).natAbs = dgs x.natAbs := by rw [w1]
    (repeat' (first | (refine xI (fun hfk => ?_) (fun hfk => ?_) <;> ((try (first | replace hfk := oT hfk | replace hfk := oF hfk | simp only [oA, oB, dh1, dh0, ne_eq, reduceCtorEq] at hfk)); (try exact oX))) | (refine And.intro ?ob ?_; (case ob => (exact oZ))) | exact True.intro | (show _ = _; first | exact oY | (first | exact e1 | exact e2 | exact ⟨e1, e2⟩; done) | exact rfl) | exact oW | (apply And.intro)))
theorem valD_drop_le : ∀ {l : List Int} (k : Nat), Dig l → valD (l.drop k) ≤ valD l
  | [], k, h => by simp
  | d :: l, 0, h => by simp
  | d :: l, k + 1, h => by
    have := valD_drop_le (l := l) k h.tail
    have := valD_nn h.tail
    have := h.head.lo
    simp only [List.drop_succ_cons, valD]
    omega
abbrev unsignedS : PSpec := gB1 (fun s d => [Bg s d, valD d < 18446744073709551616]) fun s d => .int .u64 (valD d)
theorem unsigned_s : SOK Tryd.prog 40 unsignedS := by
  refine sok_of (C := mkC 0 [] noG) (mkC_ok pok_nil noG_ok) rfl mixed ⟨Tryd.func40, by kernel_rfl, by kernel_rfl, by kernel_rfl⟩ fun l obs v h ho => ?_
  unfold unsignedS at h
  (unfold gB1 at h; split at h; rotate_left; (focus (cases h)); rename_i s d; simp only [Option.some.injEq, Prod.mk.injEq] at h; obtain ⟨rfl, rfl⟩ := h; simp only [List.mem_cons, List.not_mem_nil, or_false, forall_eq_or_imp, forall_eq, false_implies, implies_true] at ho)
  obtain ⟨hd, hv⟩ := ho
  have dd := hd.dig
  have hl := hd.sh.le
  refine ⟨Nat.le_of_ble_eq_true rfl, ?_⟩
  have r0 : rngI .i64 ((d.length : Int) - 1) := rng64 (by omega) (by omega)
  (repeat' (first | (refine xI (fun hfk => ?_) (fun hfk => ?_) <;> ((try (first | replace hfk := oT hfk | replace hfk := oF hfk | simp only [oA, oB, dh1, dh0, ne_eq, reduceCtorEq] at hfk)); (try exact oX))) | (refine And.intro ?ob ?_; (case ob => (exact oZ))) | exact True.intro | (show _ = _; first | exact oY | (skip; done) | exact rfl) | exact oW | (apply And.intro)))
  refine ⟨Nat, fun k => [(1, .ptr 0 0), (3, .int .u64 (valD (d.drop k))), (4, .int .i64 ((k : Int) - 1))], fun k => ⟨1, [(0, some (.cells 49 [.bool s, .roi .i64 d]))]⟩, fun k => k ≤ d.length, fun k => k, ⟨d.length, [some 0], Nat.le_refl _, ?_⟩, fun k hk => ?_⟩
  · have e : (0 : Int) = valD (d.drop d.length) := by rw [List.drop_length]; rfl
    (repeat' (first | (refine And.intro ?_ ?_) | exact True.intro | (show _ = _; with_reducible rfl) | exact Chk.mk (by kernel_rfl)))
    all_goals first | rfl | exact e
  have hk : k ≤ d.length := hk
  cases k with
  | zero =>
    have e : valD (d.drop 0) = valD d := by rw [List.drop_zero]
    (repeat' (first | (refine xI (fun hfk => ?_) (fun hfk => ?_) <;> ((try (first | replace hfk := oT hfk | replace hfk := oF hfk | simp only [oA, oB, dh1, dh0, ne_eq, reduceCtorEq] at hfk)); (try exact oX))) | (refine And.intro ?ob ?_; (case ob => (exact oZ))) | exact True.intro | (show _ = _; first | exact oY | (exact e; done) | exact rfl) | exact oW | (apply And.intro)))
  | succ j =>
    have ej : (((j + 1 : Nat) : Int) - 1) = (j : Int) := by omega
    have et : (((j + 1 : Nat) : Int) - 1).toNat = j := by omega
    have va := valD_drop d j
    have vle := valD_drop_le j dd
    have vn := valD_nn (dd.drop (j + 1))
    obtain ⟨b0, b1⟩ := dgAt_bd dd (j : Int)
    have eg : dgAt d j = d.getD j 0 := dgAt_in hk
    have w1 : IntKind.u64.wrap (valD (d.drop (j + 1)) * 32768) = valD (d.drop (j + 1)) * 32768 := u64_id (by omega) (by omega)
    have w2 : IntKind.u64.wrap (d.getD (((j + 1 : Nat) : Int) - 1).toNat 0) = d.getD j 0 := by rw [et]; exact u64_id (by omega) (by omega)
    have w3 : IntKind.u64.wrap (IntKind.u64.wrap (valD (d.drop (j + 1)) * 32768) + IntKind.u64.wrap (d.getD (((j + 1 : Nat) : Int) - 1).toNat 0)) = valD (d.drop j) := by
      rw [w1, w2, u64_id (by omega) (by omega), va]; omega
    have rj : rngI .i64 (((j + 1 : Nat) : Int) - 1 - 1) := rng64 (by omega) (by omega)
    (repeat' (first | (refine xI (fun hfk => ?_) (fun hfk => ?_) <;> ((try (first | replace hfk := oT hfk | replace hfk := oF hfk | simp only [oA, oB, dh1, dh0, ne_eq, reduceCtorEq] at hfk)); (try exact oX))) | (refine And.intro ?ob ?_; (case ob => (exact oZ))) | exact True.intro | (show _ = _; first | exact oY | (skip; done) | exact rfl) | exact oW | (apply And.intro)))
    refine ⟨j, [some 0], by omega, ?mu, ?_⟩
    case mu => (show j < j + 1; omega)
    (repeat' (first | (refine And.intro ?_ ?_) | exact True.intro | (show _ = _; with_reducible rfl) | exact Chk.mk (by kernel_rfl)))
    all_goals first | rfl | exact w3 | (show (_ : Int) = _; omega)
end Go.Proofs.YtocboijpmmlegaaDoor
namespace Go.Proofs.YtocboijpmmlegaaDoor
open Go Go.RowKit
set_option maxHeartbeats 4000000
theorem set_take {o : List Int} {p : Nat} (h : p < o.length) (v : Int) : (o.set p v).take (p + 1) = o.take p ++ [v] := by
  rw [List.set_eq_take_append_cons_drop, if_pos h, List.take_append, List.length_take, List.take_of_length_le (by rw [List.length_take]; omega)]
  congr 1
  rw [show p + 1 - min p o.length = 1 from by omega]; rfl
theorem set_drop {o : List Int} {p : Nat} (h : p < o.length) (v : Int) : (o.set p v).drop (p + 1) = o.drop (p + 1) := by
  rw [List.set_eq_take_append_cons_drop, if_pos h, List.drop_append, List.length_take, List.drop_of_length_le (by rw [List.length_take]; omega)]
  rw [show p + 1 - min p o.length = 1 from by omega]; rfl
theorem Dig.set {o : List Int} (h : Dig o) (p : Nat) {v : Int} (hv : Dg v) : Dig (o.set p v) := fun x hx => (List.mem_or_eq_of_mem_set hx).elim (h x) fun e => e ▸ hv
theorem am_next {o b : List Int} {x c : Int} {p k : Nat} (hp : p < o.length) (hk : k < b.length) :
    (o.set p ((o.getD p 0 + x * b.getD k 0 + c) % 32768)).take (p + 1) ++ amR ((o.set p ((o.getD p 0 + x * b.getD k 0 + c) % 32768)).drop (p + 1)) x (b.drop (k + 1)) ((o.getD p 0 + x * b.getD k 0 + c) / 32768) = o.take p ++ amR (o.drop p) x (b.drop k) c := by
  rw [set_take hp, set_drop hp, drop_dg hp, drop_dg hk, amR, dgAt_in hp, dgAt_in hk, List.append_assoc]
  rfl
theorem am_end {o : List Int} {x c : Int} {p : Nat} (hp : p < o.length) : o.set p (o.getD p 0 + c) = o.take p ++ amR (o.drop p) x [] c := by
  rw [drop_dg hp, amR, dgAt_in hp, List.set_eq_take_append_cons_drop, if_pos hp]
theorem mul_next {a b o q : List Int} {i : Nat} (hi : i < a.length) (ho : i < o.length) (e : q = o.take i ++ amR (o.drop i) (dgAt a i) b 0) :
    q.take (i + 1) ++ mulR (q.drop (i + 1)) (a.drop (i + 1)) b = o.take i ++ mulR (o.drop i) (a.drop i) b := by
  have hl := amR_len (o.drop i) (dgAt a i) b 0
  rw [drop_dg hi, mulR]
  cases hA : amR (o.drop i) (dgAt a i) b 0 with
  | nil => rw [hA, List.length_drop] at hl; simp at hl; omega
  | cons y A =>
    rw [hA] at e
    have hm : min i o.length = i := by omega
    have e1 : q.take (i + 1) = o.take i ++ [y] := by
      rw [e, List.take_append, List.length_take, hm, List.take_of_length_le (by rw [List.length_take]; omega), show i + 1 - i = 1 from by omega]; rfl
    have e2 : q.drop (i + 1) = A := by
      rw [e, List.drop_append, List.length_take, hm, List.drop_of_length_le (by rw [List.length_take]; omega), show i + 1 - i = 1 from by omega]; rfl
    rw [e1, e2, List.append_assoc]; rfl
theorem mul_dig {a b o q : List Int} {i : Nat} (da : Dig a) (db : Dig b) (dO : Dig o) (hz : ∀ j, i + b.length ≤ j → o.getD j 0 = 0) (hi : i < a.length) (e : q = o.take i ++ amR (o.drop i) (dgAt a i) b 0) : Dig q := by
  rw [e]
  refine (dO.take i).app (amR_dig (dO.drop i) ⟨(dgAt_bd da i).1, (dgAt_bd da i).2⟩ db (by decide) (by decide) fun j hj => ?_)
  have := hz (i + j) (by omega)
  simpa [List.getD, List.getElem?_drop] using this
theorem mul_zero {a b o q : List Int} {i : Nat} (hz : ∀ j, i + b.length ≤ j → o.getD j 0 = 0) (ho : i < o.length) (e : q = o.take i ++ amR (o.drop i) (dgAt a i) b 0) : ∀ j, i + 1 + b.length ≤ j → q.getD j 0 = 0 := by
  intro j hj
  have h1 := amR_zero (o.drop i) (dgAt a i) b 0 (j - i) (by omega)
  have h2 := hz j (by omega)
  have h3 : (o.drop i).getD (j - i) 0 = o.getD j 0 := by
    simp only [List.getD, List.getElem?_drop]
    rw [show i + (j - i) = j from by omega]
  have hm : min i o.length = i := by omega
  have h4 : q.getD j 0 = (amR (o.drop i) (dgAt a i) b 0).getD (j - i) 0 := by
    rw [e]
    simp only [List.getD]
    rw [List.getElem?_append_right (by rw [List.length_take]; omega), List.length_take, hm]
  rw [h4, h1, h3, h2]
theorem valD_zero : ∀ n : Nat, valD (List.replicate n 0) = 0
  | 0 => rfl
  | n + 1 => by rw [List.replicate_succ, valD, valD_zero n]; rfl
abbrev mulS : PSpec := gB2 (fun s d t e => [Bg s d, Bg t e]) fun s d t e => bigA (bzv s d * bzv t e)
theorem mul_s : SOK Tryd.prog 42 mulS := by
  refine sok_of (C := mkK 0 [(69, madeS), (66, trimS)] noG [1000003]) (mkK_ok (pok_cons made_s (pok_cons trim_s pok_nil)) noG_ok) rfl mixed ⟨Tryd.func42, by kernel_rfl, by kernel_rfl, by kernel_rfl⟩ fun l obs v h ho => ?_
  unfold mulS at h
  (unfold gB2 at h; split at h; rotate_left; (focus (cases h)); rename_i s a t b; simp only [Option.some.injEq, Prod.mk.injEq] at h; obtain ⟨rfl, rfl⟩ := h; simp only [List.mem_cons, List.not_mem_nil, or_false, forall_eq_or_imp, forall_eq, false_implies, implies_true] at ho)
  obtain ⟨ha, hb⟩ := ho
  have da := ha.dig
  have db := hb.dig
  have la := ha.sh.le
  have lb := hb.sh.le
  refine ⟨Nat.le_of_ble_eq_true rfl, ?_⟩
  obtain ⟨N, hN⟩ : ∃ N : Nat, a.length + b.length + 1 = N := ⟨_, rfl⟩
  have hNt : ((a.length : Int) + b.length + 1).toNat = N := by omega
  have r0 : rngI .i64 ((a.length : Int) + b.length) := rng64 (by omega) (by omega)
  have r1 : rngI .i64 ((a.length : Int) + b.length + 1) := rng64 (by omega) (by omega)
  (repeat' (first | (refine xI (fun hfk => ?_) (fun hfk => ?_) <;> ((try (first | replace hfk := oT hfk | replace hfk := oF hfk | simp only [oA, oB, dh1, dh0, ne_eq, reduceCtorEq] at hfk)); (try exact oX))) | (refine And.intro ?ob ?_; (case ob => (exact oZ))) | exact True.intro | (show _ = _; first | exact oY | (skip; done) | exact rfl) | exact oW | (apply And.intro)))
  refine ⟨Nat × List Int, fun g => [(2, .ptr 0 0), (3, .ptr 1 0), (4, .ptr 2 0), (5, .sl 3 1 0 N), (6, .int .i64 (g.1 : Int))],
    fun g => ⟨4, [(0, some (.cells 49 [.bool s, .roi .i64 a])), (1, some (.cells 49 [.bool t, .roi .i64 b])), (2, some (.cells 49 [.fls, .nils])), (3, some (.ints 3 .i64 g.2))]⟩,
    fun g => g.1 ≤ a.length ∧ g.2.length = N ∧ Dig g.2 ∧ (∀ j, g.1 + b.length ≤ j → g.2.getD j 0 = 0) ∧ g.2.take g.1 ++ mulR (g.2.drop g.1) (a.drop g.1) b = mulR (List.replicate N 0) a b, fun g => a.length - g.1,
    ⟨(0, List.replicate N 0), [some 0, some 1, some 2, some 3], ⟨Nat.zero_le _, List.length_replicate, fun x hx => by rw [List.eq_of_mem_replicate hx]; exact ⟨by decide, by decide⟩, fun j _ => by simp [List.getD, List.getElem?_replicate]; split <;> rfl, rfl⟩, ?_⟩, fun g hg => ?_⟩
  · have q1 : List.replicate ((a.length : Int) + b.length + 1).toNat (0 : Int) = List.replicate N 0 := by rw [hNt]
    (repeat' (first | (refine And.intro ?_ ?_) | exact True.intro | (show _ = _; with_reducible rfl) | exact Chk.mk (by kernel_rfl)))
    all_goals first | rfl | exact hNt | exact q1
  obtain ⟨i, o⟩ := g
  obtain ⟨g1, g2, g3, g4, g5⟩ := hg
  have g1 : i ≤ a.length := g1
  have g2 : o.length = N := g2
  have g3 : Dig o := g3
  have g4 : ∀ j, i + b.length ≤ j → o.getD j 0 = 0 := g4
  have g5 : o.take i ++ mulR (o.drop i) (a.drop i) b = mulR (List.replicate N 0) a b := g5
  by_cases hlt : i < a.length
  · have hlt' : (i : Int) < (a.length : Int) := by omega
    (repeat' (first | (refine xI (fun hfk => ?_) (fun hfk => ?_) <;> ((try (first | replace hfk := oT hfk | replace hfk := oF hfk | simp only [oA, oB, dh1, dh0, ne_eq, reduceCtorEq] at hfk)); (try exact oX))) | (refine And.intro ?ob ?_; (case ob => (exact oZ))) | exact True.intro | (show _ = _; first | exact oY | (skip; done) | exact rfl) | exact oW | (apply And.intro)))
    refine ⟨[], ?_⟩
    refine ⟨[(2, .ptr 0 0), (3, .ptr 1 0), (4, .ptr 2 0), (5, .sl 3 1 0 N), (6, .int .i64 (i : Int)), (23, .bool (decide ((i : Int) < (a.length : Int))))],
      ⟨4, [(0, some (.cells 49 [.bool s, .roi .i64 a])), (1, some (.cells 49 [.bool t, .roi .i64 b])), (2, some (.cells 49 [.fls, .nils])), (3, some (.ints 3 .i64 o))]⟩, [some 0, some 1, some 2, some 3], ?_, ?_⟩
    · (repeat' (first | (refine And.intro ?_ ?_) | exact True.intro | (show _ = _; with_reducible rfl) | exact Chk.mk (by kernel_rfl)))
      all_goals rfl
    (repeat' (first | (refine xI (fun hfk => ?_) (fun hfk => ?_) <;> ((try (first | replace hfk := oT hfk | replace hfk := oF hfk | simp only [oA, oB, dh1, dh0, ne_eq, reduceCtorEq] at hfk)); (try exact oX))) | (refine And.intro ?ob ?_; (case ob => (exact oZ))) | exact True.intro | (show _ = _; first | exact oY | (skip; done) | exact rfl) | exact oW | (apply And.intro)))
    refine ⟨Nat × List Int × Int, fun g => [(2, .ptr 0 0), (3, .ptr 1 0), (4, .ptr 2 0), (5, .sl 3 1 0 N), (6, .int .i64 (i : Int)), (7, .int .i64 g.2.2), (8, .int .i64 (g.1 : Int))],
      fun g => ⟨4, [(0, some (.cells 49 [.bool s, .roi .i64 a])), (1, some (.cells 49 [.bool t, .roi .i64 b])), (2, some (.cells 49 [.fls, .nils])), (3, some (.ints 3 .i64 g.2.1))]⟩,
      fun g => g.1 ≤ b.length ∧ g.2.1.length = N ∧ Dig g.2.1 ∧ 0 ≤ g.2.2 ∧ g.2.2 < 32768 ∧ g.2.1.take (i + g.1) ++ amR (g.2.1.drop (i + g.1)) (dgAt a i) (b.drop g.1) g.2.2 = o.take i ++ amR (o.drop i) (dgAt a i) b 0, fun g => b.length - g.1,
      ⟨(0, o, 0), [some 0, some 1, some 2, some 3], ⟨Nat.zero_le _, g2, g3, by show (0 : Int) ≤ 0; decide, by show (0 : Int) < 32768; decide, rfl⟩, ?_⟩, fun g hg => ?_⟩
    · (repeat' (first | (refine And.intro ?_ ?_) | exact True.intro | (show _ = _; with_reducible rfl) | exact Chk.mk (by kernel_rfl)))
      all_goals rfl
    obtain ⟨k, q, c⟩ := g
    obtain ⟨k1, k2, k3, k4, k5, k6⟩ := hg
    have k1 : k ≤ b.length := k1
    have k2 : q.length = N := k2
    have k3 : Dig q := k3
    have k4 : 0 ≤ c := k4
    have k5 : c < 32768 := k5
    have k6 : q.take (i + k) ++ amR (q.drop (i + k)) (dgAt a i) (b.drop k) c = o.take i ++ amR (o.drop i) (dgAt a i) b 0 := k6
    have hp : i + k < q.length := by omega
    have et : ((i : Int) + (k : Int)).toNat = i + k := by omega
    obtain ⟨q0, q1⟩ := dgAt_bd k3 ((i + k : Nat) : Int)
    rw [dgAt_in hp] at q0 q1
    obtain ⟨x0, x1⟩ := dgAt_bd da (i : Int)
    have ex := dgAt_in hlt
    have r2 : rngI .i64 ((i : Int) + (k : Int)) := rng64 (by omega) (by omega)
    by_cases hk : k < b.length
    · have hk' : (k : Int) < (b.length : Int) := by omega
      obtain ⟨y0, y1⟩ := dgAt_bd db (k : Int)
      have ey := dgAt_in hk
      rw [ex] at x0 x1
      rw [ey] at y0 y1
      have p0 : 0 ≤ a.getD i 0 * b.getD k 0 := Int.mul_nonneg x0 y0
      have p1 : a.getD i 0 * b.getD k 0 ≤ 32767 * 32767 := Int.mul_le_mul (by omega) (by omega) y0 (by omega)
      have r3 : rngI .i64 (a.getD i 0 * b.getD k 0) := rng64 (by omega) (by omega)
      have r4 : rngI .i64 (q.getD (i + k) 0 + a.getD i 0 * b.getD k 0) := rng64 (by omega) (by omega)
      have r5 : rngI .i64 (q.getD (i + k) 0 + a.getD i 0 * b.getD k 0 + c) := rng64 (by omega) (by omega)
      have ea : a.getD (i : Int).toNat 0 = a.getD i 0 := rfl
      have eb : b.getD (k : Int).toNat 0 = b.getD k 0 := rfl
      have eq : q.getD (0 + ((i : Int) + (k : Int)).toNat) 0 = q.getD (i + k) 0 := by rw [et, Nat.zero_add]
      have r4' : rngI .i64 (q.getD (0 + ((i : Int) + (k : Int)).toNat) 0 + a.getD (i : Int).toNat 0 * b.getD (k : Int).toNat 0) := by rw [eq]; exact r4
      have r5' : rngI .i64 (q.getD (0 + ((i : Int) + (k : Int)).toNat) 0 + a.getD (i : Int).toNat 0 * b.getD (k : Int).toNat 0 + c) := by rw [eq]; exact r5
      have hd : Int.tdiv (q.getD (i + k) 0 + a.getD i 0 * b.getD k 0 + c) 32768 = (q.getD (i + k) 0 + a.getD i 0 * b.getD k 0 + c) / 32768 := Int.tdiv_eq_ediv_of_nonneg (by omega)
      have hm : Int.tmod (q.getD (i + k) 0 + a.getD i 0 * b.getD k 0 + c) 32768 = (q.getD (i + k) 0 + a.getD i 0 * b.getD k 0 + c) % 32768 := Int.tmod_eq_emod_of_nonneg (by omega)
      have hd' : Int.tdiv (q.getD (0 + ((i : Int) + (k : Int)).toNat) 0 + a.getD (i : Int).toNat 0 * b.getD (k : Int).toNat 0 + c) 32768 = (q.getD (i + k) 0 + a.getD i 0 * b.getD k 0 + c) / 32768 := by rw [eq]; exact hd
      have r6 : rngI .i64 (Int.tdiv (q.getD (0 + ((i : Int) + (k : Int)).toNat) 0 + a.getD (i : Int).toNat 0 * b.getD (k : Int).toNat 0 + c) 32768) := by rw [hd']; exact rng64 (by omega) (by omega)
      have r3' : rngI .i64 (a.getD (i : Int).toNat 0 * b.getD (k : Int).toNat 0) := r3
      have nx := am_next (o := q) (b := b) (x := a.getD i 0) (c := c) hp hk
      (repeat' (first | (refine xI (fun hfk => ?_) (fun hfk => ?_) <;> ((try (first | replace hfk := oT hfk | replace hfk := oF hfk | simp only [oA, oB, dh1, dh0, ne_eq, reduceCtorEq] at hfk)); (try exact oX))) | (refine And.intro ?ob ?_; (case ob => (exact oZ))) | exact True.intro | (show _ = _; first | exact oY | (first | exact r3' | exact r4' | exact r5' | exact r6; done) | exact rfl) | exact oW | (apply And.intro)))
      refine ⟨(k + 1, q.set (i + k) ((q.getD (i + k) 0 + a.getD i 0 * b.getD k 0 + c) % 32768), (q.getD (i + k) 0 + a.getD i 0 * b.getD k 0 + c) / 32768), [some 0, some 1, some 2, some 3], ?_, ?mu, ?_⟩
      case mu => (show b.length - (k + 1) < b.length - k; omega)
      · refine ⟨hk, ?_, k3.set _ ⟨by omega, by omega⟩, ?_, ?_, ?_⟩
        · show (q.set _ _).length = N
          rw [List.length_set]; exact k2
        · show 0 ≤ (q.getD (i + k) 0 + a.getD i 0 * b.getD k 0 + c) / 32768
          omega
        · show (q.getD (i + k) 0 + a.getD i 0 * b.getD k 0 + c) / 32768 < 32768
          omega
        · rw [ex] at k6 ⊢
          rw [← k6, ← nx]
          rfl
      have qa : q.set (0 + ((i : Int) + (k : Int)).toNat) (Int.tmod (q.getD (0 + ((i : Int) + (k : Int)).toNat) 0 + a.getD (i : Int).toNat 0 * b.getD (k : Int).toNat 0 + c) 32768) = q.set (i + k) ((q.getD (i + k) 0 + a.getD i 0 * b.getD k 0 + c) % 32768) := by
        rw [eq, et, Nat.zero_add]
        exact congrArg (q.set (i + k)) hm
      (repeat' (first | (refine And.intro ?_ ?_) | exact True.intro | (show _ = _; with_reducible rfl) | exact Chk.mk (by kernel_rfl)))
      all_goals first | rfl | exact hd' | exact qa | (show (_ : Int) = _; omega)
    · have hk' : ¬ (k : Int) < (b.length : Int) := by omega
      have hkb : k = b.length := by omega
      subst hkb
      rw [List.drop_length] at k6
      have eq : q.getD (0 + ((i : Int) + (b.length : Int)).toNat) 0 = q.getD (i + b.length) 0 := by rw [et, Nat.zero_add]
      have r7 : rngI .i64 (q.getD (0 + ((i : Int) + (b.length : Int)).toNat) 0 + c) := by rw [eq]; exact rng64 (by omega) (by omega)
      have ri : rngI .i64 ((i : Int) + 1) := rng64 (by omega) (by omega)
      have nq : q.set (i + b.length) (q.getD (i + b.length) 0 + c) = o.take i ++ amR (o.drop i) (dgAt a i) b 0 := by rw [am_end hp]; exact k6
      (repeat' (first | (refine xI (fun hfk => ?_) (fun hfk => ?_) <;> ((try (first | replace hfk := oT hfk | replace hfk := oF hfk | simp only [oA, oB, dh1, dh0, ne_eq, reduceCtorEq] at hfk)); (try exact oX))) | (refine And.intro ?ob ?_; (case ob => (exact oZ))) | exact True.intro | (show _ = _; first | exact oY | (exact r7; done) | exact rfl) | exact oW | (apply And.intro)))
      refine ⟨(i + 1, q.set (i + b.length) (q.getD (i + b.length) 0 + c)), [some 0, some 1, some 2, some 3], ?_, ?mu, ?_⟩
      case mu => (show a.length - (i + 1) < a.length - i; omega)
      · refine ⟨hlt, ?_, mul_dig da db g3 g4 hlt nq, mul_zero g4 (by omega) nq, ?_⟩
        · show (q.set _ _).length = N
          rw [List.length_set]; exact k2
        · rw [← g5, ← mul_next hlt (by omega) nq]
      have qa : q.set (0 + ((i : Int) + (b.length : Int)).toNat) (q.getD (0 + ((i : Int) + (b.length : Int)).toNat) 0 + c) = q.set (i + b.length) (q.getD (i + b.length) 0 + c) := by
        rw [eq, et, Nat.zero_add]
      (repeat' (first | (refine And.intro ?_ ?_) | exact True.intro | (show _ = _; with_reducible rfl) | exact Chk.mk (by kernel_rfl)))
      all_goals first | rfl | exact qa | (show (_ : Int) = _; omega)
  · have hlt' : ¬ (i : Int) < (a.length : Int) := by omega
    have hi : i = a.length := by omega
    have hM : o = mulR (List.replicate N 0) a b := by
      rw [← g5, hi, List.drop_length, mulR, List.take_append_drop]
    have hv : valD o = valD a * valD b := by
      rw [hM, mulR_val _ _ _ (by rw [List.length_replicate]; omega), valD_zero, Int.zero_add]
    (repeat' (first | (refine xI (fun hfk => ?_) (fun hfk => ?_) <;> ((try (first | replace hfk := oT hfk | replace hfk := oF hfk | simp only [oA, oB, dh1, dh0, ne_eq, reduceCtorEq] at hfk)); (try exact oX))) | (refine And.intro ?ob ?_; (case ob => (exact oZ))) | exact True.intro | (show _ = _; first | exact oY | (skip; done) | exact rfl) | exact oW | (apply And.intro)))
    refine ⟨[5], ?_⟩
    (repeat' (first | (refine xI (fun hfk => ?_) (fun hfk => ?_) <;> ((try (first | replace hfk := oT hfk | replace hfk := oF hfk | simp only [oA, oB, dh1, dh0, ne_eq, reduceCtorEq] at hfk)); (try exact oX))) | (refine And.intro ?ob ?_; (case ob => (exact oZ))) | exact True.intro | (show _ = _; first | exact oY | (skip; done) | exact rfl) | exact oW | (apply And.intro)))
    refine ⟨[(2, .ptr 0 0), (3, .ptr 1 0), (4, .ptr 2 0), (5, .roi .i64 o), (23, .bool (decide ((i : Int) < (a.length : Int))))],
      ⟨3, [(0, some (.cells 49 [.bool s, .roi .i64 a])), (1, some (.cells 49 [.bool t, .roi .i64 b])), (2, some (.cells 49 [.fls, .nils]))]⟩, [some 0, some 1, some 2], ?_, ?_⟩
    · have qo : List.take N (List.drop 0 o) = o := by rw [List.drop_zero, List.take_of_length_le (by omega)]
      (repeat' (first | (refine And.intro ?_ ?_) | exact True.intro | (show _ = _; with_reducible rfl) | exact Chk.mk (by kernel_rfl)))
      all_goals first | rfl | exact qo
    have qs : ShT o := ⟨by omega⟩
    have ha0 := valD_nn da
    have hb0 := valD_nn db
    have hp0 : 0 ≤ valD a * valD b := Int.mul_nonneg ha0 hb0
    have tr : trimL o = dgs (valD a * valD b).toNat := by rw [trim_dgs g3, hv]
    have hz : (if (!(s == t)) = true then -((valD a * valD b).toNat : Int) else ((valD a * valD b).toNat : Int)) = bzv s a * bzv t b := by
      unfold bzv
      rw [Int.toNat_of_nonneg hp0]
      cases s <;> cases t <;> simp [Int.neg_mul, Int.mul_neg]
    obtain ⟨e1, e2⟩ := made_z hz
    rw [← tr] at e1 e2
    (repeat' (first | (refine xI (fun hfk => ?_) (fun hfk => ?_) <;> ((try (first | replace hfk := oT hfk | replace hfk := oF hfk | simp only [oA, oB, dh1, dh0, ne_eq, reduceCtorEq] at hfk)); (try exact oX))) | (refine And.intro ?ob ?_; (case ob => (exact oZ))) | exact True.intro | (show _ = _; first | exact oY | (first | exact e1 | exact e2 | exact ⟨e1, e2⟩; done) | exact rfl) | exact oW | (apply And.intro)))
end Go.Proofs.YtocboijpmmlegaaDoor
namespace Go.Proofs.YtocboijpmmlegaaDoor
open Go Go.RowKit
set_option maxHeartbeats 4000000
def isDec (d : Int) : Bool := decide (48 ≤ d) && decide (d ≤ 57)
def digN : List Int → Nat
  | [] => 0
  | d :: l => if isDec d = true then digN l + 1 else 0
def decV (l : List Int) : Int := l.foldl (fun x d => x * 10 + (d - 48)) 0
theorem Bg_i64 {z : Int} (h0 : -9223372036854775808 ≤ z) (h1 : z < 9223372036854775808) : Bg (decide (z < 0)) (dgs z.natAbs) :=
  Bg_big (Nat.le_trans (dgs_len (k := 5) (by rw [show (32768 : Nat) ^ 5 = 37778931862957161709568 from by decide]; omega)) (by decide))
end Go.Proofs.YtocboijpmmlegaaDoor
namespace Go.Proofs.YtocboijpmmlegaaDoor
open Go Go.RowKit
set_option maxHeartbeats 4000000
def rnV (b : List Int) (most : Int) : Int × Int × Int :=
  if b.length = 0 then (0, 0, 20)
  else if digN b = 0 ∨ (1 < digN b ∧ b.getD 0 0 = 48) then (0, 0, 21)
  else if most < decV (b.take (digN b)) then (0, 0, 30)
  else (decV (b.take (digN b)), digN b, 0)
structure Byt (b : List Int) : Prop where
  le : b.length ≤ 100000
  bd : ∀ i, 0 ≤ b.getD i 0 ∧ b.getD i 0 ≤ 255
end Go.Proofs.YtocboijpmmlegaaDoor
namespace Go.Proofs.YtocboijpmmlegaaDoor
open Go Go.RowKit
set_option maxHeartbeats 4000000
def oneV (b : List Int) : Int × Int := if b.length = 0 then (0, 20) else if isBl (b.getD 0 0) = true then (1, 0) else (0, 21)
def lowV : List Int → Int
  | [] => 0
  | d :: l => d + 256 * lowV l
theorem lowV_bd : ∀ {l : List Int}, (∀ x ∈ l, 0 ≤ x ∧ x ≤ 255) → 0 ≤ lowV l ∧ lowV l < 256 ^ l.length
  | [], _ => ⟨by decide, by decide⟩
  | d :: l, h => by
    obtain ⟨a, b⟩ := lowV_bd (l := l) fun x hx => h x (List.mem_cons_of_mem _ hx)
    obtain ⟨c, e⟩ := h d List.mem_cons_self
    rw [lowV, List.length_cons, Int.pow_succ]
    constructor <;> omega
theorem p256 {L : Nat} (h : L ≤ 4) : (256 : Int) ^ L ≤ 4294967296 := by
  have : L = 0 ∨ L = 1 ∨ L = 2 ∨ L = 3 ∨ L = 4 := by omega
  rcases this with k | k | k | k | k <;> subst k <;> decide
theorem u32_id {n : Int} (h0 : 0 ≤ n) (h1 : n < 4294967296) : IntKind.u32.wrap n = n :=
  wrap_rng ⟨by show (0 : Int) ≤ _; exact h0, by show _ ≤ (4294967295 : Int); omega⟩
def lowC (n len : Int) : Int := if n < 1 ∨ 4 < n then 10 else if len < n then 20 else 0
end Go.Proofs.YtocboijpmmlegaaDoor
namespace Go.Proofs.YtocboijpmmlegaaDoor
open Go Go.RowKit
set_option maxHeartbeats 4000000
def wordC : List Int → List Int → Int
  | _, [] => 0
  | [], _ :: _ => 20
  | d :: b, c :: s => if d = c then wordC b s else 21
abbrev strI (s : List UInt8) : List Int := s.map fun c => (c.toNat : Int)
end Go.Proofs.YtocboijpmmlegaaDoor
namespace Go.Proofs.YtocboijpmmlegaaDoor
open Go Go.RowKit
set_option maxHeartbeats 4000000
def coneF : FSpec := fun l es => match l, es with
  | [.ptr 0 0], [.cells 69 [.sl 1 1 0 n, .int .i64 a], .ints 5 .u8 b] =>
    some ([n = b.length, 0 ≤ a, a ≤ b.length, b.length ≤ 140737488355328], .int .i64 (oneV (cR b a)).2, [some (cutE n (a + (oneV (cR b a)).1)), some (bE b)])
  | _, _ => none
theorem cone_g : GSOK Tryd.prog 76 (fG coneF) := by
  refine fok (S := [(91, sU8 fun x => .bool (isBl x))]) (G := glook [(49, fG restF), (50, fG passF)]) (pok_cons blank14_s pok_nil) (gl_cons rest_g (gl_cons pass_g gl_nil)) ⟨Tryd.func76, by kernel_rfl, by kernel_rfl, by kernel_rfl⟩ fun l es obs v es' h ho => ?_
  (unfold coneF at h; split at h; rotate_left; (focus (cases h)); rename_i n a b; simp only [Option.some.injEq, Prod.mk.injEq] at h; obtain ⟨rfl, rfl, rfl⟩ := h; simp only [List.mem_cons, List.not_mem_nil, or_false, forall_eq_or_imp, forall_eq, false_implies, implies_true] at ho)
  obtain ⟨rfl, ho1, ho2, ho3⟩ := ho
  refine ⟨Nat.le_of_ble_eq_true rfl, ?_⟩
  have el : (cR b a).length = b.length - a.toNat := by simp
  by_cases k1 : (cR b a).length = 0
  · have e : oneV (cR b a) = (0, 20) := if_pos k1
    rw [e]
    (repeat' (first | (refine xI (fun hfk => ?_) (fun hfk => ?_) <;> ((try (first | replace hfk := oT hfk | replace hfk := oF hfk | simp only [oA, oB, dh1, dh0, ne_eq, reduceCtorEq] at hfk)); (try exact oX))) | (refine And.intro ?ob ?_; (case ob => (exact oZ))) | exact True.intro | (show _ = _; first | exact oY | (skip; done) | exact rfl) | exact oW | (apply And.intro)))
    (refine ⟨[0, 1], ⟨by kernel_rfl⟩, ?_⟩)
    (repeat' (first | (refine xI (fun hfk => ?_) (fun hfk => ?_) <;> ((try (first | replace hfk := oT hfk | replace hfk := oF hfk | simp only [oA, oB, dh1, dh0, ne_eq, reduceCtorEq] at hfk)); (try exact oX))) | (refine And.intro ?ob ?_; (case ob => (exact oZ))) | exact True.intro | (show _ = _; first | exact oY | (skip; done) | exact rfl) | exact oW | (apply And.intro)))
    refine ⟨[some 0, some 1], ?_⟩
    (repeat' (first | (refine xI (fun hfk => ?_) (fun hfk => ?_) <;> ((try (first | replace hfk := oT hfk | replace hfk := oF hfk | simp only [oA, oB, dh1, dh0, ne_eq, reduceCtorEq] at hfk)); (try exact oX))) | (refine And.intro ?ob ?_; (case ob => (exact oZ))) | exact True.intro | (show _ = _; first | exact oY | (first | rfl | (show (_ : Int) = _; omega); done) | exact rfl) | exact oW | (apply And.intro)))
  have hl : 0 < (cR b a).length := by omega
  have eg : b.getD (a.toNat + (0 : Int).toNat) 0 = (cR b a).getD 0 0 := cR_get (i := 0) hl
  by_cases hb : isBl ((cR b a).getD 0 0) = true
  · have e : oneV (cR b a) = (1, 0) := by unfold oneV; rw [if_neg k1, if_pos hb]
    have hb2 : ¬ isBl (b.getD (a.toNat + (0 : Int).toNat) 0) = false := by rw [eg, hb]; decide
    have ra : rngI .i64 (a + 1) := rng64 (by omega) (by omega)
    rw [e]
    (repeat' (first | (refine xI (fun hfk => ?_) (fun hfk => ?_) <;> ((try (first | replace hfk := oT hfk | replace hfk := oF hfk | simp only [oA, oB, dh1, dh0, ne_eq, reduceCtorEq] at hfk)); (try exact oX))) | (refine And.intro ?ob ?_; (case ob => (exact oZ))) | exact True.intro | (show _ = _; first | exact oY | (skip; done) | exact rfl) | exact oW | (apply And.intro)))
    (refine ⟨[0, 1], ⟨by kernel_rfl⟩, ?_⟩)
    (repeat' (first | (refine xI (fun hfk => ?_) (fun hfk => ?_) <;> ((try (first | replace hfk := oT hfk | replace hfk := oF hfk | simp only [oA, oB, dh1, dh0, ne_eq, reduceCtorEq] at hfk)); (try exact oX))) | (refine And.intro ?ob ?_; (case ob => (exact oZ))) | exact True.intro | (show _ = _; first | exact oY | (skip; done) | exact rfl) | exact oW | (apply And.intro)))
    (refine ⟨[0, 1], ⟨by kernel_rfl⟩, ?_⟩)
    (repeat' (first | (refine xI (fun hfk => ?_) (fun hfk => ?_) <;> ((try (first | replace hfk := oT hfk | replace hfk := oF hfk | simp only [oA, oB, dh1, dh0, ne_eq, reduceCtorEq] at hfk)); (try exact oX))) | (refine And.intro ?ob ?_; (case ob => (exact oZ))) | exact True.intro | (show _ = _; first | exact oY | (skip; done) | exact rfl) | exact oW | (apply And.intro)))
    refine ⟨[some 0, some 1], ?_⟩
    (repeat' (first | (refine xI (fun hfk => ?_) (fun hfk => ?_) <;> ((try (first | replace hfk := oT hfk | replace hfk := oF hfk | simp only [oA, oB, dh1, dh0, ne_eq, reduceCtorEq] at hfk)); (try exact oX))) | (refine And.intro ?ob ?_; (case ob => (exact oZ))) | exact True.intro | (show _ = _; first | exact oY | (first | rfl | (show (_ : Int) = _; omega); done) | exact rfl) | exact oW | (apply And.intro)))
  · have e : oneV (cR b a) = (0, 21) := by unfold oneV; rw [if_neg k1, if_neg hb]
    have hb2 : ¬ isBl (b.getD (a.toNat + (0 : Int).toNat) 0) = true := by rw [eg]; exact hb
    rw [e]
    (repeat' (first | (refine xI (fun hfk => ?_) (fun hfk => ?_) <;> ((try (first | replace hfk := oT hfk | replace hfk := oF hfk | simp only [oA, oB, dh1, dh0, ne_eq, reduceCtorEq] at hfk)); (try exact oX))) | (refine And.intro ?ob ?_; (case ob => (exact oZ))) | exact True.intro | (show _ = _; first | exact oY | (skip; done) | exact rfl) | exact oW | (apply And.intro)))
    (refine ⟨[0, 1], ⟨by kernel_rfl⟩, ?_⟩)
    (repeat' (first | (refine xI (fun hfk => ?_) (fun hfk => ?_) <;> ((try (first | replace hfk := oT hfk | replace hfk := oF hfk | simp only [oA, oB, dh1, dh0, ne_eq, reduceCtorEq] at hfk)); (try exact oX))) | (refine And.intro ?ob ?_; (case ob => (exact oZ))) | exact True.intro | (show _ = _; first | exact oY | (skip; done) | exact rfl) | exact oW | (apply And.intro)))
    refine ⟨[some 0, some 1], ?_⟩
    (repeat' (first | (refine xI (fun hfk => ?_) (fun hfk => ?_) <;> ((try (first | replace hfk := oT hfk | replace hfk := oF hfk | simp only [oA, oB, dh1, dh0, ne_eq, reduceCtorEq] at hfk)); (try exact oX))) | (refine And.intro ?ob ?_; (case ob => (exact oZ))) | exact True.intro | (show _ = _; first | exact oY | (first | rfl | (show (_ : Int) = _; omega); done) | exact rfl) | exact oW | (apply And.intro)))
end Go.Proofs.YtocboijpmmlegaaDoor
namespace Go.Proofs.YtocboijpmmlegaaDoor
open Go Go.RowKit
set_option maxHeartbeats 4000000
def wordN (r : List Int) (s : List UInt8) : Int := if wordC r (strI s) = 0 then (s.length : Int) else 0
theorem wordC_le : ∀ {b s : List Int}, wordC b s = 0 → s.length ≤ b.length
  | _, [], _ => Nat.zero_le _
  | [], _ :: _, h => by simp [wordC] at h
  | d :: b, c :: s, h => by
    unfold wordC at h
    split at h
    · have := wordC_le h; simp; omega
    · simp at h
def cwordF : FSpec := fun l es => match l, es with
  | [.ptr 0 0, .str s], [.cells 69 [.sl 1 1 0 n, .int .i64 a], .ints 5 .u8 b] =>
    some ([n = b.length, 0 ≤ a, a ≤ b.length, b.length ≤ 140737488355328, s.length ≤ 140737488355328], .int .i64 (wordC (cR b a) (strI s)), [some (cutE n (a + wordN (cR b a) s)), some (bE b)])
  | _, _ => none
theorem cword_g : GSOK Tryd.prog 74 (fG cwordF) := by
  refine fok (S := []) (G := glook [(49, fG restF), (50, fG passF)]) pok_nil (gl_cons rest_g (gl_cons pass_g gl_nil)) ⟨Tryd.func74, by kernel_rfl, by kernel_rfl, by kernel_rfl⟩ fun l es obs v es' h ho => ?_
  (unfold cwordF at h; split at h; rotate_left; (focus (cases h)); rename_i s n a b; simp only [Option.some.injEq, Prod.mk.injEq] at h; obtain ⟨rfl, rfl, rfl⟩ := h; simp only [List.mem_cons, List.not_mem_nil, or_false, forall_eq_or_imp, forall_eq, false_implies, implies_true] at ho)
  obtain ⟨rfl, ho1, ho2, ho3, ho4⟩ := ho
  refine ⟨Nat.le_of_ble_eq_true rfl, ?_⟩
  have el : (cR b a).length = b.length - a.toNat := by simp
  (repeat' (first | (refine xI (fun hfk => ?_) (fun hfk => ?_) <;> ((try (first | replace hfk := oT hfk | replace hfk := oF hfk | simp only [oA, oB, dh1, dh0, ne_eq, reduceCtorEq] at hfk)); (try exact oX))) | (refine And.intro ?ob ?_; (case ob => (exact oZ))) | exact True.intro | (show _ = _; first | exact oY | (skip; done) | exact rfl) | exact oW | (apply And.intro)))
  (refine ⟨[0, 1], ⟨by kernel_rfl⟩, ?_⟩)
  (repeat' (first | (refine xI (fun hfk => ?_) (fun hfk => ?_) <;> ((try (first | replace hfk := oT hfk | replace hfk := oF hfk | simp only [oA, oB, dh1, dh0, ne_eq, reduceCtorEq] at hfk)); (try exact oX))) | (refine And.intro ?ob ?_; (case ob => (exact oZ))) | exact True.intro | (show _ = _; first | exact oY | (skip; done) | exact rfl) | exact oW | (apply And.intro)))
  refine ⟨Nat, fun i => [(0, .ptr 0 0), (1, .str s), (5, .sl 1 1 a.toNat (b.length - a.toNat)), (13, .int .i64 (min (s.length : Int) ((b.length - a.toNat : Nat) : Int))), (14, .int .i64 (i : Int))],
      fun i => ⟨2, [(0, some (.cells 69 [.sl 1 1 0 b.length, .int .i64 a])), (1, some (.ints 5 .u8 b))]⟩,
      fun i => i ≤ s.length ∧ i ≤ (cR b a).length ∧ wordC ((cR b a).drop i) ((strI s).drop i) = wordC (cR b a) (strI s), fun i => s.length - i, ⟨0, [some 0, some 1], ⟨Nat.zero_le _, Nat.zero_le _, rfl⟩, ?_⟩, fun i hi => ?_⟩
  · (repeat' (first | (refine And.intro ?_ ?_) | exact True.intro | (show _ = _; with_reducible rfl) | exact Chk.mk (by kernel_rfl)))
    all_goals rfl
  obtain ⟨i1, i2, i3⟩ := hi
  have i1 : i ≤ s.length := i1
  have i2 : i ≤ (cR b a).length := i2
  have i3 : wordC ((cR b a).drop i) ((strI s).drop i) = wordC (cR b a) (strI s) := i3
  have tl : (strI s).length = s.length := List.length_map ..
  by_cases hs : i < s.length
  · by_cases hb : i < (cR b a).length
    · have hlt : (i : Int) < min (s.length : Int) ((b.length - a.toNat : Nat) : Int) := by omega
      have st : wordC ((cR b a).drop i) ((strI s).drop i) = if (cR b a).getD i 0 = (strI s).getD i 0 then wordC ((cR b a).drop (i + 1)) ((strI s).drop (i + 1)) else 21 := by
        rw [drop_cons hb, drop_cons (b := strI s) (i := i) (by omega), wordC]
      have sg : (strI s).getD i 0 = ((s.getD i 0).toNat : Int) := by
        simp [strI, List.getD, List.getElem?_map, List.getElem?_eq_getElem hs]
      have eg : b.getD (a.toNat + (i : Int).toNat) 0 = (cR b a).getD i 0 := cR_get (i := i) hb
      rw [i3, sg, ← eg] at st
      by_cases hd : b.getD (a.toNat + (i : Int).toNat) 0 = ((s.getD (i : Int).toNat 0).toNat : Int)
      · have hdn : ¬ b.getD (a.toNat + (i : Int).toNat) 0 ≠ ((s.getD (i : Int).toNat 0).toNat : Int) := fun k => k hd
        rw [if_pos (show b.getD (a.toNat + (i : Int).toNat) 0 = ((s.getD i 0).toNat : Int) from hd)] at st
        have ri : rngI .i64 ((i : Int) + 1) := rng64 (by omega) (by omega)
        (repeat' (first | (refine xI (fun hfk => ?_) (fun hfk => ?_) <;> ((try (first | replace hfk := oT hfk | replace hfk := oF hfk | simp only [oA, oB, dh1, dh0, ne_eq, reduceCtorEq] at hfk)); (try exact oX))) | (refine And.intro ?ob ?_; (case ob => (exact oZ))) | exact True.intro | (show _ = _; first | exact oY | (skip; done) | exact rfl) | exact oW | (apply And.intro)))
        refine ⟨i + 1, [some 0, some 1], ⟨by omega, by omega, st.symm⟩, ?mu, ?_⟩
        case mu => (show s.length - (i + 1) < s.length - i; omega)
        (repeat' (first | (refine And.intro ?_ ?_) | exact True.intro | (show _ = _; with_reducible rfl) | exact Chk.mk (by kernel_rfl)))
        all_goals first | rfl | (show (_ : Int) = _; omega)
      · have e : wordC (cR b a) (strI s) = 21 := by rw [st, if_neg (show ¬ b.getD (a.toNat + (i : Int).toNat) 0 = ((s.getD i 0).toNat : Int) from hd)]
        have e2 : wordN (cR b a) s = 0 := by unfold wordN; rw [e, if_neg (by decide)]
        rw [e, e2]
        (repeat' (first | (refine xI (fun hfk => ?_) (fun hfk => ?_) <;> ((try (first | replace hfk := oT hfk | replace hfk := oF hfk | simp only [oA, oB, dh1, dh0, ne_eq, reduceCtorEq] at hfk)); (try exact oX))) | (refine And.intro ?ob ?_; (case ob => (exact oZ))) | exact True.intro | (show _ = _; first | exact oY | (skip; done) | exact rfl) | exact oW | (apply And.intro)))
        refine ⟨[some 0, some 1], ?_⟩
        (repeat' (first | (refine xI (fun hfk => ?_) (fun hfk => ?_) <;> ((try (first | replace hfk := oT hfk | replace hfk := oF hfk | simp only [oA, oB, dh1, dh0, ne_eq, reduceCtorEq] at hfk)); (try exact oX))) | (refine And.intro ?ob ?_; (case ob => (exact oZ))) | exact True.intro | (show _ = _; first | exact oY | (first | rfl | (show (_ : Int) = _; omega); done) | exact rfl) | exact oW | (apply And.intro)))
    · have hlt : ¬ (i : Int) < min (s.length : Int) ((b.length - a.toNat : Nat) : Int) := by omega
      have hbl : ((b.length - a.toNat : Nat) : Int) < (s.length : Int) := by omega
      have e : wordC (cR b a) (strI s) = 20 := by
        rw [← i3, List.drop_of_length_le (l := cR b a) (by omega), drop_cons (b := strI s) (i := i) (by omega), wordC]
      have e2 : wordN (cR b a) s = 0 := by unfold wordN; rw [e, if_neg (by decide)]
      rw [e, e2]
      (repeat' (first | (refine xI (fun hfk => ?_) (fun hfk => ?_) <;> ((try (first | replace hfk := oT hfk | replace hfk := oF hfk | simp only [oA, oB, dh1, dh0, ne_eq, reduceCtorEq] at hfk)); (try exact oX))) | (refine And.intro ?ob ?_; (case ob => (exact oZ))) | exact True.intro | (show _ = _; first | exact oY | (skip; done) | exact rfl) | exact oW | (apply And.intro)))
      refine ⟨[some 0, some 1], ?_⟩
      (repeat' (first | (refine xI (fun hfk => ?_) (fun hfk => ?_) <;> ((try (first | replace hfk := oT hfk | replace hfk := oF hfk | simp only [oA, oB, dh1, dh0, ne_eq, reduceCtorEq] at hfk)); (try exact oX))) | (refine And.intro ?ob ?_; (case ob => (exact oZ))) | exact True.intro | (show _ = _; first | exact oY | (first | rfl | (show (_ : Int) = _; omega); done) | exact rfl) | exact oW | (apply And.intro)))
  · have hlt : ¬ (i : Int) < min (s.length : Int) ((b.length - a.toNat : Nat) : Int) := by omega
    have hbl : ¬ ((b.length - a.toNat : Nat) : Int) < (s.length : Int) := by omega
    have e : wordC (cR b a) (strI s) = 0 := by rw [← i3, List.drop_of_length_le (l := strI s) (by omega), wordC]
    have e2 : wordN (cR b a) s = s.length := by unfold wordN; rw [e, if_pos rfl]
    have ra : rngI .i64 (a + (s.length : Int)) := rng64 (by omega) (by omega)
    rw [e, e2]
    (repeat' (first | (refine xI (fun hfk => ?_) (fun hfk => ?_) <;> ((try (first | replace hfk := oT hfk | replace hfk := oF hfk | simp only [oA, oB, dh1, dh0, ne_eq, reduceCtorEq] at hfk)); (try exact oX))) | (refine And.intro ?ob ?_; (case ob => (exact oZ))) | exact True.intro | (show _ = _; first | exact oY | (skip; done) | exact rfl) | exact oW | (apply And.intro)))
    (refine ⟨[0, 1], ⟨by kernel_rfl⟩, ?_⟩)
    (repeat' (first | (refine xI (fun hfk => ?_) (fun hfk => ?_) <;> ((try (first | replace hfk := oT hfk | replace hfk := oF hfk | simp only [oA, oB, dh1, dh0, ne_eq, reduceCtorEq] at hfk)); (try exact oX))) | (refine And.intro ?ob ?_; (case ob => (exact oZ))) | exact True.intro | (show _ = _; first | exact oY | (skip; done) | exact rfl) | exact oW | (apply And.intro)))
    refine ⟨[some 0, some 1], ?_⟩
    (repeat' (first | (refine xI (fun hfk => ?_) (fun hfk => ?_) <;> ((try (first | replace hfk := oT hfk | replace hfk := oF hfk | simp only [oA, oB, dh1, dh0, ne_eq, reduceCtorEq] at hfk)); (try exact oX))) | (refine And.intro ?ob ?_; (case ob => (exact oZ))) | exact True.intro | (show _ = _; first | exact oY | (first | rfl | (show (_ : Int) = _; omega); done) | exact rfl) | exact oW | (apply And.intro)))
end Go.Proofs.YtocboijpmmlegaaDoor
namespace Go.Proofs.YtocboijpmmlegaaDoor
open Go Go.RowKit
set_option maxHeartbeats 4000000
theorem cR_eq {b : List Int} {a : Int} : cR b a = b.drop a.toNat := List.take_of_length_le (by rw [List.length_drop]; exact Nat.le_refl _)
theorem cR_add {b : List Int} {a : Int} {n : Nat} (h0 : 0 ≤ a) : cR b (a + (n : Int)) = (cR b a).drop n := by
  rw [cR_eq, cR_eq, List.drop_drop, show (a + (n : Int)).toNat = a.toNat + n by omega]
def nbC (r : List Int) (m : Int) : Int := if blC r ≠ 0 then blC r else numC (r.drop (bkG false r)) m
def nbN (r : List Int) : Nat := bkG false r + dgN (r.drop (bkG false r))
def nbV (r : List Int) (m : Int) : Int := if nbC r m = 0 then numV ((r.drop (bkG false r)).take (dgN (r.drop (bkG false r)))) else 0
def nbP (r : List Int) (m : Int) : Nat := if nbC r m = 0 then nbN r else bkG false r
theorem nbP_le (r : List Int) (m : Int) : nbP r m ≤ r.length := by
  have h1 := bkG_le false r
  have h2 := dgN_le (r.drop (bkG false r))
  rw [List.length_drop] at h2
  unfold nbP nbN
  split <;> omega
theorem blC0 {r : List Int} (h : blC r ≠ 0) : bkG false r = 0 := by
  unfold blC at h
  split at h
  · rename_i k; rw [List.length_eq_zero_iff.1 k]; rfl
  · split at h
    · assumption
    · exact absurd rfl h
theorem numC_rng {r : List Int} {m : Int} (h : numC r m = 0) : 0 ≤ numV (r.take (dgN r)) ∧ numV (r.take (dgN r)) ≤ m := by
  have hb := (numV_bd (l := r) (dgN r) (Nat.le_refl _)).1
  unfold numC at h
  split at h
  · cases h
  split at h
  · cases h
  split at h
  · cases h
  split at h
  · cases h
  omega
theorem nbV_rng (r : List Int) {m : Int} (hm : 0 ≤ m) : 0 ≤ nbV r m ∧ nbV r m ≤ m := by
  unfold nbV
  split
  · rename_i h
    unfold nbC at h
    split at h
    · rename_i k; exact absurd h k
    · exact numC_rng h
  · omega
def pnumF : FSpec := fun l es => match l, es with
  | [.ptr 0 0, .int .i64 m], [.cells 69 [.sl 1 1 0 n, .int .i64 a], .ints 5 .u8 b] =>
    some ([n = b.length, 0 ≤ a, a ≤ b.length, b.length ≤ 140737488355328, 0 ≤ m ∧ m ≤ 4294967296], .tup [.int .i64 (nbV (cR b a) m), .int .i64 (nbC (cR b a) m)], [some (cutE n (a + (nbP (cR b a) m : Int))), some (bE b)])
  | _, _ => none
theorem pnum_g : GSOK Tryd.prog 75 (fG pnumF) := by
  refine fok (S := []) (G := glook [(89, fG blkF), (90, fG numF)]) pok_nil (gl_cons blk_g (gl_cons num_g gl_nil)) ⟨Tryd.func75, by kernel_rfl, by kernel_rfl, by kernel_rfl⟩ fun l es obs v es' h ho => ?_
  (unfold pnumF at h; split at h; rotate_left; (focus (cases h)); rename_i m n a b; simp only [Option.some.injEq, Prod.mk.injEq] at h; obtain ⟨rfl, rfl, rfl⟩ := h; simp only [List.mem_cons, List.not_mem_nil, or_false, forall_eq_or_imp, forall_eq, false_implies, implies_true] at ho)
  obtain ⟨rfl, ho1, ho2, ho3, ho4⟩ := ho
  refine ⟨Nat.le_of_ble_eq_true rfl, ?_⟩
  have el : (cR b a).length = b.length - a.toNat := by simp
  have hk := bkG_le false (cR b a)
  by_cases k1 : blC (cR b a) = 0
  · have e : nbC (cR b a) m = numC ((cR b a).drop (bkG false (cR b a))) m := if_neg (fun k => k k1)
    have ec := cR_add (b := b) (a := a) (n := bkG false (cR b a)) ho1
    have e1 : nbV (cR b a) m = if numC (cR b (a + (bkG false (cR b a) : Int))) m = 0 then numV ((cR b (a + (bkG false (cR b a) : Int))).take (dgN (cR b (a + (bkG false (cR b a) : Int))))) else 0 := by rw [ec]; unfold nbV; rw [e]
    have e2 : a + (nbP (cR b a) m : Int) = a + (bkG false (cR b a) : Int) + if numC (cR b (a + (bkG false (cR b a) : Int))) m = 0 then (dgN (cR b (a + (bkG false (cR b a) : Int))) : Int) else 0 := by
      rw [ec]; unfold nbP nbN; rw [e]
      by_cases z : numC ((cR b a).drop (bkG false (cR b a))) m = 0
      · rw [if_pos z, if_pos z]; omega
      · rw [if_neg z, if_neg z]; omega
    have e3 : nbC (cR b a) m = numC (cR b (a + (bkG false (cR b a) : Int))) m := by rw [e, ec]
    rw [e1, e2, e3]
    clear e1 e2 e3 e ec
    (repeat' (first | (refine xI (fun hfk => ?_) (fun hfk => ?_) <;> ((try (first | replace hfk := oT hfk | replace hfk := oF hfk | simp only [oA, oB, dh1, dh0, ne_eq, reduceCtorEq] at hfk)); (try exact oX))) | (refine And.intro ?ob ?_; (case ob => (exact oZ))) | exact True.intro | (show _ = _; first | exact oY | (skip; done) | exact rfl) | exact oW | (apply And.intro)))
    (refine ⟨[0, 1], ⟨by kernel_rfl⟩, ?_⟩)
    (repeat' (first | (refine xI (fun hfk => ?_) (fun hfk => ?_) <;> ((try (first | replace hfk := oT hfk | replace hfk := oF hfk | simp only [oA, oB, dh1, dh0, ne_eq, reduceCtorEq] at hfk)); (try exact oX))) | (refine And.intro ?ob ?_; (case ob => (exact oZ))) | exact True.intro | (show _ = _; first | exact oY | (skip; done) | exact rfl) | exact oW | (apply And.intro)))
    (refine ⟨[0, 1], ⟨by kernel_rfl⟩, ?_⟩)
    (repeat' (first | (refine xI (fun hfk => ?_) (fun hfk => ?_) <;> ((try (first | replace hfk := oT hfk | replace hfk := oF hfk | simp only [oA, oB, dh1, dh0, ne_eq, reduceCtorEq] at hfk)); (try exact oX))) | (refine And.intro ?ob ?_; (case ob => (exact oZ))) | exact True.intro | (show _ = _; first | exact oY | (skip; done) | exact rfl) | exact oW | (apply And.intro)))
    refine ⟨[some 0, some 1], ?_⟩
    (repeat' (first | (refine xI (fun hfk => ?_) (fun hfk => ?_) <;> ((try (first | replace hfk := oT hfk | replace hfk := oF hfk | simp only [oA, oB, dh1, dh0, ne_eq, reduceCtorEq] at hfk)); (try exact oX))) | (refine And.intro ?ob ?_; (case ob => (exact oZ))) | exact True.intro | (show _ = _; first | exact oY | (first | rfl | (show (_ : Int) = _; omega); done) | exact rfl) | exact oW | (apply And.intro)))
  · have e : nbC (cR b a) m = blC (cR b a) := if_pos k1
    have e0 := blC0 k1
    have e1 : nbV (cR b a) m = 0 := if_neg (by rw [e]; exact k1)
    have e2 : nbP (cR b a) m = 0 := by unfold nbP; rw [if_neg (by rw [e]; exact k1), e0]
    rw [e, e1, e2]
    (repeat' (first | (refine xI (fun hfk => ?_) (fun hfk => ?_) <;> ((try (first | replace hfk := oT hfk | replace hfk := oF hfk | simp only [oA, oB, dh1, dh0, ne_eq, reduceCtorEq] at hfk)); (try exact oX))) | (refine And.intro ?ob ?_; (case ob => (exact oZ))) | exact True.intro | (show _ = _; first | exact oY | (skip; done) | exact rfl) | exact oW | (apply And.intro)))
    (refine ⟨[0, 1], ⟨by kernel_rfl⟩, ?_⟩)
    (repeat' (first | (refine xI (fun hfk => ?_) (fun hfk => ?_) <;> ((try (first | replace hfk := oT hfk | replace hfk := oF hfk | simp only [oA, oB, dh1, dh0, ne_eq, reduceCtorEq] at hfk)); (try exact oX))) | (refine And.intro ?ob ?_; (case ob => (exact oZ))) | exact True.intro | (show _ = _; first | exact oY | (skip; done) | exact rfl) | exact oW | (apply And.intro)))
    refine ⟨[some 0, some 1], ?_⟩
    (repeat' (first | (refine xI (fun hfk => ?_) (fun hfk => ?_) <;> ((try (first | replace hfk := oT hfk | replace hfk := oF hfk | simp only [oA, oB, dh1, dh0, ne_eq, reduceCtorEq] at hfk)); (try exact oX))) | (refine And.intro ?ob ?_; (case ob => (exact oZ))) | exact True.intro | (show _ = _; first | exact oY | (first | rfl | (show (_ : Int) = _; omega); done) | exact rfl) | exact oW | (apply And.intro)))
def szC (r : List Int) : Int :=
  if nbC r 32768 ≠ 0 then nbC r 32768
  else if nbC (r.drop (nbP r 32768)) 32768 ≠ 0 then nbC (r.drop (nbP r 32768)) 32768
  else if nbV r 32768 < 1 ∨ nbV (r.drop (nbP r 32768)) 32768 < 1 then 12
  else if 4194304 < nbV r 32768 * nbV (r.drop (nbP r 32768)) 32768 then 30 else 0
def szW (r : List Int) : Int := if szC r = 0 then nbV r 32768 else 0
def szH (r : List Int) : Int := if szC r = 0 then nbV (r.drop (nbP r 32768)) 32768 else 0
def szP (r : List Int) : Nat := if nbC r 32768 = 0 then nbP r 32768 + nbP (r.drop (nbP r 32768)) 32768 else nbP r 32768
theorem szP_le (r : List Int) : szP r ≤ r.length := by
  have h1 := nbP_le r 32768
  have h2 := nbP_le (r.drop (nbP r 32768)) 32768
  rw [List.length_drop] at h2
  unfold szP
  split <;> omega
def psizeF : FSpec := fun l es => match l, es with
  | [.ptr 0 0], [.cells 69 [.sl 1 1 0 n, .int .i64 a], .ints 5 .u8 b] =>
    some ([n = b.length, 0 ≤ a, a ≤ b.length, b.length ≤ 140737488355328], .tup [.int .i64 (szW (cR b a)), .int .i64 (szH (cR b a)), .int .i64 (szC (cR b a))], [some (cutE n (a + (szP (cR b a) : Int))), some (bE b)])
  | _, _ => none
theorem psize_g : GSOK Tryd.prog 47 (fG psizeF) := by
  refine fok (S := []) (G := glook [(75, fG pnumF)]) pok_nil (gl_cons pnum_g gl_nil) ⟨Tryd.func47, by kernel_rfl, by kernel_rfl, by kernel_rfl⟩ fun l es obs v es' h ho => ?_
  (unfold psizeF at h; split at h; rotate_left; (focus (cases h)); rename_i n a b; simp only [Option.some.injEq, Prod.mk.injEq] at h; obtain ⟨rfl, rfl, rfl⟩ := h; simp only [List.mem_cons, List.not_mem_nil, or_false, forall_eq_or_imp, forall_eq, false_implies, implies_true] at ho)
  obtain ⟨rfl, ho1, ho2, ho3⟩ := ho
  refine ⟨Nat.le_of_ble_eq_true rfl, ?_⟩
  have el : (cR b a).length = b.length - a.toNat := by simp
  have hk := nbP_le (cR b a) 32768
  by_cases k1 : nbC (cR b a) 32768 = 0
  rotate_left
  · have e : szC (cR b a) = nbC (cR b a) 32768 := if_pos k1
    have e1 : szW (cR b a) = 0 := if_neg (by rw [e]; exact k1)
    have e2 : szH (cR b a) = 0 := if_neg (by rw [e]; exact k1)
    have e3 : szP (cR b a) = nbP (cR b a) 32768 := if_neg k1
    rw [e, e1, e2, e3]
    clear e e1 e2 e3
    (repeat' (first | (refine xI (fun hfk => ?_) (fun hfk => ?_) <;> ((try (first | replace hfk := oT hfk | replace hfk := oF hfk | simp only [oA, oB, dh1, dh0, ne_eq, reduceCtorEq] at hfk)); (try exact oX))) | (refine And.intro ?ob ?_; (case ob => (exact oZ))) | exact True.intro | (show _ = _; first | exact oY | (skip; done) | exact rfl) | exact oW | (apply And.intro)))
    (refine ⟨[0, 1], ⟨by kernel_rfl⟩, ?_⟩)
    (repeat' (first | (refine xI (fun hfk => ?_) (fun hfk => ?_) <;> ((try (first | replace hfk := oT hfk | replace hfk := oF hfk | simp only [oA, oB, dh1, dh0, ne_eq, reduceCtorEq] at hfk)); (try exact oX))) | (refine And.intro ?ob ?_; (case ob => (exact oZ))) | exact True.intro | (show _ = _; first | exact oY | (skip; done) | exact rfl) | exact oW | (apply And.intro)))
    refine ⟨[some 0, some 1], ?_⟩
    (repeat' (first | (refine xI (fun hfk => ?_) (fun hfk => ?_) <;> ((try (first | replace hfk := oT hfk | replace hfk := oF hfk | simp only [oA, oB, dh1, dh0, ne_eq, reduceCtorEq] at hfk)); (try exact oX))) | (refine And.intro ?ob ?_; (case ob => (exact oZ))) | exact True.intro | (show _ = _; first | exact oY | (first | rfl | (show (_ : Int) = _; omega); done) | exact rfl) | exact oW | (apply And.intro)))
  have ec := cR_add (b := b) (a := a) (n := nbP (cR b a) 32768) ho1
  have e3 : a + (szP (cR b a) : Int) = a + (nbP (cR b a) 32768 : Int) + (nbP (cR b (a + (nbP (cR b a) 32768 : Int))) 32768 : Int) := by rw [ec]; unfold szP; rw [if_pos k1]; omega
  have r1 := nbV_rng (cR b a) (m := 32768) (by decide)
  have r2 := nbV_rng (cR b (a + (nbP (cR b a) 32768 : Int))) (m := 32768) (by decide)
  have eC : szC (cR b a) = if nbC (cR b (a + (nbP (cR b a) 32768 : Int))) 32768 ≠ 0 then nbC (cR b (a + (nbP (cR b a) 32768 : Int))) 32768 else if nbV (cR b a) 32768 < 1 ∨ nbV (cR b (a + (nbP (cR b a) 32768 : Int))) 32768 < 1 then 12 else if 4194304 < nbV (cR b a) 32768 * nbV (cR b (a + (nbP (cR b a) 32768 : Int))) 32768 then 30 else 0 := by
    rw [ec]; unfold szC; rw [if_neg (fun k => k k1)]
  have eW : szW (cR b a) = if szC (cR b a) = 0 then nbV (cR b a) 32768 else 0 := rfl
  have eH : szH (cR b a) = if szC (cR b a) = 0 then nbV (cR b (a + (nbP (cR b a) 32768 : Int))) 32768 else 0 := by rw [ec]; rfl
  rw [e3, eW, eH]
  clear e3 eW eH ec
  have w0 : 0 ≤ nbV (cR b a) 32768 * nbV (cR b (a + (nbP (cR b a) 32768 : Int))) 32768 := Int.mul_nonneg r1.1 r2.1
  have w1 : nbV (cR b a) 32768 * nbV (cR b (a + (nbP (cR b a) 32768 : Int))) 32768 ≤ 32768 * 32768 := Int.le_trans (Int.mul_le_mul_of_nonneg_right r1.2 r2.1) (Int.mul_le_mul_of_nonneg_left r2.2 (by omega))
  have rg : rngI .i64 (nbV (cR b a) 32768 * nbV (cR b (a + (nbP (cR b a) 32768 : Int))) 32768) := rng64 (by omega) (by omega)
  clear w0 w1
  by_cases k2 : nbC (cR b (a + (nbP (cR b a) 32768 : Int))) 32768 = 0
  rotate_left
  · rw [if_pos k2] at eC
    rw [eC, if_neg k2, if_neg k2]
    clear eC
    (repeat' (first | (refine xI (fun hfk => ?_) (fun hfk => ?_) <;> ((try (first | replace hfk := oT hfk | replace hfk := oF hfk | simp only [oA, oB, dh1, dh0, ne_eq, reduceCtorEq] at hfk)); (try exact oX))) | (refine And.intro ?ob ?_; (case ob => (exact oZ))) | exact True.intro | (show _ = _; first | exact oY | (skip; done) | exact rfl) | exact oW | (apply And.intro)))
    (refine ⟨[0, 1], ⟨by kernel_rfl⟩, ?_⟩)
    (repeat' (first | (refine xI (fun hfk => ?_) (fun hfk => ?_) <;> ((try (first | replace hfk := oT hfk | replace hfk := oF hfk | simp only [oA, oB, dh1, dh0, ne_eq, reduceCtorEq] at hfk)); (try exact oX))) | (refine And.intro ?ob ?_; (case ob => (exact oZ))) | exact True.intro | (show _ = _; first | exact oY | (skip; done) | exact rfl) | exact oW | (apply And.intro)))
    (refine ⟨[0, 1], ⟨by kernel_rfl⟩, ?_⟩)
    (repeat' (first | (refine xI (fun hfk => ?_) (fun hfk => ?_) <;> ((try (first | replace hfk := oT hfk | replace hfk := oF hfk | simp only [oA, oB, dh1, dh0, ne_eq, reduceCtorEq] at hfk)); (try exact oX))) | (refine And.intro ?ob ?_; (case ob => (exact oZ))) | exact True.intro | (show _ = _; first | exact oY | (skip; done) | exact rfl) | exact oW | (apply And.intro)))
    refine ⟨[some 0, some 1], ?_⟩
    (repeat' (first | (refine xI (fun hfk => ?_) (fun hfk => ?_) <;> ((try (first | replace hfk := oT hfk | replace hfk := oF hfk | simp only [oA, oB, dh1, dh0, ne_eq, reduceCtorEq] at hfk)); (try exact oX))) | (refine And.intro ?ob ?_; (case ob => (exact oZ))) | exact True.intro | (show _ = _; first | exact oY | (first | rfl | (show (_ : Int) = _; omega); done) | exact rfl) | exact oW | (apply And.intro)))
  rw [if_neg (fun k => k k2)] at eC
  by_cases k3 : nbV (cR b a) 32768 < 1 ∨ nbV (cR b (a + (nbP (cR b a) 32768 : Int))) 32768 < 1
  · rw [if_pos k3] at eC
    rw [eC, if_neg (by decide), if_neg (by decide)]
    clear eC
    (repeat' (first | (refine xI (fun hfk => ?_) (fun hfk => ?_) <;> ((try (first | replace hfk := oT hfk | replace hfk := oF hfk | simp only [oA, oB, dh1, dh0, ne_eq, reduceCtorEq] at hfk)); (try exact oX))) | (refine And.intro ?ob ?_; (case ob => (exact oZ))) | exact True.intro | (show _ = _; first | exact oY | (skip; done) | exact rfl) | exact oW | (apply And.intro)))
    (refine ⟨[0, 1], ⟨by kernel_rfl⟩, ?_⟩)
    (repeat' (first | (refine xI (fun hfk => ?_) (fun hfk => ?_) <;> ((try (first | replace hfk := oT hfk | replace hfk := oF hfk | simp only [oA, oB, dh1, dh0, ne_eq, reduceCtorEq] at hfk)); (try exact oX))) | (refine And.intro ?ob ?_; (case ob => (exact oZ))) | exact True.intro | (show _ = _; first | exact oY | (skip; done) | exact rfl) | exact oW | (apply And.intro)))
    (refine ⟨[0, 1], ⟨by kernel_rfl⟩, ?_⟩)
    (repeat' (first | (refine xI (fun hfk => ?_) (fun hfk => ?_) <;> ((try (first | replace hfk := oT hfk | replace hfk := oF hfk | simp only [oA, oB, dh1, dh0, ne_eq, reduceCtorEq] at hfk)); (try exact oX))) | (refine And.intro ?ob ?_; (case ob => (exact oZ))) | exact True.intro | (show _ = _; first | exact oY | (skip; done) | exact rfl) | exact oW | (apply And.intro)))
    all_goals (refine ⟨[some 0, some 1], ?_⟩)
    (repeat' (first | (refine xI (fun hfk => ?_) (fun hfk => ?_) <;> ((try (first | replace hfk := oT hfk | replace hfk := oF hfk | simp only [oA, oB, dh1, dh0, ne_eq, reduceCtorEq] at hfk)); (try exact oX))) | (refine And.intro ?ob ?_; (case ob => (exact oZ))) | exact True.intro | (show _ = _; first | exact oY | (first | rfl | (show (_ : Int) = _; omega); done) | exact rfl) | exact oW | (apply And.intro)))
  rw [if_neg k3] at eC
  by_cases k4 : 4194304 < nbV (cR b a) 32768 * nbV (cR b (a + (nbP (cR b a) 32768 : Int))) 32768
  · rw [if_pos k4] at eC
    rw [eC, if_neg (by decide), if_neg (by decide)]
    clear eC
    (repeat' (first | (refine xI (fun hfk => ?_) (fun hfk => ?_) <;> ((try (first | replace hfk := oT hfk | replace hfk := oF hfk | simp only [oA, oB, dh1, dh0, ne_eq, reduceCtorEq] at hfk)); (try exact oX))) | (refine And.intro ?ob ?_; (case ob => (exact oZ))) | exact True.intro | (show _ = _; first | exact oY | (skip; done) | exact rfl) | exact oW | (apply And.intro)))
    (refine ⟨[0, 1], ⟨by kernel_rfl⟩, ?_⟩)
    (repeat' (first | (refine xI (fun hfk => ?_) (fun hfk => ?_) <;> ((try (first | replace hfk := oT hfk | replace hfk := oF hfk | simp only [oA, oB, dh1, dh0, ne_eq, reduceCtorEq] at hfk)); (try exact oX))) | (refine And.intro ?ob ?_; (case ob => (exact oZ))) | exact True.intro | (show _ = _; first | exact oY | (skip; done) | exact rfl) | exact oW | (apply And.intro)))
    (refine ⟨[0, 1], ⟨by kernel_rfl⟩, ?_⟩)
    (repeat' (first | (refine xI (fun hfk => ?_) (fun hfk => ?_) <;> ((try (first | replace hfk := oT hfk | replace hfk := oF hfk | simp only [oA, oB, dh1, dh0, ne_eq, reduceCtorEq] at hfk)); (try exact oX))) | (refine And.intro ?ob ?_; (case ob => (exact oZ))) | exact True.intro | (show _ = _; first | exact oY | (skip; done) | exact rfl) | exact oW | (apply And.intro)))
    refine ⟨[some 0, some 1], ?_⟩
    (repeat' (first | (refine xI (fun hfk => ?_) (fun hfk => ?_) <;> ((try (first | replace hfk := oT hfk | replace hfk := oF hfk | simp only [oA, oB, dh1, dh0, ne_eq, reduceCtorEq] at hfk)); (try exact oX))) | (refine And.intro ?ob ?_; (case ob => (exact oZ))) | exact True.intro | (show _ = _; first | exact oY | (first | rfl | (show (_ : Int) = _; omega); done) | exact rfl) | exact oW | (apply And.intro)))
  rw [if_neg k4] at eC
  rw [eC, if_pos rfl, if_pos rfl]
  clear eC
  (repeat' (first | (refine xI (fun hfk => ?_) (fun hfk => ?_) <;> ((try (first | replace hfk := oT hfk | replace hfk := oF hfk | simp only [oA, oB, dh1, dh0, ne_eq, reduceCtorEq] at hfk)); (try exact oX))) | (refine And.intro ?ob ?_; (case ob => (exact oZ))) | exact True.intro | (show _ = _; first | exact oY | (skip; done) | exact rfl) | exact oW | (apply And.intro)))
  (refine ⟨[0, 1], ⟨by kernel_rfl⟩, ?_⟩)
  (repeat' (first | (refine xI (fun hfk => ?_) (fun hfk => ?_) <;> ((try (first | replace hfk := oT hfk | replace hfk := oF hfk | simp only [oA, oB, dh1, dh0, ne_eq, reduceCtorEq] at hfk)); (try exact oX))) | (refine And.intro ?ob ?_; (case ob => (exact oZ))) | exact True.intro | (show _ = _; first | exact oY | (skip; done) | exact rfl) | exact oW | (apply And.intro)))
  (refine ⟨[0, 1], ⟨by kernel_rfl⟩, ?_⟩)
  (repeat' (first | (refine xI (fun hfk => ?_) (fun hfk => ?_) <;> ((try (first | replace hfk := oT hfk | replace hfk := oF hfk | simp only [oA, oB, dh1, dh0, ne_eq, reduceCtorEq] at hfk)); (try exact oX))) | (refine And.intro ?ob ?_; (case ob => (exact oZ))) | exact True.intro | (show _ = _; first | exact oY | (skip; done) | exact rfl) | exact oW | (apply And.intro)))
  refine ⟨[some 0, some 1], ?_⟩
  (repeat' (first | (refine xI (fun hfk => ?_) (fun hfk => ?_) <;> ((try (first | replace hfk := oT hfk | replace hfk := oF hfk | simp only [oA, oB, dh1, dh0, ne_eq, reduceCtorEq] at hfk)); (try exact oX))) | (refine And.intro ?ob ?_; (case ob => (exact oZ))) | exact True.intro | (show _ = _; first | exact oY | (first | rfl | (show (_ : Int) = _; omega); done) | exact rfl) | exact oW | (apply And.intro)))
def dpC (r : List Int) : Int := if nbC r 255 ≠ 0 then nbC r 255 else if nbV r 255 ≠ 255 then 21 else (oneV (r.drop (nbP r 255))).2
def dpP (r : List Int) : Int := if nbC r 255 = 0 ∧ nbV r 255 = 255 then (nbP r 255 : Int) + (oneV (r.drop (nbP r 255))).1 else nbP r 255
def pdepF : FSpec := fun l es => match l, es with
  | [.ptr 0 0], [.cells 69 [.sl 1 1 0 n, .int .i64 a], .ints 5 .u8 b] =>
    some ([n = b.length, 0 ≤ a, a ≤ b.length, b.length ≤ 140737488355328], .int .i64 (dpC (cR b a)), [some (cutE n (a + dpP (cR b a))), some (bE b)])
  | _, _ => none
theorem pdep_g : GSOK Tryd.prog 48 (fG pdepF) := by
  refine fok (S := []) (G := glook [(75, fG pnumF), (76, fG coneF)]) pok_nil (gl_cons pnum_g (gl_cons cone_g gl_nil)) ⟨Tryd.func48, by kernel_rfl, by kernel_rfl, by kernel_rfl⟩ fun l es obs v es' h ho => ?_
  (unfold pdepF at h; split at h; rotate_left; (focus (cases h)); rename_i n a b; simp only [Option.some.injEq, Prod.mk.injEq] at h; obtain ⟨rfl, rfl, rfl⟩ := h; simp only [List.mem_cons, List.not_mem_nil, or_false, forall_eq_or_imp, forall_eq, false_implies, implies_true] at ho)
  obtain ⟨rfl, ho1, ho2, ho3⟩ := ho
  refine ⟨Nat.le_of_ble_eq_true rfl, ?_⟩
  have el : (cR b a).length = b.length - a.toNat := by simp
  have hk := nbP_le (cR b a) 255
  by_cases k1 : nbC (cR b a) 255 = 0
  rotate_left
  · have e : dpC (cR b a) = nbC (cR b a) 255 := if_pos k1
    have e1 : dpP (cR b a) = nbP (cR b a) 255 := if_neg (fun k => k1 k.1)
    rw [e, e1]
    clear e e1
    (repeat' (first | (refine xI (fun hfk => ?_) (fun hfk => ?_) <;> ((try (first | replace hfk := oT hfk | replace hfk := oF hfk | simp only [oA, oB, dh1, dh0, ne_eq, reduceCtorEq] at hfk)); (try exact oX))) | (refine And.intro ?ob ?_; (case ob => (exact oZ))) | exact True.intro | (show _ = _; first | exact oY | (skip; done) | exact rfl) | exact oW | (apply And.intro)))
    (refine ⟨[0, 1], ⟨by kernel_rfl⟩, ?_⟩)
    (repeat' (first | (refine xI (fun hfk => ?_) (fun hfk => ?_) <;> ((try (first | replace hfk := oT hfk | replace hfk := oF hfk | simp only [oA, oB, dh1, dh0, ne_eq, reduceCtorEq] at hfk)); (try exact oX))) | (refine And.intro ?ob ?_; (case ob => (exact oZ))) | exact True.intro | (show _ = _; first | exact oY | (skip; done) | exact rfl) | exact oW | (apply And.intro)))
    refine ⟨[some 0, some 1], ?_⟩
    (repeat' (first | (refine xI (fun hfk => ?_) (fun hfk => ?_) <;> ((try (first | replace hfk := oT hfk | replace hfk := oF hfk | simp only [oA, oB, dh1, dh0, ne_eq, reduceCtorEq] at hfk)); (try exact oX))) | (refine And.intro ?ob ?_; (case ob => (exact oZ))) | exact True.intro | (show _ = _; first | exact oY | (first | rfl | (show (_ : Int) = _; omega); done) | exact rfl) | exact oW | (apply And.intro)))
  by_cases k2 : nbV (cR b a) 255 = 255
  rotate_left
  · have e : dpC (cR b a) = 21 := by unfold dpC; rw [if_neg (fun k => k k1), if_pos k2]
    have e1 : dpP (cR b a) = nbP (cR b a) 255 := if_neg (fun k => k2 k.2)
    rw [e, e1]
    clear e e1
    (repeat' (first | (refine xI (fun hfk => ?_) (fun hfk => ?_) <;> ((try (first | replace hfk := oT hfk | replace hfk := oF hfk | simp only [oA, oB, dh1, dh0, ne_eq, reduceCtorEq] at hfk)); (try exact oX))) | (refine And.intro ?ob ?_; (case ob => (exact oZ))) | exact True.intro | (show _ = _; first | exact oY | (skip; done) | exact rfl) | exact oW | (apply And.intro)))
    (refine ⟨[0, 1], ⟨by kernel_rfl⟩, ?_⟩)
    (repeat' (first | (refine xI (fun hfk => ?_) (fun hfk => ?_) <;> ((try (first | replace hfk := oT hfk | replace hfk := oF hfk | simp only [oA, oB, dh1, dh0, ne_eq, reduceCtorEq] at hfk)); (try exact oX))) | (refine And.intro ?ob ?_; (case ob => (exact oZ))) | exact True.intro | (show _ = _; first | exact oY | (skip; done) | exact rfl) | exact oW | (apply And.intro)))
    refine ⟨[some 0, some 1], ?_⟩
    (repeat' (first | (refine xI (fun hfk => ?_) (fun hfk => ?_) <;> ((try (first | replace hfk := oT hfk | replace hfk := oF hfk | simp only [oA, oB, dh1, dh0, ne_eq, reduceCtorEq] at hfk)); (try exact oX))) | (refine And.intro ?ob ?_; (case ob => (exact oZ))) | exact True.intro | (show _ = _; first | exact oY | (first | rfl | (show (_ : Int) = _; omega); done) | exact rfl) | exact oW | (apply And.intro)))
  have ec := cR_add (b := b) (a := a) (n := nbP (cR b a) 255) ho1
  have e : dpC (cR b a) = (oneV (cR b (a + (nbP (cR b a) 255 : Int)))).2 := by rw [ec]; unfold dpC; rw [if_neg (fun k => k k1), if_neg (fun k => k k2)]
  have e1 : a + dpP (cR b a) = a + (nbP (cR b a) 255 : Int) + (oneV (cR b (a + (nbP (cR b a) 255 : Int)))).1 := by rw [ec]; unfold dpP; rw [if_pos ⟨k1, k2⟩]; omega
  rw [e, e1]
  clear e e1 ec
  (repeat' (first | (refine xI (fun hfk => ?_) (fun hfk => ?_) <;> ((try (first | replace hfk := oT hfk | replace hfk := oF hfk | simp only [oA, oB, dh1, dh0, ne_eq, reduceCtorEq] at hfk)); (try exact oX))) | (refine And.intro ?ob ?_; (case ob => (exact oZ))) | exact True.intro | (show _ = _; first | exact oY | (skip; done) | exact rfl) | exact oW | (apply And.intro)))
  (refine ⟨[0, 1], ⟨by kernel_rfl⟩, ?_⟩)
  (repeat' (first | (refine xI (fun hfk => ?_) (fun hfk => ?_) <;> ((try (first | replace hfk := oT hfk | replace hfk := oF hfk | simp only [oA, oB, dh1, dh0, ne_eq, reduceCtorEq] at hfk)); (try exact oX))) | (refine And.intro ?ob ?_; (case ob => (exact oZ))) | exact True.intro | (show _ = _; first | exact oY | (skip; done) | exact rfl) | exact oW | (apply And.intro)))
  (refine ⟨[0, 1], ⟨by kernel_rfl⟩, ?_⟩)
  (repeat' (first | (refine xI (fun hfk => ?_) (fun hfk => ?_) <;> ((try (first | replace hfk := oT hfk | replace hfk := oF hfk | simp only [oA, oB, dh1, dh0, ne_eq, reduceCtorEq] at hfk)); (try exact oX))) | (refine And.intro ?ob ?_; (case ob => (exact oZ))) | exact True.intro | (show _ = _; first | exact oY | (skip; done) | exact rfl) | exact oW | (apply And.intro)))
  refine ⟨[some 0, some 1], ?_⟩
  (repeat' (first | (refine xI (fun hfk => ?_) (fun hfk => ?_) <;> ((try (first | replace hfk := oT hfk | replace hfk := oF hfk | simp only [oA, oB, dh1, dh0, ne_eq, reduceCtorEq] at hfk)); (try exact oX))) | (refine And.intro ?ob ?_; (case ob => (exact oZ))) | exact True.intro | (show _ = _; first | exact oY | (first | rfl | (show (_ : Int) = _; omega); done) | exact rfl) | exact oW | (apply And.intro)))
def kdC (r : List Int) : Int := if wordC r [80, 53] = 0 then 0 else wordC r [80, 54]
def kdV (r : List Int) : Int := if wordC r [80, 53] = 0 then 1 else 3
def kdP (r : List Int) : Nat := if kdC r = 0 then 2 else 0
end Go.Proofs.YtocboijpmmlegaaDoor

