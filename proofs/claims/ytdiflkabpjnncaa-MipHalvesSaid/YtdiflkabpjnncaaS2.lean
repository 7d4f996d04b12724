/- Texts laid together. No condition. -/
import Derived.Test.YtdiflkabpjnncaaS1
set_option maxRecDepth 100000
set_option maxHeartbeats 4000000
set_option linter.unusedVariables false
set_option linter.unusedSimpArgs false
namespace Go.Proofs.Ytdiflkabpjnncaa
open Go Go.RowKit
abbrev rpyrOk : PSpec := fun l => match l with
  | [.agg [.int .i64 w, .int .i64 h, .int .i64 c, .roi .u8 p], .int .i64 n] => some ([imCheck w h c p.length = 0, Bytes p, 0 ≤ n, n ≤ 15], .tup [imsA (pyrG n.toNat ⟨w, h, c, p⟩), .int .i64 0]) | _ => none
theorem rpyrOk_s : SOK Try.prog 8 rpyrOk := by
  refine sok_of (C := mkK 0 [(7, checkS), (13, rhalfS)] noG [6, 10]) (mkK_ok (pok_cons rcheck7_s (pok_cons rhalf_s pok_nil)) noG_ok) rfl mixed ⟨Try.func8, by kernel_rfl, by kernel_rfl, by kernel_rfl⟩ fun l obs v h ho => ?_
  (unfold rpyrOk at h; split at h; rotate_left; (focus (cases h)); rename_i w hh c p n; simp only [Option.some.injEq, Prod.mk.injEq] at h; obtain ⟨rfl, rfl⟩ := h; simp only [List.mem_cons, List.not_mem_nil, or_false, forall_eq_or_imp, forall_eq, false_implies, implies_true] at ho)
  obtain ⟨hk, hp, h0, h1⟩ := ho
  obtain ⟨N, rfl⟩ := Int.eq_ofNat_of_zero_le h0
  obtain ⟨hf, hl⟩ := check_inv hk
  have hb := fits_inv hf
  refine ⟨Nat.le_of_ble_eq_true rfl, ?_⟩
  (repeat' (first | (refine xI (fun hfk => ?_) (fun hfk => ?_) <;> ((try (first | replace hfk := oT hfk | replace hfk := oF hfk | simp only [oD, ne_eq, reduceCtorEq] at hfk)); (try exact oX))) | (refine And.intro ?ob ?_; (case ob => (exact oZ))) | exact True.intro | (show _ = _; first | exact oY | exact rfl) | exact oW | (apply And.intro)))
  refine ⟨[(1, .int .i64 (N : Int)), (4, .nils), (5, .int .i64 0), (7, .sl 0 4 0 1)], ⟨1, [(0, some (.recs 24 4 1 (fun j => (([⟨w, hh, c, p⟩] : List Im).getD j Im.z).av)))]⟩, [some 1], ?_, ?_⟩
  · (repeat' (first | (refine And.intro ?_ ?_) | exact True.intro | (show _ = _; with_reducible rfl) | exact Chk.mk (by kernel_rfl)))
    intro j hj
    obtain rfl : j = 0 := by omega
    rfl
  (repeat' (first | (refine xI (fun hfk => ?_) (fun hfk => ?_) <;> ((try (first | replace hfk := oT hfk | replace hfk := oF hfk | simp only [oD, ne_eq, reduceCtorEq] at hfk)); (try exact oX))) | (refine And.intro ?ob ?_; (case ob => (exact oZ))) | exact True.intro | (show _ = _; first | exact oY | exact rfl) | exact oW | (apply And.intro)))
  refine ⟨List Im × Im, fun g => [(1, .int .i64 (N : Int)), (4, .nils), (5, .int .i64 0), (7, .sl 0 4 0 (g.1.length + 1)), (8, .int .i64 (g.1.length : Int))], fun g => ⟨1, [(0, some (.recs 24 4 (g.1.length + 1) (fun j => ((g.1 ++ [g.2]).getD j Im.z).av)))]⟩,
    fun g => g.1.length ≤ N ∧ g.1 ++ pyrG (N - g.1.length) g.2 = pyrG N ⟨w, hh, c, p⟩ ∧ PyP ⟨w, hh, c, p⟩ 0 255 g.2, fun g => N + 1 - g.1.length, ⟨([], ⟨w, hh, c, p⟩), [some 0], ⟨Nat.zero_le _, rfl, okP _ hk hp⟩, ?_⟩, fun g hg => ?_⟩
  · (repeat' (first | (refine And.intro ?_ ?_) | exact True.intro | (show _ = _; with_reducible rfl) | exact Chk.mk (by kernel_rfl)))
    · rfl
    · rfl
    · rfl
    · intro j hj
      rfl
  obtain ⟨pre, x⟩ := g
  obtain ⟨g1, g2, g3⟩ := hg
  have g1 : pre.length ≤ N := g1
  have g2 : pre ++ pyrG (N - pre.length) x = pyrG N ⟨w, hh, c, p⟩ := g2
  have g3 : PyP ⟨w, hh, c, p⟩ 0 255 x := g3
  have fin : pyrG N ⟨w, hh, c, p⟩ = pre ++ [x] → pre.length + 1 = (pyrG N ⟨w, hh, c, p⟩).length ∧ ∀ j, j < (pyrG N ⟨w, hh, c, p⟩).length → ((pre ++ [x]).getD (0 + j) Im.z).av = ((pyrG N ⟨w, hh, c, p⟩).getD j Im.z).av := fun E => by
    rw [E]
    exact ⟨by simp, fun j hj => by rw [Nat.zero_add]⟩
  refine ⟨fun hy => ?_, fun hy => ?_⟩
  · have hlt : pre.length < N := by
      have : (pre.length : Int) < (N : Int) := of_decide_eq_true hy
      omega
    have gl : (pre ++ [x]).getD (0 + (((pre.length + 1 : Nat) : Int) - 1).toNat) Im.z = x := by
      have : 0 + (((pre.length + 1 : Nat) : Int) - 1).toNat = pre.length := by omega
      rw [this]; simp [List.getD]
    (repeat' (first | (refine xI (fun hfk => ?_) (fun hfk => ?_) <;> ((try (first | replace hfk := oT hfk | replace hfk := oF hfk | simp only [oD, ne_eq, reduceCtorEq] at hfk)); (try exact oX))) | (refine And.intro ?ob ?_; (case ob => (exact oZ))) | exact True.intro | (show _ = _; first | exact oY | exact rfl) | exact oW | (apply And.intro)))
    refine ⟨[(1, .int .i64 (N : Int)), (4, .nils), (5, .int .i64 0), (7, .sl 0 4 0 (pre.length + 1)), (8, .int .i64 (pre.length : Int)), (9, .ptr 1 0)],
      ⟨2, [(0, some (.recs 24 4 (pre.length + 1) (fun j => ((pre ++ [x]).getD j Im.z).av))), (1, some (.cells 24 [.int .i64 x.w, .int .i64 x.h, .int .i64 x.c, .roi .u8 x.p]))]⟩, [some 0, some 1], ?_, ?_⟩
    · (repeat' (first | (refine And.intro ?_ ?_) | exact True.intro | (show _ = _; with_reducible rfl) | exact Chk.mk (by kernel_rfl)))
      · intro j hj
        rfl
      · exact congrArg Im.w gl
      · exact congrArg Im.h gl
      · exact congrArg Im.c gl
      · exact congrArg Im.p gl
    have c1 := g3.chk
    have c2 := g3.byt
    have b3 := fits_inv (check_inv c1).1
    have rwh : rngI .i64 (x.w * x.h) := rng64 (by omega) (by omega)
    by_cases hs : x.w = 1 ∧ x.h = 1
    · obtain ⟨s1, s2⟩ := hs
      have E : pyrG N ⟨w, hh, c, p⟩ = pre ++ [x] := by rw [← g2, pyrG_small ⟨s1, s2⟩]
      obtain ⟨f1, f2⟩ := fin E
      have s3 : x.w * x.h = 1 := by rw [s1, s2]; rfl
      (repeat' (first | (refine xI (fun hfk => ?_) (fun hfk => ?_) <;> ((try (first | replace hfk := oT hfk | replace hfk := oF hfk | simp only [oD, ne_eq, reduceCtorEq] at hfk)); (try exact oX))) | (refine And.intro ?ob ?_; (case ob => (exact oZ))) | exact True.intro | (show _ = _; first | exact oY | (exact f1; done) | exact rfl) | exact oW | (apply And.intro)))
      exact f2
    · have gN : N - pre.length = N - (pre.length + 1) + 1 := by omega
      have g2' : (pre ++ [x]) ++ pyrG (N - (pre.length + 1)) (halfI x) = pyrG N ⟨w, hh, c, p⟩ := by
        rw [← g2, gN, pyrG_big hs, List.append_assoc]; rfl
      have s3 : ¬ x.w * x.h = 1 := fun k => hs (by
        have h1 : x.w ≤ x.w * x.h := by have := Int.mul_le_mul_of_nonneg_left (show 1 ≤ x.h by omega) (show 0 ≤ x.w by omega); omega
        have h2 : x.h ≤ x.w * x.h := by have := Int.mul_le_mul_of_nonneg_right (show 1 ≤ x.w by omega) (show 0 ≤ x.h by omega); omega
        omega)
      have gap : ∀ j, j < pre.length + 1 + 1 → (if j < pre.length + 1 then ((pre ++ [x]).getD j Im.z).av else (([halfI x] : List Im).getD (j - (pre.length + 1)) Im.z).av) = (((pre ++ [x]) ++ [halfI x]).getD j Im.z).av := fun j hj => by
        by_cases h : j < pre.length + 1
        · rw [if_pos h]
          have e : ((pre ++ [x]) ++ [halfI x])[j]? = (pre ++ [x])[j]? := List.getElem?_append_left (by simp; omega)
          simp only [List.getD, e]
        · rw [if_neg h]
          obtain rfl : j = pre.length + 1 := by omega
          simp [List.getD]
      (repeat' (first | (refine xI (fun hfk => ?_) (fun hfk => ?_) <;> ((try (first | replace hfk := oT hfk | replace hfk := oF hfk | simp only [oD, ne_eq, reduceCtorEq] at hfk)); (try exact oX))) | (refine And.intro ?ob ?_; (case ob => (exact oZ))) | exact True.intro | (show _ = _; first | exact oY | exact rfl) | exact oW | (apply And.intro)))
      all_goals
        refine ⟨(pre ++ [x], halfI x), [some 3], ?_, ?mu, ?_⟩
        case mu =>
          show N + 1 - (pre ++ [x]).length < N + 1 - pre.length
          rw [List.length_append, List.length_singleton]; omega
        · exact ⟨by simp; omega, by simpa using g2', g3.half (by decide) (by decide)⟩
        (repeat' (first | (refine xI (fun hfk => ?_) (fun hfk => ?_) <;> ((try (first | replace hfk := oT hfk | replace hfk := oF hfk | simp only [oD, ne_eq, reduceCtorEq] at hfk)); (try exact oX))) | (refine And.intro ?ob ?_; (case ob => (exact oZ))) | exact True.intro | (show _ = _; first | exact oY | exact rfl) | exact oW | (apply And.intro)))
        · show pre.length + 1 + 1 = (pre ++ [x]).length + 1
          rw [List.length_append, List.length_singleton]
        · intro j hj
          have hj1 : j < (pre ++ [x]).length + 1 := hj
          rw [List.length_append, List.length_singleton] at hj1
          refine Eq.trans ?_ (gap j hj1)
          by_cases h : j < pre.length + 1
          · simp only [if_pos h]
          · simp only [if_neg h]
            have e : j - (pre.length + 1) = 0 := by omega
            rw [e]
            rfl
  · have hN : pre.length = N := by
      have : ¬ (pre.length : Int) < (N : Int) := of_decide_eq_false hy
      omega
    have E : pyrG N ⟨w, hh, c, p⟩ = pre ++ [x] := by rw [← g2, hN, Nat.sub_self]; rfl
    obtain ⟨f1, f2⟩ := fin E
    (repeat' (first | (refine xI (fun hfk => ?_) (fun hfk => ?_) <;> ((try (first | replace hfk := oT hfk | replace hfk := oF hfk | simp only [oD, ne_eq, reduceCtorEq] at hfk)); (try exact oX))) | (refine And.intro ?ob ?_; (case ob => (exact oZ))) | exact True.intro | (show _ = _; first | exact oY | (exact f1; done) | exact rfl) | exact oW | (apply And.intro)))
    exact f2
def pyrE (w h c : Int) (p : List Int) : Int := if imCheck w h c p.length = 0 then 10 else imCheck w h c p.length
abbrev pyrBad : PSpec := fun l => match l with
  | [.agg [.int .i64 w, .int .i64 h, .int .i64 c, .roi .u8 p], .int .i64 n] => some ([imCheck w h c p.length ≠ 0 ∨ n < 0 ∨ 15 < n], .tup [.nils, .int .i64 (pyrE w h c p)]) | _ => none
theorem pyrBad_s : SOK Try.prog 6 pyrBad := by
  refine sok_of (C := mkC 0 [(14, checkS)] noG) (mkC_ok (pok_cons check_s pok_nil) noG_ok) rfl mixed ⟨Try.func6, by kernel_rfl, by kernel_rfl, by kernel_rfl⟩ fun l obs v h ho => ?_
  (unfold pyrBad at h; split at h; rotate_left; (focus (cases h)); rename_i w hh c p n; simp only [Option.some.injEq, Prod.mk.injEq] at h; obtain ⟨rfl, rfl⟩ := h; simp only [List.mem_cons, List.not_mem_nil, or_false, forall_eq_or_imp, forall_eq, false_implies, implies_true] at ho)
  refine ⟨Nat.le_of_ble_eq_true rfl, ?_⟩
  by_cases hk : imCheck w hh c p.length = 0
  · have e : pyrE w hh c p = 10 := if_pos hk
    have hn : n < 0 ∨ 15 < n := ho.resolve_left (fun k => k hk)
    (repeat' (first | (refine xI (fun hfk => ?_) (fun hfk => ?_) <;> ((try (first | replace hfk := oT hfk | replace hfk := oF hfk | simp only [oD, ne_eq, reduceCtorEq] at hfk)); (try exact oX))) | (refine And.intro ?ob ?_; (case ob => (exact oZ))) | exact True.intro | (show _ = _; first | exact oY | (exact e.symm; done) | exact rfl) | exact oW | (apply And.intro)))
  · have e : pyrE w hh c p = imCheck w hh c p.length := if_neg hk
    (repeat' (first | (refine xI (fun hfk => ?_) (fun hfk => ?_) <;> ((try (first | replace hfk := oT hfk | replace hfk := oF hfk | simp only [oD, ne_eq, reduceCtorEq] at hfk)); (try exact oX))) | (refine And.intro ?ob ?_; (case ob => (exact oZ))) | exact True.intro | (show _ = _; first | exact oY | (exact e.symm; done) | exact rfl) | exact oW | (apply And.intro)))
theorem rpyrBad_s : SOK Try.prog 8 pyrBad := by
  refine sok_of (C := mkC 0 [(7, checkS)] noG) (mkC_ok (pok_cons rcheck7_s pok_nil) noG_ok) rfl mixed ⟨Try.func8, by kernel_rfl, by kernel_rfl, by kernel_rfl⟩ fun l obs v h ho => ?_
  (unfold pyrBad at h; split at h; rotate_left; (focus (cases h)); rename_i w hh c p n; simp only [Option.some.injEq, Prod.mk.injEq] at h; obtain ⟨rfl, rfl⟩ := h; simp only [List.mem_cons, List.not_mem_nil, or_false, forall_eq_or_imp, forall_eq, false_implies, implies_true] at ho)
  refine ⟨Nat.le_of_ble_eq_true rfl, ?_⟩
  by_cases hk : imCheck w hh c p.length = 0
  · have e : pyrE w hh c p = 10 := if_pos hk
    have hn : n < 0 ∨ 15 < n := ho.resolve_left (fun k => k hk)
    (repeat' (first | (refine xI (fun hfk => ?_) (fun hfk => ?_) <;> ((try (first | replace hfk := oT hfk | replace hfk := oF hfk | simp only [oD, ne_eq, reduceCtorEq] at hfk)); (try exact oX))) | (refine And.intro ?ob ?_; (case ob => (exact oZ))) | exact True.intro | (show _ = _; first | exact oY | (exact e.symm; done) | exact rfl) | exact oW | (apply And.intro)))
  · have e : pyrE w hh c p = imCheck w hh c p.length := if_neg hk
    (repeat' (first | (refine xI (fun hfk => ?_) (fun hfk => ?_) <;> ((try (first | replace hfk := oT hfk | replace hfk := oF hfk | simp only [oD, ne_eq, reduceCtorEq] at hfk)); (try exact oX))) | (refine And.intro ?ob ?_; (case ob => (exact oZ))) | exact True.intro | (show _ = _; first | exact oY | (exact e.symm; done) | exact rfl) | exact oW | (apply And.intro)))
abbrev halfBad : PSpec := fun l => match l with
  | [.agg [.int .i64 w, .int .i64 h, .int .i64 c, .roi .u8 p]] => some ([imCheck w h c p.length ≠ 0], .tup [.agg [.int .i64 0, .int .i64 0, .int .i64 0, .nils], .int .i64 (imCheck w h c p.length)]) | _ => none
theorem halfBad_s : SOK Try.prog 5 halfBad := by
  refine sok_of (C := mkC 0 [(14, checkS)] noG) (mkC_ok (pok_cons check_s pok_nil) noG_ok) rfl mixed ⟨Try.func5, by kernel_rfl, by kernel_rfl, by kernel_rfl⟩ fun l obs v h ho => ?_
  (unfold halfBad at h; split at h; rotate_left; (focus (cases h)); rename_i w hh c p; simp only [Option.some.injEq, Prod.mk.injEq] at h; obtain ⟨rfl, rfl⟩ := h; simp only [List.mem_cons, List.not_mem_nil, or_false, forall_eq_or_imp, forall_eq, false_implies, implies_true] at ho)
  refine ⟨Nat.le_of_ble_eq_true rfl, ?_⟩
  (repeat' (first | (refine xI (fun hfk => ?_) (fun hfk => ?_) <;> ((try (first | replace hfk := oT hfk | replace hfk := oF hfk | simp only [oD, ne_eq, reduceCtorEq] at hfk)); (try exact oX))) | (refine And.intro ?ob ?_; (case ob => (exact oZ))) | exact True.intro | (show _ = _; first | exact oY | exact rfl) | exact oW | (apply And.intro)))
def cntN : Nat → Int → Int → Nat
  | 0, _, _ => 1
  | n + 1, w, h => if w = 1 ∧ h = 1 then 1 else 1 + cntN n (hv w) (hv h)
theorem cnt_len : ∀ (n : Nat) (m : Im), (pyrG n m).length = cntN n m.w m.h
  | 0, m => rfl
  | n + 1, m => by
    unfold pyrG cntN
    by_cases h : m.w = 1 ∧ m.h = 1
    · rw [if_pos h, if_pos h]; rfl
    · rw [if_neg h, if_neg h, List.length_cons, cnt_len n (halfI m), Nat.add_comm]; rfl
theorem hv_one {w : Int} (h : 1 ≤ w) : 1 ≤ hv w ∧ hv w ≤ w := by unfold hv; omega
abbrev cntS : PSpec := fun l => match l with | [.int .i64 w, .int .i64 h, .int .i64 n] => some ([1 ≤ w, w ≤ 32768, 1 ≤ h, h ≤ 32768, 0 ≤ n, n ≤ 15], .int .i64 (cntN n.toNat w h : Int)) | _ => none
theorem cnt_s : SOK Try.prog 12 cntS := by
  refine sok_of (C := mkC 0 [(20, sizeOk31), (16, hvS)] noG) (mkC_ok (pok_cons sizeOk31_s (pok_cons hv_s pok_nil)) noG_ok) rfl mixed ⟨Try.func12, by kernel_rfl, by kernel_rfl, by kernel_rfl⟩ fun l obs v h ho => ?_
  (unfold cntS at h; split at h; rotate_left; (focus (cases h)); rename_i w hh n; simp only [Option.some.injEq, Prod.mk.injEq] at h; obtain ⟨rfl, rfl⟩ := h; simp only [List.mem_cons, List.not_mem_nil, or_false, forall_eq_or_imp, forall_eq, false_implies, implies_true] at ho)
  obtain ⟨h1, h2, h3, h4, h5, h6⟩ := ho
  obtain ⟨N, rfl⟩ := Int.eq_ofNat_of_zero_le h5
  have b1 := hvN_bd h1 h2 (N : Int).toNat
  refine ⟨Nat.le_of_ble_eq_true rfl, ?_⟩
  (repeat' (first | (refine xI (fun hfk => ?_) (fun hfk => ?_) <;> ((try (first | replace hfk := oT hfk | replace hfk := oF hfk | simp only [oD, ne_eq, reduceCtorEq] at hfk)); (try exact oX))) | (refine And.intro ?ob ?_; (case ob => (exact oZ))) | exact True.intro | (show _ = _; first | exact oY | exact rfl) | exact oW | (apply And.intro)))
  refine ⟨Nat × Int × Int, fun g => [(0, .int .i64 g.2.1), (1, .int .i64 g.2.2), (2, .int .i64 (N : Int)), (6, .int .i64 0), (9, .int .i64 (g.1 : Int))],
      fun i => ⟨0, []⟩, fun g => g.1 ≤ N ∧ g.1 + cntN (N - g.1) g.2.1 g.2.2 = cntN N w hh ∧ 1 ≤ g.2.1 ∧ g.2.1 ≤ 32768 ∧ 1 ≤ g.2.2 ∧ g.2.2 ≤ 32768, fun g => N - g.1, ⟨(0, w, hh), [], ⟨Nat.zero_le _, by simp, h1, h2, h3, h4⟩, ?_⟩, fun g hg => ?_⟩
  · (repeat' (first | (refine xI (fun hfk => ?_) (fun hfk => ?_) <;> ((try (first | replace hfk := oT hfk | replace hfk := oF hfk | simp only [oD, ne_eq, reduceCtorEq] at hfk)); (try exact oX))) | (refine And.intro ?ob ?_; (case ob => (exact oZ))) | exact True.intro | (show _ = _; first | exact oY | exact rfl) | exact oW | (apply And.intro)))
  obtain ⟨k, u, y⟩ := g
  obtain ⟨g1, g2, g3, g4, g5, g6⟩ := hg
  simp only at g1 g2 g3 g4 g5 g6
  have q1 := hv_one g3
  have q2 := hv_one g5
  have en : u = 1 ∧ y = 1 → (k : Int) + 1 = (cntN N w hh : Int) := fun hu => by
    rw [← g2]
    have : cntN (N - k) u y = 1 := by
      cases N - k with
      | zero => rfl
      | succ m => exact if_pos hu
    rw [this]; rfl
  have en2 : k = N → (k : Int) + 1 = (cntN N w hh : Int) := fun hu => by
    rw [← g2, hu, Nat.sub_self]; rfl
  have go : k < N → ¬ (u = 1 ∧ y = 1) → k + 1 + cntN (N - (k + 1)) (hv u) (hv y) = cntN N w hh := fun hlt hu => by
    rw [← g2]
    have : N - k = N - (k + 1) + 1 := by omega
    rw [this]
    have e : cntN (N - (k + 1) + 1) u y = 1 + cntN (N - (k + 1)) (hv u) (hv y) := if_neg hu
    rw [e]; omega
  have hkN : (k : Int) ≤ (N : Int) := by omega
  have nx : ∀ hlt : k < N, ¬ (u = 1 ∧ y = 1) → ∃ (g' : Nat × Int × Int), g' = (k + 1, hv u, hv y) ∧ (g'.1 ≤ N ∧ g'.1 + cntN (N - g'.1) g'.2.1 g'.2.2 = cntN N w hh ∧ 1 ≤ g'.2.1 ∧ g'.2.1 ≤ 32768 ∧ 1 ≤ g'.2.2 ∧ g'.2.2 ≤ 32768) ∧ N - g'.1 < N - k := fun hlt hu =>
    ⟨_, rfl, ⟨hlt, go hlt hu, by show 1 ≤ hv u; omega, by show hv u ≤ 32768; omega, by show 1 ≤ hv y; omega, by show hv y ≤ 32768; omega⟩, by show N - (k + 1) < N - k; omega⟩
  (repeat' (first | (refine xI (fun hfk => ?_) (fun hfk => ?_) <;> ((try (first | replace hfk := oT hfk | replace hfk := oF hfk | simp only [oD, ne_eq, reduceCtorEq] at hfk)); (try exact oX))) | (refine And.intro ?ob ?_; (case ob => (exact oZ))) | exact True.intro | (show _ = _; first | exact oY | exact rfl) | exact oW | (apply And.intro)))
  · have a1 : 1 < u := by assumption
    have a2 : (k : Int) < (N : Int) := by assumption
    obtain ⟨g', rfl, x1, x2⟩ := nx (by omega) (by omega)
    refine ⟨_, [], x1, x2, ?_⟩
    (repeat' (first | (refine xI (fun hfk => ?_) (fun hfk => ?_) <;> ((try (first | replace hfk := oT hfk | replace hfk := oF hfk | simp only [oD, ne_eq, reduceCtorEq] at hfk)); (try exact oX))) | (refine And.intro ?ob ?_; (case ob => (exact oZ))) | exact True.intro | (show _ = _; first | exact oY | exact rfl) | exact oW | (apply And.intro)))
  · have a1 : 1 < y := by assumption
    have a2 : (k : Int) < (N : Int) := by assumption
    obtain ⟨g', rfl, x1, x2⟩ := nx (by omega) (by omega)
    refine ⟨_, [], x1, x2, ?_⟩
    (repeat' (first | (refine xI (fun hfk => ?_) (fun hfk => ?_) <;> ((try (first | replace hfk := oT hfk | replace hfk := oF hfk | simp only [oD, ne_eq, reduceCtorEq] at hfk)); (try exact oX))) | (refine And.intro ?ob ?_; (case ob => (exact oZ))) | exact True.intro | (show _ = _; first | exact oY | exact rfl) | exact oW | (apply And.intro)))
  · have a1 : ¬ 1 < y := by assumption
    have a2 : ¬ 1 < u := by assumption
    have r := en (by omega)
    (repeat' (first | (refine xI (fun hfk => ?_) (fun hfk => ?_) <;> ((try (first | replace hfk := oT hfk | replace hfk := oF hfk | simp only [oD, ne_eq, reduceCtorEq] at hfk)); (try exact oX))) | (refine And.intro ?ob ?_; (case ob => (exact oZ))) | exact True.intro | (show _ = _; first | exact oY | ((first | exact r | exact r.symm); done) | exact rfl) | exact oW | (apply And.intro)))
  · have a2 : ¬ (k : Int) < (N : Int) := by assumption
    have r := en2 (by omega)
    (repeat' (first | (refine xI (fun hfk => ?_) (fun hfk => ?_) <;> ((try (first | replace hfk := oT hfk | replace hfk := oF hfk | simp only [oD, ne_eq, reduceCtorEq] at hfk)); (try exact oX))) | (refine And.intro ?ob ?_; (case ob => (exact oZ))) | exact True.intro | (show _ = _; first | exact oY | ((first | exact r | exact r.symm); done) | exact rfl) | exact oW | (apply And.intro)))
abbrev cntBad : PSpec := fun l => match l with | [.int .i64 w, .int .i64 h, .int .i64 n] => some ([1 ≤ w, w ≤ 32768, 1 ≤ h, h ≤ 32768, n < 0 ∨ 15 < n], .int .i64 0) | _ => none
abbrev sizeBad : PSpec := fun l => match l with | [.int .i64 w, .int .i64 h, .int .i64 n] => some ([1 ≤ w, w ≤ 32768, 1 ≤ h, h ≤ 32768, n < 0 ∨ 15 < n], .tup [.int .i64 0, .int .i64 0]) | _ => none
theorem sizeBad_s : SOK Try.prog 20 sizeBad := by
  refine sok_of (C := mkC 0 [] noG) (mkC_ok pok_nil noG_ok) rfl mixed ⟨Try.func20, by kernel_rfl, by kernel_rfl, by kernel_rfl⟩ fun l obs v h ho => ?_
  (unfold sizeBad at h; split at h; rotate_left; (focus (cases h)); rename_i w hh n; simp only [Option.some.injEq, Prod.mk.injEq] at h; obtain ⟨rfl, rfl⟩ := h; simp only [List.mem_cons, List.not_mem_nil, or_false, forall_eq_or_imp, forall_eq, false_implies, implies_true] at ho)
  obtain ⟨h1, h2, h3, h4, h5⟩ := ho
  refine ⟨Nat.le_of_ble_eq_true rfl, ?_⟩
  (repeat' (first | (refine xI (fun hfk => ?_) (fun hfk => ?_) <;> ((try (first | replace hfk := oT hfk | replace hfk := oF hfk | simp only [oD, ne_eq, reduceCtorEq] at hfk)); (try exact oX))) | (refine And.intro ?ob ?_; (case ob => (exact oZ))) | exact True.intro | (show _ = _; first | exact oY | exact rfl) | exact oW | (apply And.intro)))
theorem cntBad_s : SOK Try.prog 12 cntBad := by
  refine sok_of (C := mkC 0 [(20, sizeBad)] noG) (mkC_ok (pok_cons sizeBad_s pok_nil) noG_ok) rfl mixed ⟨Try.func12, by kernel_rfl, by kernel_rfl, by kernel_rfl⟩ fun l obs v h ho => ?_
  (unfold cntBad at h; split at h; rotate_left; (focus (cases h)); rename_i w hh n; simp only [Option.some.injEq, Prod.mk.injEq] at h; obtain ⟨rfl, rfl⟩ := h; simp only [List.mem_cons, List.not_mem_nil, or_false, forall_eq_or_imp, forall_eq, false_implies, implies_true] at ho)
  obtain ⟨h1, h2, h3, h4, h5⟩ := ho
  refine ⟨Nat.le_of_ble_eq_true rfl, ?_⟩
  (repeat' (first | (refine xI (fun hfk => ?_) (fun hfk => ?_) <;> ((try (first | replace hfk := oT hfk | replace hfk := oF hfk | simp only [oD, ne_eq, reduceCtorEq] at hfk)); (try exact oX))) | (refine And.intro ?ob ?_; (case ob => (exact oZ))) | exact True.intro | (show _ = _; first | exact oY | exact rfl) | exact oW | (apply And.intro)))
abbrev samesS (L : List Im) : PSpec := fun l => match l with
  | [.ro 4 n g, .ro 4 m f] => some ([n = L.length, m = L.length, ∀ j, j < n → g j = (L.getD j Im.z).av, ∀ j, j < m → f j = (L.getD j Im.z).av, L.length ≤ 100, ∀ x ∈ L, x.p.length ≤ 1152921504606846975], .bool true)
  | [.nils, .nils] => some ([], .bool true)
  | _ => none
theorem sames_s (L : List Im) : SOK Try.prog 9 (samesS L) := by
  refine sok_of (C := mkC 0 [(10, sameS)] noG) (mkC_ok (pok_cons rsame_s pok_nil) noG_ok) rfl mixed ⟨Try.func9, by kernel_rfl, by kernel_rfl, by kernel_rfl⟩ fun l obs v h ho => ?_
  unfold samesS at h
  split at h
  · rename_i n g m f
    simp only [Option.some.injEq, Prod.mk.injEq] at h
    obtain ⟨rfl, rfl⟩ := h
    simp only [List.mem_cons, List.not_mem_nil, or_false, forall_eq_or_imp, forall_eq, false_implies, implies_true] at ho
    obtain ⟨rfl, rfl, hg, hf, h100, hp⟩ := ho
    refine ⟨Nat.le_of_ble_eq_true rfl, ?_⟩
    (repeat' (first | (refine xI (fun hfk => ?_) (fun hfk => ?_) <;> ((try (first | replace hfk := oT hfk | replace hfk := oF hfk | simp only [oD, ne_eq, reduceCtorEq] at hfk)); (try exact oX))) | (refine And.intro ?ob ?_; (case ob => (exact oZ))) | exact True.intro | (show _ = _; first | exact oY | exact rfl) | exact oW | (apply And.intro)))
    refine ⟨Nat, fun i => [(0, imsA L), (1, imsA L), (4, .fls), (5, .int .i64 (i : Int))],
      fun i => ⟨0, []⟩, fun i => i ≤ L.length, fun i => L.length - i, ⟨0, [], Nat.zero_le _, ?_⟩, fun i hi => ?_⟩
    · (repeat' (first | (refine And.intro ?_ ?_) | exact True.intro | (show _ = _; with_reducible rfl) | exact Chk.mk (by kernel_rfl)))
      all_goals first | exact hg | exact hf | rfl
    have hi : i ≤ L.length := hi
    by_cases hlt : i < L.length
    · have hm : L.getD (i : Int).toNat Im.z ∈ L := by
        rw [Int.toNat_natCast]
        simp only [List.getD, List.getElem?_eq_getElem hlt, Option.getD_some]
        exact List.getElem_mem hlt
      have hxp := hp _ hm
      have es : sameM (L.getD (i : Int).toNat Im.z).w (L.getD (i : Int).toNat Im.z).h (L.getD (i : Int).toNat Im.z).c (L.getD (i : Int).toNat Im.z).p (L.getD (i : Int).toNat Im.z).w (L.getD (i : Int).toNat Im.z).h (L.getD (i : Int).toNat Im.z).c (L.getD (i : Int).toNat Im.z).p = true := decide_eq_true ⟨rfl, rfl, rfl, rfl⟩
      (repeat' (first | (refine xI (fun hfk => ?_) (fun hfk => ?_) <;> ((try (first | replace hfk := oT hfk | replace hfk := oF hfk | simp only [oD, ne_eq, reduceCtorEq] at hfk)); (try exact oX))) | (refine And.intro ?ob ?_; (case ob => (exact oZ))) | exact True.intro | (show _ = _; first | exact oY | exact rfl) | exact oW | (apply And.intro)))
      (refine ⟨i + 1, [], ?_, ?mu, ?_⟩; (case mu => ((try dsimp only); omega)))
      · exact hlt
      (repeat' (first | (refine And.intro ?_ ?_) | exact True.intro | (show _ = _; with_reducible rfl) | exact Chk.mk (by kernel_rfl)))
      all_goals first | (intro j hj; rfl) | (show (_ : Int) = _; omega) | rfl
    · (repeat' (first | (refine xI (fun hfk => ?_) (fun hfk => ?_) <;> ((try (first | replace hfk := oT hfk | replace hfk := oF hfk | simp only [oD, ne_eq, reduceCtorEq] at hfk)); (try exact oX))) | (refine And.intro ?ob ?_; (case ob => (exact oZ))) | exact True.intro | (show _ = _; first | exact oY | exact rfl) | exact oW | (apply And.intro)))
  · simp only [Option.some.injEq, Prod.mk.injEq] at h
    obtain ⟨rfl, rfl⟩ := h
    refine ⟨Nat.le_of_ble_eq_true rfl, ?_⟩
    (repeat' (first | (refine xI (fun hfk => ?_) (fun hfk => ?_) <;> ((try (first | replace hfk := oT hfk | replace hfk := oF hfk | simp only [oD, ne_eq, reduceCtorEq] at hfk)); (try exact oX))) | (refine And.intro ?ob ?_; (case ob => (exact oZ))) | exact True.intro | (show _ = _; first | exact oY | exact rfl) | exact oW | (apply And.intro)))
    refine ⟨Unit, fun i => [(0, .nils), (1, .nils), (4, .fls), (5, .int .i64 0)], fun i => ⟨0, []⟩, fun i => True, fun i => 0, ⟨(), [], trivial, ?_⟩, fun i hi => ?_⟩
    · (repeat' (first | (refine xI (fun hfk => ?_) (fun hfk => ?_) <;> ((try (first | replace hfk := oT hfk | replace hfk := oF hfk | simp only [oD, ne_eq, reduceCtorEq] at hfk)); (try exact oX))) | (refine And.intro ?ob ?_; (case ob => (exact oZ))) | exact True.intro | (show _ = _; first | exact oY | exact rfl) | exact oW | (apply And.intro)))
    (repeat' (first | (refine xI (fun hfk => ?_) (fun hfk => ?_) <;> ((try (first | replace hfk := oT hfk | replace hfk := oF hfk | simp only [oD, ne_eq, reduceCtorEq] at hfk)); (try exact oX))) | (refine And.intro ?ob ?_; (case ob => (exact oZ))) | exact True.intro | (show _ = _; first | exact oY | exact rfl) | exact oW | (apply And.intro)))
  · cases h
end Go.Proofs.Ytdiflkabpjnncaa
namespace Go.Proofs.Ytdiflkabpjnncaa
open Go Go.RowKit
theorem walk_MipHalves' (w h c : Int) (p : List Int) (n : Int) (hp : Bytes p) (W : World) {cl : List Value} (hc : CRel noN W NoO [imA w h c p, .int .i64 n] cl) :
    Calls Try.prog 3 cl.toArray W fun e W' => e = .returned (.bool true) ∧ Below W.heap.size W W' := by
  by_cases hfew : (p.length : Int) ≤ 20000
  rotate_left
  · refine law_of (C := mkC 0 [(4, fewS)] noG) (mkC_ok (pok_cons few_s pok_nil) noG_ok) rfl ⟨Try.func3, by kernel_rfl, by kernel_rfl, by kernel_rfl⟩ (by exact Nat.le_of_ble_eq_true rfl) ?_ hc
    (repeat' (first | (refine xI (fun hfk => ?_) (fun hfk => ?_) <;> ((try (first | replace hfk := oT hfk | replace hfk := oF hfk | simp only [oD, ne_eq, reduceCtorEq] at hfk)); (try exact oX))) | (refine And.intro ?ob ?_; (case ob => (exact oZ))) | exact True.intro | (show _ = _; first | exact oY | exact rfl) | exact oW | (apply And.intro)))
  have sz : sameM 0 0 0 [] 0 0 0 [] = true := rfl
  by_cases hk : imCheck w h c p.length = 0
  rotate_left
  · refine law_of (C := mkC 0 [(4, fewS), (5, halfBad), (6, pyrBad), (7, checkS), (8, pyrBad), (9, samesS []), (10, fun l => sameS (l.map nzA)), (11, sN (.bool true))] noG)
      (mkC_ok (pok_cons few_s (pok_cons halfBad_s (pok_cons pyrBad_s (pok_cons rcheck7_s (pok_cons rpyrBad_s (pok_cons (sames_s []) (pok_cons (sok_nz rsame_s) (pok_cons alive31_s pok_nil)))))))) noG_ok) rfl ⟨Try.func3, by kernel_rfl, by kernel_rfl, by kernel_rfl⟩ (by exact Nat.le_of_ble_eq_true rfl) ?_ hc
    have e : pyrE w h c p = imCheck w h c p.length := if_neg hk
    have hor : imCheck w h c p.length ≠ 0 ∨ n < 0 ∨ 15 < n := .inl hk
    (repeat' (first | (refine xI (fun hfk => ?_) (fun hfk => ?_) <;> ((try (first | replace hfk := oT hfk | replace hfk := oF hfk | simp only [oD, ne_eq, reduceCtorEq] at hfk)); (try exact oX))) | (refine And.intro ?ob ?_; (case ob => (exact oZ))) | exact True.intro | (show _ = _; first | exact oY | exact rfl) | exact oW | (apply And.intro)))
  obtain ⟨hf, hl⟩ := check_inv hk
  have hb := fits_inv hf
  have hN16 : hN w h c ≤ 16777216 := by
    obtain ⟨hf2, w1, w2, h1, h2⟩ := half_fits hf
    have hb2 := fits_inv hf2
    unfold hN
    omega
  have hfl : (halfP w h c p).length ≤ 1152921504606846975 := by rw [halfP_len]; omega
  have es : sameM (hv w) (hv h) c (halfP w h c p) (hv w) (hv h) c (halfP w h c p) = true := decide_eq_true ⟨rfl, rfl, rfl, rfl⟩
  obtain ⟨Q, hQ⟩ : ∃ Q, halfP w h c p = Q := ⟨_, rfl⟩
  by_cases hn : n < 0 ∨ 15 < n
  · refine law_of (C := mkC 0 [(4, fewS), (5, halfS), (6, pyrBad), (7, checkS), (8, pyrBad), (9, samesS []), (12, cntBad), (13, rhalfS), (10, sameS), (11, sN (.bool true))] noG)
      (mkC_ok (pok_cons few_s (pok_cons half_s (pok_cons pyrBad_s (pok_cons rcheck7_s (pok_cons rpyrBad_s (pok_cons (sames_s []) (pok_cons cntBad_s (pok_cons rhalf_s (pok_cons rsame_s (pok_cons alive31_s pok_nil)))))))))) noG_ok) rfl ⟨Try.func3, by kernel_rfl, by kernel_rfl, by kernel_rfl⟩ (by exact Nat.le_of_ble_eq_true rfl) ?_ hc
    have e : pyrE w h c p = 10 := if_pos hk
    have hor : imCheck w h c p.length ≠ 0 ∨ n < 0 ∨ 15 < n := .inr hn
    (repeat' (first | (refine xI (fun hfk => ?_) (fun hfk => ?_) <;> ((try (first | replace hfk := oT hfk | replace hfk := oF hfk | simp only [oD, ne_eq, reduceCtorEq] at hfk)); (try exact oX))) | (refine And.intro ?ob ?_; (case ob => (exact oZ))) | exact True.intro | (show _ = _; first | exact oY | exact rfl) | exact oW | (apply And.intro)))
    exact absurd ⟨rfl, rfl, rfl, rfl⟩ hfk
  have hn0 : 0 ≤ n := by omega
  have hn1 : n ≤ 15 := by omega
  obtain ⟨N, rfl⟩ := Int.eq_ofNat_of_zero_le hn0
  have hall := fun x hx => pyrG_all (n := N) (by decide) (by decide) (okP ⟨w, h, c, p⟩ hk hp) x hx
  have hlen := pyrG_len (n := N) (m := ⟨w, h, c, p⟩)
  have hcnt := cnt_len N ⟨w, h, c, p⟩
  have hxp : ∀ x ∈ pyrG N ⟨w, h, c, p⟩, x.p.length ≤ 1152921504606846975 := fun x hx => by
    obtain ⟨f1, f2⟩ := check_inv (hall x hx).chk
    have := fits_inv f1
    omega
  have h0 : (pyrG N ⟨w, h, c, p⟩).getD 0 Im.z = ⟨w, h, c, p⟩ := by
    cases N with
    | zero => rfl
    | succ N => unfold pyrG; split <;> rfl
  obtain ⟨L, hL⟩ : ∃ L, pyrG N ⟨w, h, c, p⟩ = L := ⟨_, rfl⟩
  rw [hL] at hlen hcnt hxp h0
  have hcnt' : ((L.length : Nat) : Int) = ((cntN (N : Int).toNat w h : Nat) : Int) := congrArg (fun n : Nat => (n : Int)) hcnt
  have hQl : Q.length ≤ 1152921504606846975 := hQ ▸ hfl
  have hQQ : (hv w = hv w ∧ hv h = hv h ∧ c = c ∧ Q = halfP w h c p) := ⟨rfl, rfl, rfl, hQ.symm⟩
  refine law_of (C := mkL 0 [(4, fewS), (5, halfS), (7, checkS), (8, rpyrOk), (9, samesS L), (12, cntS), (13, rhalfS), (10, sameS), (11, sN (.bool true))] (glook [(6, fG pyrF)]) [] [] [] [4, 6])
      (mkL_ok (pok_cons few_s (pok_cons half_s (pok_cons rcheck7_s (pok_cons rpyrOk_s (pok_cons (sames_s _) (pok_cons cnt_s (pok_cons rhalf_s (pok_cons rsame_s (pok_cons alive31_s pok_nil))))))))) (gl_cons pyr_g gl_nil) dl_nil mok_nil) rfl ⟨Try.func3, by kernel_rfl, by kernel_rfl, by kernel_rfl⟩ (by exact Nat.le_of_ble_eq_true rfl) ?_ hc
  (repeat' (first | (refine xI (fun hfk => ?_) (fun hfk => ?_) <;> ((try (first | replace hfk := oT hfk | replace hfk := oF hfk | simp only [oD, ne_eq, reduceCtorEq] at hfk)); (try exact oX))) | (refine And.intro ?ob ?_; (case ob => (exact oZ))) | exact True.intro | (show _ = _; first | exact oY | exact rfl) | exact oW | (apply And.intro)))
  refine ⟨[], ⟨by kernel_rfl⟩, ?_⟩
  (repeat' (first | (refine xI (fun hfk => ?_) (fun hfk => ?_) <;> ((try (first | replace hfk := oT hfk | replace hfk := oF hfk | simp only [oD, ne_eq, reduceCtorEq] at hfk)); (try exact oX))) | (refine And.intro ?ob ?_; (case ob => (exact oZ))) | exact True.intro | (show _ = _; first | exact oY | exact rfl) | exact oW | (apply And.intro)))
  have hL' : pyrG (N : Int).toNat ⟨w, h, c, p⟩ = L := hL
  refine ⟨[(1, .int .i64 (N : Int)), (2, .ptr 0 0), (4, .fls), (5, .ptr 1 0), (6, .int .i64 0), (7, .sl 2 4 0 L.length), (8, .int .i64 0)],
      ⟨4, [(0, some (.cells 24 [.int .i64 w, .int .i64 h, .int .i64 c, .roi .u8 p])), (1, some (.cells 24 [.int .i64 (hv w), .int .i64 (hv h), .int .i64 c, .roi .u8 Q])), (2, some (.recs1 24 4 L.length (g31 ⟨w, h, c, p⟩ L) 3 (.sl 3 1 0 p.length))), (3, some (.ints 5 .u8 p))]⟩, [some 0, some 1, some 2, some 3], ?_, ?_⟩
  · (repeat' (first | (refine And.intro ?_ ?_) | exact True.intro | (show _ = _; with_reducible rfl) | exact Chk.mk (by kernel_rfl)))
    · exact congrArg List.length hL'
    · exact hQ
    · exact congrArg List.length hL'
    · intro j hj
      exact congrArg (fun l => g31 ⟨w, h, c, p⟩ l j) hL'
  (repeat' (first | (refine xI (fun hfk => ?_) (fun hfk => ?_) <;> ((try (first | replace hfk := oT hfk | replace hfk := oF hfk | simp only [oD, ne_eq, reduceCtorEq] at hfk)); (try exact oX))) | (refine And.intro ?ob ?_; (case ob => (exact oZ))) | exact True.intro | (show _ = _; first | exact oY | exact rfl) | exact oW | (apply And.intro)))
  refine ⟨[(1, .int .i64 (N : Int)), (2, .ptr 0 0), (4, .fls), (5, .ptr 1 0), (6, .int .i64 0), (7, .sl 2 4 0 L.length), (8, .int .i64 0), (9, .int .i64 0), (10, imsA L), (11, .int .i64 0)],
      ⟨4, [(0, some (.cells 24 [.int .i64 w, .int .i64 h, .int .i64 c, .roi .u8 p])), (1, some (.cells 24 [.int .i64 (hv w), .int .i64 (hv h), .int .i64 c, .roi .u8 Q])), (2, some (.recs1 24 4 L.length (g31 ⟨w, h, c, p⟩ L) 3 (.sl 3 1 0 p.length))), (3, some (.ints 5 .u8 p))]⟩, [some 0, some 1, some 2, some 3], ?_, ?_⟩
  · (repeat' (first | (refine And.intro ?_ ?_) | exact True.intro | (show _ = _; with_reducible rfl) | exact Chk.mk (by kernel_rfl)))
    · exact hk
    · exact congrArg List.length hL'
    · intro j hj
      exact congrArg (fun l : List Im => (l.getD j Im.z).av) hL'
    · intro j hj
      rfl
  have v0 : ∀ j, j < L.length → (bif Nat.beq j 0 then AV.agg ([AV.int .i64 w, AV.int .i64 h, AV.int .i64 c, AV.any].set 3 (.roi .u8 (List.take p.length p))) else g31 ⟨w, h, c, p⟩ L j) = (L.getD j Im.z).av := fun j hj => by
    rw [List.take_length]
    cases j with
    | zero => rw [h0]; rfl
    | succ j => rfl
  have v1 : L.length ≤ 100 := by omega
  (repeat' (first | (refine xI (fun hfk => ?_) (fun hfk => ?_) <;> ((try (first | replace hfk := oT hfk | replace hfk := oF hfk | simp only [oD, ne_eq, reduceCtorEq] at hfk)); (try exact oX))) | (refine And.intro ?ob ?_; (case ob => (exact oZ))) | exact True.intro | (show _ = _; first | exact oY | exact rfl) | exact oW | (apply And.intro)))
  all_goals exact absurd hQQ hfk
end Go.Proofs.Ytdiflkabpjnncaa

