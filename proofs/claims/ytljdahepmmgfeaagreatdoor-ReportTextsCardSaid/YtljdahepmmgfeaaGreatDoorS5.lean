/- Texts laid together. No condition. -/
import Derived.Test.YtljdahepmmgfeaaGreatDoorS4
set_option maxRecDepth 100000
set_option linter.unusedVariables false
set_option linter.unusedSimpArgs false
namespace Go.Proofs.YtljdahepmmgfeaaGreatDoor
open Go Go.RowKit
set_option maxHeartbeats 4000000
abbrev hdownS : PSpec := fun l => match l with | [.rop (.agg [.int .u32 x0, .int .u32 x1, .int .u32 x2, .int .u32 x3, .int .u32 x4, .int .u32 x5, .int .u32 x6, .int .u32 x7, .int .u32 x8, .int .u32 x9, .int .u32 x10, .int .u32 x11, .int .u32 x12, .int .u32 x13])] => some ([], .bool (decide (2147483648 ≤ x5))) | _ => none
theorem hdown_s : SOK Tryz.prog 59 hdownS := by
  refine sok_of (C := mkC 0 [] noG) (mkC_ok pok_nil noG_ok) rfl mixed ⟨Tryz.func59, by kernel_rfl, by kernel_rfl, by kernel_rfl⟩ fun l obs v h ho => ?_
  (unfold hdownS at h; split at h; rotate_left; (focus (cases h)); rename_i x0 x1 x2 x3 x4 x5 x6 x7 x8 x9 x10 x11 x12 x13; simp only [Option.some.injEq, Prod.mk.injEq] at h; obtain ⟨rfl, rfl⟩ := h; simp only [List.mem_cons, List.not_mem_nil, or_false, forall_eq_or_imp, forall_eq, false_implies, implies_true] at ho)
  refine ⟨Nat.le_of_ble_eq_true rfl, ?_⟩
  (repeat' (first | (refine xI (fun hfk => ?_) (fun hfk => ?_) <;> ((try (first | replace hfk := oT hfk | replace hfk := oF hfk | simp only [oD, ne_eq, reduceCtorEq] at hfk)); (try exact oX))) | refine And.intro oZ ?_ | exact True.intro | (show _ = _; first | exact oY | exact rfl) | exact oW | (apply And.intro)))
def hrV (x : Int) : Int := if 2147483648 ≤ x then 4294967296 - x else x
abbrev hrowsS : PSpec := fun l => match l with | [.rop (.agg [.int .u32 x0, .int .u32 x1, .int .u32 x2, .int .u32 x3, .int .u32 x4, .int .u32 x5, .int .u32 x6, .int .u32 x7, .int .u32 x8, .int .u32 x9, .int .u32 x10, .int .u32 x11, .int .u32 x12, .int .u32 x13])] => some ([0 ≤ x5, x5 < 4294967296], .int .u32 (hrV x5)) | _ => none
theorem hrows_s : SOK Tryz.prog 92 hrowsS := by
  refine sok_of (C := mkC 0 [(59, hdownS)] noG) (mkC_ok (pok_cons hdown_s pok_nil) noG_ok) rfl mixed ⟨Tryz.func92, by kernel_rfl, by kernel_rfl, by kernel_rfl⟩ fun l obs v h ho => ?_
  (unfold hrowsS at h; split at h; rotate_left; (focus (cases h)); rename_i x0 x1 x2 x3 x4 x5 x6 x7 x8 x9 x10 x11 x12 x13; simp only [Option.some.injEq, Prod.mk.injEq] at h; obtain ⟨rfl, rfl⟩ := h; simp only [List.mem_cons, List.not_mem_nil, or_false, forall_eq_or_imp, forall_eq, false_implies, implies_true] at ho)
  refine ⟨Nat.le_of_ble_eq_true rfl, ?_⟩
  obtain ⟨h0, h1⟩ := ho
  by_cases hd : 2147483648 ≤ x5
  · have e : hrV x5 = 4294967296 - x5 := if_pos hd
    have e2 : IntKind.u32.wrap (0 - x5) = 4294967296 - x5 := by
      have : IntKind.u32.wrap (0 - x5) = (0 - x5) % 4294967296 := by simp [IntKind.wrap, IntKind.signed, IntKind.bits]
      omega
    rw [e]
    (repeat' (first | (refine xI (fun hfk => ?_) (fun hfk => ?_) <;> ((try (first | replace hfk := oT hfk | replace hfk := oF hfk | simp only [oD, ne_eq, reduceCtorEq] at hfk)); (try exact oX))) | refine And.intro oZ ?_ | exact True.intro | (show _ = _; first | exact oY | (exact e2; done) | exact rfl) | exact oW | (apply And.intro)))
  · have e : hrV x5 = x5 := if_neg hd
    rw [e]
    (repeat' (first | (refine xI (fun hfk => ?_) (fun hfk => ?_) <;> ((try (first | replace hfk := oT hfk | replace hfk := oF hfk | simp only [oD, ne_eq, reduceCtorEq] at hfk)); (try exact oX))) | refine And.intro oZ ?_ | exact True.intro | (show _ = _; first | exact oY | exact rfl) | exact oW | (apply And.intro)))
def shC (w r : Int) : Int := if w = 0 ∨ r = 0 then 12 else if 32768 < w ∨ 32768 < r ∨ 4194304 < w * r then 30 else 0
def shI (k w : Int) : Int := if k = 0 then w else 0
abbrev hshapeS : PSpec := fun l => match l with | [.rop (.agg [.int .u32 x0, .int .u32 x1, .int .u32 x2, .int .u32 x3, .int .u32 x4, .int .u32 x5, .int .u32 x6, .int .u32 x7, .int .u32 x8, .int .u32 x9, .int .u32 x10, .int .u32 x11, .int .u32 x12, .int .u32 x13])] => some ([0 ≤ x4, x4 < 4294967296, 0 ≤ x5, x5 < 4294967296, x7 = 24 ∨ x7 = 32], .tup [.agg [.int .i64 (shI (shC x4 (hrV x5)) x4), .int .i64 (shI (shC x4 (hrV x5)) (hrV x5)), .int .i64 (shI (shC x4 (hrV x5)) (x7 / 8)), .nils], .int .i64 (shC x4 (hrV x5))]) | _ => none
theorem hshape_s : SOK Tryz.prog 56 hshapeS := by
  refine sok_of (C := mkC 0 [(92, hrowsS)] noG) (mkC_ok (pok_cons hrows_s pok_nil) noG_ok) rfl mixed ⟨Tryz.func56, by kernel_rfl, by kernel_rfl, by kernel_rfl⟩ fun l obs v h ho => ?_
  (unfold hshapeS at h; split at h; rotate_left; (focus (cases h)); rename_i x0 x1 x2 x3 x4 x5 x6 x7 x8 x9 x10 x11 x12 x13; simp only [Option.some.injEq, Prod.mk.injEq] at h; obtain ⟨rfl, rfl⟩ := h; simp only [List.mem_cons, List.not_mem_nil, or_false, forall_eq_or_imp, forall_eq, false_implies, implies_true] at ho)
  refine ⟨Nat.le_of_ble_eq_true rfl, ?_⟩
  obtain ⟨w0, w1, r0', r1', h7⟩ := ho
  obtain ⟨r, hr⟩ : ∃ r, hrV x5 = r := ⟨_, rfl⟩
  have r01 : 0 ≤ r ∧ r < 4294967296 := by rw [← hr]; unfold hrV; split <;> omega
  obtain ⟨r0, r1⟩ := r01
  rw [hr]
  by_cases k1 : x4 = 0 ∨ r = 0
  · have e : shC x4 r = 12 := if_pos k1
    rw [e]
    rcases Classical.em (x4 = 0) with k | k
    · (repeat' (first | (refine xI (fun hfk => ?_) (fun hfk => ?_) <;> ((try (first | replace hfk := oT hfk | replace hfk := oF hfk | simp only [oD, ne_eq, reduceCtorEq] at hfk)); (try exact oX))) | refine And.intro oZ ?_ | exact True.intro | (show _ = _; first | exact oY | exact rfl) | exact oW | (apply And.intro)))
    · have k2 : hrV x5 = 0 := by omega
      (repeat' (first | (refine xI (fun hfk => ?_) (fun hfk => ?_) <;> ((try (first | replace hfk := oT hfk | replace hfk := oF hfk | simp only [oD, ne_eq, reduceCtorEq] at hfk)); (try exact oX))) | refine And.intro oZ ?_ | exact True.intro | (show _ = _; first | exact oY | exact rfl) | exact oW | (apply And.intro)))
  by_cases k2 : 32768 < x4 ∨ 32768 < r
  · have e : shC x4 r = 30 := by unfold shC; rw [if_neg k1, if_pos (by omega)]
    rw [e]
    rcases Classical.em (32768 < x4) with k | k
    · (repeat' (first | (refine xI (fun hfk => ?_) (fun hfk => ?_) <;> ((try (first | replace hfk := oT hfk | replace hfk := oF hfk | simp only [oD, ne_eq, reduceCtorEq] at hfk)); (try exact oX))) | refine And.intro oZ ?_ | exact True.intro | (show _ = _; first | exact oY | exact rfl) | exact oW | (apply And.intro)))
    · have k3 : 32768 < hrV x5 := by omega
      (repeat' (first | (refine xI (fun hfk => ?_) (fun hfk => ?_) <;> ((try (first | replace hfk := oT hfk | replace hfk := oF hfk | simp only [oD, ne_eq, reduceCtorEq] at hfk)); (try exact oX))) | refine And.intro oZ ?_ | exact True.intro | (show _ = _; first | exact oY | exact rfl) | exact oW | (apply And.intro)))
  have p1 : 0 ≤ x4 * r := Int.mul_nonneg (by omega) (by omega)
  have p2 : x4 * r ≤ 32768 * 32768 := Int.le_trans (Int.mul_le_mul_of_nonneg_right (by omega) (by omega)) (Int.mul_le_mul_of_nonneg_left (by omega) (by omega))
  have ep : IntKind.u32.wrap (x4 * hrV x5) = x4 * r := by rw [hr]; exact u32_id (by omega) (by omega)
  by_cases k3 : 4194304 < x4 * r
  · have e : shC x4 r = 30 := by unfold shC; rw [if_neg k1, if_pos (by omega)]
    rw [e]
    (repeat' (first | (refine xI (fun hfk => ?_) (fun hfk => ?_) <;> ((try (first | replace hfk := oT hfk | replace hfk := oF hfk | simp only [oD, ne_eq, reduceCtorEq] at hfk)); (try exact oX))) | refine And.intro oZ ?_ | exact True.intro | (show _ = _; first | exact oY | exact rfl) | exact oW | (apply And.intro)))
  have e : shC x4 r = 0 := by unfold shC; rw [if_neg k1, if_neg (by omega)]
  have g1 : rngI .i64 x4 := rng64 (by omega) (by omega)
  have g2 : rngI .i64 (hrV x5) := rng64 (by omega) (by omega)
  have g3 : IntKind.u32.wrap (x7.tdiv 8) = x7 / 8 := by rcases h7 with k | k <;> subst k <;> decide
  have g4 : rngI .i64 (IntKind.u32.wrap (x7.tdiv 8)) := by rw [g3]; exact rng64 (by omega) (by omega)
  have s1 : shI 0 x4 = x4 := rfl
  have s2 : shI 0 r = r := rfl
  have s3 : shI 0 (x7 / 8) = x7 / 8 := rfl
  rw [e, s1, s2, s3]
  (repeat' (first | (refine xI (fun hfk => ?_) (fun hfk => ?_) <;> ((try (first | replace hfk := oT hfk | replace hfk := oF hfk | simp only [oD, ne_eq, reduceCtorEq] at hfk)); (try exact oX))) | refine And.intro oZ ?_ | exact True.intro | (show _ = _; first | exact oY | (first | exact hr | exact g3 | rfl; done) | exact rfl) | exact oW | (apply And.intro)))
def fmP (x1 x2 x3 x6 x7 x8 x12 x13 : Int) : Prop := x1 = 0 ∧ x8 = 0 ∧ x12 = 0 ∧ x13 = 0 ∧ x2 = 54 ∧ x3 = 40 ∧ x6 = 1 ∧ (x7 = 24 ∨ x7 = 32)
instance (x1 x2 x3 x6 x7 x8 x12 x13 : Int) : Decidable (fmP x1 x2 x3 x6 x7 x8 x12 x13) := by unfold fmP; exact inferInstance
abbrev hformS : PSpec := fun l => match l with | [.rop (.agg [.int .u32 x0, .int .u32 x1, .int .u32 x2, .int .u32 x3, .int .u32 x4, .int .u32 x5, .int .u32 x6, .int .u32 x7, .int .u32 x8, .int .u32 x9, .int .u32 x10, .int .u32 x11, .int .u32 x12, .int .u32 x13])] => some ([], .bool (decide (fmP x1 x2 x3 x6 x7 x8 x12 x13))) | _ => none
theorem hform_s : SOK Tryz.prog 55 hformS := by
  refine sok_of (C := mkC 0 [] noG) (mkC_ok pok_nil noG_ok) rfl mixed ⟨Tryz.func55, by kernel_rfl, by kernel_rfl, by kernel_rfl⟩ fun l obs v h ho => ?_
  (unfold hformS at h; split at h; rotate_left; (focus (cases h)); rename_i x0 x1 x2 x3 x4 x5 x6 x7 x8 x9 x10 x11 x12 x13; simp only [Option.some.injEq, Prod.mk.injEq] at h; obtain ⟨rfl, rfl⟩ := h; simp only [List.mem_cons, List.not_mem_nil, or_false, forall_eq_or_imp, forall_eq, false_implies, implies_true] at ho)
  refine ⟨Nat.le_of_ble_eq_true rfl, ?_⟩
  (repeat' (first | (refine xI (fun hfk => ?_) (fun hfk => ?_) <;> ((try (first | replace hfk := oT hfk | replace hfk := oF hfk | simp only [oD, ne_eq, reduceCtorEq] at hfk)); (try exact oX))) | refine And.intro oZ ?_ | exact True.intro | (show _ = _; first | exact oY | exact rfl) | exact oW | (apply And.intro)))
  refine ⟨Nat, fun i => [(0, .rop (.agg [.int .u32 x0, .int .u32 x1, .int .u32 x2, .int .u32 x3, .int .u32 x4, .int .u32 x5, .int .u32 x6, .int .u32 x7, .int .u32 x8, .int .u32 x9, .int .u32 x10, .int .u32 x11, .int .u32 x12, .int .u32 x13])), (21, .agg [.int .u32 x1, .int .u32 x8, .int .u32 x12, .int .u32 x13]), (22, .int .i64 (i : Int))], fun i => ⟨0, []⟩, fun i => i ≤ 4 ∧ ∀ j, j < i → [x1, x8, x12, x13].getD j 0 = 0, fun i => 4 - i, ⟨0, [], ⟨by omega, fun j hj => by omega⟩, ?_⟩, fun i hi => ?_⟩
  · (repeat' (first | (refine And.intro ?_ ?_) | exact True.intro | (show _ = _; with_reducible rfl) | exact Chk.mk (by kernel_rfl)))
    all_goals rfl
  obtain ⟨i1, i2⟩ := hi
  have i1 : i ≤ 4 := i1
  by_cases hlt : i < 4
  · have ri : rngI .i64 ((i : Int) + 1) := rng64 (by omega) (by omega)
    by_cases hx : [x1, x8, x12, x13].getD i 0 = 0
    · have hx' : ¬ [x1, x8, x12, x13].getD (i : Int).toNat 0 ≠ 0 := fun k => k hx
      (repeat' (first | (refine xI (fun hfk => ?_) (fun hfk => ?_) <;> ((try (first | replace hfk := oT hfk | replace hfk := oF hfk | simp only [oD, ne_eq, reduceCtorEq] at hfk)); (try exact oX))) | refine And.intro oZ ?_ | exact True.intro | (show _ = _; first | exact oY | exact rfl) | exact oW | (apply And.intro)))
      refine ⟨i + 1, [], ⟨hlt, fun j hj => ?_⟩, ?mu, ?_⟩
      case mu => (show 4 - (i + 1) < 4 - i; omega)
      · by_cases hji : j = i
        · subst hji; exact hx
        · exact i2 j (by omega)
      (repeat' (first | (refine And.intro ?_ ?_) | exact True.intro | (show _ = _; with_reducible rfl) | exact Chk.mk (by kernel_rfl)))
      all_goals first | rfl | (show (_ : Int) = _; omega)
    · have hx' : [x1, x8, x12, x13].getD (i : Int).toNat 0 ≠ 0 := hx
      have hn : decide (fmP x1 x2 x3 x6 x7 x8 x12 x13) = false := decide_eq_false fun k => by
        obtain ⟨a1, a2, a3, a4, _⟩ := k
        have : i = 0 ∨ i = 1 ∨ i = 2 ∨ i = 3 := by omega
        rcases this with q | q | q | q <;> subst q
        · exact hx a1
        · exact hx a2
        · exact hx a3
        · exact hx a4
      rw [hn]
      (repeat' (first | (refine xI (fun hfk => ?_) (fun hfk => ?_) <;> ((try (first | replace hfk := oT hfk | replace hfk := oF hfk | simp only [oD, ne_eq, reduceCtorEq] at hfk)); (try exact oX))) | refine And.intro oZ ?_ | exact True.intro | (show _ = _; first | exact oY | exact rfl) | exact oW | (apply And.intro)))
  · have a1 : x1 = 0 := i2 0 (by omega)
    have a2 : x8 = 0 := i2 1 (by omega)
    have a3 : x12 = 0 := i2 2 (by omega)
    have a4 : x13 = 0 := i2 3 (by omega)
    by_cases b1 : x2 = 54
    · by_cases b2 : x3 = 40
      · by_cases b3 : x6 = 1
        · by_cases b4 : x7 = 24
          · have hn : decide (fmP x1 x2 x3 x6 x7 x8 x12 x13) = true := decide_eq_true ⟨a1, a2, a3, a4, b1, b2, b3, .inl b4⟩
            rw [hn]
            (repeat' (first | (refine xI (fun hfk => ?_) (fun hfk => ?_) <;> ((try (first | replace hfk := oT hfk | replace hfk := oF hfk | simp only [oD, ne_eq, reduceCtorEq] at hfk)); (try exact oX))) | refine And.intro oZ ?_ | exact True.intro | (show _ = _; first | exact oY | exact rfl) | exact oW | (apply And.intro)))
          · have hn : decide (fmP x1 x2 x3 x6 x7 x8 x12 x13) = decide (x7 = 32) := decide_eq_decide.2 ⟨fun k => k.2.2.2.2.2.2.2.elim (fun k => absurd k b4) id, fun k => ⟨a1, a2, a3, a4, b1, b2, b3, .inr k⟩⟩
            rw [hn]
            (repeat' (first | (refine xI (fun hfk => ?_) (fun hfk => ?_) <;> ((try (first | replace hfk := oT hfk | replace hfk := oF hfk | simp only [oD, ne_eq, reduceCtorEq] at hfk)); (try exact oX))) | refine And.intro oZ ?_ | exact True.intro | (show _ = _; first | exact oY | exact rfl) | exact oW | (apply And.intro)))
        · have hn : decide (fmP x1 x2 x3 x6 x7 x8 x12 x13) = false := decide_eq_false fun k => b3 k.2.2.2.2.2.2.1
          rw [hn]
          (repeat' (first | (refine xI (fun hfk => ?_) (fun hfk => ?_) <;> ((try (first | replace hfk := oT hfk | replace hfk := oF hfk | simp only [oD, ne_eq, reduceCtorEq] at hfk)); (try exact oX))) | refine And.intro oZ ?_ | exact True.intro | (show _ = _; first | exact oY | exact rfl) | exact oW | (apply And.intro)))
      · have hn : decide (fmP x1 x2 x3 x6 x7 x8 x12 x13) = false := decide_eq_false fun k => b2 k.2.2.2.2.2.1
        rw [hn]
        (repeat' (first | (refine xI (fun hfk => ?_) (fun hfk => ?_) <;> ((try (first | replace hfk := oT hfk | replace hfk := oF hfk | simp only [oD, ne_eq, reduceCtorEq] at hfk)); (try exact oX))) | refine And.intro oZ ?_ | exact True.intro | (show _ = _; first | exact oY | exact rfl) | exact oW | (apply And.intro)))
    · have hn : decide (fmP x1 x2 x3 x6 x7 x8 x12 x13) = false := decide_eq_false fun k => b1 k.2.2.2.2.1
      rw [hn]
      (repeat' (first | (refine xI (fun hfk => ?_) (fun hfk => ?_) <;> ((try (first | replace hfk := oT hfk | replace hfk := oF hfk | simp only [oD, ne_eq, reduceCtorEq] at hfk)); (try exact oX))) | refine And.intro oZ ?_ | exact True.intro | (show _ = _; first | exact oY | exact rfl) | exact oW | (apply And.intro)))
abbrev hsumsS : PSpec := fun l => match l with | [.rop (.agg [.int .u32 x0, .int .u32 x1, .int .u32 x2, .int .u32 x3, .int .u32 x4, .int .u32 x5, .int .u32 x6, .int .u32 x7, .int .u32 x8, .int .u32 x9, .int .u32 x10, .int .u32 x11, .int .u32 x12, .int .u32 x13]), .int .i64 all] => some ([54 ≤ all, all < 4294967296], .bool (decide (x0 = all ∧ (x9 = 0 ∨ x9 = all - 54)))) | _ => none
theorem hsums_s : SOK Tryz.prog 58 hsumsS := by
  refine sok_of (C := mkC 0 [] noG) (mkC_ok pok_nil noG_ok) rfl mixed ⟨Tryz.func58, by kernel_rfl, by kernel_rfl, by kernel_rfl⟩ fun l obs v h ho => ?_
  (unfold hsumsS at h; split at h; rotate_left; (focus (cases h)); rename_i x0 x1 x2 x3 x4 x5 x6 x7 x8 x9 x10 x11 x12 x13 all; simp only [Option.some.injEq, Prod.mk.injEq] at h; obtain ⟨rfl, rfl⟩ := h; simp only [List.mem_cons, List.not_mem_nil, or_false, forall_eq_or_imp, forall_eq, false_implies, implies_true] at ho)
  refine ⟨Nat.le_of_ble_eq_true rfl, ?_⟩
  obtain ⟨h0, h1⟩ := ho
  have r1 : rngI .i64 (all - 54) := rng64 (by omega) (by omega)
  have e1 : IntKind.u32.wrap (all - 54) = all - 54 := u32_id (by omega) (by omega)
  have e2 : IntKind.u32.wrap all = all := u32_id (by omega) h1
  by_cases b1 : x0 = all
  · by_cases b2 : x9 = 0
    · have hn : decide (x0 = all ∧ (x9 = 0 ∨ x9 = all - 54)) = true := decide_eq_true ⟨b1, .inl b2⟩
      rw [hn]
      (repeat' (first | (refine xI (fun hfk => ?_) (fun hfk => ?_) <;> ((try (first | replace hfk := oT hfk | replace hfk := oF hfk | simp only [oD, ne_eq, reduceCtorEq] at hfk)); (try exact oX))) | refine And.intro oZ ?_ | exact True.intro | (show _ = _; first | exact oY | exact rfl) | exact oW | (apply And.intro)))
    · have hn : decide (x9 = IntKind.u32.wrap (all - 54)) = decide (x0 = all ∧ (x9 = 0 ∨ x9 = all - 54)) := by
        rw [e1]; exact decide_eq_decide.2 ⟨fun k => ⟨b1, .inr k⟩, fun k => k.2.elim (fun k => absurd k b2) id⟩
      (repeat' (first | (refine xI (fun hfk => ?_) (fun hfk => ?_) <;> ((try (first | replace hfk := oT hfk | replace hfk := oF hfk | simp only [oD, ne_eq, reduceCtorEq] at hfk)); (try exact oX))) | refine And.intro oZ ?_ | exact True.intro | (show _ = _; first | exact oY | (exact hn; done) | exact rfl) | exact oW | (apply And.intro)))
  · have hn : decide (x0 = all ∧ (x9 = 0 ∨ x9 = all - 54)) = false := decide_eq_false fun k => b1 k.1
    have b1' : ¬ x0 = IntKind.u32.wrap all := by rw [e2]; exact b1
    rw [hn]
    (repeat' (first | (refine xI (fun hfk => ?_) (fun hfk => ?_) <;> ((try (first | replace hfk := oT hfk | replace hfk := oF hfk | simp only [oD, ne_eq, reduceCtorEq] at hfk)); (try exact oX))) | refine And.intro oZ ?_ | exact True.intro | (show _ = _; first | exact oY | exact rfl) | exact oW | (apply And.intro)))
abbrev hdEn (x0 x1 x2 x3 x4 x5 x6 x7 x8 x9 x10 x11 x12 x13 : Int) : Ent := .cells 89 [.int .u32 x0, .int .u32 x1, .int .u32 x2, .int .u32 x3, .int .u32 x4, .int .u32 x5, .int .u32 x6, .int .u32 x7, .int .u32 x8, .int .u32 x9, .int .u32 x10, .int .u32 x11, .int .u32 x12, .int .u32 x13]
def fieldsF : FSpec := fun l es => match l, es with
  | [.ptr 0 0], [.cells 89 [.int .u32 x0, .int .u32 x1, .int .u32 x2, .int .u32 x3, .int .u32 x4, .int .u32 x5, .int .u32 x6, .int .u32 x7, .int .u32 x8, .int .u32 x9, .int .u32 x10, .int .u32 x11, .int .u32 x12, .int .u32 x13]] => some ([], .sl 1 2 0 14, [some (hdEn x0 x1 x2 x3 x4 x5 x6 x7 x8 x9 x10 x11 x12 x13), some (.cells 131 [.ptr 0 0, .int .i64 4, .ptr 0 1, .int .i64 4, .ptr 0 2, .int .i64 4, .ptr 0 3, .int .i64 4, .ptr 0 4, .int .i64 4, .ptr 0 5, .int .i64 4, .ptr 0 6, .int .i64 2, .ptr 0 7, .int .i64 2, .ptr 0 8, .int .i64 4, .ptr 0 9, .int .i64 4, .ptr 0 10, .int .i64 4, .ptr 0 11, .int .i64 4, .ptr 0 12, .int .i64 4, .ptr 0 13, .int .i64 4])])
  | _, _ => none
theorem fields_g : GSOK Tryz.prog 90 (fG fieldsF) := by
  refine fokE (S := []) (G := noG) [] [] [] pok_nil noG_ok dl_nil ⟨Tryz.func90, by kernel_rfl, by kernel_rfl, by kernel_rfl⟩ fun l es obs v es' h ho => ?_
  (unfold fieldsF at h; split at h; rotate_left; (focus (cases h)); rename_i x0 x1 x2 x3 x4 x5 x6 x7 x8 x9 x10 x11 x12 x13; simp only [Option.some.injEq, Prod.mk.injEq] at h; obtain ⟨rfl, rfl, rfl⟩ := h; simp only [List.mem_cons, List.not_mem_nil, or_false, forall_eq_or_imp, forall_eq, false_implies, implies_true] at ho)
  refine ⟨Nat.le_of_ble_eq_true rfl, ?_⟩
  (repeat' (first | (refine xI (fun hfk => ?_) (fun hfk => ?_) <;> ((try (first | replace hfk := oT hfk | replace hfk := oF hfk | simp only [oD, ne_eq, reduceCtorEq] at hfk)); (try exact oX))) | refine And.intro oZ ?_ | exact True.intro | (show _ = _; first | exact oY | exact rfl) | exact oW | (apply And.intro)))
  refine ⟨[some 0, some 1], ?_⟩
  (repeat' (first | (refine xI (fun hfk => ?_) (fun hfk => ?_) <;> ((try (first | replace hfk := oT hfk | replace hfk := oF hfk | simp only [oD, ne_eq, reduceCtorEq] at hfk)); (try exact oX))) | refine And.intro oZ ?_ | exact True.intro | (show _ = _; first | exact oY | exact rfl) | exact oW | (apply And.intro)))
end Go.Proofs.YtljdahepmmgfeaaGreatDoor
namespace Go.Proofs.YtljdahepmmgfeaaGreatDoor
open Go Go.RowKit
set_option maxHeartbeats 4000000
def offs (i : Nat) : Int := [0, 4, 8, 12, 16, 20, 24, 26, 28, 32, 36, 40, 44, 48, 52].getD i 0
def hsel (i j : Nat) (F x : Int) : Int := bif Nat.blt j i then F else x
theorem cR0 (b : List Int) : cR b 0 = b := by simp
theorem low_at {b : List Int} {a k : Int} (h0 : 0 ≤ a) (h1 : 1 ≤ k) (h4 : k ≤ 4) (h : a + k ≤ b.length) : lowC k (cR b a).length = 0 ∧ lowV ((cR b a).take k.toNat) = lw b a k := by
  have el : (cR b a).length = b.length - a.toNat := by simp
  refine ⟨by unfold lowC; rw [if_neg (by omega), if_neg (by omega)], ?_⟩
  unfold lw cR
  rw [List.take_take, Nat.min_eq_left (by omega)]
def tkC (b : List Int) : Int := if wordC b [66, 77] ≠ 0 then wordC b [66, 77] else if b.length < 54 then 20 else 0
def tkA (b : List Int) : Int := if wordC b [66, 77] ≠ 0 then 0 else if b.length < 54 then 2 else 54
abbrev cut2 (n : Nat) (a : Int) : Ent := .cells 120 [.sl 2 1 0 n, .int .i64 a]
def takeHF : FSpec := fun l es => match l, es with
  | [.ptr 0 0, .ptr 1 0], [.cells 89 [.int .u32 x0, .int .u32 x1, .int .u32 x2, .int .u32 x3, .int .u32 x4, .int .u32 x5, .int .u32 x6, .int .u32 x7, .int .u32 x8, .int .u32 x9, .int .u32 x10, .int .u32 x11, .int .u32 x12, .int .u32 x13], .cells 120 [.sl 2 1 0 n, .int .i64 a], .ints 5 .u8 b] =>
    some ([n = b.length, a = 0, Byt b], .int .i64 (tkC b), [some (.cells 89 [.int .u32 (if tkC b = 0 then lw b 2 4 else x0), .int .u32 (if tkC b = 0 then lw b 6 4 else x1), .int .u32 (if tkC b = 0 then lw b 10 4 else x2), .int .u32 (if tkC b = 0 then lw b 14 4 else x3), .int .u32 (if tkC b = 0 then lw b 18 4 else x4), .int .u32 (if tkC b = 0 then lw b 22 4 else x5), .int .u32 (if tkC b = 0 then lw b 26 2 else x6), .int .u32 (if tkC b = 0 then lw b 28 2 else x7), .int .u32 (if tkC b = 0 then lw b 30 4 else x8), .int .u32 (if tkC b = 0 then lw b 34 4 else x9), .int .u32 (if tkC b = 0 then lw b 38 4 else x10), .int .u32 (if tkC b = 0 then lw b 42 4 else x11), .int .u32 (if tkC b = 0 then lw b 46 4 else x12), .int .u32 (if tkC b = 0 then lw b 50 4 else x13)]), some (cut2 n (tkA b)), some (bE b)])
  | _, _ => none
theorem takeH_g : GSOK Tryz.prog 54 (fG takeHF) := by
  refine fokE (S := [(52, leftS)]) (G := glook [(89, fG cwordF), (90, fG fieldsF)]) [(91, clowF)] [] [] (pok_cons left_s pok_nil) (gl_cons cword_g (gl_cons fields_g gl_nil)) (dl_cons clow_g dl_nil) ⟨Tryz.func54, by kernel_rfl, by kernel_rfl, by kernel_rfl⟩ fun l es obs v es' h ho => ?_
  (unfold takeHF at h; split at h; rotate_left; (focus (cases h)); rename_i x0 x1 x2 x3 x4 x5 x6 x7 x8 x9 x10 x11 x12 x13 n a b; simp only [Option.some.injEq, Prod.mk.injEq] at h; obtain ⟨rfl, rfl, rfl⟩ := h; simp only [List.mem_cons, List.not_mem_nil, or_false, forall_eq_or_imp, forall_eq, false_implies, implies_true] at ho)
  obtain ⟨rfl, rfl, hb⟩ := ho
  have bl := hb.le
  have bb := hb.bd
  refine ⟨Nat.le_of_ble_eq_true rfl, ?_⟩
  have es : strI (ByteArray.mk #[66, 77]).data.toList = [66, 77] := rfl
  have hw0 : wordC (cR b 0) (strI (ByteArray.mk #[66, 77]).data.toList) = wordC b [66, 77] := by rw [cR0]; rfl
  have hwn : wordN (cR b 0) (ByteArray.mk #[66, 77]).data.toList = if wordC b [66, 77] = 0 then 2 else 0 := by unfold wordN; rw [hw0]; rfl
  have : (List.take (b).length (List.drop 0 (b))).length = (b).length := by simp
  by_cases k1 : wordC b [66, 77] = 0
  rotate_left
  · have e : tkC b = wordC b [66, 77] := if_pos k1
    have e2 : tkA b = 0 := if_pos k1
    have hw1 : ¬ wordC (cR b 0) (strI (ByteArray.mk #[66, 77]).data.toList) = 0 := by rw [hw0]; exact k1
    have hx : ∀ F x : Int, x = if tkC b = 0 then F else x := fun F x => by rw [e, if_neg k1]
    have hr : wordC (cR b 0) (strI (ByteArray.mk #[66, 77]).data.toList) = tkC b := by rw [hw0, e]
    have ha : (0 : Int) + wordN (cR b 0) (ByteArray.mk #[66, 77]).data.toList = tkA b := by rw [hwn, e2, if_neg k1]; rfl
    (repeat' (first | (refine xI (fun hfk => ?_) (fun hfk => ?_) <;> ((try (first | replace hfk := oT hfk | replace hfk := oF hfk | simp only [oD, ne_eq, reduceCtorEq] at hfk)); (try exact oX))) | refine And.intro oZ ?_ | exact True.intro | (show _ = _; first | exact oY | exact rfl) | exact oW | (apply And.intro)))
    (refine ⟨[1, 2], ⟨by kernel_rfl⟩, ?_⟩)
    (repeat' (first | (refine xI (fun hfk => ?_) (fun hfk => ?_) <;> ((try (first | replace hfk := oT hfk | replace hfk := oF hfk | simp only [oD, ne_eq, reduceCtorEq] at hfk)); (try exact oX))) | refine And.intro oZ ?_ | exact True.intro | (show _ = _; first | exact oY | exact rfl) | exact oW | (apply And.intro)))
    refine ⟨[some 0, some 1, some 2], ?_⟩
    (repeat' (first | (refine And.intro ?_ ?_) | exact True.intro | (show _ = _; with_reducible rfl) | exact Chk.mk (by kernel_rfl)))
    all_goals first | rfl | exact hr | exact ha | exact hx _ _
  have hw2 : wordN (cR b 0) (ByteArray.mk #[66, 77]).data.toList = 2 := by rw [hwn, if_pos k1]
  have hw3 : wordC (cR b 0) (strI (ByteArray.mk #[66, 77]).data.toList) = 0 := by rw [hw0]; exact k1
  have hl2 : 2 ≤ b.length := by have := wordC_le k1; simpa using this
  have ra : rngI .i64 ((0 : Int) + wordN (cR b 0) (ByteArray.mk #[66, 77]).data.toList) := by rw [hw2]; exact rng64 (by decide) (by decide)
  by_cases k2 : b.length < 54
  · have e : tkC b = 20 := by unfold tkC; rw [if_neg (fun k => k k1), if_pos k2]
    have e2 : tkA b = 2 := by unfold tkA; rw [if_neg (fun k => k k1), if_pos k2]
    have hx : ∀ F x : Int, x = if tkC b = 0 then F else x := fun F x => by rw [e]; rfl
    have hr : (20 : Int) = tkC b := e.symm
    have ha : (0 : Int) + wordN (cR b 0) (ByteArray.mk #[66, 77]).data.toList = tkA b := by rw [hw2, e2]; rfl
    (repeat' (first | (refine xI (fun hfk => ?_) (fun hfk => ?_) <;> ((try (first | replace hfk := oT hfk | replace hfk := oF hfk | simp only [oD, ne_eq, reduceCtorEq] at hfk)); (try exact oX))) | refine And.intro oZ ?_ | exact True.intro | (show _ = _; first | exact oY | exact rfl) | exact oW | (apply And.intro)))
    (refine ⟨[1, 2], ⟨by kernel_rfl⟩, ?_⟩)
    (repeat' (first | (refine xI (fun hfk => ?_) (fun hfk => ?_) <;> ((try (first | replace hfk := oT hfk | replace hfk := oF hfk | simp only [oD, ne_eq, reduceCtorEq] at hfk)); (try exact oX))) | refine And.intro oZ ?_ | exact True.intro | (show _ = _; first | exact oY | exact rfl) | exact oW | (apply And.intro)))
    refine ⟨[some 0, some 1, some 2], ?_⟩
    (repeat' (first | (refine And.intro ?_ ?_) | exact True.intro | (show _ = _; with_reducible rfl) | exact Chk.mk (by kernel_rfl)))
    all_goals first | rfl | exact hr | exact ha | exact hx _ _
  have e : tkC b = 0 := by unfold tkC; rw [if_neg (fun k => k k1), if_neg k2]
  have e2 : tkA b = 54 := by unfold tkA; rw [if_neg (fun k => k k1), if_neg k2]
  have hr : (0 : Int) = tkC b := e.symm
  (repeat' (first | (refine xI (fun hfk => ?_) (fun hfk => ?_) <;> ((try (first | replace hfk := oT hfk | replace hfk := oF hfk | simp only [oD, ne_eq, reduceCtorEq] at hfk)); (try exact oX))) | refine And.intro oZ ?_ | exact True.intro | (show _ = _; first | exact oY | exact rfl) | exact oW | (apply And.intro)))
  (refine ⟨[1, 2], ⟨by kernel_rfl⟩, ?_⟩)
  (repeat' (first | (refine xI (fun hfk => ?_) (fun hfk => ?_) <;> ((try (first | replace hfk := oT hfk | replace hfk := oF hfk | simp only [oD, ne_eq, reduceCtorEq] at hfk)); (try exact oX))) | refine And.intro oZ ?_ | exact True.intro | (show _ = _; first | exact oY | exact rfl) | exact oW | (apply And.intro)))
  (refine ⟨[0], ⟨by kernel_rfl⟩, ?_⟩)
  (repeat' (first | (refine xI (fun hfk => ?_) (fun hfk => ?_) <;> ((try (first | replace hfk := oT hfk | replace hfk := oF hfk | simp only [oD, ne_eq, reduceCtorEq] at hfk)); (try exact oX))) | refine And.intro oZ ?_ | exact True.intro | (show _ = _; first | exact oY | exact rfl) | exact oW | (apply And.intro)))
  have ha0 : (0 : Int) + wordN (cR b 0) (ByteArray.mk #[66, 77]).data.toList = 2 + offs 0 := by rw [hw2]; rfl
  refine ⟨Nat, fun i => [(0, .ptr 0 0), (1, .ptr 1 0), (17, .sl 3 2 0 14), (18, .int .i64 14), (19, .int .i64 (i : Int))],
    fun i => ⟨4, [(0, some (.cells 89 [.int .u32 (hsel i 0 (lw b (2 + offs 0) 4) x0), .int .u32 (hsel i 1 (lw b (2 + offs 1) 4) x1), .int .u32 (hsel i 2 (lw b (2 + offs 2) 4) x2), .int .u32 (hsel i 3 (lw b (2 + offs 3) 4) x3), .int .u32 (hsel i 4 (lw b (2 + offs 4) 4) x4), .int .u32 (hsel i 5 (lw b (2 + offs 5) 4) x5), .int .u32 (hsel i 6 (lw b (2 + offs 6) 2) x6), .int .u32 (hsel i 7 (lw b (2 + offs 7) 2) x7), .int .u32 (hsel i 8 (lw b (2 + offs 8) 4) x8), .int .u32 (hsel i 9 (lw b (2 + offs 9) 4) x9), .int .u32 (hsel i 10 (lw b (2 + offs 10) 4) x10), .int .u32 (hsel i 11 (lw b (2 + offs 11) 4) x11), .int .u32 (hsel i 12 (lw b (2 + offs 12) 4) x12), .int .u32 (hsel i 13 (lw b (2 + offs 13) 4) x13)])), (1, some (cut2 b.length (2 + offs i))), (2, some (bE b)), (3, some (.cells 131 [.ptr 0 0, .int .i64 4, .ptr 0 1, .int .i64 4, .ptr 0 2, .int .i64 4, .ptr 0 3, .int .i64 4, .ptr 0 4, .int .i64 4, .ptr 0 5, .int .i64 4, .ptr 0 6, .int .i64 2, .ptr 0 7, .int .i64 2, .ptr 0 8, .int .i64 4, .ptr 0 9, .int .i64 4, .ptr 0 10, .int .i64 4, .ptr 0 11, .int .i64 4, .ptr 0 12, .int .i64 4, .ptr 0 13, .int .i64 4]))]⟩,
    fun i => i ≤ 14, fun i => 14 - i, ⟨0, [some 0, some 1, some 2, some 3], by omega, ?_⟩, fun i hi => ?_⟩
  · (repeat' (first | (refine And.intro ?_ ?_) | exact True.intro | (show _ = _; with_reducible rfl) | exact Chk.mk (by kernel_rfl)))
    all_goals first | rfl | exact ha0
  have hi : i ≤ 14 := hi
  have hc : i = 0 ∨ i = 1 ∨ i = 2 ∨ i = 3 ∨ i = 4 ∨ i = 5 ∨ i = 6 ∨ i = 7 ∨ i = 8 ∨ i = 9 ∨ i = 10 ∨ i = 11 ∨ i = 12 ∨ i = 13 ∨ i = 14 := by omega
  rcases hc with q | q | q | q | q | q | q | q | q | q | q | q | q | q | q <;> subst q
  · have p0 : offs 0 = 0 := rfl
    have p1 : offs 1 = 4 := rfl
    obtain ⟨f1, f2⟩ := low_at (b := b) (a := 2 + offs 0) (k := 4) (by omega) (by omega) (by omega) (by omega)
    have v1 : (if lowC 4 (cR b (2 + offs 0)).length = 0 then lowV ((cR b (2 + offs 0)).take (4 : Int).toNat) else 0) = lw b (2 + offs 0) 4 := by rw [if_pos f1, f2]
    have v2 : 2 + offs 0 + (if lowC 4 (cR b (2 + offs 0)).length = 0 then 4 else 0) = 2 + offs 1 := by rw [if_pos f1]; rfl
    (repeat' (first | (refine xI (fun hfk => ?_) (fun hfk => ?_) <;> ((try (first | replace hfk := oT hfk | replace hfk := oF hfk | simp only [oD, ne_eq, reduceCtorEq] at hfk)); (try exact oX))) | refine And.intro oZ ?_ | exact True.intro | (show _ = _; first | exact oY | (exact bb; done) | exact rfl) | exact oW | (apply And.intro)))
    refine ⟨1, [some 0, some 1, some 2, some 3], by omega, ?mu, ?_⟩
    case mu => (show 14 - 1 < 14 - 0; omega)
    (repeat' (first | (refine And.intro ?_ ?_) | exact True.intro | (show _ = _; with_reducible rfl) | exact Chk.mk (by kernel_rfl)))
    all_goals first | rfl | exact v1 | exact v2
  · have p0 : offs 1 = 4 := rfl
    have p1 : offs 2 = 8 := rfl
    obtain ⟨f1, f2⟩ := low_at (b := b) (a := 2 + offs 1) (k := 4) (by omega) (by omega) (by omega) (by omega)
    have v1 : (if lowC 4 (cR b (2 + offs 1)).length = 0 then lowV ((cR b (2 + offs 1)).take (4 : Int).toNat) else 0) = lw b (2 + offs 1) 4 := by rw [if_pos f1, f2]
    have v2 : 2 + offs 1 + (if lowC 4 (cR b (2 + offs 1)).length = 0 then 4 else 0) = 2 + offs 2 := by rw [if_pos f1]; rfl
    (repeat' (first | (refine xI (fun hfk => ?_) (fun hfk => ?_) <;> ((try (first | replace hfk := oT hfk | replace hfk := oF hfk | simp only [oD, ne_eq, reduceCtorEq] at hfk)); (try exact oX))) | refine And.intro oZ ?_ | exact True.intro | (show _ = _; first | exact oY | (exact bb; done) | exact rfl) | exact oW | (apply And.intro)))
    refine ⟨2, [some 0, some 1, some 2, some 3], by omega, ?mu, ?_⟩
    case mu => (show 14 - 2 < 14 - 1; omega)
    (repeat' (first | (refine And.intro ?_ ?_) | exact True.intro | (show _ = _; with_reducible rfl) | exact Chk.mk (by kernel_rfl)))
    all_goals first | rfl | exact v1 | exact v2
  · have p0 : offs 2 = 8 := rfl
    have p1 : offs 3 = 12 := rfl
    obtain ⟨f1, f2⟩ := low_at (b := b) (a := 2 + offs 2) (k := 4) (by omega) (by omega) (by omega) (by omega)
    have v1 : (if lowC 4 (cR b (2 + offs 2)).length = 0 then lowV ((cR b (2 + offs 2)).take (4 : Int).toNat) else 0) = lw b (2 + offs 2) 4 := by rw [if_pos f1, f2]
    have v2 : 2 + offs 2 + (if lowC 4 (cR b (2 + offs 2)).length = 0 then 4 else 0) = 2 + offs 3 := by rw [if_pos f1]; rfl
    (repeat' (first | (refine xI (fun hfk => ?_) (fun hfk => ?_) <;> ((try (first | replace hfk := oT hfk | replace hfk := oF hfk | simp only [oD, ne_eq, reduceCtorEq] at hfk)); (try exact oX))) | refine And.intro oZ ?_ | exact True.intro | (show _ = _; first | exact oY | (exact bb; done) | exact rfl) | exact oW | (apply And.intro)))
    refine ⟨3, [some 0, some 1, some 2, some 3], by omega, ?mu, ?_⟩
    case mu => (show 14 - 3 < 14 - 2; omega)
    (repeat' (first | (refine And.intro ?_ ?_) | exact True.intro | (show _ = _; with_reducible rfl) | exact Chk.mk (by kernel_rfl)))
    all_goals first | rfl | exact v1 | exact v2
  · have p0 : offs 3 = 12 := rfl
    have p1 : offs 4 = 16 := rfl
    obtain ⟨f1, f2⟩ := low_at (b := b) (a := 2 + offs 3) (k := 4) (by omega) (by omega) (by omega) (by omega)
    have v1 : (if lowC 4 (cR b (2 + offs 3)).length = 0 then lowV ((cR b (2 + offs 3)).take (4 : Int).toNat) else 0) = lw b (2 + offs 3) 4 := by rw [if_pos f1, f2]
    have v2 : 2 + offs 3 + (if lowC 4 (cR b (2 + offs 3)).length = 0 then 4 else 0) = 2 + offs 4 := by rw [if_pos f1]; rfl
    (repeat' (first | (refine xI (fun hfk => ?_) (fun hfk => ?_) <;> ((try (first | replace hfk := oT hfk | replace hfk := oF hfk | simp only [oD, ne_eq, reduceCtorEq] at hfk)); (try exact oX))) | refine And.intro oZ ?_ | exact True.intro | (show _ = _; first | exact oY | (exact bb; done) | exact rfl) | exact oW | (apply And.intro)))
    refine ⟨4, [some 0, some 1, some 2, some 3], by omega, ?mu, ?_⟩
    case mu => (show 14 - 4 < 14 - 3; omega)
    (repeat' (first | (refine And.intro ?_ ?_) | exact True.intro | (show _ = _; with_reducible rfl) | exact Chk.mk (by kernel_rfl)))
    all_goals first | rfl | exact v1 | exact v2
  · have p0 : offs 4 = 16 := rfl
    have p1 : offs 5 = 20 := rfl
    obtain ⟨f1, f2⟩ := low_at (b := b) (a := 2 + offs 4) (k := 4) (by omega) (by omega) (by omega) (by omega)
    have v1 : (if lowC 4 (cR b (2 + offs 4)).length = 0 then lowV ((cR b (2 + offs 4)).take (4 : Int).toNat) else 0) = lw b (2 + offs 4) 4 := by rw [if_pos f1, f2]
    have v2 : 2 + offs 4 + (if lowC 4 (cR b (2 + offs 4)).length = 0 then 4 else 0) = 2 + offs 5 := by rw [if_pos f1]; rfl
    (repeat' (first | (refine xI (fun hfk => ?_) (fun hfk => ?_) <;> ((try (first | replace hfk := oT hfk | replace hfk := oF hfk | simp only [oD, ne_eq, reduceCtorEq] at hfk)); (try exact oX))) | refine And.intro oZ ?_ | exact True.intro | (show _ = _; first | exact oY | (exact bb; done) | exact rfl) | exact oW | (apply And.intro)))
    refine ⟨5, [some 0, some 1, some 2, some 3], by omega, ?mu, ?_⟩
    case mu => (show 14 - 5 < 14 - 4; omega)
    (repeat' (first | (refine And.intro ?_ ?_) | exact True.intro | (show _ = _; with_reducible rfl) | exact Chk.mk (by kernel_rfl)))
    all_goals first | rfl | exact v1 | exact v2
  · have p0 : offs 5 = 20 := rfl
    have p1 : offs 6 = 24 := rfl
    obtain ⟨f1, f2⟩ := low_at (b := b) (a := 2 + offs 5) (k := 4) (by omega) (by omega) (by omega) (by omega)
    have v1 : (if lowC 4 (cR b (2 + offs 5)).length = 0 then lowV ((cR b (2 + offs 5)).take (4 : Int).toNat) else 0) = lw b (2 + offs 5) 4 := by rw [if_pos f1, f2]
    have v2 : 2 + offs 5 + (if lowC 4 (cR b (2 + offs 5)).length = 0 then 4 else 0) = 2 + offs 6 := by rw [if_pos f1]; rfl
    (repeat' (first | (refine xI (fun hfk => ?_) (fun hfk => ?_) <;> ((try (first | replace hfk := oT hfk | replace hfk := oF hfk | simp only [oD, ne_eq, reduceCtorEq] at hfk)); (try exact oX))) | refine And.intro oZ ?_ | exact True.intro | (show _ = _; first | exact oY | (exact bb; done) | exact rfl) | exact oW | (apply And.intro)))
    refine ⟨6, [some 0, some 1, some 2, some 3], by omega, ?mu, ?_⟩
    case mu => (show 14 - 6 < 14 - 5; omega)
    (repeat' (first | (refine And.intro ?_ ?_) | exact True.intro | (show _ = _; with_reducible rfl) | exact Chk.mk (by kernel_rfl)))
    all_goals first | rfl | exact v1 | exact v2
  · have p0 : offs 6 = 24 := rfl
    have p1 : offs 7 = 26 := rfl
    obtain ⟨f1, f2⟩ := low_at (b := b) (a := 2 + offs 6) (k := 2) (by omega) (by omega) (by omega) (by omega)
    have v1 : (if lowC 2 (cR b (2 + offs 6)).length = 0 then lowV ((cR b (2 + offs 6)).take (2 : Int).toNat) else 0) = lw b (2 + offs 6) 2 := by rw [if_pos f1, f2]
    have v2 : 2 + offs 6 + (if lowC 2 (cR b (2 + offs 6)).length = 0 then 2 else 0) = 2 + offs 7 := by rw [if_pos f1]; rfl
    (repeat' (first | (refine xI (fun hfk => ?_) (fun hfk => ?_) <;> ((try (first | replace hfk := oT hfk | replace hfk := oF hfk | simp only [oD, ne_eq, reduceCtorEq] at hfk)); (try exact oX))) | refine And.intro oZ ?_ | exact True.intro | (show _ = _; first | exact oY | (exact bb; done) | exact rfl) | exact oW | (apply And.intro)))
    refine ⟨7, [some 0, some 1, some 2, some 3], by omega, ?mu, ?_⟩
    case mu => (show 14 - 7 < 14 - 6; omega)
    (repeat' (first | (refine And.intro ?_ ?_) | exact True.intro | (show _ = _; with_reducible rfl) | exact Chk.mk (by kernel_rfl)))
    all_goals first | rfl | exact v1 | exact v2
  · have p0 : offs 7 = 26 := rfl
    have p1 : offs 8 = 28 := rfl
    obtain ⟨f1, f2⟩ := low_at (b := b) (a := 2 + offs 7) (k := 2) (by omega) (by omega) (by omega) (by omega)
    have v1 : (if lowC 2 (cR b (2 + offs 7)).length = 0 then lowV ((cR b (2 + offs 7)).take (2 : Int).toNat) else 0) = lw b (2 + offs 7) 2 := by rw [if_pos f1, f2]
    have v2 : 2 + offs 7 + (if lowC 2 (cR b (2 + offs 7)).length = 0 then 2 else 0) = 2 + offs 8 := by rw [if_pos f1]; rfl
    (repeat' (first | (refine xI (fun hfk => ?_) (fun hfk => ?_) <;> ((try (first | replace hfk := oT hfk | replace hfk := oF hfk | simp only [oD, ne_eq, reduceCtorEq] at hfk)); (try exact oX))) | refine And.intro oZ ?_ | exact True.intro | (show _ = _; first | exact oY | (exact bb; done) | exact rfl) | exact oW | (apply And.intro)))
    refine ⟨8, [some 0, some 1, some 2, some 3], by omega, ?mu, ?_⟩
    case mu => (show 14 - 8 < 14 - 7; omega)
    (repeat' (first | (refine And.intro ?_ ?_) | exact True.intro | (show _ = _; with_reducible rfl) | exact Chk.mk (by kernel_rfl)))
    all_goals first | rfl | exact v1 | exact v2
  · have p0 : offs 8 = 28 := rfl
    have p1 : offs 9 = 32 := rfl
    obtain ⟨f1, f2⟩ := low_at (b := b) (a := 2 + offs 8) (k := 4) (by omega) (by omega) (by omega) (by omega)
    have v1 : (if lowC 4 (cR b (2 + offs 8)).length = 0 then lowV ((cR b (2 + offs 8)).take (4 : Int).toNat) else 0) = lw b (2 + offs 8) 4 := by rw [if_pos f1, f2]
    have v2 : 2 + offs 8 + (if lowC 4 (cR b (2 + offs 8)).length = 0 then 4 else 0) = 2 + offs 9 := by rw [if_pos f1]; rfl
    (repeat' (first | (refine xI (fun hfk => ?_) (fun hfk => ?_) <;> ((try (first | replace hfk := oT hfk | replace hfk := oF hfk | simp only [oD, ne_eq, reduceCtorEq] at hfk)); (try exact oX))) | refine And.intro oZ ?_ | exact True.intro | (show _ = _; first | exact oY | (exact bb; done) | exact rfl) | exact oW | (apply And.intro)))
    refine ⟨9, [some 0, some 1, some 2, some 3], by omega, ?mu, ?_⟩
    case mu => (show 14 - 9 < 14 - 8; omega)
    (repeat' (first | (refine And.intro ?_ ?_) | exact True.intro | (show _ = _; with_reducible rfl) | exact Chk.mk (by kernel_rfl)))
    all_goals first | rfl | exact v1 | exact v2
  · have p0 : offs 9 = 32 := rfl
    have p1 : offs 10 = 36 := rfl
    obtain ⟨f1, f2⟩ := low_at (b := b) (a := 2 + offs 9) (k := 4) (by omega) (by omega) (by omega) (by omega)
    have v1 : (if lowC 4 (cR b (2 + offs 9)).length = 0 then lowV ((cR b (2 + offs 9)).take (4 : Int).toNat) else 0) = lw b (2 + offs 9) 4 := by rw [if_pos f1, f2]
    have v2 : 2 + offs 9 + (if lowC 4 (cR b (2 + offs 9)).length = 0 then 4 else 0) = 2 + offs 10 := by rw [if_pos f1]; rfl
    (repeat' (first | (refine xI (fun hfk => ?_) (fun hfk => ?_) <;> ((try (first | replace hfk := oT hfk | replace hfk := oF hfk | simp only [oD, ne_eq, reduceCtorEq] at hfk)); (try exact oX))) | refine And.intro oZ ?_ | exact True.intro | (show _ = _; first | exact oY | (exact bb; done) | exact rfl) | exact oW | (apply And.intro)))
    refine ⟨10, [some 0, some 1, some 2, some 3], by omega, ?mu, ?_⟩
    case mu => (show 14 - 10 < 14 - 9; omega)
    (repeat' (first | (refine And.intro ?_ ?_) | exact True.intro | (show _ = _; with_reducible rfl) | exact Chk.mk (by kernel_rfl)))
    all_goals first | rfl | exact v1 | exact v2
  · have p0 : offs 10 = 36 := rfl
    have p1 : offs 11 = 40 := rfl
    obtain ⟨f1, f2⟩ := low_at (b := b) (a := 2 + offs 10) (k := 4) (by omega) (by omega) (by omega) (by omega)
    have v1 : (if lowC 4 (cR b (2 + offs 10)).length = 0 then lowV ((cR b (2 + offs 10)).take (4 : Int).toNat) else 0) = lw b (2 + offs 10) 4 := by rw [if_pos f1, f2]
    have v2 : 2 + offs 10 + (if lowC 4 (cR b (2 + offs 10)).length = 0 then 4 else 0) = 2 + offs 11 := by rw [if_pos f1]; rfl
    (repeat' (first | (refine xI (fun hfk => ?_) (fun hfk => ?_) <;> ((try (first | replace hfk := oT hfk | replace hfk := oF hfk | simp only [oD, ne_eq, reduceCtorEq] at hfk)); (try exact oX))) | refine And.intro oZ ?_ | exact True.intro | (show _ = _; first | exact oY | (exact bb; done) | exact rfl) | exact oW | (apply And.intro)))
    refine ⟨11, [some 0, some 1, some 2, some 3], by omega, ?mu, ?_⟩
    case mu => (show 14 - 11 < 14 - 10; omega)
    (repeat' (first | (refine And.intro ?_ ?_) | exact True.intro | (show _ = _; with_reducible rfl) | exact Chk.mk (by kernel_rfl)))
    all_goals first | rfl | exact v1 | exact v2
  · have p0 : offs 11 = 40 := rfl
    have p1 : offs 12 = 44 := rfl
    obtain ⟨f1, f2⟩ := low_at (b := b) (a := 2 + offs 11) (k := 4) (by omega) (by omega) (by omega) (by omega)
    have v1 : (if lowC 4 (cR b (2 + offs 11)).length = 0 then lowV ((cR b (2 + offs 11)).take (4 : Int).toNat) else 0) = lw b (2 + offs 11) 4 := by rw [if_pos f1, f2]
    have v2 : 2 + offs 11 + (if lowC 4 (cR b (2 + offs 11)).length = 0 then 4 else 0) = 2 + offs 12 := by rw [if_pos f1]; rfl
    (repeat' (first | (refine xI (fun hfk => ?_) (fun hfk => ?_) <;> ((try (first | replace hfk := oT hfk | replace hfk := oF hfk | simp only [oD, ne_eq, reduceCtorEq] at hfk)); (try exact oX))) | refine And.intro oZ ?_ | exact True.intro | (show _ = _; first | exact oY | (exact bb; done) | exact rfl) | exact oW | (apply And.intro)))
    refine ⟨12, [some 0, some 1, some 2, some 3], by omega, ?mu, ?_⟩
    case mu => (show 14 - 12 < 14 - 11; omega)
    (repeat' (first | (refine And.intro ?_ ?_) | exact True.intro | (show _ = _; with_reducible rfl) | exact Chk.mk (by kernel_rfl)))
    all_goals first | rfl | exact v1 | exact v2
  · have p0 : offs 12 = 44 := rfl
    have p1 : offs 13 = 48 := rfl
    obtain ⟨f1, f2⟩ := low_at (b := b) (a := 2 + offs 12) (k := 4) (by omega) (by omega) (by omega) (by omega)
    have v1 : (if lowC 4 (cR b (2 + offs 12)).length = 0 then lowV ((cR b (2 + offs 12)).take (4 : Int).toNat) else 0) = lw b (2 + offs 12) 4 := by rw [if_pos f1, f2]
    have v2 : 2 + offs 12 + (if lowC 4 (cR b (2 + offs 12)).length = 0 then 4 else 0) = 2 + offs 13 := by rw [if_pos f1]; rfl
    (repeat' (first | (refine xI (fun hfk => ?_) (fun hfk => ?_) <;> ((try (first | replace hfk := oT hfk | replace hfk := oF hfk | simp only [oD, ne_eq, reduceCtorEq] at hfk)); (try exact oX))) | refine And.intro oZ ?_ | exact True.intro | (show _ = _; first | exact oY | (exact bb; done) | exact rfl) | exact oW | (apply And.intro)))
    refine ⟨13, [some 0, some 1, some 2, some 3], by omega, ?mu, ?_⟩
    case mu => (show 14 - 13 < 14 - 12; omega)
    (repeat' (first | (refine And.intro ?_ ?_) | exact True.intro | (show _ = _; with_reducible rfl) | exact Chk.mk (by kernel_rfl)))
    all_goals first | rfl | exact v1 | exact v2
  · have p0 : offs 13 = 48 := rfl
    have p1 : offs 14 = 52 := rfl
    obtain ⟨f1, f2⟩ := low_at (b := b) (a := 2 + offs 13) (k := 4) (by omega) (by omega) (by omega) (by omega)
    have v1 : (if lowC 4 (cR b (2 + offs 13)).length = 0 then lowV ((cR b (2 + offs 13)).take (4 : Int).toNat) else 0) = lw b (2 + offs 13) 4 := by rw [if_pos f1, f2]
    have v2 : 2 + offs 13 + (if lowC 4 (cR b (2 + offs 13)).length = 0 then 4 else 0) = 2 + offs 14 := by rw [if_pos f1]; rfl
    (repeat' (first | (refine xI (fun hfk => ?_) (fun hfk => ?_) <;> ((try (first | replace hfk := oT hfk | replace hfk := oF hfk | simp only [oD, ne_eq, reduceCtorEq] at hfk)); (try exact oX))) | refine And.intro oZ ?_ | exact True.intro | (show _ = _; first | exact oY | (exact bb; done) | exact rfl) | exact oW | (apply And.intro)))
    refine ⟨14, [some 0, some 1, some 2, some 3], by omega, ?mu, ?_⟩
    case mu => (show 14 - 14 < 14 - 13; omega)
    (repeat' (first | (refine And.intro ?_ ?_) | exact True.intro | (show _ = _; with_reducible rfl) | exact Chk.mk (by kernel_rfl)))
    all_goals first | rfl | exact v1 | exact v2
  · have hx : ∀ F x : Int, F = if tkC b = 0 then F else x := fun F x => by rw [e]; rfl
    have ha : 2 + offs 14 = tkA b := by rw [e2]; rfl
    (repeat' (first | (refine xI (fun hfk => ?_) (fun hfk => ?_) <;> ((try (first | replace hfk := oT hfk | replace hfk := oF hfk | simp only [oD, ne_eq, reduceCtorEq] at hfk)); (try exact oX))) | refine And.intro oZ ?_ | exact True.intro | (show _ = _; first | exact oY | exact rfl) | exact oW | (apply And.intro)))
    refine ⟨[some 0, some 1, some 2], ?_⟩
    (repeat' (first | (refine And.intro ?_ ?_) | exact True.intro | (show _ = _; with_reducible rfl) | exact Chk.mk (by kernel_rfl)))
    all_goals first | rfl | exact hr | exact ha | exact hx _ _
end Go.Proofs.YtljdahepmmgfeaaGreatDoor
namespace Go.Proofs.YtljdahepmmgfeaaGreatDoor
open Go Go.RowKit
set_option maxHeartbeats 4000000
def byt (x : Int) (t : Nat) : Int := x / 256 ^ t % 256
end Go.Proofs.YtljdahepmmgfeaaGreatDoor
namespace Go.Proofs.YtljdahepmmgfeaaGreatDoor
open Go Go.RowKit
def catK (f : Nat → List Int) : Nat → List Int
  | 0 => []
  | k + 1 => catK f k ++ f k
theorem catK_len {f : Nat → List Int} {d Q : Nat} (hf : ∀ k, k < Q → (f k).length = d) : ∀ k, k ≤ Q → (catK f k).length = k * d
  | 0, _ => by simp [catK]
  | k + 1, h => by rw [catK, List.length_append, catK_len hf k (by omega), hf k h, Nat.succ_mul]
theorem catK_congr {f g : Nat → List Int} {Q : Nat} (h : ∀ k, k < Q → f k = g k) : ∀ k, k ≤ Q → catK f k = catK g k
  | 0, _ => rfl
  | k + 1, hk => by rw [catK, catK, catK_congr h k (by omega), h k hk]
theorem catK_get {f : Nat → List Int} {d Q : Nat} (hf : ∀ k, k < Q → (f k).length = d) : ∀ m, m ≤ Q → ∀ k j, k < m → j < d → (catK f m).getD (k * d + j) 0 = (f k).getD j 0
  | 0, _, k, j, hk, _ => by omega
  | m + 1, hm, k, j, hk, hj => by
    have hl := catK_len hf m (by omega)
    have hq := hf m hm
    show (catK f m ++ f m).getD (k * d + j) 0 = _
    rw [List.getD_eq_getElem?_getD]
    by_cases he : k = m
    · subst he
      rw [List.getElem?_append_right (by omega), hl, Nat.add_sub_cancel_left, ← List.getD_eq_getElem?_getD]
    · have h1 := prod_of (n := d) (show k < m by omega)
      rw [List.getElem?_append_left (by omega), ← List.getD_eq_getElem?_getD]
      exact catK_get hf m (by omega) k j (by omega) hj
theorem eq_pieces {A B : List Int} {Q d : Nat} (ha : A.length = Q * d) (hb : B.length = Q * d) (h : ∀ k j, k < Q → j < d → A.getD (k * d + j) 0 = B.getD (k * d + j) 0) : A = B := by
  refine list_getD (by rw [ha, hb]) fun i hi => ?_
  rcases Nat.eq_zero_or_pos d with hd | hd
  · subst hd; rw [ha] at hi; omega
  rw [ha] at hi
  have h1 : i / d < Q := (Nat.div_lt_iff_lt_mul hd).2 hi
  have h2 : i % d < d := Nat.mod_lt _ hd
  have h3 : i / d * d + i % d = i := by rw [Nat.mul_comm]; exact Nat.div_add_mod i d
  have := h _ _ h1 h2
  rwa [h3] at this
theorem spl_out {L q : List Int} {o i : Nat} (ho : o + q.length ≤ L.length) (hi : i < o ∨ o + q.length ≤ i) : (spl L o q).getD i 0 = L.getD i 0 := by
  have hl : (L.take o).length = o := by rw [List.length_take]; omega
  unfold spl
  rw [List.getD_eq_getElem?_getD, List.getD_eq_getElem?_getD]
  rcases hi with hi | hi
  · rw [List.getElem?_append_left (by omega), List.getElem?_take_of_lt hi]
  · rw [List.getElem?_append_right (by omega), hl, List.getElem?_append_right (by omega), List.getElem?_drop]
    congr 2; omega
theorem catK_upd {f : Nat → List Int} {d h r : Nat} {q : List Int} (hf : ∀ k, k < h → (f k).length = d) (hr : r < h) (hq : q.length = d) :
    spl (catK f h) (r * d) q = catK (fun k => if k = r then q else f k) h := by
  have hl := catK_len hf h (Nat.le_refl _)
  have hp := prod_of (n := d) hr
  have hf2 : ∀ k, k < h → ((fun k => if k = r then q else f k) k).length = d := fun k hk => by
    show (if k = r then q else f k).length = d
    split
    · exact hq
    · exact hf k hk
  refine eq_pieces (Q := h) (d := d) (by rw [spl_len (by omega), hl]) (catK_len hf2 h (Nat.le_refl _)) fun k j hk hj => ?_
  rw [catK_get hf2 h (Nat.le_refl _) k j hk hj]
  by_cases he : k = r
  · subst he
    rw [spl_get (by omega) (by omega)]; simp
  · have hne : (if k = r then q else f k) = f k := if_neg he
    show _ = (if k = r then q else f k).getD j 0
    rw [hne, spl_out (by omega) ?_, catK_get hf h (Nat.le_refl _) k j hk hj]
    rcases Nat.lt_or_gt_of_ne he with hlt | hgt
    · have := prod_of (n := d) hlt; left; omega
    · have := prod_of (n := d) hgt; right; omega
def sw (t : Nat) : Nat := if t = 0 then 2 else if t = 2 then 0 else t
theorem swapTo_get {L : List Int} {o c : Nat} (hc : 3 ≤ c) : ∀ Q, o + Q * c ≤ L.length →
    (∀ k t, k < Q → t < c → (swapTo L o c Q).getD (o + (k * c + t)) 0 = L.getD (o + (k * c + sw t)) 0) ∧ (∀ i, i < o ∨ o + Q * c ≤ i → (swapTo L o c Q).getD i 0 = L.getD i 0)
  | 0, _ => ⟨fun k t hk => by omega, fun i _ => rfl⟩
  | Q + 1, hl => by
    rw [Nat.succ_mul] at hl
    obtain ⟨i1, i2⟩ := swapTo_get (L := L) (o := o) hc Q (by omega)
    have hlen := swapTo_len L o c Q
    have g0 : (swapTo L o c Q).getD (o + Q * c) 0 = L.getD (o + Q * c) 0 := i2 _ (by right; omega)
    have g2 : (swapTo L o c Q).getD (o + Q * c + 2) 0 = L.getD (o + Q * c + 2) 0 := i2 _ (by right; omega)
    have st : ∀ i, (swapTo L o c (Q + 1)).getD i 0 = if i = o + Q * c + 2 then L.getD (o + Q * c) 0 else if i = o + Q * c then L.getD (o + Q * c + 2) 0 else (swapTo L o c Q).getD i 0 := fun i => by
      show (((swapTo L o c Q).set (o + Q * c) ((swapTo L o c Q).getD (o + Q * c + 2) 0)).set (o + Q * c + 2) ((swapTo L o c Q).getD (o + Q * c) 0)).getD i 0 = _
      rw [set_getD (by rw [List.length_set]; omega), set_getD (by omega), g0, g2]
    refine ⟨fun k t hk ht => ?_, fun i hi => ?_⟩
    · rw [st]
      by_cases hkQ : k = Q
      · subst hkQ
        unfold sw
        by_cases t0 : t = 0
        · subst t0
          rw [if_neg (by omega), if_pos (by omega), if_pos rfl]
          congr 1
        · by_cases t2 : t = 2
          · subst t2
            rw [if_pos (by omega), if_neg (by decide), if_pos rfl]
            congr 1
          · rw [if_neg (by omega), if_neg (by omega), if_neg t0, if_neg t2]
            exact i2 _ (by right; omega)
      · have := prod_of (n := c) (show k < Q by omega)
        rw [if_neg (by omega), if_neg (by omega)]
        exact i1 k t (by omega) ht
    · rw [Nat.succ_mul] at hi
      rw [st, if_neg (by omega), if_neg (by omega)]
      exact i2 i (by omega)
theorem swapTo_spl {L q : List Int} {o c w : Nat} (hc : 3 ≤ c) (hq : q.length = w * c) (ho : o + q.length ≤ L.length) : ∀ k, k ≤ w → swapTo (spl L o q) o c k = spl L o (swapTo q 0 c k)
  | 0, _ => rfl
  | k + 1, hk => by
    have ih := swapTo_spl hc hq ho k (by omega)
    have hp := prod_of (n := c) (show k < w by omega)
    have hl := swapTo_len q 0 c k
    show ((swapTo (spl L o q) o c k).set (o + k * c) ((swapTo (spl L o q) o c k).getD (o + k * c + 2) 0)).set (o + k * c + 2) ((swapTo (spl L o q) o c k).getD (o + k * c) 0)
      = spl L o (((swapTo q 0 c k).set (0 + k * c) ((swapTo q 0 c k).getD (0 + k * c + 2) 0)).set (0 + k * c + 2) ((swapTo q 0 c k).getD (0 + k * c) 0))
    rw [ih, Nat.zero_add, show o + k * c + 2 = o + (k * c + 2) by omega, spl_get (by omega) (by omega), spl_get (by omega) (by omega), spl_set (by omega) (by omega), spl_set (by rw [List.length_set]; omega) (by omega)]
def px (c : Nat) (q : List Int) (x : Nat) : List Int := [q.getD (x * c + 2) 0, q.getD (x * c + 1) 0, q.getD (x * c) 0] ++ if c = 4 then [q.getD (x * c + 3) 0] else []
theorem px_len {c : Nat} (hc : c = 3 ∨ c = 4) (q : List Int) (x : Nat) : (px c q x).length = c := by rcases hc with h | h <;> subst h <;> rfl
theorem px_get {c : Nat} (hc : c = 3 ∨ c = 4) (q : List Int) {x j : Nat} (hj : j < c) : (px c q x).getD j 0 = q.getD (x * c + sw j) 0 := by
  rcases hc with h | h <;> subst h
  · have : j = 0 ∨ j = 1 ∨ j = 2 := by omega
    rcases this with k | k | k <;> subst k <;> rfl
  · have : j = 0 ∨ j = 1 ∨ j = 2 ∨ j = 3 := by omega
    rcases this with k | k | k | k <;> subst k <;> rfl
theorem trn_px {q : List Int} {c w : Nat} (hc : c = 3 ∨ c = 4) (hq : q.length = w * c) : swapTo q 0 c w = catK (px c q) w := by
  refine eq_pieces (Q := w) (d := c) (by rw [swapTo_len, hq]) (catK_len (fun k _ => px_len hc q k) w (Nat.le_refl _)) fun k j hk hj => ?_
  have h1 := (swapTo_get (L := q) (o := 0) (c := c) (by omega) w (by omega)).1 k j hk hj
  rw [Nat.zero_add, Nat.zero_add] at h1
  rw [h1, catK_get (fun k _ => px_len hc q k) w (Nat.le_refl _) k j hk hj, px_get hc q hj]
def fRow (b : List Int) (st wc k : Nat) : List Int := (b.drop (54 + k * st)).take wc
def rdPx (b : List Int) (c w h st : Nat) (dn : Bool) : List Int := catK (fun r => swapTo (fRow b st (w * c) (if dn = true then r else h - 1 - r)) 0 c w) h
theorem fRow_len {b : List Int} {st wc k : Nat} (h : 54 + k * st + wc ≤ b.length) : (fRow b st wc k).length = wc := by
  unfold fRow; rw [List.length_take, List.length_drop]; omega
theorem fRow_get {b : List Int} {st wc k j : Nat} (hj : j < wc) : (fRow b st wc k).getD j 0 = b.getD (54 + k * st + j) 0 := by
  unfold fRow; rw [take_getD hj, drop_getD]
end Go.Proofs.YtljdahepmmgfeaaGreatDoor
namespace Go.Proofs.YtljdahepmmgfeaaGreatDoor
open Go Go.RowKit
set_option maxHeartbeats 4000000
abbrev hW (b : List Int) : Int := lw b 18 4
abbrev hH0 (b : List Int) : Int := lw b 22 4
abbrev hCn (b : List Int) : Int := lw b 28 2 / 8
abbrev hNn (b : List Int) : Int := up4 (hW b * hCn b) * hrV (hH0 b)
def rdE (b : List Int) : Int :=
  if hdE b ≠ 0 then hdE b else if shC (hW b) (hrV (hH0 b)) ≠ 0 then shC (hW b) (hrV (hH0 b)) else if (b.length : Int) - 54 < hNn b then 20 else if hNn b < (b.length : Int) - 54 then 22
  else if lw b 2 4 = b.length ∧ (lw b 34 4 = 0 ∨ lw b 34 4 = hNn b) then 0 else 21
def rdL (b : List Int) : List Int := if rdE b = 0 then rdPx b (hCn b).toNat (hW b).toNat (hrV (hH0 b)).toNat (up4 (hW b * hCn b)).toNat (decide (2147483648 ≤ hH0 b)) else []
def rdK (b : List Int) (x : Int) : Int := if rdE b = 0 then x else 0
theorem lw_bd {b : List Int} (hb : Byt b) {a n : Int} (hn : n ≤ 4) : 0 ≤ lw b a n ∧ lw b a n < 4294967296 := by
  have := low_rng (b := b.drop a.toNat) (n := n) (fun i => by rw [drop_getD]; exact hb.bd _) hn
  exact this
structure BmOK (b : List Int) (W H c st : Nat) (dn : Bool) : Prop where
  by_ : Byt b
  hd : hdE b = 0
  w : hW b = W
  h : hrV (hH0 b) = H
  dn_ : dn = decide (2147483648 ≤ hH0 b)
  c_ : lw b 28 2 = 8 * c
  c34 : c = 3 ∨ c = 4
  w1 : 1 ≤ W
  w2 : W ≤ 32768
  h1 : 1 ≤ H
  h2 : H ≤ 32768
  wh : W * H ≤ 4194304
  st_ : up4 ((W : Int) * (c : Int)) = st
  st1 : W * c ≤ st
  st2 : st ≤ W * c + 3
  len : b.length = 54 + H * st
  s1 : lw b 2 4 = b.length
  s2 : lw b 34 4 = 0 ∨ lw b 34 4 = (H * st : Nat)
theorem sh_inv {w r : Int} (hw : 0 ≤ w) (hr : 0 ≤ r) (h : shC w r = 0) : 1 ≤ w ∧ w ≤ 32768 ∧ 1 ≤ r ∧ r ≤ 32768 ∧ w * r ≤ 4194304 := by
  unfold shC at h
  split at h
  · cases h
  · split at h
    · cases h
    · omega
theorem hd_inv {b : List Int} (h : hdE b = 0) : b.getD 0 0 = 66 ∧ b.getD 1 0 = 77 ∧ 54 ≤ b.length ∧ frm0 b ∧ (lw b 28 2 = 24 ∨ lw b 28 2 = 32) := by
  unfold hdE at h
  split at h
  · cases h
  split at h
  · cases h
  split at h
  · cases h
  split at h
  · rename_i h1 h2 h3 h4
    exact ⟨by omega, by omega, by omega, h4⟩
  · cases h
theorem hr_bd {x : Int} (h0 : 0 ≤ x) (h1 : x < 4294967296) : 0 ≤ hrV x ∧ hrV x < 4294967296 := by unfold hrV; split <;> omega
theorem gd_of {b : List Int} (hb : Byt b) (h : rdE b = 0) : BmOK b (hW b).toNat (hrV (hH0 b)).toNat (hCn b).toNat (up4 (hW b * hCn b)).toNat (decide (2147483648 ≤ hH0 b)) := by
  unfold rdE at h
  split at h
  · rename_i k; exact absurd h k
  rename_i k1
  have k1 : hdE b = 0 := Classical.not_not.1 k1
  split at h
  · rename_i k; exact absurd h k
  rename_i k2
  have k2 : shC (hW b) (hrV (hH0 b)) = 0 := Classical.not_not.1 k2
  split at h
  · cases h
  split at h
  · cases h
  split at h
  rotate_left
  · cases h
  rename_i k3 k4 k5
  obtain ⟨_, _, k6, k7, k8⟩ := hd_inv k1
  have wb := lw_bd hb (a := 18) (n := 4) (by decide)
  have hb0 := lw_bd hb (a := 22) (n := 4) (by decide)
  have hrb := hr_bd hb0.1 hb0.2
  obtain ⟨w1, w2, r1, r2, wr⟩ := sh_inv (w := hW b) (r := hrV (hH0 b)) wb.1 hrb.1 k2
  have hc : hCn b = 3 ∨ hCn b = 4 := by unfold hCn; rcases k8 with k | k <;> rw [k] <;> decide
  have ec : (hCn b).toNat = hCn b := by omega
  have ew : ((hW b).toNat : Int) = hW b := Int.toNat_of_nonneg wb.1
  have eh : ((hrV (hH0 b)).toNat : Int) = hrV (hH0 b) := Int.toNat_of_nonneg hrb.1
  have ub := up4_bd (hW b * hCn b)
  have wc0 : 0 ≤ hW b * hCn b := Int.mul_nonneg wb.1 (by omega)
  have es : ((up4 (hW b * hCn b)).toNat : Int) = up4 (hW b * hCn b) := Int.toNat_of_nonneg (by omega)
  have en : (b.length : Int) = 54 + up4 (hW b * hCn b) * hrV (hH0 b) := by
    have : hNn b = up4 (hW b * hCn b) * hrV (hH0 b) := rfl
    omega
  have ewc : (((hW b).toNat * (hCn b).toNat : Nat) : Int) = hW b * hCn b := by rw [Int.natCast_mul, ew, ec]
  have est : (((hrV (hH0 b)).toNat * (up4 (hW b * hCn b)).toNat : Nat) : Int) = hNn b := by rw [Int.natCast_mul, eh, es, Int.mul_comm]
  refine ⟨hb, k1, ew.symm, eh.symm, rfl, ?_, by omega, by omega, by omega, by omega, by omega, ?_, by rw [ew, ec, es], by omega, by omega, ?_, k5.1, ?_⟩
  · rw [ec]; unfold hCn; rcases k8 with k | k <;> rw [k] <;> decide
  · have : (((hW b).toNat * (hrV (hH0 b)).toNat : Nat) : Int) = hW b * hrV (hH0 b) := by rw [Int.natCast_mul, ew, eh]
    omega
  · have : hNn b = up4 (hW b * hCn b) * hrV (hH0 b) := rfl
    omega
  · rw [est]; exact k5.2
def pxb (b : List Int) (c at_ x : Nat) : List Int := [b.getD (at_ + x * c + 2) 0, b.getD (at_ + x * c + 1) 0, b.getD (at_ + x * c) 0] ++ if c = 4 then [b.getD (at_ + x * c + 3) 0] else []
theorem pxb_len {b : List Int} {c : Nat} (hc : c = 3 ∨ c = 4) (a x : Nat) : (pxb b c a x).length = c := by rcases hc with h | h <;> subst h <;> rfl
theorem pxb_px {b : List Int} {c st k W x : Nat} (hc : c = 3 ∨ c = 4) (hx : x < W) : pxb b c (54 + k * st) x = px c (fRow b st (W * c) k) x := by
  have hp := prod_of (n := c) hx
  have g : ∀ j, j < c → b.getD (54 + k * st + x * c + j) 0 = (fRow b st (W * c) k).getD (x * c + j) 0 := fun j hj => by rw [fRow_get (by omega), Nat.add_assoc (54 + k * st)]
  have g0 : b.getD (54 + k * st + x * c) 0 = (fRow b st (W * c) k).getD (x * c) 0 := g 0 (by omega)
  unfold pxb px
  rw [g 2 (by omega), g 1 (by omega), g0]
  by_cases h4 : c = 4
  · rw [if_pos h4, if_pos h4, g 3 (by omega)]
  · rw [if_neg h4, if_neg h4]
def fr (dn : Bool) (H r : Nat) : Nat := if dn = true then r else H - 1 - r
theorem rdPx_pxb {b : List Int} {W H c st : Nat} {dn : Bool} (hg : BmOK b W H c st dn) : rdPx b c W H st dn = catK (fun r => catK (pxb b c (54 + fr dn H r * st)) W) H := by
  unfold rdPx
  refine catK_congr (Q := H) (fun r hr => ?_) H (Nat.le_refl _)
  have hf : fr dn H r < H := by unfold fr; split <;> omega
  have hl : (fRow b st (W * c) (fr dn H r)).length = W * c := fRow_len (by
    have := prod_of (n := st) hf
    rw [hg.len]; have := hg.st1; omega)
  show swapTo (fRow b st (W * c) (fr dn H r)) 0 c W = _
  rw [trn_px hg.c34 hl]
  exact catK_congr (Q := W) (fun x hx => (pxb_px hg.c34 hx).symm) W (Nat.le_refl _)
abbrev bmS : PSpec := fun l => match l with
  | [.roi .u8 b] => some ([Byt b], .tup [imA (rdK b (hW b)) (rdK b (hrV (hH0 b))) (rdK b (hCn b)) (rdL b), .int .i64 (rdE b)])
  | _ => none
theorem rd_bad {b : List Int} (h : rdE b ≠ 0) : (∀ x, rdK b x = 0) ∧ rdL b = [] := ⟨fun x => if_neg h, if_neg h⟩
theorem fr_lt {dn : Bool} {H r : Nat} (h : r < H) : fr dn H r < H := by unfold fr; split <;> omega
end Go.Proofs.YtljdahepmmgfeaaGreatDoor
namespace Go.Proofs.YtljdahepmmgfeaaGreatDoor
open Go Go.RowKit
set_option maxHeartbeats 4000000
noncomputable def rdCx : Ctx := mkK 0 [(70, rform16S), (71, rlw16S), (72, rstrS)] (glook [(69, fG madeF)]) [31, 32]
theorem rdCx_ok : COK Tryz.prog rdCx := mkK_ok (pok_cons rform16_s (pok_cons rlw16_s (pok_cons rstr_s pok_nil))) (gl_cons made_g gl_nil)
set_option maxHeartbeats 16000000 in
theorem rread16_good {b : List Int} (hb : Byt b) (e : rdE b = 0) : vcFn rdCx Tryz.f43 [.roi .u8 b] ⟨0, []⟩ (Ret (.tup [imA (rdK b (hW b)) (rdK b (hrV (hH0 b))) (rdK b (hCn b)) (rdL b), .int .i64 (rdE b)])) := by
  have bl := hb.le
  have k1 : hdE b = 0 := (gd_of hb e).hd
  obtain ⟨_, _, k6, k7, k8⟩ := hd_inv k1
  have wb := lw_bd hb (a := 18) (n := 4) (by decide)
  have hb0 := lw_bd hb (a := 22) (n := 4) (by decide)
  obtain ⟨T, hT⟩ : ∃ T, hrV (hH0 b) = T := ⟨_, rfl⟩
  have hTc : (2147483648 ≤ lw b 22 4 ∧ T = 4294967296 - lw b 22 4) ∨ (lw b 22 4 < 2147483648 ∧ T = lw b 22 4) := by
    have : hH0 b = lw b 22 4 := rfl
    rw [← hT]; unfold hrV; split
    · left; omega
    · right; omega
  have hc8' : hCn b = (lw b 28 2).tdiv 8 := by unfold hCn; rcases k8 with k | k <;> rw [k] <;> rfl
  have hg0 := gd_of hb e
  have hL0 : rdL b = rdPx b (hCn b).toNat (hW b).toNat (hrV (hH0 b)).toNat (up4 (hW b * hCn b)).toNat (decide (2147483648 ≤ hH0 b)) := if_pos e
  have kk : ∀ x, rdK b x = x := fun x => if_pos e
  obtain ⟨W, hWe⟩ : ∃ W, (hW b).toNat = W := ⟨_, rfl⟩
  obtain ⟨H, hHe⟩ : ∃ H, (hrV (hH0 b)).toNat = H := ⟨_, rfl⟩
  obtain ⟨c, hce⟩ : ∃ c, (hCn b).toNat = c := ⟨_, rfl⟩
  obtain ⟨st, hse⟩ : ∃ st, (up4 (hW b * hCn b)).toNat = st := ⟨_, rfl⟩
  obtain ⟨dn, hde⟩ : ∃ dn, decide (2147483648 ≤ hH0 b) = dn := ⟨_, rfl⟩
  rw [hWe, hHe, hce, hse, hde] at hg0 hL0
  have hg := hg0
  rw [rdPx_pxb hg] at hL0
  have gw : lw b 18 4 = (W : Int) := hg.w
  have gh : T = (H : Int) := by rw [← hT]; exact hg.h
  have gc : (lw b 28 2).tdiv 8 = (c : Int) := by rw [hg.c_]; rcases hg.c34 with k | k <;> subst k <;> rfl
  have gcn : (c : Int) = hCn b := by rw [hc8', gc]
  have ghn : (H : Int) = hrV (hH0 b) := hg.h.symm
  have gst : up4 ((W : Int) * (c : Int)) = (st : Int) := hg.st_
  have gd : decide (2147483648 ≤ lw b 22 4) = dn := hde
  have c34 := hg.c34
  have glen := hg.len
  have st1 := hg.st1
  have st2 := hg.st2
  have g1 := hg.w1
  have g2 := hg.w2
  have g3 := hg.h1
  have g4 := hg.h2
  have cwc : (((W * c : Nat)) : Int) = (W : Int) * (c : Int) := Int.natCast_mul _ _
  have wcb : W * c ≤ 131072 := by rcases c34 with k | k <;> subst k <;> omega
  have wcp : 0 ≤ (W : Int) * (c : Int) ∧ (W : Int) * (c : Int) ≤ 4294967296 := by omega
  have hwc : H * (W * c) ≤ 16777216 := by
    have k1 := hg.wh
    have k2 : H * (W * c) = (W * H) * c := by rw [← Nat.mul_assoc, Nat.mul_comm H W]
    have k3 : (W * H) * c ≤ 4194304 * 4 := Nat.mul_le_mul k1 (by omega)
    omega
  obtain ⟨F, hF⟩ : ∃ F : Nat → List Int, F = fun r => catK (pxb b c (54 + fr dn H r * st)) W := ⟨_, rfl⟩
  have hFl : ∀ r, r < H → (F r).length = W * c := fun r _ => by rw [hF]; exact catK_len (fun k _ => pxb_len c34 _ k) W (Nat.le_refl _)
  rw [← hF] at hL0
  rw [kk, kk, kk, hL0, e]
  have hTH : T = (H : Int) := gh
  have p0 : (((W * H : Nat)) : Int) = (W : Int) * (H : Int) := Int.natCast_mul _ _
  have pr1 : lw b 18 4 * T = ((W * H : Nat) : Int) := by rw [gw, gh, p0]
  have pwh := hg.wh
  have p1 : 0 ≤ lw b 18 4 * T := by rw [pr1]; exact Int.natCast_nonneg _
  have a3 : ¬ 4194304 < lw b 18 4 * T := by rw [pr1]; omega
  have q1 : rngI .i64 ((lw b 28 2).tdiv 8) := by rw [gc]; exact rng64 (by omega) (by omega)
  have q2 : rngI .i64 (lw b 18 4 * T) := by rw [pr1]; exact rng64 (by omega) (by omega)
  have wc1 : 0 ≤ lw b 18 4 * (lw b 28 2).tdiv 8 := by rw [gw, gc]; exact wcp.1
  have wc2 : lw b 18 4 * (lw b 28 2).tdiv 8 ≤ 4294967296 := by rw [gw, gc]; exact wcp.2
  have pn : up4 (lw b 18 4 * (lw b 28 2).tdiv 8) * T = ((H * st : Nat) : Int) := by rw [gw, gc, gst, gh, Int.natCast_mul, Int.mul_comm]
  have q3 : rngI .i64 (up4 (lw b 18 4 * (lw b 28 2).tdiv 8) * T) := by rw [pn]; exact rng64 (by omega) (by omega)
  have a4 : ¬ (b.length : Int) - 54 < up4 (lw b 18 4 * (lw b 28 2).tdiv 8) * T := by rw [pn]; omega
  have a5 : ¬ up4 (lw b 18 4 * (lw b 28 2).tdiv 8) * T < (b.length : Int) - 54 := by rw [pn]; omega
  have a6 : lw b 2 4 = (b.length : Int) := hg.s1
  have a7 : lw b 34 4 = 0 ∨ lw b 34 4 = up4 (lw b 18 4 * (lw b 28 2).tdiv 8) * T := by rw [pn]; exact hg.s2
  rcases hTc with ⟨hd, rfl⟩ | ⟨hd, rfl⟩
  · have hdn : dn = true := by rw [← gd]; exact decide_eq_true hd
    (repeat' (first | (refine xI (fun hfk => ?_) (fun hfk => ?_) <;> ((try (first | replace hfk := oT hfk | replace hfk := oF hfk | simp only [oD, ne_eq, reduceCtorEq] at hfk)); (try exact oX))) | refine And.intro oZ ?_ | exact True.intro | (show _ = _; first | exact oY | (exact hb; done) | exact rfl) | exact oW | (apply And.intro)))
    all_goals
      refine ⟨Nat, fun y => [(0, .roi .u8 b), (2, .ptr 0 0), (5, .int .i64 (W : Int)), (6, .int .i64 (H : Int)), (7, .int .i64 (c : Int)), (8, .bool dn), (10, .sl 1 1 0 (y * (W * c))), (11, .int .i64 (y : Int))],
        fun y => ⟨2, [(0, some (.cells 42 [.int .i64 0, .int .i64 0, .int .i64 0, .nils])), (1, some (bE (catK F y)))]⟩,
        fun y => y ≤ H, fun y => H - y, ⟨0, [some 0, none], Nat.zero_le _, ?_⟩, fun y hy => ?_⟩
      · (repeat' (first | (refine And.intro ?_ ?_) | exact True.intro | (show _ = _; with_reducible rfl) | exact Chk.mk (by kernel_rfl)))
        all_goals first | exact gw | exact hTH | exact gc | exact gd | exact Nat.zero_mul _ | rfl
      have hy : y ≤ H := hy
      have hyl := catK_len hFl y hy
      have rfy : rngI .i64 ((y : Int) + 1) := rng64 (by omega) (by omega)
      by_cases hlt : y < H
      · have hfr := fr_lt (dn := dn) hlt
        have hfs := prod_of (n := st) hfr
        have hyw := prod_of (n := W * c) hlt
        have ry1 : rngI .i64 ((H : Int) - 1) := rng64 (by omega) (by omega)
        have ry2 : rngI .i64 ((H : Int) - 1 - (y : Int)) := rng64 (by omega) (by omega)
        all_goals
          have hrow : (if dn = true then (y : Int) else (H : Int) - 1 - (y : Int)) = ((fr dn H y : Nat) : Int) := by unfold fr; split <;> omega
          rw [if_pos hdn] at hrow
          (repeat' (first | (refine xI (fun hfk => ?_) (fun hfk => ?_) <;> ((try (first | replace hfk := oT hfk | replace hfk := oF hfk | simp only [oD, ne_eq, reduceCtorEq] at hfk)); (try exact oX))) | refine And.intro oZ ?_ | exact True.intro | (show _ = _; first | exact oY | exact rfl) | exact oW | (apply And.intro)))
          obtain ⟨A0, hA0⟩ : ∃ A0, 54 + fr dn H y * st = A0 := ⟨_, rfl⟩
          refine ⟨Nat, fun x => [(0, .roi .u8 b), (2, .ptr 0 0), (5, .int .i64 (W : Int)), (6, .int .i64 (H : Int)), (7, .int .i64 (c : Int)), (8, .bool dn), (10, .sl 1 1 0 (y * (W * c) + x * c)), (11, .int .i64 (y : Int)), (12, .int .i64 ((fr dn H y : Nat) : Int)), (13, .int .i64 (x : Int))],
            fun x => ⟨2, [(0, some (.cells 42 [.int .i64 0, .int .i64 0, .int .i64 0, .nils])), (1, some (bE (catK F y ++ catK (pxb b c A0) x)))]⟩,
            fun x => x ≤ W, fun x => W - x, ⟨0, [some 0, some 1], Nat.zero_le _, ?_⟩, fun x hx => ?_⟩
          · have en : y * (W * c) = y * (W * c) + 0 * c := by omega
            have el : catK F y = catK F y ++ catK (pxb b c A0) 0 := (List.append_nil _).symm
            (repeat' (first | (refine And.intro ?_ ?_) | exact True.intro | (show _ = _; with_reducible rfl) | exact Chk.mk (by kernel_rfl)))
            all_goals first | rfl | exact hrow | exact en | exact el
          have hx : x ≤ W := hx
          have hxl := catK_len (fun k (_ : k < W) => pxb_len c34 (b := b) A0 k) x hx
          have rfx : rngI .i64 ((x : Int) + 1) := rng64 (by omega) (by omega)
          by_cases hxlt : x < W
          · have hxc := prod_of (n := c) hxlt
            have cxc : ((x * c : Nat) : Int) = (x : Int) * (c : Int) := Int.natCast_mul _ _
            have cfs : ((fr dn H y * st : Nat) : Int) = ((fr dn H y : Nat) : Int) * (st : Int) := Int.natCast_mul _ _
            have cfu : ((fr dn H y : Nat) : Int) * up4 ((W : Int) * (c : Int)) = ((fr dn H y * st : Nat) : Int) := by rw [gst, cfs]
            have rg1 : rngI .i64 (((fr dn H y : Nat) : Int) * up4 ((W : Int) * (c : Int))) := by rw [cfu]; exact rng64 (by omega) (by omega)
            have rg2 : rngI .i64 (54 + ((fr dn H y : Nat) : Int) * up4 ((W : Int) * (c : Int))) := by rw [cfu]; exact rng64 (by omega) (by omega)
            have rg3 : rngI .i64 ((x : Int) * (c : Int)) := by rw [← cxc]; exact rng64 (by omega) (by omega)
            have rg4 : rngI .i64 (54 + ((fr dn H y : Nat) : Int) * up4 ((W : Int) * (c : Int)) + (x : Int) * (c : Int)) := by rw [cfu, ← cxc]; exact rng64 (by omega) (by omega)
            have eA : 54 + ((fr dn H y : Nat) : Int) * up4 ((W : Int) * (c : Int)) + (x : Int) * (c : Int) = ((A0 + x * c : Nat) : Int) := by rw [cfu, ← cxc]; omega
            have hAl : A0 + x * c + c ≤ b.length := by omega
            (repeat' (first | (refine xI (fun hfk => ?_) (fun hfk => ?_) <;> ((try (first | replace hfk := oT hfk | replace hfk := oF hfk | simp only [oD, ne_eq, reduceCtorEq] at hfk)); (try exact oX))) | refine And.intro oZ ?_ | exact True.intro | (show _ = _; first | exact oY | exact rfl) | exact oW | (apply And.intro)))
            obtain ⟨A, hA⟩ : ∃ A, A0 + x * c = A := ⟨_, rfl⟩
            refine ⟨[(0, .roi .u8 b), (2, .ptr 0 0), (5, .int .i64 (W : Int)), (6, .int .i64 (H : Int)), (7, .int .i64 (c : Int)), (8, .bool dn), (10, .sl 1 1 0 (y * (W * c) + x * c)), (11, .int .i64 (y : Int)), (12, .int .i64 ((fr dn H y : Nat) : Int)), (13, .int .i64 (x : Int)), (14, .int .i64 (A : Int))],
              ⟨2, [(0, some (.cells 42 [.int .i64 0, .int .i64 0, .int .i64 0, .nils])), (1, some (bE (catK F y ++ catK (pxb b c A0) x)))]⟩, [some 0, some 1], ?_, ?_⟩
            · rw [hA] at eA
              (repeat' (first | (refine And.intro ?_ ?_) | exact True.intro | (show _ = _; with_reducible rfl) | exact Chk.mk (by kernel_rfl)))
              all_goals first | rfl | exact eA
            clear rg1 rg2 rg3 rg4 eA cfu cfs cxc
            rw [hA] at hAl
            have rg5 : rngI .i64 ((A : Int) + 2) := rng64 (by omega) (by omega)
            have rg6 : rngI .i64 ((A : Int) + 1) := rng64 (by omega) (by omega)
            have t2 : ((A : Int) + 2).toNat = A + 2 := by omega
            have t1 : ((A : Int) + 1).toNat = A + 1 := by omega
            have t0 : (A : Int).toNat = A := by omega
            have e3 : catK F y ++ catK (pxb b c A0) x ++ List.take 3 (List.drop 0 [b.getD ((A : Int) + 2).toNat 0, b.getD ((A : Int) + 1).toNat 0, b.getD (A : Int).toNat 0]) = catK F y ++ catK (pxb b c A0) x ++ [b.getD (A + 2) 0, b.getD (A + 1) 0, b.getD A 0] := by rw [t2, t1, t0]; rfl
            have hPl : (catK F y ++ catK (pxb b c A0) x).length = y * (W * c) + x * c := by rw [List.length_append, hyl, hxl]
            (repeat' (first | (refine xI (fun hfk => ?_) (fun hfk => ?_) <;> ((try (first | replace hfk := oT hfk | replace hfk := oF hfk | simp only [oD, ne_eq, reduceCtorEq] at hfk)); (try exact oX))) | refine And.intro oZ ?_ | exact True.intro | (show _ = _; first | exact oY | exact rfl) | exact oW | (apply And.intro)))
            refine ⟨[(0, .roi .u8 b), (2, .ptr 0 0), (5, .int .i64 (W : Int)), (6, .int .i64 (H : Int)), (7, .int .i64 (c : Int)), (8, .bool dn), (10, .sl 1 1 0 (y * (W * c) + x * c + 3)), (11, .int .i64 (y : Int)), (12, .int .i64 ((fr dn H y : Nat) : Int)), (13, .int .i64 (x : Int)), (14, .int .i64 (A : Int))],
              ⟨2, [(0, some (.cells 42 [.int .i64 0, .int .i64 0, .int .i64 0, .nils])), (1, some (bE (catK F y ++ catK (pxb b c A0) x ++ [b.getD (A + 2) 0, b.getD (A + 1) 0, b.getD A 0])))]⟩, [some 0, some 3], ?_, ?_⟩
            · have el3 : (catK F y ++ catK (pxb b c A0) x).length + (List.take 3 (List.drop 0 [b.getD ((A : Int) + 2).toNat 0, b.getD ((A : Int) + 1).toNat 0, b.getD (A : Int).toNat 0])).length = y * (W * c) + x * c + 3 := by rw [hPl]; rfl
              (repeat' (first | (refine And.intro ?_ ?_) | exact True.intro | (show _ = _; with_reducible rfl) | exact Chk.mk (by kernel_rfl)))
              all_goals first | rfl | exact e3 | exact el3
            have hl3 : (catK F y ++ catK (pxb b c A0) x ++ [b.getD (A + 2) 0, b.getD (A + 1) 0, b.getD A 0]).length = y * (W * c) + x * c + 3 := by rw [List.length_append, List.length_append, hyl, hxl]; rfl
            by_cases h4 : c = 4
            · have h4' : (c : Int) = 4 := by omega
              have rg7 : rngI .i64 ((A : Int) + 3) := rng64 (by omega) (by omega)
              have t3 : ((A : Int) + 3).toNat = A + 3 := by omega
              have ex : catK F y ++ catK (pxb b c A0) x ++ [b.getD (A + 2) 0, b.getD (A + 1) 0, b.getD A 0] ++ List.take 1 (List.drop 0 [b.getD ((A : Int) + 3).toNat 0]) = catK F y ++ catK (pxb b c A0) (x + 1) := by
                rw [t3]
                show _ = catK F y ++ (catK (pxb b c A0) x ++ pxb b c A0 x)
                unfold pxb
                rw [if_pos h4, hA]
                simp only [List.append_assoc]; rfl
              have el4 : (catK F y ++ catK (pxb b c A0) x ++ [b.getD (A + 2) 0, b.getD (A + 1) 0, b.getD A 0]).length + (List.take 1 (List.drop 0 [b.getD ((A : Int) + 3).toNat 0])).length = y * (W * c) + (x + 1) * c := by
                rw [hl3, Nat.succ_mul, h4]; show _ + 3 + 1 = _; omega
              (repeat' (first | (refine xI (fun hfk => ?_) (fun hfk => ?_) <;> ((try (first | replace hfk := oT hfk | replace hfk := oF hfk | simp only [oD, ne_eq, reduceCtorEq] at hfk)); (try exact oX))) | refine And.intro oZ ?_ | exact True.intro | (show _ = _; first | exact oY | exact rfl) | exact oW | (apply And.intro)))
              refine ⟨x + 1, [some 0, some 3], hxlt, ?mu, ?_⟩
              case mu => (show W - (x + 1) < W - x; omega)
              (repeat' (first | (refine And.intro ?_ ?_) | exact True.intro | (show _ = _; with_reducible rfl) | exact Chk.mk (by kernel_rfl)))
              all_goals first | rfl | exact ex | exact el4 | (show (_ : Int) = _; omega)
            · have h4' : ¬ (c : Int) = 4 := by omega
              have ex : catK F y ++ catK (pxb b c A0) x ++ [b.getD (A + 2) 0, b.getD (A + 1) 0, b.getD A 0] = catK F y ++ catK (pxb b c A0) (x + 1) := by
                show _ = catK F y ++ (catK (pxb b c A0) x ++ pxb b c A0 x)
                unfold pxb
                rw [if_neg h4, hA]
                simp only [List.append_assoc]; rfl
              have el4 : y * (W * c) + x * c + 3 = y * (W * c) + (x + 1) * c := by rw [Nat.succ_mul]; omega
              (repeat' (first | (refine xI (fun hfk => ?_) (fun hfk => ?_) <;> ((try (first | replace hfk := oT hfk | replace hfk := oF hfk | simp only [oD, ne_eq, reduceCtorEq] at hfk)); (try exact oX))) | refine And.intro oZ ?_ | exact True.intro | (show _ = _; first | exact oY | exact rfl) | exact oW | (apply And.intro)))
              refine ⟨x + 1, [some 0, some 1], hxlt, ?mu, ?_⟩
              case mu => (show W - (x + 1) < W - x; omega)
              (repeat' (first | (refine And.intro ?_ ?_) | exact True.intro | (show _ = _; with_reducible rfl) | exact Chk.mk (by kernel_rfl)))
              all_goals first | rfl | exact ex | exact el4 | (show (_ : Int) = _; omega)
          · obtain rfl : x = W := by omega
            have ey : catK F y ++ catK (pxb b c A0) x = catK F (y + 1) := by rw [← hA0]; show _ = catK F y ++ F y; rw [hF]
            have el5 : y * (x * c) + x * c = (y + 1) * (x * c) := (Nat.succ_mul _ _).symm
            (repeat' (first | (refine xI (fun hfk => ?_) (fun hfk => ?_) <;> ((try (first | replace hfk := oT hfk | replace hfk := oF hfk | simp only [oD, ne_eq, reduceCtorEq] at hfk)); (try exact oX))) | refine And.intro oZ ?_ | exact True.intro | (show _ = _; first | exact oY | exact rfl) | exact oW | (apply And.intro)))
            refine ⟨y + 1, [some 0, some 1], hlt, ?mu, ?_⟩
            case mu => (show H - (y + 1) < H - y; omega)
            (repeat' (first | (refine And.intro ?_ ?_) | exact True.intro | (show _ = _; with_reducible rfl) | exact Chk.mk (by kernel_rfl)))
            all_goals first | rfl | exact ey | exact el5 | (show (_ : Int) = _; omega)
      · obtain rfl : y = H := by omega
        have ef : List.take (y * (W * c)) (List.drop 0 (catK F y)) = catK F y := by rw [List.drop_zero, ← hyl, List.take_length]
        have gw' := gw.symm
        (repeat' (first | (refine xI (fun hfk => ?_) (fun hfk => ?_) <;> ((try (first | replace hfk := oT hfk | replace hfk := oF hfk | simp only [oD, ne_eq, reduceCtorEq] at hfk)); (try exact oX))) | refine And.intro oZ ?_ | exact True.intro | (show _ = _; first | exact oY | exact rfl) | exact oW | (apply And.intro)))
        (refine ⟨[1], ⟨by kernel_rfl⟩, ?_⟩)
        (repeat' (first | (refine xI (fun hfk => ?_) (fun hfk => ?_) <;> ((try (first | replace hfk := oT hfk | replace hfk := oF hfk | simp only [oD, ne_eq, reduceCtorEq] at hfk)); (try exact oX))) | refine And.intro oZ ?_ | exact True.intro | (show _ = _; first | exact oY | (first | exact ef | exact gw' | exact ghn | exact gcn | rfl; done) | exact rfl) | exact oW | (apply And.intro)))
  · have hdn : dn = false := by rw [← gd]; exact decide_eq_false (by omega)
    (repeat' (first | (refine xI (fun hfk => ?_) (fun hfk => ?_) <;> ((try (first | replace hfk := oT hfk | replace hfk := oF hfk | simp only [oD, ne_eq, reduceCtorEq] at hfk)); (try exact oX))) | refine And.intro oZ ?_ | exact True.intro | (show _ = _; first | exact oY | (exact hb; done) | exact rfl) | exact oW | (apply And.intro)))
    all_goals
      refine ⟨Nat, fun y => [(0, .roi .u8 b), (2, .ptr 0 0), (5, .int .i64 (W : Int)), (6, .int .i64 (H : Int)), (7, .int .i64 (c : Int)), (8, .bool dn), (10, .sl 1 1 0 (y * (W * c))), (11, .int .i64 (y : Int))],
        fun y => ⟨2, [(0, some (.cells 42 [.int .i64 0, .int .i64 0, .int .i64 0, .nils])), (1, some (bE (catK F y)))]⟩,
        fun y => y ≤ H, fun y => H - y, ⟨0, [some 0, none], Nat.zero_le _, ?_⟩, fun y hy => ?_⟩
      · (repeat' (first | (refine And.intro ?_ ?_) | exact True.intro | (show _ = _; with_reducible rfl) | exact Chk.mk (by kernel_rfl)))
        all_goals first | exact gw | exact hTH | exact gc | exact gd | exact Nat.zero_mul _ | rfl
      have hy : y ≤ H := hy
      have hyl := catK_len hFl y hy
      have rfy : rngI .i64 ((y : Int) + 1) := rng64 (by omega) (by omega)
      by_cases hlt : y < H
      · have hfr := fr_lt (dn := dn) hlt
        have hfs := prod_of (n := st) hfr
        have hyw := prod_of (n := W * c) hlt
        have ry1 : rngI .i64 ((H : Int) - 1) := rng64 (by omega) (by omega)
        have ry2 : rngI .i64 ((H : Int) - 1 - (y : Int)) := rng64 (by omega) (by omega)
        all_goals
          have hrow : (if dn = true then (y : Int) else (H : Int) - 1 - (y : Int)) = ((fr dn H y : Nat) : Int) := by unfold fr; split <;> omega
          rw [if_neg (by rw [hdn]; decide)] at hrow
          (repeat' (first | (refine xI (fun hfk => ?_) (fun hfk => ?_) <;> ((try (first | replace hfk := oT hfk | replace hfk := oF hfk | simp only [oD, ne_eq, reduceCtorEq] at hfk)); (try exact oX))) | refine And.intro oZ ?_ | exact True.intro | (show _ = _; first | exact oY | exact rfl) | exact oW | (apply And.intro)))
          obtain ⟨A0, hA0⟩ : ∃ A0, 54 + fr dn H y * st = A0 := ⟨_, rfl⟩
          refine ⟨Nat, fun x => [(0, .roi .u8 b), (2, .ptr 0 0), (5, .int .i64 (W : Int)), (6, .int .i64 (H : Int)), (7, .int .i64 (c : Int)), (8, .bool dn), (10, .sl 1 1 0 (y * (W * c) + x * c)), (11, .int .i64 (y : Int)), (12, .int .i64 ((fr dn H y : Nat) : Int)), (13, .int .i64 (x : Int))],
            fun x => ⟨2, [(0, some (.cells 42 [.int .i64 0, .int .i64 0, .int .i64 0, .nils])), (1, some (bE (catK F y ++ catK (pxb b c A0) x)))]⟩,
            fun x => x ≤ W, fun x => W - x, ⟨0, [some 0, some 1], Nat.zero_le _, ?_⟩, fun x hx => ?_⟩
          · have en : y * (W * c) = y * (W * c) + 0 * c := by omega
            have el : catK F y = catK F y ++ catK (pxb b c A0) 0 := (List.append_nil _).symm
            (repeat' (first | (refine And.intro ?_ ?_) | exact True.intro | (show _ = _; with_reducible rfl) | exact Chk.mk (by kernel_rfl)))
            all_goals first | rfl | exact hrow | exact en | exact el
          have hx : x ≤ W := hx
          have hxl := catK_len (fun k (_ : k < W) => pxb_len c34 (b := b) A0 k) x hx
          have rfx : rngI .i64 ((x : Int) + 1) := rng64 (by omega) (by omega)
          by_cases hxlt : x < W
          · have hxc := prod_of (n := c) hxlt
            have cxc : ((x * c : Nat) : Int) = (x : Int) * (c : Int) := Int.natCast_mul _ _
            have cfs : ((fr dn H y * st : Nat) : Int) = ((fr dn H y : Nat) : Int) * (st : Int) := Int.natCast_mul _ _
            have cfu : ((fr dn H y : Nat) : Int) * up4 ((W : Int) * (c : Int)) = ((fr dn H y * st : Nat) : Int) := by rw [gst, cfs]
            have rg1 : rngI .i64 (((fr dn H y : Nat) : Int) * up4 ((W : Int) * (c : Int))) := by rw [cfu]; exact rng64 (by omega) (by omega)
            have rg2 : rngI .i64 (54 + ((fr dn H y : Nat) : Int) * up4 ((W : Int) * (c : Int))) := by rw [cfu]; exact rng64 (by omega) (by omega)
            have rg3 : rngI .i64 ((x : Int) * (c : Int)) := by rw [← cxc]; exact rng64 (by omega) (by omega)
            have rg4 : rngI .i64 (54 + ((fr dn H y : Nat) : Int) * up4 ((W : Int) * (c : Int)) + (x : Int) * (c : Int)) := by rw [cfu, ← cxc]; exact rng64 (by omega) (by omega)
            have eA : 54 + ((fr dn H y : Nat) : Int) * up4 ((W : Int) * (c : Int)) + (x : Int) * (c : Int) = ((A0 + x * c : Nat) : Int) := by rw [cfu, ← cxc]; omega
            have hAl : A0 + x * c + c ≤ b.length := by omega
            (repeat' (first | (refine xI (fun hfk => ?_) (fun hfk => ?_) <;> ((try (first | replace hfk := oT hfk | replace hfk := oF hfk | simp only [oD, ne_eq, reduceCtorEq] at hfk)); (try exact oX))) | refine And.intro oZ ?_ | exact True.intro | (show _ = _; first | exact oY | exact rfl) | exact oW | (apply And.intro)))
            obtain ⟨A, hA⟩ : ∃ A, A0 + x * c = A := ⟨_, rfl⟩
            refine ⟨[(0, .roi .u8 b), (2, .ptr 0 0), (5, .int .i64 (W : Int)), (6, .int .i64 (H : Int)), (7, .int .i64 (c : Int)), (8, .bool dn), (10, .sl 1 1 0 (y * (W * c) + x * c)), (11, .int .i64 (y : Int)), (12, .int .i64 ((fr dn H y : Nat) : Int)), (13, .int .i64 (x : Int)), (14, .int .i64 (A : Int))],
              ⟨2, [(0, some (.cells 42 [.int .i64 0, .int .i64 0, .int .i64 0, .nils])), (1, some (bE (catK F y ++ catK (pxb b c A0) x)))]⟩, [some 0, some 1], ?_, ?_⟩
            · rw [hA] at eA
              (repeat' (first | (refine And.intro ?_ ?_) | exact True.intro | (show _ = _; with_reducible rfl) | exact Chk.mk (by kernel_rfl)))
              all_goals first | rfl | exact eA
            clear rg1 rg2 rg3 rg4 eA cfu cfs cxc
            rw [hA] at hAl
            have rg5 : rngI .i64 ((A : Int) + 2) := rng64 (by omega) (by omega)
            have rg6 : rngI .i64 ((A : Int) + 1) := rng64 (by omega) (by omega)
            have t2 : ((A : Int) + 2).toNat = A + 2 := by omega
            have t1 : ((A : Int) + 1).toNat = A + 1 := by omega
            have t0 : (A : Int).toNat = A := by omega
            have e3 : catK F y ++ catK (pxb b c A0) x ++ List.take 3 (List.drop 0 [b.getD ((A : Int) + 2).toNat 0, b.getD ((A : Int) + 1).toNat 0, b.getD (A : Int).toNat 0]) = catK F y ++ catK (pxb b c A0) x ++ [b.getD (A + 2) 0, b.getD (A + 1) 0, b.getD A 0] := by rw [t2, t1, t0]; rfl
            have hPl : (catK F y ++ catK (pxb b c A0) x).length = y * (W * c) + x * c := by rw [List.length_append, hyl, hxl]
            (repeat' (first | (refine xI (fun hfk => ?_) (fun hfk => ?_) <;> ((try (first | replace hfk := oT hfk | replace hfk := oF hfk | simp only [oD, ne_eq, reduceCtorEq] at hfk)); (try exact oX))) | refine And.intro oZ ?_ | exact True.intro | (show _ = _; first | exact oY | exact rfl) | exact oW | (apply And.intro)))
            refine ⟨[(0, .roi .u8 b), (2, .ptr 0 0), (5, .int .i64 (W : Int)), (6, .int .i64 (H : Int)), (7, .int .i64 (c : Int)), (8, .bool dn), (10, .sl 1 1 0 (y * (W * c) + x * c + 3)), (11, .int .i64 (y : Int)), (12, .int .i64 ((fr dn H y : Nat) : Int)), (13, .int .i64 (x : Int)), (14, .int .i64 (A : Int))],
              ⟨2, [(0, some (.cells 42 [.int .i64 0, .int .i64 0, .int .i64 0, .nils])), (1, some (bE (catK F y ++ catK (pxb b c A0) x ++ [b.getD (A + 2) 0, b.getD (A + 1) 0, b.getD A 0])))]⟩, [some 0, some 3], ?_, ?_⟩
            · have el3 : (catK F y ++ catK (pxb b c A0) x).length + (List.take 3 (List.drop 0 [b.getD ((A : Int) + 2).toNat 0, b.getD ((A : Int) + 1).toNat 0, b.getD (A : Int).toNat 0])).length = y * (W * c) + x * c + 3 := by rw [hPl]; rfl
              (repeat' (first | (refine And.intro ?_ ?_) | exact True.intro | (show _ = _; with_reducible rfl) | exact Chk.mk (by kernel_rfl)))
              all_goals first | rfl | exact e3 | exact el3
            have hl3 : (catK F y ++ catK (pxb b c A0) x ++ [b.getD (A + 2) 0, b.getD (A + 1) 0, b.getD A 0]).length = y * (W * c) + x * c + 3 := by rw [List.length_append, List.length_append, hyl, hxl]; rfl
            by_cases h4 : c = 4
            · have h4' : (c : Int) = 4 := by omega
              have rg7 : rngI .i64 ((A : Int) + 3) := rng64 (by omega) (by omega)
              have t3 : ((A : Int) + 3).toNat = A + 3 := by omega
              have ex : catK F y ++ catK (pxb b c A0) x ++ [b.getD (A + 2) 0, b.getD (A + 1) 0, b.getD A 0] ++ List.take 1 (List.drop 0 [b.getD ((A : Int) + 3).toNat 0]) = catK F y ++ catK (pxb b c A0) (x + 1) := by
                rw [t3]
                show _ = catK F y ++ (catK (pxb b c A0) x ++ pxb b c A0 x)
                unfold pxb
                rw [if_pos h4, hA]
                simp only [List.append_assoc]; rfl
              have el4 : (catK F y ++ catK (pxb b c A0) x ++ [b.getD (A + 2) 0, b.getD (A + 1) 0, b.getD A 0]).length + (List.take 1 (List.drop 0 [b.getD ((A : Int) + 3).toNat 0])).length = y * (W * c) + (x + 1) * c := by
                rw [hl3, Nat.succ_mul, h4]; show _ + 3 + 1 = _; omega
              (repeat' (first | (refine xI (fun hfk => ?_) (fun hfk => ?_) <;> ((try (first | replace hfk := oT hfk | replace hfk := oF hfk | simp only [oD, ne_eq, reduceCtorEq] at hfk)); (try exact oX))) | refine And.intro oZ ?_ | exact True.intro | (show _ = _; first | exact oY | exact rfl) | exact oW | (apply And.intro)))
              refine ⟨x + 1, [some 0, some 3], hxlt, ?mu, ?_⟩
              case mu => (show W - (x + 1) < W - x; omega)
              (repeat' (first | (refine And.intro ?_ ?_) | exact True.intro | (show _ = _; with_reducible rfl) | exact Chk.mk (by kernel_rfl)))
              all_goals first | rfl | exact ex | exact el4 | (show (_ : Int) = _; omega)
            · have h4' : ¬ (c : Int) = 4 := by omega
              have ex : catK F y ++ catK (pxb b c A0) x ++ [b.getD (A + 2) 0, b.getD (A + 1) 0, b.getD A 0] = catK F y ++ catK (pxb b c A0) (x + 1) := by
                show _ = catK F y ++ (catK (pxb b c A0) x ++ pxb b c A0 x)
                unfold pxb
                rw [if_neg h4, hA]
                simp only [List.append_assoc]; rfl
              have el4 : y * (W * c) + x * c + 3 = y * (W * c) + (x + 1) * c := by rw [Nat.succ_mul]; omega
              (repeat' (first | (refine xI (fun hfk => ?_) (fun hfk => ?_) <;> ((try (first | replace hfk := oT hfk | replace hfk := oF hfk | simp only [oD, ne_eq, reduceCtorEq] at hfk)); (try exact oX))) | refine And.intro oZ ?_ | exact True.intro | (show _ = _; first | exact oY | exact rfl) | exact oW | (apply And.intro)))
              refine ⟨x + 1, [some 0, some 1], hxlt, ?mu, ?_⟩
              case mu => (show W - (x + 1) < W - x; omega)
              (repeat' (first | (refine And.intro ?_ ?_) | exact True.intro | (show _ = _; with_reducible rfl) | exact Chk.mk (by kernel_rfl)))
              all_goals first | rfl | exact ex | exact el4 | (show (_ : Int) = _; omega)
          · obtain rfl : x = W := by omega
            have ey : catK F y ++ catK (pxb b c A0) x = catK F (y + 1) := by rw [← hA0]; show _ = catK F y ++ F y; rw [hF]
            have el5 : y * (x * c) + x * c = (y + 1) * (x * c) := (Nat.succ_mul _ _).symm
            (repeat' (first | (refine xI (fun hfk => ?_) (fun hfk => ?_) <;> ((try (first | replace hfk := oT hfk | replace hfk := oF hfk | simp only [oD, ne_eq, reduceCtorEq] at hfk)); (try exact oX))) | refine And.intro oZ ?_ | exact True.intro | (show _ = _; first | exact oY | exact rfl) | exact oW | (apply And.intro)))
            refine ⟨y + 1, [some 0, some 1], hlt, ?mu, ?_⟩
            case mu => (show H - (y + 1) < H - y; omega)
            (repeat' (first | (refine And.intro ?_ ?_) | exact True.intro | (show _ = _; with_reducible rfl) | exact Chk.mk (by kernel_rfl)))
            all_goals first | rfl | exact ey | exact el5 | (show (_ : Int) = _; omega)
      · obtain rfl : y = H := by omega
        have ef : List.take (y * (W * c)) (List.drop 0 (catK F y)) = catK F y := by rw [List.drop_zero, ← hyl, List.take_length]
        have gw' := gw.symm
        (repeat' (first | (refine xI (fun hfk => ?_) (fun hfk => ?_) <;> ((try (first | replace hfk := oT hfk | replace hfk := oF hfk | simp only [oD, ne_eq, reduceCtorEq] at hfk)); (try exact oX))) | refine And.intro oZ ?_ | exact True.intro | (show _ = _; first | exact oY | exact rfl) | exact oW | (apply And.intro)))
        (refine ⟨[1], ⟨by kernel_rfl⟩, ?_⟩)
        (repeat' (first | (refine xI (fun hfk => ?_) (fun hfk => ?_) <;> ((try (first | replace hfk := oT hfk | replace hfk := oF hfk | simp only [oD, ne_eq, reduceCtorEq] at hfk)); (try exact oX))) | refine And.intro oZ ?_ | exact True.intro | (show _ = _; first | exact oY | (first | exact ef | exact gw' | exact ghn | exact gcn | rfl; done) | exact rfl) | exact oW | (apply And.intro)))
theorem rread16_s : SOK Tryz.prog 43 bmS := by
  refine sok_of (C := rdCx) rdCx_ok rfl mixed ⟨Tryz.func43, by kernel_rfl, by kernel_rfl, by kernel_rfl⟩ fun l obs v h ho => ?_
  (unfold bmS at h; split at h; rotate_left; (focus (cases h)); rename_i b; simp only [Option.some.injEq, Prod.mk.injEq] at h; obtain ⟨rfl, rfl⟩ := h; simp only [List.mem_cons, List.not_mem_nil, or_false, forall_eq_or_imp, forall_eq, false_implies, implies_true] at ho)
  have hb := ho
  have bl := hb.le
  refine ⟨Nat.le_of_ble_eq_true rfl, ?_⟩
  by_cases k1 : hdE b = 0
  rotate_left
  · have e : rdE b = hdE b := if_pos k1
    obtain ⟨z1, z2⟩ := rd_bad (b := b) (by rw [e]; exact k1)
    rw [z1, z1, z1, z2, e]
    (repeat' (first | (refine xI (fun hfk => ?_) (fun hfk => ?_) <;> ((try (first | replace hfk := oT hfk | replace hfk := oF hfk | simp only [oD, ne_eq, reduceCtorEq] at hfk)); (try exact oX))) | refine And.intro oZ ?_ | exact True.intro | (show _ = _; first | exact oY | (first | exact hb | rfl; done) | exact rfl) | exact oW | (apply And.intro)))
  obtain ⟨_, _, k6, k7, k8⟩ := hd_inv k1
  have wb := lw_bd hb (a := 18) (n := 4) (by decide)
  have hb0 := lw_bd hb (a := 22) (n := 4) (by decide)
  have hrb := hr_bd hb0.1 hb0.2
  have e0 : rdE b = if shC (hW b) (hrV (hH0 b)) ≠ 0 then shC (hW b) (hrV (hH0 b)) else if (b.length : Int) - 54 < hNn b then 20 else if hNn b < (b.length : Int) - 54 then 22
    else if lw b 2 4 = b.length ∧ (lw b 34 4 = 0 ∨ lw b 34 4 = hNn b) then 0 else 21 := if_neg (fun k => k k1)
  obtain ⟨T, hT⟩ : ∃ T, hrV (hH0 b) = T := ⟨_, rfl⟩
  have hTc : (2147483648 ≤ lw b 22 4 ∧ T = 4294967296 - lw b 22 4) ∨ (lw b 22 4 < 2147483648 ∧ T = lw b 22 4) := by
    have : hH0 b = lw b 22 4 := rfl
    rw [← hT]; unfold hrV; split
    · left; omega
    · right; omega
  obtain ⟨w, hw⟩ : ∃ w, hW b = w := ⟨_, rfl⟩
  have hw' : lw b 18 4 = w := hw
  rw [hT, hw] at e0
  rw [hT] at hrb
  have hc8 : (lw b 28 2).tdiv 8 = 3 ∨ (lw b 28 2).tdiv 8 = 4 := by rcases k8 with k | k <;> rw [k] <;> decide
  have hc8' : hCn b = (lw b 28 2).tdiv 8 := by unfold hCn; rcases k8 with k | k <;> rw [k] <;> rfl
  have q1 : rngI .i64 ((lw b 28 2).tdiv 8) := rng64 (by omega) (by omega)
  rw [← hw] at e0
  by_cases a1 : lw b 18 4 = 0 ∨ T = 0
  · have es : shC (hW b) T = 12 := if_pos a1
    have e : rdE b = 12 := by rw [e0, es]; rfl
    obtain ⟨z1, z2⟩ := rd_bad (b := b) (by rw [e]; decide)
    rw [z1, z1, z1, z2, e]
    rcases hTc with ⟨hd, rfl⟩ | ⟨hd, rfl⟩
    all_goals
      rcases a1 with a1 | a1
      · (repeat' (first | (refine xI (fun hfk => ?_) (fun hfk => ?_) <;> ((try (first | replace hfk := oT hfk | replace hfk := oF hfk | simp only [oD, ne_eq, reduceCtorEq] at hfk)); (try exact oX))) | refine And.intro oZ ?_ | exact True.intro | (show _ = _; first | exact oY | (first | exact hb | rfl; done) | exact rfl) | exact oW | (apply And.intro)))
      · by_cases a2 : lw b 18 4 = 0
        · (repeat' (first | (refine xI (fun hfk => ?_) (fun hfk => ?_) <;> ((try (first | replace hfk := oT hfk | replace hfk := oF hfk | simp only [oD, ne_eq, reduceCtorEq] at hfk)); (try exact oX))) | refine And.intro oZ ?_ | exact True.intro | (show _ = _; first | exact oY | (first | exact hb | rfl; done) | exact rfl) | exact oW | (apply And.intro)))
        · (repeat' (first | (refine xI (fun hfk => ?_) (fun hfk => ?_) <;> ((try (first | replace hfk := oT hfk | replace hfk := oF hfk | simp only [oD, ne_eq, reduceCtorEq] at hfk)); (try exact oX))) | refine And.intro oZ ?_ | exact True.intro | (show _ = _; first | exact oY | (first | exact hb | rfl; done) | exact rfl) | exact oW | (apply And.intro)))
  by_cases a2 : 32768 < lw b 18 4 ∨ 32768 < T
  · have es : shC (hW b) T = 30 := by unfold shC; rw [if_neg a1, if_pos (by omega)]
    have e : rdE b = 30 := by rw [e0, es]; rfl
    obtain ⟨z1, z2⟩ := rd_bad (b := b) (by rw [e]; decide)
    rw [z1, z1, z1, z2, e]
    rcases hTc with ⟨hd, rfl⟩ | ⟨hd, rfl⟩
    all_goals
      by_cases a3 : 32768 < lw b 18 4
      · (repeat' (first | (refine xI (fun hfk => ?_) (fun hfk => ?_) <;> ((try (first | replace hfk := oT hfk | replace hfk := oF hfk | simp only [oD, ne_eq, reduceCtorEq] at hfk)); (try exact oX))) | refine And.intro oZ ?_ | exact True.intro | (show _ = _; first | exact oY | (first | exact hb | rfl; done) | exact rfl) | exact oW | (apply And.intro)))
      · (repeat' (first | (refine xI (fun hfk => ?_) (fun hfk => ?_) <;> ((try (first | replace hfk := oT hfk | replace hfk := oF hfk | simp only [oD, ne_eq, reduceCtorEq] at hfk)); (try exact oX))) | refine And.intro oZ ?_ | exact True.intro | (show _ = _; first | exact oY | (first | exact hb | rfl; done) | exact rfl) | exact oW | (apply And.intro)))
  have p1 : 0 ≤ lw b 18 4 * T := Int.mul_nonneg (by omega) (by omega)
  have p2 : lw b 18 4 * T ≤ 32768 * 32768 := Int.le_trans (Int.mul_le_mul_of_nonneg_right (by omega) (by omega)) (Int.mul_le_mul_of_nonneg_left (by omega) (by omega))
  have q2 : rngI .i64 (lw b 18 4 * T) := rng64 (by omega) (by omega)
  by_cases a3 : 4194304 < lw b 18 4 * T
  · have es : shC (hW b) T = 30 := by unfold shC; rw [if_neg a1, if_pos (.inr (.inr a3))]
    have e : rdE b = 30 := by rw [e0, es]; rfl
    obtain ⟨z1, z2⟩ := rd_bad (b := b) (by rw [e]; decide)
    rw [z1, z1, z1, z2, e]
    rcases hTc with ⟨hd, rfl⟩ | ⟨hd, rfl⟩
    all_goals
      (repeat' (first | (refine xI (fun hfk => ?_) (fun hfk => ?_) <;> ((try (first | replace hfk := oT hfk | replace hfk := oF hfk | simp only [oD, ne_eq, reduceCtorEq] at hfk)); (try exact oX))) | refine And.intro oZ ?_ | exact True.intro | (show _ = _; first | exact oY | (first | exact hb | rfl; done) | exact rfl) | exact oW | (apply And.intro)))
  have es : shC (hW b) T = 0 := by unfold shC; rw [if_neg a1, if_neg (fun k => k.elim (fun k => a2 (.inl k)) fun k => k.elim (fun k => a2 (.inr k)) a3)]
  rw [es, if_neg (fun k => k rfl)] at e0
  have eN : hNn b = up4 (lw b 18 4 * (lw b 28 2).tdiv 8) * T := by unfold hNn; rw [hT, hc8']
  rw [eN] at e0
  have wc0 : 3 ≤ lw b 18 4 * (lw b 28 2).tdiv 8 ∧ lw b 18 4 * (lw b 28 2).tdiv 8 ≤ 131072 := by rcases hc8 with k | k <;> rw [k] <;> omega
  have ub := up4_bd (lw b 18 4 * (lw b 28 2).tdiv 8)
  have wc1 : 0 ≤ lw b 18 4 * (lw b 28 2).tdiv 8 := by omega
  have wc2 : lw b 18 4 * (lw b 28 2).tdiv 8 ≤ 4294967296 := by omega
  have n1 : 0 ≤ up4 (lw b 18 4 * (lw b 28 2).tdiv 8) * T := Int.mul_nonneg (by omega) (by omega)
  have n2 : up4 (lw b 18 4 * (lw b 28 2).tdiv 8) * T ≤ 131075 * 32768 := Int.le_trans (Int.mul_le_mul_of_nonneg_right (by omega) (by omega)) (Int.mul_le_mul_of_nonneg_left (by omega) (by omega))
  have q3 : rngI .i64 (up4 (lw b 18 4 * (lw b 28 2).tdiv 8) * T) := rng64 (by omega) (by omega)
  by_cases a4 : (b.length : Int) - 54 < up4 (lw b 18 4 * (lw b 28 2).tdiv 8) * T
  · have e : rdE b = 20 := by rw [e0, if_pos a4]
    obtain ⟨z1, z2⟩ := rd_bad (b := b) (by rw [e]; decide)
    rw [z1, z1, z1, z2, e]
    rcases hTc with ⟨hd, rfl⟩ | ⟨hd, rfl⟩
    all_goals
      (repeat' (first | (refine xI (fun hfk => ?_) (fun hfk => ?_) <;> ((try (first | replace hfk := oT hfk | replace hfk := oF hfk | simp only [oD, ne_eq, reduceCtorEq] at hfk)); (try exact oX))) | refine And.intro oZ ?_ | exact True.intro | (show _ = _; first | exact oY | (first | exact hb | rfl; done) | exact rfl) | exact oW | (apply And.intro)))
  by_cases a5 : up4 (lw b 18 4 * (lw b 28 2).tdiv 8) * T < (b.length : Int) - 54
  · have e : rdE b = 22 := by rw [e0, if_neg a4, if_pos a5]
    obtain ⟨z1, z2⟩ := rd_bad (b := b) (by rw [e]; decide)
    rw [z1, z1, z1, z2, e]
    rcases hTc with ⟨hd, rfl⟩ | ⟨hd, rfl⟩
    all_goals
      (repeat' (first | (refine xI (fun hfk => ?_) (fun hfk => ?_) <;> ((try (first | replace hfk := oT hfk | replace hfk := oF hfk | simp only [oD, ne_eq, reduceCtorEq] at hfk)); (try exact oX))) | refine And.intro oZ ?_ | exact True.intro | (show _ = _; first | exact oY | (first | exact hb | rfl; done) | exact rfl) | exact oW | (apply And.intro)))
  rw [if_neg a4, if_neg a5] at e0
  by_cases a6 : lw b 2 4 = b.length ∧ (lw b 34 4 = 0 ∨ lw b 34 4 = up4 (lw b 18 4 * (lw b 28 2).tdiv 8) * T)
  rotate_left
  · have e : rdE b = 21 := by rw [e0, if_neg a6]
    obtain ⟨z1, z2⟩ := rd_bad (b := b) (by rw [e]; decide)
    rw [z1, z1, z1, z2, e]
    rcases hTc with ⟨hd, rfl⟩ | ⟨hd, rfl⟩
    all_goals
      by_cases a7 : lw b 2 4 = b.length
      · have a8 : ¬ lw b 34 4 = 0 := fun k => a6 ⟨a7, .inl k⟩
        have a9 := fun k => a6 ⟨a7, .inr k⟩
        (repeat' (first | (refine xI (fun hfk => ?_) (fun hfk => ?_) <;> ((try (first | replace hfk := oT hfk | replace hfk := oF hfk | simp only [oD, ne_eq, reduceCtorEq] at hfk)); (try exact oX))) | refine And.intro oZ ?_ | exact True.intro | (show _ = _; first | exact oY | (first | exact hb | exact absurd (by assumption) a9 | rfl; done) | exact rfl) | exact oW | (apply And.intro)))
      · (repeat' (first | (refine xI (fun hfk => ?_) (fun hfk => ?_) <;> ((try (first | replace hfk := oT hfk | replace hfk := oF hfk | simp only [oD, ne_eq, reduceCtorEq] at hfk)); (try exact oX))) | refine And.intro oZ ?_ | exact True.intro | (show _ = _; first | exact oY | (first | exact hb | rfl; done) | exact rfl) | exact oW | (apply And.intro)))
  exact rread16_good hb (by rw [e0, if_pos a6])
end Go.Proofs.YtljdahepmmgfeaaGreatDoor
namespace Go.Proofs.YtljdahepmmgfeaaGreatDoor
open Go Go.RowKit
set_option maxHeartbeats 4000000
theorem hd_take {b : List Int} : hdE b = if tkC b ≠ 0 then tkC b else if fmP (lw b 6 4) (lw b 10 4) (lw b 14 4) (lw b 26 2) (lw b 28 2) (lw b 30 4) (lw b 46 4) (lw b 50 4) then 0 else 21 := by
  have hf : (frm0 b ∧ (lw b 28 2 = 24 ∨ lw b 28 2 = 32)) ↔ fmP (lw b 6 4) (lw b 10 4) (lw b 14 4) (lw b 26 2) (lw b 28 2) (lw b 30 4) (lw b 46 4) (lw b 50 4) := by
    unfold frm0 fmP
    constructor
    · rintro ⟨⟨a, b, c, d, e, f, g⟩, h⟩; exact ⟨a, e, f, g, b, c, d, h⟩
    · rintro ⟨a, e, f, g, b, c, d, h⟩; exact ⟨⟨a, b, c, d, e, f, g⟩, h⟩
  have hw : wordC b [66, 77] = if b.length = 0 ∨ (b.length = 1 ∧ b.getD 0 0 = 66) then 20 else if b.getD 0 0 ≠ 66 ∨ (1 < b.length ∧ b.getD 1 0 ≠ 77) then 21 else 0 := by
    match b with
    | [] => rfl
    | [x] =>
      show (if x = 66 then wordC [] [77] else 21) = _
      by_cases hx : x = 66
      · subst hx; rfl
      · rw [if_neg hx, if_neg (by simp [hx]), if_pos (by simp [hx])]
    | x :: y :: r =>
      show (if x = 66 then (if y = 77 then wordC r [] else 21) else 21) = _
      have h0 : ¬ ((x :: y :: r).length = 0 ∨ ((x :: y :: r).length = 1 ∧ (x :: y :: r).getD 0 0 = 66)) := by simp
      rw [if_neg h0]
      by_cases hx : x = 66
      · by_cases hy : y = 77
        · rw [if_pos hx, if_pos hy, if_neg (by simp [hx, hy])]; cases r <;> rfl
        · rw [if_pos hx, if_neg hy, if_pos (by simp [hy])]
      · rw [if_neg hx, if_pos (by simp [hx])]
  unfold hdE tkC
  rw [hw]
  by_cases k1 : b.length = 0 ∨ (b.length = 1 ∧ b.getD 0 0 = 66)
  · rw [if_pos k1, if_pos k1]; rfl
  rw [if_neg k1, if_neg k1]
  by_cases k2 : b.getD 0 0 ≠ 66 ∨ (1 < b.length ∧ b.getD 1 0 ≠ 77)
  · rw [if_pos k2, if_pos k2]; rfl
  rw [if_neg k2, if_neg k2]
  simp only [ne_eq, not_true_eq_false, if_false]
  by_cases k3 : b.length < 54
  · rw [if_pos k3, if_pos k3]; rfl
  rw [if_neg k3, if_neg k3]
  simp only [not_true_eq_false, if_false]
  by_cases k4 : frm0 b ∧ (lw b 28 2 = 24 ∨ lw b 28 2 = 32)
  · rw [if_pos k4, if_pos (hf.1 k4)]
  · rw [if_neg k4, if_neg (fun k => k4 (hf.2 k))]
end Go.Proofs.YtljdahepmmgfeaaGreatDoor

