/- Texts laid together. No condition. -/
import Derived.Test.YtljdahepmmgfeaaGreatDoorS2
set_option maxRecDepth 100000
set_option linter.unusedVariables false
set_option linter.unusedSimpArgs false
namespace Go.Proofs.YtljdahepmmgfeaaGreatDoor
open Go Go.RowKit
set_option maxHeartbeats 4000000
def rnV (b : List Int) (most : Int) : Int × Int × Int :=
  if b.length = 0 then (0, 0, 20)
  else if digN b = 0 ∨ (1 < digN b ∧ b.getD 0 0 = 48) then (0, 0, 21)
  else if most < decV (b.take (digN b)) then (0, 0, 30)
  else (decV (b.take (digN b)), digN b, 0)
structure Byt (b : List Int) : Prop where
  le : b.length ≤ 100000
  bd : ∀ i, 0 ≤ b.getD i 0 ∧ b.getD i 0 ≤ 255
abbrev numberS : PSpec := fun l => match l with | [.roi .u8 b, .int .i64 m] => some ([Byt b, -9223372036854775808 ≤ m, m < 9223372036854775808], .tup [.int .i64 (rnV b m).1, .int .i64 (rnV b m).2.1, .int .i64 (rnV b m).2.2]) | _ => none
theorem number_s : SOK Tryz.prog 99 numberS := by
  refine sok_of (C := mkC 0 [(46, ofS), (76, mulS), (109, addS), (121, cmpS), (122, smallS)] noG) (mkC_ok (pok_cons of_s (pok_cons mul_s (pok_cons add_s (pok_cons cmp_s (pok_cons small_s pok_nil))))) noG_ok) rfl mixed ⟨Tryz.func99, by kernel_rfl, by kernel_rfl, by kernel_rfl⟩ fun l obs v h ho => ?_
  (unfold numberS at h; split at h; rotate_left; (focus (cases h)); rename_i b m; simp only [Option.some.injEq, Prod.mk.injEq] at h; obtain ⟨rfl, rfl⟩ := h; simp only [List.mem_cons, List.not_mem_nil, or_false, forall_eq_or_imp, forall_eq, false_implies, implies_true] at ho)
  obtain ⟨hb, m0, m1⟩ := ho
  have bl := hb.le
  refine ⟨Nat.le_of_ble_eq_true rfl, ?_⟩
  (repeat' (first | (refine xI (fun hfk => ?_) (fun hfk => ?_) <;> ((try (first | replace hfk := oT hfk | replace hfk := oF hfk | simp only [oD, ne_eq, reduceCtorEq] at hfk)); (try exact oX))) | refine And.intro oZ ?_ | exact True.intro | (show _ = _; first | exact oY | exact rfl) | exact oW | (apply And.intro)))
  refine ⟨Nat, fun n => [(0, .roi .u8 b), (1, .int .i64 m), (7, .int .i64 (n : Int)), (8, .ptr 0 0)],
    fun n => ⟨1, [(0, some (.cells 76 [.bool (decide (decV (b.take n) < 0)), .roi .i64 (dgs (decV (b.take n)).natAbs)]))]⟩,
    fun n => n ≤ digN b, fun n => digN b - n, ⟨0, [some 0], Nat.zero_le _, ?_⟩, fun n hn => ?_⟩
  · (repeat' (first | (refine And.intro ?_ ?_) | exact True.intro | (show _ = _; with_reducible rfl) | exact Chk.mk (by kernel_rfl)))
    all_goals rfl
  have hn : n ≤ digN b := hn
  have hdl := digN_le b
  obtain ⟨z0, z1⟩ := decV_bd n hn
  obtain ⟨z, hz⟩ : ∃ z, decV (b.take n) = z := ⟨_, rfl⟩
  rw [hz] at z0 z1
  have B1 : Bg (decide (decV (b.take n) < 0)) (dgs (decV (b.take n)).natAbs) := by rw [hz]; exact Bg_pow z0 z1 (by omega)
  have B2 : Bg (decide ((10 : Int) < 0)) (dgs (Int.natAbs 10)) := Bg_i64 (by decide) (by decide)
  by_cases hlt : n < digN b
  · obtain ⟨d1, d2, d3⟩ := digN_in hlt
    have d2' : 48 ≤ b.getD (n : Int).toNat 0 := d2
    have d3' : b.getD (n : Int).toNat 0 ≤ 57 := d3
    have d1' : (n : Int) < (b.length : Int) := by omega
    obtain ⟨y0, y1⟩ := decV_bd (n + 1) hlt
    have st := decV_step d1
    rw [hz] at st
    have e8 : IntKind.u8.wrap (b.getD (n : Int).toNat 0 - 48) = b.getD n 0 - 48 := wrap_rng ⟨by show (0 : Int) ≤ _; omega, by show _ ≤ (255 : Int); omega⟩
    have r8 : rngI .i64 (IntKind.u8.wrap (b.getD (n : Int).toNat 0 - 48)) := by rw [e8]; exact rng64 (by omega) (by omega)
    have B3 : Bg (decide (IntKind.u8.wrap (b.getD (n : Int).toNat 0 - 48) < 0)) (dgs (IntKind.u8.wrap (b.getD (n : Int).toNat 0 - 48)).natAbs) := by rw [e8]; exact Bg_i64 (by omega) (by omega)
    have z2 : z * 10 < 10 ^ (n + 1) := by rw [Int.pow_succ]; omega
    have B4 : Bg (decide (bzv (decide (decV (b.take n) < 0)) (dgs (decV (b.take n)).natAbs) * bzv (decide ((10 : Int) < 0)) (dgs (Int.natAbs 10)) < 0)) (dgs (bzv (decide (decV (b.take n) < 0)) (dgs (decV (b.take n)).natAbs) * bzv (decide ((10 : Int) < 0)) (dgs (Int.natAbs 10))).natAbs) := by
      rw [bzv_big, bzv_big, hz]
      exact Bg_pow (by omega) z2 (by omega)
    have o1 : -9223372036854775808 ≤ IntKind.u8.wrap (b.getD (n : Int).toNat 0 - 48) := by rw [e8]; omega
    have o2 : IntKind.u8.wrap (b.getD (n : Int).toNat 0 - 48) < 9223372036854775808 := by rw [e8]; omega
    (repeat' (first | (refine xI (fun hfk => ?_) (fun hfk => ?_) <;> ((try (first | replace hfk := oT hfk | replace hfk := oF hfk | simp only [oD, ne_eq, reduceCtorEq] at hfk)); (try exact oX))) | refine And.intro oZ ?_ | exact True.intro | (show _ = _; first | exact oY | (first | exact B1 | exact B2 | exact B3 | exact B4; done) | exact rfl) | exact oW | (apply And.intro)))
    refine ⟨n + 1, [some 0], hlt, ?mu, ?_⟩
    case mu => (show digN b - (n + 1) < digN b - n; omega)
    have eN : bzv (decide (bzv (decide (decV (b.take n) < 0)) (dgs (decV (b.take n)).natAbs) * bzv (decide ((10 : Int) < 0)) (dgs (Int.natAbs 10)) < 0)) (dgs (bzv (decide (decV (b.take n) < 0)) (dgs (decV (b.take n)).natAbs) * bzv (decide ((10 : Int) < 0)) (dgs (Int.natAbs 10))).natAbs) + bzv (decide (IntKind.u8.wrap (b.getD (n : Int).toNat 0 - 48) < 0)) (dgs (IntKind.u8.wrap (b.getD (n : Int).toNat 0 - 48)).natAbs) = decV (b.take (n + 1)) := by
      rw [bzv_big, bzv_big, bzv_big, bzv_big, e8, hz, st]
    have q1 := congrArg (fun w : Int => decide (w < 0)) eN
    have q2 := congrArg (fun w : Int => dgs w.natAbs) eN
    (repeat' (first | (refine And.intro ?_ ?_) | exact True.intro | (show _ = _; with_reducible rfl) | exact Chk.mk (by kernel_rfl)))
    all_goals first | rfl | exact q1 | exact q2 | (show (_ : Int) = _; omega)
  · have hnd : n = digN b := by omega
    by_cases h0 : b.length = 0
    · have h0' : (b.length : Int) = 0 := by omega
      have nv : rnV b m = (0, 0, 20) := if_pos h0
      rw [nv]
      (repeat' (first | (refine xI (fun hfk => ?_) (fun hfk => ?_) <;> ((try (first | replace hfk := oT hfk | replace hfk := oF hfk | simp only [oD, ne_eq, reduceCtorEq] at hfk)); (try exact oX))) | refine And.intro oZ ?_ | exact True.intro | (show _ = _; first | exact oY | exact rfl) | exact oW | (apply And.intro)))
    · have hout : ¬ ((n : Int) < (b.length : Int)) ∨ (n : Int) < (b.length : Int) ∧ ¬ 48 ≤ b.getD (n : Int).toNat 0 ∨ (n : Int) < (b.length : Int) ∧ 48 ≤ b.getD (n : Int).toNat 0 ∧ ¬ b.getD (n : Int).toNat 0 ≤ 57 := by
        by_cases k1 : (n : Int) < (b.length : Int)
        · by_cases k2 : 48 ≤ b.getD (n : Int).toNat 0
          · refine Or.inr (Or.inr ⟨k1, k2, fun k3 => ?_⟩)
            have := digN_out (l := b) (by omega)
            rw [← hnd] at this
            exact this ⟨k2, k3⟩
          · exact Or.inr (Or.inl ⟨k1, k2⟩)
        · exact Or.inl k1
      have h0' : ¬ (b.length : Int) = 0 := by omega
      have B5 : Bg (decide (m < 0)) (dgs m.natAbs) := Bg_i64 m0 m1
      have nv0 : rnV b m = if digN b = 0 ∨ (1 < digN b ∧ b.getD 0 0 = 48) then (0, 0, 21) else if m < decV (b.take (digN b)) then (0, 0, 30) else (decV (b.take (digN b)), (digN b : Int), 0) := if_neg h0
      rw [← hnd] at nv0
      by_cases c1 : (n : Int) = 0
      · have nv : rnV b m = (0, 0, 21) := by rw [nv0, if_pos (Or.inl (by omega))]
        rw [nv]
        rcases hout with k | ⟨k, k'⟩ | ⟨k, k', k''⟩
        · (repeat' (first | (refine xI (fun hfk => ?_) (fun hfk => ?_) <;> ((try (first | replace hfk := oT hfk | replace hfk := oF hfk | simp only [oD, ne_eq, reduceCtorEq] at hfk)); (try exact oX))) | refine And.intro oZ ?_ | exact True.intro | (show _ = _; first | exact oY | exact rfl) | exact oW | (apply And.intro)))
        · (repeat' (first | (refine xI (fun hfk => ?_) (fun hfk => ?_) <;> ((try (first | replace hfk := oT hfk | replace hfk := oF hfk | simp only [oD, ne_eq, reduceCtorEq] at hfk)); (try exact oX))) | refine And.intro oZ ?_ | exact True.intro | (show _ = _; first | exact oY | exact rfl) | exact oW | (apply And.intro)))
        · (repeat' (first | (refine xI (fun hfk => ?_) (fun hfk => ?_) <;> ((try (first | replace hfk := oT hfk | replace hfk := oF hfk | simp only [oD, ne_eq, reduceCtorEq] at hfk)); (try exact oX))) | refine And.intro oZ ?_ | exact True.intro | (show _ = _; first | exact oY | exact rfl) | exact oW | (apply And.intro)))
      · by_cases c2 : 1 < (n : Int)
        · by_cases c3 : b.getD 0 0 = 48
          · have nv : rnV b m = (0, 0, 21) := by rw [nv0, if_pos (Or.inr ⟨by omega, c3⟩)]
            rw [nv]
            rcases hout with k | ⟨k, k'⟩ | ⟨k, k', k''⟩
            · (repeat' (first | (refine xI (fun hfk => ?_) (fun hfk => ?_) <;> ((try (first | replace hfk := oT hfk | replace hfk := oF hfk | simp only [oD, ne_eq, reduceCtorEq] at hfk)); (try exact oX))) | refine And.intro oZ ?_ | exact True.intro | (show _ = _; first | exact oY | exact rfl) | exact oW | (apply And.intro)))
            · (repeat' (first | (refine xI (fun hfk => ?_) (fun hfk => ?_) <;> ((try (first | replace hfk := oT hfk | replace hfk := oF hfk | simp only [oD, ne_eq, reduceCtorEq] at hfk)); (try exact oX))) | refine And.intro oZ ?_ | exact True.intro | (show _ = _; first | exact oY | exact rfl) | exact oW | (apply And.intro)))
            · (repeat' (first | (refine xI (fun hfk => ?_) (fun hfk => ?_) <;> ((try (first | replace hfk := oT hfk | replace hfk := oF hfk | simp only [oD, ne_eq, reduceCtorEq] at hfk)); (try exact oX))) | refine And.intro oZ ?_ | exact True.intro | (show _ = _; first | exact oY | exact rfl) | exact oW | (apply And.intro)))
          · have nv1 : rnV b m = if m < z then (0, 0, 30) else (z, (n : Int), 0) := by rw [nv0, if_neg (fun k => k.elim (fun k => by omega) fun k => by exact c3 k.2), hz]
            by_cases c4 : m < z
            · have hc : 0 < cmpV (bzv (decide (decV (b.take n) < 0)) (dgs (decV (b.take n)).natAbs)) (bzv (decide (m < 0)) (dgs m.natAbs)) := by
                rw [bzv_big, bzv_big, hz]; unfold cmpV; rw [if_neg (by omega), if_pos c4]; decide
              have nv : rnV b m = (0, 0, 30) := by rw [nv1, if_pos c4]
              rw [nv]
              rcases hout with k | ⟨k, k'⟩ | ⟨k, k', k''⟩
              · (repeat' (first | (refine xI (fun hfk => ?_) (fun hfk => ?_) <;> ((try (first | replace hfk := oT hfk | replace hfk := oF hfk | simp only [oD, ne_eq, reduceCtorEq] at hfk)); (try exact oX))) | refine And.intro oZ ?_ | exact True.intro | (show _ = _; first | exact oY | (first | rfl | exact B1 | exact B5; done) | exact rfl) | exact oW | (apply And.intro)))
              · (repeat' (first | (refine xI (fun hfk => ?_) (fun hfk => ?_) <;> ((try (first | replace hfk := oT hfk | replace hfk := oF hfk | simp only [oD, ne_eq, reduceCtorEq] at hfk)); (try exact oX))) | refine And.intro oZ ?_ | exact True.intro | (show _ = _; first | exact oY | (first | rfl | exact B1 | exact B5; done) | exact rfl) | exact oW | (apply And.intro)))
              · (repeat' (first | (refine xI (fun hfk => ?_) (fun hfk => ?_) <;> ((try (first | replace hfk := oT hfk | replace hfk := oF hfk | simp only [oD, ne_eq, reduceCtorEq] at hfk)); (try exact oX))) | refine And.intro oZ ?_ | exact True.intro | (show _ = _; first | exact oY | (first | rfl | exact B1 | exact B5; done) | exact rfl) | exact oW | (apply And.intro)))
            · have hc : ¬ 0 < cmpV (bzv (decide (decV (b.take n) < 0)) (dgs (decV (b.take n)).natAbs)) (bzv (decide (m < 0)) (dgs m.natAbs)) := by
                rw [bzv_big, bzv_big, hz]; unfold cmpV; rw [if_neg c4]; split <;> decide
              have hv : valD (dgs (decV (b.take n)).natAbs) < 9223372036854775808 := by rw [valD_dgs, hz]; omega
              have e1 : bzv (decide (decV (b.take n) < 0)) (dgs (decV (b.take n)).natAbs) = z := by rw [bzv_big, hz]
              have nv : rnV b m = (z, (n : Int), 0) := by rw [nv1, if_neg c4]
              rw [nv]
              rcases hout with k | ⟨k, k'⟩ | ⟨k, k', k''⟩
              · (repeat' (first | (refine xI (fun hfk => ?_) (fun hfk => ?_) <;> ((try (first | replace hfk := oT hfk | replace hfk := oF hfk | simp only [oD, ne_eq, reduceCtorEq] at hfk)); (try exact oX))) | refine And.intro oZ ?_ | exact True.intro | (show _ = _; first | exact oY | (first | rfl | exact B1 | exact B5 | exact e1; done) | exact rfl) | exact oW | (apply And.intro)))
              · (repeat' (first | (refine xI (fun hfk => ?_) (fun hfk => ?_) <;> ((try (first | replace hfk := oT hfk | replace hfk := oF hfk | simp only [oD, ne_eq, reduceCtorEq] at hfk)); (try exact oX))) | refine And.intro oZ ?_ | exact True.intro | (show _ = _; first | exact oY | (first | rfl | exact B1 | exact B5 | exact e1; done) | exact rfl) | exact oW | (apply And.intro)))
              · (repeat' (first | (refine xI (fun hfk => ?_) (fun hfk => ?_) <;> ((try (first | replace hfk := oT hfk | replace hfk := oF hfk | simp only [oD, ne_eq, reduceCtorEq] at hfk)); (try exact oX))) | refine And.intro oZ ?_ | exact True.intro | (show _ = _; first | exact oY | (first | rfl | exact B1 | exact B5 | exact e1; done) | exact rfl) | exact oW | (apply And.intro)))
        · have nv1 : rnV b m = if m < z then (0, 0, 30) else (z, (n : Int), 0) := by rw [nv0, if_neg (fun k => k.elim (fun k => by omega) fun k => by omega), hz]
          by_cases c4 : m < z
          · have hc : 0 < cmpV (bzv (decide (decV (b.take n) < 0)) (dgs (decV (b.take n)).natAbs)) (bzv (decide (m < 0)) (dgs m.natAbs)) := by
              rw [bzv_big, bzv_big, hz]; unfold cmpV; rw [if_neg (by omega), if_pos c4]; decide
            have nv : rnV b m = (0, 0, 30) := by rw [nv1, if_pos c4]
            rw [nv]
            rcases hout with k | ⟨k, k'⟩ | ⟨k, k', k''⟩
            · (repeat' (first | (refine xI (fun hfk => ?_) (fun hfk => ?_) <;> ((try (first | replace hfk := oT hfk | replace hfk := oF hfk | simp only [oD, ne_eq, reduceCtorEq] at hfk)); (try exact oX))) | refine And.intro oZ ?_ | exact True.intro | (show _ = _; first | exact oY | (first | rfl | exact B1 | exact B5; done) | exact rfl) | exact oW | (apply And.intro)))
            · (repeat' (first | (refine xI (fun hfk => ?_) (fun hfk => ?_) <;> ((try (first | replace hfk := oT hfk | replace hfk := oF hfk | simp only [oD, ne_eq, reduceCtorEq] at hfk)); (try exact oX))) | refine And.intro oZ ?_ | exact True.intro | (show _ = _; first | exact oY | (first | rfl | exact B1 | exact B5; done) | exact rfl) | exact oW | (apply And.intro)))
            · (repeat' (first | (refine xI (fun hfk => ?_) (fun hfk => ?_) <;> ((try (first | replace hfk := oT hfk | replace hfk := oF hfk | simp only [oD, ne_eq, reduceCtorEq] at hfk)); (try exact oX))) | refine And.intro oZ ?_ | exact True.intro | (show _ = _; first | exact oY | (first | rfl | exact B1 | exact B5; done) | exact rfl) | exact oW | (apply And.intro)))
          · have hc : ¬ 0 < cmpV (bzv (decide (decV (b.take n) < 0)) (dgs (decV (b.take n)).natAbs)) (bzv (decide (m < 0)) (dgs m.natAbs)) := by
              rw [bzv_big, bzv_big, hz]; unfold cmpV; rw [if_neg c4]; split <;> decide
            have hv : valD (dgs (decV (b.take n)).natAbs) < 9223372036854775808 := by rw [valD_dgs, hz]; omega
            have e1 : bzv (decide (decV (b.take n) < 0)) (dgs (decV (b.take n)).natAbs) = z := by rw [bzv_big, hz]
            have nv : rnV b m = (z, (n : Int), 0) := by rw [nv1, if_neg c4]
            rw [nv]
            rcases hout with k | ⟨k, k'⟩ | ⟨k, k', k''⟩
            · (repeat' (first | (refine xI (fun hfk => ?_) (fun hfk => ?_) <;> ((try (first | replace hfk := oT hfk | replace hfk := oF hfk | simp only [oD, ne_eq, reduceCtorEq] at hfk)); (try exact oX))) | refine And.intro oZ ?_ | exact True.intro | (show _ = _; first | exact oY | (first | rfl | exact B1 | exact B5 | exact e1; done) | exact rfl) | exact oW | (apply And.intro)))
            · (repeat' (first | (refine xI (fun hfk => ?_) (fun hfk => ?_) <;> ((try (first | replace hfk := oT hfk | replace hfk := oF hfk | simp only [oD, ne_eq, reduceCtorEq] at hfk)); (try exact oX))) | refine And.intro oZ ?_ | exact True.intro | (show _ = _; first | exact oY | (first | rfl | exact B1 | exact B5 | exact e1; done) | exact rfl) | exact oW | (apply And.intro)))
            · (repeat' (first | (refine xI (fun hfk => ?_) (fun hfk => ?_) <;> ((try (first | replace hfk := oT hfk | replace hfk := oF hfk | simp only [oD, ne_eq, reduceCtorEq] at hfk)); (try exact oX))) | refine And.intro oZ ?_ | exact True.intro | (show _ = _; first | exact oY | (first | rfl | exact B1 | exact B5 | exact e1; done) | exact rfl) | exact oW | (apply And.intro)))
end Go.Proofs.YtljdahepmmgfeaaGreatDoor
namespace Go.Proofs.YtljdahepmmgfeaaGreatDoor
open Go Go.RowKit
set_option maxHeartbeats 4000000
abbrev rblankS : PSpec := fun l => match l with | [.int .u8 b] => some ([], .bool (isBl b)) | _ => none
theorem rblank_s : SOK Tryz.prog 120 rblankS := by
  refine sok_of (C := mkC 0 [] noG) (mkC_ok pok_nil noG_ok) rfl mixed ⟨Tryz.func120, by kernel_rfl, by kernel_rfl, by kernel_rfl⟩ fun l obs v h ho => ?_
  (unfold rblankS at h; split at h; rotate_left; (focus (cases h)); rename_i b; simp only [Option.some.injEq, Prod.mk.injEq] at h; obtain ⟨rfl, rfl⟩ := h; simp only [List.mem_cons, List.not_mem_nil, or_false, forall_eq_or_imp, forall_eq, false_implies, implies_true] at ho)
  refine ⟨Nat.le_of_ble_eq_true rfl, ?_⟩
  by_cases h1 : 9 ≤ b
  · by_cases h2 : b ≤ 13
    · have e : true = isBl b := by unfold isBl; rw [decide_eq_true h1, decide_eq_true h2]; rfl
      (repeat' (first | (refine xI (fun hfk => ?_) (fun hfk => ?_) <;> ((try (first | replace hfk := oT hfk | replace hfk := oF hfk | simp only [oD, ne_eq, reduceCtorEq] at hfk)); (try exact oX))) | refine And.intro oZ ?_ | exact True.intro | (show _ = _; first | exact oY | (exact e; done) | exact rfl) | exact oW | (apply And.intro)))
    · have e : decide (b = 32) = isBl b := by unfold isBl; rw [decide_eq_true h1, decide_eq_false h2]; rfl
      (repeat' (first | (refine xI (fun hfk => ?_) (fun hfk => ?_) <;> ((try (first | replace hfk := oT hfk | replace hfk := oF hfk | simp only [oD, ne_eq, reduceCtorEq] at hfk)); (try exact oX))) | refine And.intro oZ ?_ | exact True.intro | (show _ = _; first | exact oY | (exact e; done) | exact rfl) | exact oW | (apply And.intro)))
  · have e : decide (b = 32) = isBl b := by unfold isBl; rw [decide_eq_false h1]; rfl
    (repeat' (first | (refine xI (fun hfk => ?_) (fun hfk => ?_) <;> ((try (first | replace hfk := oT hfk | replace hfk := oF hfk | simp only [oD, ne_eq, reduceCtorEq] at hfk)); (try exact oX))) | refine And.intro oZ ?_ | exact True.intro | (show _ = _; first | exact oY | (exact e; done) | exact rfl) | exact oW | (apply And.intro)))
def takV (n len : Int) : Int × Int := if n < 0 then (0, 10) else if len < n then (0, 20) else (n, 0)
abbrev rtakeS : PSpec := fun l => match l with | [.roi .u8 b, .int .i64 n] => some ([], .tup [.int .i64 (takV n b.length).1, .int .i64 (takV n b.length).2]) | _ => none
def oneV (b : List Int) : Int × Int := if b.length = 0 then (0, 20) else if isBl (b.getD 0 0) = true then (1, 0) else (0, 21)
abbrev roneS : PSpec := fun l => match l with | [.roi .u8 b] => some ([], .tup [.int .i64 (oneV b).1, .int .i64 (oneV b).2]) | _ => none
theorem rone_s : SOK Tryz.prog 100 roneS := by
  refine sok_of (C := mkC 0 [(120, rblankS)] noG) (mkC_ok (pok_cons rblank_s pok_nil) noG_ok) rfl mixed ⟨Tryz.func100, by kernel_rfl, by kernel_rfl, by kernel_rfl⟩ fun l obs v h ho => ?_
  (unfold roneS at h; split at h; rotate_left; (focus (cases h)); rename_i b; simp only [Option.some.injEq, Prod.mk.injEq] at h; obtain ⟨rfl, rfl⟩ := h; simp only [List.mem_cons, List.not_mem_nil, or_false, forall_eq_or_imp, forall_eq, false_implies, implies_true] at ho)
  refine ⟨Nat.le_of_ble_eq_true rfl, ?_⟩
  by_cases h0 : b.length = 0
  · have h0' : (b.length : Int) = 0 := by omega
    have e : oneV b = (0, 20) := if_pos h0
    rw [e]
    (repeat' (first | (refine xI (fun hfk => ?_) (fun hfk => ?_) <;> ((try (first | replace hfk := oT hfk | replace hfk := oF hfk | simp only [oD, ne_eq, reduceCtorEq] at hfk)); (try exact oX))) | refine And.intro oZ ?_ | exact True.intro | (show _ = _; first | exact oY | exact rfl) | exact oW | (apply And.intro)))
  · have h0' : ¬ (b.length : Int) = 0 := by omega
    have h1' : 0 < (b.length : Int) := by omega
    by_cases h2 : isBl (b.getD 0 0) = true
    · have h2k : ¬ isBl (b.getD (Int.toNat 0) 0) = false := by rw [show isBl (b.getD (Int.toNat 0) 0) = true from h2]; decide
      have e : oneV b = (1, 0) := by unfold oneV; rw [if_neg h0, if_pos h2]
      rw [e]
      (repeat' (first | (refine xI (fun hfk => ?_) (fun hfk => ?_) <;> ((try (first | replace hfk := oT hfk | replace hfk := oF hfk | simp only [oD, ne_eq, reduceCtorEq] at hfk)); (try exact oX))) | refine And.intro oZ ?_ | exact True.intro | (show _ = _; first | exact oY | exact rfl) | exact oW | (apply And.intro)))
    · have h2' : isBl (b.getD 0 0) = false := by simpa using h2
      have h2k : ¬ isBl (b.getD (Int.toNat 0) 0) = true := h2
      have e : oneV b = (0, 21) := by unfold oneV; rw [if_neg h0, if_neg h2]
      rw [e]
      (repeat' (first | (refine xI (fun hfk => ?_) (fun hfk => ?_) <;> ((try (first | replace hfk := oT hfk | replace hfk := oF hfk | simp only [oD, ne_eq, reduceCtorEq] at hfk)); (try exact oX))) | refine And.intro oZ ?_ | exact True.intro | (show _ = _; first | exact oY | exact rfl) | exact oW | (apply And.intro)))
def lowV : List Int → Int
  | [] => 0
  | d :: l => d + 256 * lowV l
theorem lowV_drop {l : List Int} {i : Nat} (h : i < l.length) : lowV (l.drop i) = l.getD i 0 + 256 * lowV (l.drop (i + 1)) := by
  rw [drop_cons h, lowV]
theorem lowV_bd : ∀ {l : List Int}, (∀ x ∈ l, 0 ≤ x ∧ x ≤ 255) → 0 ≤ lowV l ∧ lowV l < 256 ^ l.length
  | [], _ => ⟨by decide, by decide⟩
  | d :: l, h => by
    obtain ⟨a, b⟩ := lowV_bd (l := l) fun x hx => h x (List.mem_cons_of_mem _ hx)
    obtain ⟨c, e⟩ := h d List.mem_cons_self
    rw [lowV, List.length_cons, Int.pow_succ]
    constructor <;> omega
theorem p256 {L : Nat} (h : L ≤ 4) : (256 : Int) ^ L ≤ 4294967296 := by
  have : L = 0 ∨ L = 1 ∨ L = 2 ∨ L = 3 ∨ L = 4 := by omega
  rcases this with k | k | k | k | k <;> subst k <;> decide
theorem u32_id {n : Int} (h0 : 0 ≤ n) (h1 : n < 4294967296) : IntKind.u32.wrap n = n :=
  wrap_rng ⟨by show (0 : Int) ≤ _; exact h0, by show _ ≤ (4294967295 : Int); omega⟩
def lowC (n len : Int) : Int := if n < 1 ∨ 4 < n then 10 else if len < n then 20 else 0
end Go.Proofs.YtljdahepmmgfeaaGreatDoor
namespace Go.Proofs.YtljdahepmmgfeaaGreatDoor
open Go Go.RowKit
set_option maxHeartbeats 4000000
def wordC : List Int → List Int → Int
  | _, [] => 0
  | [], _ :: _ => 20
  | d :: b, c :: s => if d = c then wordC b s else 21
abbrev strI (s : List UInt8) : List Int := s.map fun c => (c.toNat : Int)
end Go.Proofs.YtljdahepmmgfeaaGreatDoor
namespace Go.Proofs.YtljdahepmmgfeaaGreatDoor
open Go Go.RowKit
set_option maxHeartbeats 4000000
abbrev rblkS : PSpec := fun l => match l with | [.roi .u8 b] => some ([b.length ≤ 140737488355328], .tup [.int .i64 (bkG false b : Int), .int .i64 (blC b)]) | _ => none
theorem rblk_s : SOK Tryz.prog 98 rblkS := by
  refine sok_of (C := mkC 0 [(120, rblankS)] noG) (mkC_ok (pok_cons rblank_s pok_nil) noG_ok) rfl mixed ⟨Tryz.func98, by kernel_rfl, by kernel_rfl, by kernel_rfl⟩ fun l obs v h ho => ?_
  (unfold rblkS at h; split at h; rotate_left; (focus (cases h)); rename_i b; simp only [Option.some.injEq, Prod.mk.injEq] at h; obtain ⟨rfl, rfl⟩ := h; simp only [List.mem_cons, List.not_mem_nil, or_false, forall_eq_or_imp, forall_eq, false_implies, implies_true] at ho)
  have lb := ho
  refine ⟨Nat.le_of_ble_eq_true rfl, ?_⟩
  by_cases h0 : b.length = 0
  · have h0' : (b.length : Int) = 0 := by omega
    have e1 : (bkG false b : Int) = 0 := by have := bkG_le false b; omega
    have e2 : blC b = 20 := if_pos h0
    rw [e1, e2]
    (repeat' (first | (refine xI (fun hfk => ?_) (fun hfk => ?_) <;> ((try (first | replace hfk := oT hfk | replace hfk := oF hfk | simp only [oD, ne_eq, reduceCtorEq] at hfk)); (try exact oX))) | refine And.intro oZ ?_ | exact True.intro | (show _ = _; first | exact oY | exact rfl) | exact oW | (apply And.intro)))
  have h0' : ¬ (b.length : Int) = 0 := by omega
  (repeat' (first | (refine xI (fun hfk => ?_) (fun hfk => ?_) <;> ((try (first | replace hfk := oT hfk | replace hfk := oF hfk | simp only [oD, ne_eq, reduceCtorEq] at hfk)); (try exact oX))) | refine And.intro oZ ?_ | exact True.intro | (show _ = _; first | exact oY | exact rfl) | exact oW | (apply And.intro)))
  refine ⟨Nat, fun i => [(0, .roi .u8 b), (4, .int .i64 (i : Int))], fun i => ⟨0, []⟩, fun i => i ≤ b.length + 1 ∧ bkG false (b.drop i) + min i b.length = bkG false b, fun i => b.length + 1 - i, ⟨0, [], ⟨Nat.zero_le _, by simp⟩, ?_⟩, fun i hi => ?_⟩
  · (repeat' (first | (refine And.intro ?_ ?_) | exact True.intro | (show _ = _; with_reducible rfl) | exact Chk.mk (by kernel_rfl)))
    all_goals rfl
  obtain ⟨i1, i2⟩ := hi
  have i1 : i ≤ b.length + 1 := i1
  have i2 : bkG false (b.drop i) + min i b.length = bkG false b := i2
  have hle := bkG_le false b
  have ri : rngI .i64 ((i : Int) + 1) := rng64 (by omega) (by omega)
  by_cases hs : i < b.length
  · have hs' : (i : Int) < (b.length : Int) := by omega
    have hm : min i b.length = i := by omega
    have st : bkG false (b.drop i) = if isBl (b.getD i 0) = true then bkG false (b.drop (i + 1)) + 1 else if b.getD i 0 = 35 then bkG true (b.drop (i + 1)) + 1 else 0 := by
      rw [drop_cons hs, bkG]
    rw [hm] at i2
    by_cases hb : isBl (b.getD i 0) = true
    · have hb1 : isBl (b.getD (i : Int).toNat 0) = true := hb
      have hb2 : ¬ isBl (b.getD (i : Int).toNat 0) = false := by rw [hb1]; decide
      have hn : ¬ b.getD (i : Int).toNat 0 = 35 := by
        intro k
        have k : b.getD i 0 = 35 := k
        rw [k] at hb
        exact absurd hb (by decide)
      rw [if_pos hb] at st
      (repeat' (first | (refine xI (fun hfk => ?_) (fun hfk => ?_) <;> ((try (first | replace hfk := oT hfk | replace hfk := oF hfk | simp only [oD, ne_eq, reduceCtorEq] at hfk)); (try exact oX))) | refine And.intro oZ ?_ | exact True.intro | (show _ = _; first | exact oY | exact rfl) | exact oW | (apply And.intro)))
      refine ⟨i + 1, [], ⟨by omega, ?_⟩, ?mu, ?_⟩
      case mu => (show b.length + 1 - (i + 1) < b.length + 1 - i; omega)
      · show bkG false (b.drop (i + 1)) + min (i + 1) b.length = bkG false b
        omega
      (repeat' (first | (refine And.intro ?_ ?_) | exact True.intro | (show _ = _; with_reducible rfl) | exact Chk.mk (by kernel_rfl)))
      all_goals first | rfl | (show (_ : Int) = _; omega)
    · have hb1 : ¬ isBl (b.getD (i : Int).toNat 0) = true := hb
      rw [if_neg hb] at st
      by_cases hx : b.getD i 0 = 35
      · have hx' : b.getD (i : Int).toNat 0 = 35 := hx
        rw [if_pos hx] at st
        (repeat' (first | (refine xI (fun hfk => ?_) (fun hfk => ?_) <;> ((try (first | replace hfk := oT hfk | replace hfk := oF hfk | simp only [oD, ne_eq, reduceCtorEq] at hfk)); (try exact oX))) | refine And.intro oZ ?_ | exact True.intro | (show _ = _; first | exact oY | exact rfl) | exact oW | (apply And.intro)))
        have s0 : bkG true (b.drop i) = bkG true (b.drop (i + 1)) + 1 := by
          rw [drop_cons hs, bkG, if_neg (by rw [hx]; decide)]
        refine ⟨Nat, fun k => [(0, .roi .u8 b), (4, .int .i64 (k : Int))], fun k => ⟨0, []⟩, fun k => i ≤ k ∧ k ≤ b.length ∧ bkG true (b.drop k) + k = bkG false b, fun k => b.length - k, ⟨i, [], ⟨Nat.le_refl _, by omega, by omega⟩, ?_⟩, fun k hk => ?_⟩
        · (repeat' (first | (refine And.intro ?_ ?_) | exact True.intro | (show _ = _; with_reducible rfl) | exact Chk.mk (by kernel_rfl)))
          all_goals rfl
        obtain ⟨k1, k2, k3⟩ := hk
        have k1 : i ≤ k := k1
        have k2 : k ≤ b.length := k2
        have k3 : bkG true (b.drop k) + k = bkG false b := k3
        have rk : rngI .i64 ((k : Int) + 1) := rng64 (by omega) (by omega)
        by_cases hkl : k < b.length
        · have hkl' : (k : Int) < (b.length : Int) := by omega
          have sk : bkG true (b.drop k) = if b.getD k 0 = 10 then bkG false (b.drop (k + 1)) + 1 else bkG true (b.drop (k + 1)) + 1 := by
            rw [drop_cons hkl, bkG]
          by_cases ht : b.getD k 0 = 10
          · have ht' : ¬ b.getD (k : Int).toNat 0 ≠ 10 := fun h => h ht
            rw [if_pos ht] at sk
            (repeat' (first | (refine xI (fun hfk => ?_) (fun hfk => ?_) <;> ((try (first | replace hfk := oT hfk | replace hfk := oF hfk | simp only [oD, ne_eq, reduceCtorEq] at hfk)); (try exact oX))) | refine And.intro oZ ?_ | exact True.intro | (show _ = _; first | exact oY | exact rfl) | exact oW | (apply And.intro)))
            refine ⟨k + 1, [], ⟨by omega, ?_⟩, ?mu, ?_⟩
            case mu => (show b.length + 1 - (k + 1) < b.length + 1 - i; omega)
            · show bkG false (b.drop (k + 1)) + min (k + 1) b.length = bkG false b
              omega
            (repeat' (first | (refine And.intro ?_ ?_) | exact True.intro | (show _ = _; with_reducible rfl) | exact Chk.mk (by kernel_rfl)))
            all_goals first | rfl | (show (_ : Int) = _; omega)
          · have ht' : b.getD (k : Int).toNat 0 ≠ 10 := ht
            rw [if_neg ht] at sk
            (repeat' (first | (refine xI (fun hfk => ?_) (fun hfk => ?_) <;> ((try (first | replace hfk := oT hfk | replace hfk := oF hfk | simp only [oD, ne_eq, reduceCtorEq] at hfk)); (try exact oX))) | refine And.intro oZ ?_ | exact True.intro | (show _ = _; first | exact oY | exact rfl) | exact oW | (apply And.intro)))
            refine ⟨k + 1, [], ⟨by omega, by omega, by omega⟩, ?mu, ?_⟩
            case mu => (show b.length - (k + 1) < b.length - k; omega)
            (repeat' (first | (refine And.intro ?_ ?_) | exact True.intro | (show _ = _; with_reducible rfl) | exact Chk.mk (by kernel_rfl)))
            all_goals first | rfl | (show (_ : Int) = _; omega)
        · have hkl' : ¬ (k : Int) < (b.length : Int) := by omega
          have dk : bkG true (b.drop k) = 0 := by rw [List.drop_of_length_le (by omega), bkG]
          have dk1 : bkG false (b.drop (k + 1)) = 0 := by rw [List.drop_of_length_le (by omega), bkG]
          (repeat' (first | (refine xI (fun hfk => ?_) (fun hfk => ?_) <;> ((try (first | replace hfk := oT hfk | replace hfk := oF hfk | simp only [oD, ne_eq, reduceCtorEq] at hfk)); (try exact oX))) | refine And.intro oZ ?_ | exact True.intro | (show _ = _; first | exact oY | exact rfl) | exact oW | (apply And.intro)))
          refine ⟨k + 1, [], ⟨by omega, ?_⟩, ?mu, ?_⟩
          case mu => (show b.length + 1 - (k + 1) < b.length + 1 - i; omega)
          · show bkG false (b.drop (k + 1)) + min (k + 1) b.length = bkG false b
            omega
          (repeat' (first | (refine And.intro ?_ ?_) | exact True.intro | (show _ = _; with_reducible rfl) | exact Chk.mk (by kernel_rfl)))
          all_goals first | rfl | (show (_ : Int) = _; omega)
      · have hx' : ¬ b.getD (i : Int).toNat 0 = 35 := hx
        rw [if_neg hx] at st
        have hk : i = bkG false b := by omega
        by_cases hz : (i : Int) = 0
        · have e1 : (bkG false b : Int) = 0 := by omega
          have e2 : blC b = 21 := by unfold blC; rw [if_neg h0, if_pos (by omega)]
          rw [e1, e2]
          (repeat' (first | (refine xI (fun hfk => ?_) (fun hfk => ?_) <;> ((try (first | replace hfk := oT hfk | replace hfk := oF hfk | simp only [oD, ne_eq, reduceCtorEq] at hfk)); (try exact oX))) | refine And.intro oZ ?_ | exact True.intro | (show _ = _; first | exact oY | exact rfl) | exact oW | (apply And.intro)))
        · have e1 : min (i : Int) (b.length : Int) = (bkG false b : Int) := by omega
          have e2 : (0 : Int) = blC b := by unfold blC; rw [if_neg h0, if_neg (by omega)]
          (repeat' (first | (refine xI (fun hfk => ?_) (fun hfk => ?_) <;> ((try (first | replace hfk := oT hfk | replace hfk := oF hfk | simp only [oD, ne_eq, reduceCtorEq] at hfk)); (try exact oX))) | refine And.intro oZ ?_ | exact True.intro | (show _ = _; first | exact oY | (first | exact e1 | exact e2; done) | exact rfl) | exact oW | (apply And.intro)))
  · have hs' : ¬ (i : Int) < (b.length : Int) := by omega
    have hz : ¬ (i : Int) = 0 := by omega
    have hd : bkG false (b.drop i) = 0 := by rw [List.drop_of_length_le (by omega), bkG]
    have e1 : min (i : Int) (b.length : Int) = (bkG false b : Int) := by omega
    have e2 : (0 : Int) = blC b := by unfold blC; rw [if_neg h0, if_neg (by omega)]
    (repeat' (first | (refine xI (fun hfk => ?_) (fun hfk => ?_) <;> ((try (first | replace hfk := oT hfk | replace hfk := oF hfk | simp only [oD, ne_eq, reduceCtorEq] at hfk)); (try exact oX))) | refine And.intro oZ ?_ | exact True.intro | (show _ = _; first | exact oY | (first | exact e1 | exact e2; done) | exact rfl) | exact oW | (apply And.intro)))
end Go.Proofs.YtljdahepmmgfeaaGreatDoor
namespace Go.Proofs.YtljdahepmmgfeaaGreatDoor
open Go Go.RowKit
set_option maxHeartbeats 4000000
def coneF : FSpec := fun l es => match l, es with
  | [.ptr 0 0], [.cells 120 [.sl 1 1 0 n, .int .i64 a], .ints 5 .u8 b] =>
    some ([n = b.length, 0 ≤ a, a ≤ b.length, b.length ≤ 140737488355328], .int .i64 (oneV (cR b a)).2, [some (cutE n (a + (oneV (cR b a)).1)), some (bE b)])
  | _, _ => none
theorem cone_g : GSOK Tryz.prog 117 (fG coneF) := by
  refine fok (S := [(127, sU8 fun x => .bool (isBl x))]) (G := glook [(87, fG restF), (88, fG passF)]) (pok_cons blank14_s pok_nil) (gl_cons rest_g (gl_cons pass_g gl_nil)) ⟨Tryz.func117, by kernel_rfl, by kernel_rfl, by kernel_rfl⟩ fun l es obs v es' h ho => ?_
  (unfold coneF at h; split at h; rotate_left; (focus (cases h)); rename_i n a b; simp only [Option.some.injEq, Prod.mk.injEq] at h; obtain ⟨rfl, rfl, rfl⟩ := h; simp only [List.mem_cons, List.not_mem_nil, or_false, forall_eq_or_imp, forall_eq, false_implies, implies_true] at ho)
  obtain ⟨rfl, ho1, ho2, ho3⟩ := ho
  refine ⟨Nat.le_of_ble_eq_true rfl, ?_⟩
  have el : (cR b a).length = b.length - a.toNat := by simp
  by_cases k1 : (cR b a).length = 0
  · have e : oneV (cR b a) = (0, 20) := if_pos k1
    rw [e]
    (repeat' (first | (refine xI (fun hfk => ?_) (fun hfk => ?_) <;> ((try (first | replace hfk := oT hfk | replace hfk := oF hfk | simp only [oD, ne_eq, reduceCtorEq] at hfk)); (try exact oX))) | refine And.intro oZ ?_ | exact True.intro | (show _ = _; first | exact oY | exact rfl) | exact oW | (apply And.intro)))
    (refine ⟨[0, 1], ⟨by kernel_rfl⟩, ?_⟩)
    (repeat' (first | (refine xI (fun hfk => ?_) (fun hfk => ?_) <;> ((try (first | replace hfk := oT hfk | replace hfk := oF hfk | simp only [oD, ne_eq, reduceCtorEq] at hfk)); (try exact oX))) | refine And.intro oZ ?_ | exact True.intro | (show _ = _; first | exact oY | exact rfl) | exact oW | (apply And.intro)))
    refine ⟨[some 0, some 1], ?_⟩
    (repeat' (first | (refine xI (fun hfk => ?_) (fun hfk => ?_) <;> ((try (first | replace hfk := oT hfk | replace hfk := oF hfk | simp only [oD, ne_eq, reduceCtorEq] at hfk)); (try exact oX))) | refine And.intro oZ ?_ | exact True.intro | (show _ = _; first | exact oY | (first | rfl | (show (_ : Int) = _; omega); done) | exact rfl) | exact oW | (apply And.intro)))
  have hl : 0 < (cR b a).length := by omega
  have eg : b.getD (a.toNat + (0 : Int).toNat) 0 = (cR b a).getD 0 0 := cR_get (i := 0) hl
  by_cases hb : isBl ((cR b a).getD 0 0) = true
  · have e : oneV (cR b a) = (1, 0) := by unfold oneV; rw [if_neg k1, if_pos hb]
    have hb2 : ¬ isBl (b.getD (a.toNat + (0 : Int).toNat) 0) = false := by rw [eg, hb]; decide
    have ra : rngI .i64 (a + 1) := rng64 (by omega) (by omega)
    rw [e]
    (repeat' (first | (refine xI (fun hfk => ?_) (fun hfk => ?_) <;> ((try (first | replace hfk := oT hfk | replace hfk := oF hfk | simp only [oD, ne_eq, reduceCtorEq] at hfk)); (try exact oX))) | refine And.intro oZ ?_ | exact True.intro | (show _ = _; first | exact oY | exact rfl) | exact oW | (apply And.intro)))
    (refine ⟨[0, 1], ⟨by kernel_rfl⟩, ?_⟩)
    (repeat' (first | (refine xI (fun hfk => ?_) (fun hfk => ?_) <;> ((try (first | replace hfk := oT hfk | replace hfk := oF hfk | simp only [oD, ne_eq, reduceCtorEq] at hfk)); (try exact oX))) | refine And.intro oZ ?_ | exact True.intro | (show _ = _; first | exact oY | exact rfl) | exact oW | (apply And.intro)))
    (refine ⟨[0, 1], ⟨by kernel_rfl⟩, ?_⟩)
    (repeat' (first | (refine xI (fun hfk => ?_) (fun hfk => ?_) <;> ((try (first | replace hfk := oT hfk | replace hfk := oF hfk | simp only [oD, ne_eq, reduceCtorEq] at hfk)); (try exact oX))) | refine And.intro oZ ?_ | exact True.intro | (show _ = _; first | exact oY | exact rfl) | exact oW | (apply And.intro)))
    refine ⟨[some 0, some 1], ?_⟩
    (repeat' (first | (refine xI (fun hfk => ?_) (fun hfk => ?_) <;> ((try (first | replace hfk := oT hfk | replace hfk := oF hfk | simp only [oD, ne_eq, reduceCtorEq] at hfk)); (try exact oX))) | refine And.intro oZ ?_ | exact True.intro | (show _ = _; first | exact oY | (first | rfl | (show (_ : Int) = _; omega); done) | exact rfl) | exact oW | (apply And.intro)))
  · have e : oneV (cR b a) = (0, 21) := by unfold oneV; rw [if_neg k1, if_neg hb]
    have hb2 : ¬ isBl (b.getD (a.toNat + (0 : Int).toNat) 0) = true := by rw [eg]; exact hb
    rw [e]
    (repeat' (first | (refine xI (fun hfk => ?_) (fun hfk => ?_) <;> ((try (first | replace hfk := oT hfk | replace hfk := oF hfk | simp only [oD, ne_eq, reduceCtorEq] at hfk)); (try exact oX))) | refine And.intro oZ ?_ | exact True.intro | (show _ = _; first | exact oY | exact rfl) | exact oW | (apply And.intro)))
    (refine ⟨[0, 1], ⟨by kernel_rfl⟩, ?_⟩)
    (repeat' (first | (refine xI (fun hfk => ?_) (fun hfk => ?_) <;> ((try (first | replace hfk := oT hfk | replace hfk := oF hfk | simp only [oD, ne_eq, reduceCtorEq] at hfk)); (try exact oX))) | refine And.intro oZ ?_ | exact True.intro | (show _ = _; first | exact oY | exact rfl) | exact oW | (apply And.intro)))
    refine ⟨[some 0, some 1], ?_⟩
    (repeat' (first | (refine xI (fun hfk => ?_) (fun hfk => ?_) <;> ((try (first | replace hfk := oT hfk | replace hfk := oF hfk | simp only [oD, ne_eq, reduceCtorEq] at hfk)); (try exact oX))) | refine And.intro oZ ?_ | exact True.intro | (show _ = _; first | exact oY | (first | rfl | (show (_ : Int) = _; omega); done) | exact rfl) | exact oW | (apply And.intro)))
end Go.Proofs.YtljdahepmmgfeaaGreatDoor
namespace Go.Proofs.YtljdahepmmgfeaaGreatDoor
open Go Go.RowKit
set_option maxHeartbeats 4000000
def wordN (r : List Int) (s : List UInt8) : Int := if wordC r (strI s) = 0 then (s.length : Int) else 0
theorem wordC_le : ∀ {b s : List Int}, wordC b s = 0 → s.length ≤ b.length
  | _, [], _ => Nat.zero_le _
  | [], _ :: _, h => by simp [wordC] at h
  | d :: b, c :: s, h => by
    unfold wordC at h
    split at h
    · have := wordC_le h; simp; omega
    · simp at h
def cwordF : FSpec := fun l es => match l, es with
  | [.ptr 0 0, .str s], [.cells 120 [.sl 1 1 0 n, .int .i64 a], .ints 5 .u8 b] =>
    some ([n = b.length, 0 ≤ a, a ≤ b.length, b.length ≤ 140737488355328, s.length ≤ 140737488355328], .int .i64 (wordC (cR b a) (strI s)), [some (cutE n (a + wordN (cR b a) s)), some (bE b)])
  | _, _ => none
theorem cword_g : GSOK Tryz.prog 89 (fG cwordF) := by
  refine fok (S := []) (G := glook [(87, fG restF), (88, fG passF)]) pok_nil (gl_cons rest_g (gl_cons pass_g gl_nil)) ⟨Tryz.func89, by kernel_rfl, by kernel_rfl, by kernel_rfl⟩ fun l es obs v es' h ho => ?_
  (unfold cwordF at h; split at h; rotate_left; (focus (cases h)); rename_i s n a b; simp only [Option.some.injEq, Prod.mk.injEq] at h; obtain ⟨rfl, rfl, rfl⟩ := h; simp only [List.mem_cons, List.not_mem_nil, or_false, forall_eq_or_imp, forall_eq, false_implies, implies_true] at ho)
  obtain ⟨rfl, ho1, ho2, ho3, ho4⟩ := ho
  refine ⟨Nat.le_of_ble_eq_true rfl, ?_⟩
  have el : (cR b a).length = b.length - a.toNat := by simp
  (repeat' (first | (refine xI (fun hfk => ?_) (fun hfk => ?_) <;> ((try (first | replace hfk := oT hfk | replace hfk := oF hfk | simp only [oD, ne_eq, reduceCtorEq] at hfk)); (try exact oX))) | refine And.intro oZ ?_ | exact True.intro | (show _ = _; first | exact oY | exact rfl) | exact oW | (apply And.intro)))
  (refine ⟨[0, 1], ⟨by kernel_rfl⟩, ?_⟩)
  (repeat' (first | (refine xI (fun hfk => ?_) (fun hfk => ?_) <;> ((try (first | replace hfk := oT hfk | replace hfk := oF hfk | simp only [oD, ne_eq, reduceCtorEq] at hfk)); (try exact oX))) | refine And.intro oZ ?_ | exact True.intro | (show _ = _; first | exact oY | exact rfl) | exact oW | (apply And.intro)))
  refine ⟨Nat, fun i => [(0, .ptr 0 0), (1, .str s), (5, .sl 1 1 a.toNat (b.length - a.toNat)), (13, .int .i64 (min (s.length : Int) ((b.length - a.toNat : Nat) : Int))), (14, .int .i64 (i : Int))],
      fun i => ⟨2, [(0, some (.cells 120 [.sl 1 1 0 b.length, .int .i64 a])), (1, some (.ints 5 .u8 b))]⟩,
      fun i => i ≤ s.length ∧ i ≤ (cR b a).length ∧ wordC ((cR b a).drop i) ((strI s).drop i) = wordC (cR b a) (strI s), fun i => s.length - i, ⟨0, [some 0, some 1], ⟨Nat.zero_le _, Nat.zero_le _, rfl⟩, ?_⟩, fun i hi => ?_⟩
  · (repeat' (first | (refine And.intro ?_ ?_) | exact True.intro | (show _ = _; with_reducible rfl) | exact Chk.mk (by kernel_rfl)))
    all_goals rfl
  obtain ⟨i1, i2, i3⟩ := hi
  have i1 : i ≤ s.length := i1
  have i2 : i ≤ (cR b a).length := i2
  have i3 : wordC ((cR b a).drop i) ((strI s).drop i) = wordC (cR b a) (strI s) := i3
  have tl : (strI s).length = s.length := List.length_map ..
  by_cases hs : i < s.length
  · by_cases hb : i < (cR b a).length
    · have hlt : (i : Int) < min (s.length : Int) ((b.length - a.toNat : Nat) : Int) := by omega
      have st : wordC ((cR b a).drop i) ((strI s).drop i) = if (cR b a).getD i 0 = (strI s).getD i 0 then wordC ((cR b a).drop (i + 1)) ((strI s).drop (i + 1)) else 21 := by
        rw [drop_cons hb, drop_cons (b := strI s) (i := i) (by omega), wordC]
      have sg : (strI s).getD i 0 = ((s.getD i 0).toNat : Int) := by
        simp [strI, List.getD, List.getElem?_map, List.getElem?_eq_getElem hs]
      have eg : b.getD (a.toNat + (i : Int).toNat) 0 = (cR b a).getD i 0 := cR_get (i := i) hb
      rw [i3, sg, ← eg] at st
      by_cases hd : b.getD (a.toNat + (i : Int).toNat) 0 = ((s.getD (i : Int).toNat 0).toNat : Int)
      · have hdn : ¬ b.getD (a.toNat + (i : Int).toNat) 0 ≠ ((s.getD (i : Int).toNat 0).toNat : Int) := fun k => k hd
        rw [if_pos (show b.getD (a.toNat + (i : Int).toNat) 0 = ((s.getD i 0).toNat : Int) from hd)] at st
        have ri : rngI .i64 ((i : Int) + 1) := rng64 (by omega) (by omega)
        (repeat' (first | (refine xI (fun hfk => ?_) (fun hfk => ?_) <;> ((try (first | replace hfk := oT hfk | replace hfk := oF hfk | simp only [oD, ne_eq, reduceCtorEq] at hfk)); (try exact oX))) | refine And.intro oZ ?_ | exact True.intro | (show _ = _; first | exact oY | exact rfl) | exact oW | (apply And.intro)))
        refine ⟨i + 1, [some 0, some 1], ⟨by omega, by omega, st.symm⟩, ?mu, ?_⟩
        case mu => (show s.length - (i + 1) < s.length - i; omega)
        (repeat' (first | (refine And.intro ?_ ?_) | exact True.intro | (show _ = _; with_reducible rfl) | exact Chk.mk (by kernel_rfl)))
        all_goals first | rfl | (show (_ : Int) = _; omega)
      · have e : wordC (cR b a) (strI s) = 21 := by rw [st, if_neg (show ¬ b.getD (a.toNat + (i : Int).toNat) 0 = ((s.getD i 0).toNat : Int) from hd)]
        have e2 : wordN (cR b a) s = 0 := by unfold wordN; rw [e, if_neg (by decide)]
        rw [e, e2]
        (repeat' (first | (refine xI (fun hfk => ?_) (fun hfk => ?_) <;> ((try (first | replace hfk := oT hfk | replace hfk := oF hfk | simp only [oD, ne_eq, reduceCtorEq] at hfk)); (try exact oX))) | refine And.intro oZ ?_ | exact True.intro | (show _ = _; first | exact oY | exact rfl) | exact oW | (apply And.intro)))
        refine ⟨[some 0, some 1], ?_⟩
        (repeat' (first | (refine xI (fun hfk => ?_) (fun hfk => ?_) <;> ((try (first | replace hfk := oT hfk | replace hfk := oF hfk | simp only [oD, ne_eq, reduceCtorEq] at hfk)); (try exact oX))) | refine And.intro oZ ?_ | exact True.intro | (show _ = _; first | exact oY | (first | rfl | (show (_ : Int) = _; omega); done) | exact rfl) | exact oW | (apply And.intro)))
    · have hlt : ¬ (i : Int) < min (s.length : Int) ((b.length - a.toNat : Nat) : Int) := by omega
      have hbl : ((b.length - a.toNat : Nat) : Int) < (s.length : Int) := by omega
      have e : wordC (cR b a) (strI s) = 20 := by
        rw [← i3, List.drop_of_length_le (l := cR b a) (by omega), drop_cons (b := strI s) (i := i) (by omega), wordC]
      have e2 : wordN (cR b a) s = 0 := by unfold wordN; rw [e, if_neg (by decide)]
      rw [e, e2]
      (repeat' (first | (refine xI (fun hfk => ?_) (fun hfk => ?_) <;> ((try (first | replace hfk := oT hfk | replace hfk := oF hfk | simp only [oD, ne_eq, reduceCtorEq] at hfk)); (try exact oX))) | refine And.intro oZ ?_ | exact True.intro | (show _ = _; first | exact oY | exact rfl) | exact oW | (apply And.intro)))
      refine ⟨[some 0, some 1], ?_⟩
      (repeat' (first | (refine xI (fun hfk => ?_) (fun hfk => ?_) <;> ((try (first | replace hfk := oT hfk | replace hfk := oF hfk | simp only [oD, ne_eq, reduceCtorEq] at hfk)); (try exact oX))) | refine And.intro oZ ?_ | exact True.intro | (show _ = _; first | exact oY | (first | rfl | (show (_ : Int) = _; omega); done) | exact rfl) | exact oW | (apply And.intro)))
  · have hlt : ¬ (i : Int) < min (s.length : Int) ((b.length - a.toNat : Nat) : Int) := by omega
    have hbl : ¬ ((b.length - a.toNat : Nat) : Int) < (s.length : Int) := by omega
    have e : wordC (cR b a) (strI s) = 0 := by rw [← i3, List.drop_of_length_le (l := strI s) (by omega), wordC]
    have e2 : wordN (cR b a) s = s.length := by unfold wordN; rw [e, if_pos rfl]
    have ra : rngI .i64 (a + (s.length : Int)) := rng64 (by omega) (by omega)
    rw [e, e2]
    (repeat' (first | (refine xI (fun hfk => ?_) (fun hfk => ?_) <;> ((try (first | replace hfk := oT hfk | replace hfk := oF hfk | simp only [oD, ne_eq, reduceCtorEq] at hfk)); (try exact oX))) | refine And.intro oZ ?_ | exact True.intro | (show _ = _; first | exact oY | exact rfl) | exact oW | (apply And.intro)))
    (refine ⟨[0, 1], ⟨by kernel_rfl⟩, ?_⟩)
    (repeat' (first | (refine xI (fun hfk => ?_) (fun hfk => ?_) <;> ((try (first | replace hfk := oT hfk | replace hfk := oF hfk | simp only [oD, ne_eq, reduceCtorEq] at hfk)); (try exact oX))) | refine And.intro oZ ?_ | exact True.intro | (show _ = _; first | exact oY | exact rfl) | exact oW | (apply And.intro)))
    refine ⟨[some 0, some 1], ?_⟩
    (repeat' (first | (refine xI (fun hfk => ?_) (fun hfk => ?_) <;> ((try (first | replace hfk := oT hfk | replace hfk := oF hfk | simp only [oD, ne_eq, reduceCtorEq] at hfk)); (try exact oX))) | refine And.intro oZ ?_ | exact True.intro | (show _ = _; first | exact oY | (first | rfl | (show (_ : Int) = _; omega); done) | exact rfl) | exact oW | (apply And.intro)))
end Go.Proofs.YtljdahepmmgfeaaGreatDoor
namespace Go.Proofs.YtljdahepmmgfeaaGreatDoor
open Go Go.RowKit
theorem dgN_eq : ∀ l : List Int, dgN l = digN l
  | [] => rfl
  | d :: l => by
    have ih := dgN_eq l
    unfold dgN digN isDec
    simp only [Bool.and_eq_true, decide_eq_true_eq, ih] <;> rfl
theorem numV_eq (l : List Int) : numV l = decV l := by
  unfold numV decV
  congr 1
  funext x d
  omega
theorem decV_lo {l : List Int} (h : 49 ≤ l.getD 0 0) : ∀ n : Nat, n + 1 ≤ digN l → 10 ^ n ≤ decV (l.take (n + 1))
  | 0, k => by
    rw [decV_step (digN_in (n := 0) k).1, List.take_zero]
    show (1 : Int) ≤ 0 * 10 + (l.getD 0 0 - 48)
    omega
  | n + 1, k => by
    have ih := decV_lo h n (by omega)
    obtain ⟨a, b, c⟩ := digN_in (l := l) (n := n + 1) (by omega)
    rw [decV_step a, Int.pow_succ]
    omega
theorem rn_numC {b : List Int} {m : Int} (hm : m < 9223372036854775808) : (rnV b m).2.2 = numC b m := by
  unfold rnV numC
  rw [dgN_eq, numV_eq]
  by_cases h0 : b.length = 0
  · rw [if_pos h0, if_pos h0]
  rw [if_neg h0, if_neg h0]
  by_cases h1 : digN b = 0 ∨ (1 < digN b ∧ b.getD 0 0 = 48)
  · rw [if_pos h1, if_pos h1]
  rw [if_neg h1, if_neg h1]
  obtain ⟨n, hn⟩ : ∃ n, digN b = n + 1 := ⟨digN b - 1, by omega⟩
  obtain ⟨z0, _⟩ := decV_bd (l := b) (digN b) (Nat.le_refl _)
  by_cases h2 : 19 < digN b
  · rw [if_pos h2]
    obtain ⟨a, c, d⟩ := digN_in (l := b) (n := 0) (by omega)
    have lo : (10 : Int) ^ 19 ≤ decV (b.take 20) := decV_lo (l := b) (by omega) 19 (by omega)
    have up : decV (b.take 20) ≤ decV (b.take (digN b)) := by
      have : ∀ k, 20 + k ≤ digN b → decV (b.take 20) ≤ decV (b.take (20 + k)) := by
        intro k
        induction k with
        | zero => intro _; exact Int.le_refl _
        | succ k ih =>
          intro hk
          have ih := ih (by omega)
          obtain ⟨p, q, r⟩ := digN_in (l := b) (n := 20 + k) (by omega)
          obtain ⟨y0, _⟩ := decV_bd (l := b) (20 + k) (by omega)
          have := decV_step p
          rw [show 20 + (k + 1) = 20 + k + 1 from rfl, this]
          omega
      have := this (digN b - 20) (by omega)
      rwa [show 20 + (digN b - 20) = digN b from by omega] at this
    have t19 : (10 : Int) ^ 19 = 10000000000000000000 := by decide
    rw [t19] at lo
    rw [if_pos (show m < decV (b.take (digN b)) by omega)]
  · rw [if_neg h2]
    by_cases h3 : m < decV (b.take (digN b))
    · rw [if_pos h3, if_pos (Or.inr h3)]
    · rw [if_neg h3, if_neg (show ¬ (m < 0 ∨ m < decV (b.take (digN b))) from fun k => k.elim (fun k => h3 (by omega)) h3)]
end Go.Proofs.YtljdahepmmgfeaaGreatDoor
namespace Go.Proofs.YtljdahepmmgfeaaGreatDoor
open Go Go.RowKit
set_option maxHeartbeats 4000000
theorem cR_eq {b : List Int} {a : Int} : cR b a = b.drop a.toNat := List.take_of_length_le (by rw [List.length_drop]; exact Nat.le_refl _)
theorem cR_add {b : List Int} {a : Int} {n : Nat} (h0 : 0 ≤ a) : cR b (a + (n : Int)) = (cR b a).drop n := by
  rw [cR_eq, cR_eq, List.drop_drop, show (a + (n : Int)).toNat = a.toNat + n by omega]
def nbC (r : List Int) (m : Int) : Int := if blC r ≠ 0 then blC r else numC (r.drop (bkG false r)) m
def nbN (r : List Int) : Nat := bkG false r + dgN (r.drop (bkG false r))
def nbV (r : List Int) (m : Int) : Int := if nbC r m = 0 then numV ((r.drop (bkG false r)).take (dgN (r.drop (bkG false r)))) else 0
def nbP (r : List Int) (m : Int) : Nat := if nbC r m = 0 then nbN r else bkG false r
theorem nbP_le (r : List Int) (m : Int) : nbP r m ≤ r.length := by
  have h1 := bkG_le false r
  have h2 := dgN_le (r.drop (bkG false r))
  rw [List.length_drop] at h2
  unfold nbP nbN
  split <;> omega
theorem blC0 {r : List Int} (h : blC r ≠ 0) : bkG false r = 0 := by
  unfold blC at h
  split at h
  · rename_i k; rw [List.length_eq_zero_iff.1 k]; rfl
  · split at h
    · assumption
    · exact absurd rfl h
theorem numC_rng {r : List Int} {m : Int} (h : numC r m = 0) : 0 ≤ numV (r.take (dgN r)) ∧ numV (r.take (dgN r)) ≤ m := by
  have hb := (numV_bd (l := r) (dgN r) (Nat.le_refl _)).1
  unfold numC at h
  split at h
  · cases h
  split at h
  · cases h
  split at h
  · cases h
  split at h
  · cases h
  omega
theorem nbV_rng (r : List Int) {m : Int} (hm : 0 ≤ m) : 0 ≤ nbV r m ∧ nbV r m ≤ m := by
  unfold nbV
  split
  · rename_i h
    unfold nbC at h
    split at h
    · rename_i k; exact absurd h k
    · exact numC_rng h
  · omega
def pnumF : FSpec := fun l es => match l, es with
  | [.ptr 0 0, .int .i64 m], [.cells 120 [.sl 1 1 0 n, .int .i64 a], .ints 5 .u8 b] =>
    some ([n = b.length, 0 ≤ a, a ≤ b.length, b.length ≤ 140737488355328, 0 ≤ m ∧ m ≤ 4294967296], .tup [.int .i64 (nbV (cR b a) m), .int .i64 (nbC (cR b a) m)], [some (cutE n (a + (nbP (cR b a) m : Int))), some (bE b)])
  | _, _ => none
theorem pnum_g : GSOK Tryz.prog 116 (fG pnumF) := by
  refine fok (S := []) (G := glook [(125, fG blkF), (126, fG numF)]) pok_nil (gl_cons blk_g (gl_cons num_g gl_nil)) ⟨Tryz.func116, by kernel_rfl, by kernel_rfl, by kernel_rfl⟩ fun l es obs v es' h ho => ?_
  (unfold pnumF at h; split at h; rotate_left; (focus (cases h)); rename_i m n a b; simp only [Option.some.injEq, Prod.mk.injEq] at h; obtain ⟨rfl, rfl, rfl⟩ := h; simp only [List.mem_cons, List.not_mem_nil, or_false, forall_eq_or_imp, forall_eq, false_implies, implies_true] at ho)
  obtain ⟨rfl, ho1, ho2, ho3, ho4⟩ := ho
  refine ⟨Nat.le_of_ble_eq_true rfl, ?_⟩
  have el : (cR b a).length = b.length - a.toNat := by simp
  have hk := bkG_le false (cR b a)
  by_cases k1 : blC (cR b a) = 0
  · have e : nbC (cR b a) m = numC ((cR b a).drop (bkG false (cR b a))) m := if_neg (fun k => k k1)
    have ec := cR_add (b := b) (a := a) (n := bkG false (cR b a)) ho1
    have e1 : nbV (cR b a) m = if numC (cR b (a + (bkG false (cR b a) : Int))) m = 0 then numV ((cR b (a + (bkG false (cR b a) : Int))).take (dgN (cR b (a + (bkG false (cR b a) : Int))))) else 0 := by rw [ec]; unfold nbV; rw [e]
    have e2 : a + (nbP (cR b a) m : Int) = a + (bkG false (cR b a) : Int) + if numC (cR b (a + (bkG false (cR b a) : Int))) m = 0 then (dgN (cR b (a + (bkG false (cR b a) : Int))) : Int) else 0 := by
      rw [ec]; unfold nbP nbN; rw [e]
      by_cases z : numC ((cR b a).drop (bkG false (cR b a))) m = 0
      · rw [if_pos z, if_pos z]; omega
      · rw [if_neg z, if_neg z]; omega
    have e3 : nbC (cR b a) m = numC (cR b (a + (bkG false (cR b a) : Int))) m := by rw [e, ec]
    rw [e1, e2, e3]
    clear e1 e2 e3 e ec
    (repeat' (first | (refine xI (fun hfk => ?_) (fun hfk => ?_) <;> ((try (first | replace hfk := oT hfk | replace hfk := oF hfk | simp only [oD, ne_eq, reduceCtorEq] at hfk)); (try exact oX))) | refine And.intro oZ ?_ | exact True.intro | (show _ = _; first | exact oY | exact rfl) | exact oW | (apply And.intro)))
    (refine ⟨[0, 1], ⟨by kernel_rfl⟩, ?_⟩)
    (repeat' (first | (refine xI (fun hfk => ?_) (fun hfk => ?_) <;> ((try (first | replace hfk := oT hfk | replace hfk := oF hfk | simp only [oD, ne_eq, reduceCtorEq] at hfk)); (try exact oX))) | refine And.intro oZ ?_ | exact True.intro | (show _ = _; first | exact oY | exact rfl) | exact oW | (apply And.intro)))
    (refine ⟨[0, 1], ⟨by kernel_rfl⟩, ?_⟩)
    (repeat' (first | (refine xI (fun hfk => ?_) (fun hfk => ?_) <;> ((try (first | replace hfk := oT hfk | replace hfk := oF hfk | simp only [oD, ne_eq, reduceCtorEq] at hfk)); (try exact oX))) | refine And.intro oZ ?_ | exact True.intro | (show _ = _; first | exact oY | exact rfl) | exact oW | (apply And.intro)))
    refine ⟨[some 0, some 1], ?_⟩
    (repeat' (first | (refine xI (fun hfk => ?_) (fun hfk => ?_) <;> ((try (first | replace hfk := oT hfk | replace hfk := oF hfk | simp only [oD, ne_eq, reduceCtorEq] at hfk)); (try exact oX))) | refine And.intro oZ ?_ | exact True.intro | (show _ = _; first | exact oY | (first | rfl | (show (_ : Int) = _; omega); done) | exact rfl) | exact oW | (apply And.intro)))
  · have e : nbC (cR b a) m = blC (cR b a) := if_pos k1
    have e0 := blC0 k1
    have e1 : nbV (cR b a) m = 0 := if_neg (by rw [e]; exact k1)
    have e2 : nbP (cR b a) m = 0 := by unfold nbP; rw [if_neg (by rw [e]; exact k1), e0]
    rw [e, e1, e2]
    (repeat' (first | (refine xI (fun hfk => ?_) (fun hfk => ?_) <;> ((try (first | replace hfk := oT hfk | replace hfk := oF hfk | simp only [oD, ne_eq, reduceCtorEq] at hfk)); (try exact oX))) | refine And.intro oZ ?_ | exact True.intro | (show _ = _; first | exact oY | exact rfl) | exact oW | (apply And.intro)))
    (refine ⟨[0, 1], ⟨by kernel_rfl⟩, ?_⟩)
    (repeat' (first | (refine xI (fun hfk => ?_) (fun hfk => ?_) <;> ((try (first | replace hfk := oT hfk | replace hfk := oF hfk | simp only [oD, ne_eq, reduceCtorEq] at hfk)); (try exact oX))) | refine And.intro oZ ?_ | exact True.intro | (show _ = _; first | exact oY | exact rfl) | exact oW | (apply And.intro)))
    refine ⟨[some 0, some 1], ?_⟩
    (repeat' (first | (refine xI (fun hfk => ?_) (fun hfk => ?_) <;> ((try (first | replace hfk := oT hfk | replace hfk := oF hfk | simp only [oD, ne_eq, reduceCtorEq] at hfk)); (try exact oX))) | refine And.intro oZ ?_ | exact True.intro | (show _ = _; first | exact oY | (first | rfl | (show (_ : Int) = _; omega); done) | exact rfl) | exact oW | (apply And.intro)))
def szC (r : List Int) : Int :=
  if nbC r 32768 ≠ 0 then nbC r 32768
  else if nbC (r.drop (nbP r 32768)) 32768 ≠ 0 then nbC (r.drop (nbP r 32768)) 32768
  else if nbV r 32768 < 1 ∨ nbV (r.drop (nbP r 32768)) 32768 < 1 then 12
  else if 4194304 < nbV r 32768 * nbV (r.drop (nbP r 32768)) 32768 then 30 else 0
def szW (r : List Int) : Int := if szC r = 0 then nbV r 32768 else 0
def szH (r : List Int) : Int := if szC r = 0 then nbV (r.drop (nbP r 32768)) 32768 else 0
def szP (r : List Int) : Nat := if nbC r 32768 = 0 then nbP r 32768 + nbP (r.drop (nbP r 32768)) 32768 else nbP r 32768
theorem szP_le (r : List Int) : szP r ≤ r.length := by
  have h1 := nbP_le r 32768
  have h2 := nbP_le (r.drop (nbP r 32768)) 32768
  rw [List.length_drop] at h2
  unfold szP
  split <;> omega
def psizeF : FSpec := fun l es => match l, es with
  | [.ptr 0 0], [.cells 120 [.sl 1 1 0 n, .int .i64 a], .ints 5 .u8 b] =>
    some ([n = b.length, 0 ≤ a, a ≤ b.length, b.length ≤ 140737488355328], .tup [.int .i64 (szW (cR b a)), .int .i64 (szH (cR b a)), .int .i64 (szC (cR b a))], [some (cutE n (a + (szP (cR b a) : Int))), some (bE b)])
  | _, _ => none
theorem psize_g : GSOK Tryz.prog 85 (fG psizeF) := by
  refine fok (S := []) (G := glook [(116, fG pnumF)]) pok_nil (gl_cons pnum_g gl_nil) ⟨Tryz.func85, by kernel_rfl, by kernel_rfl, by kernel_rfl⟩ fun l es obs v es' h ho => ?_
  (unfold psizeF at h; split at h; rotate_left; (focus (cases h)); rename_i n a b; simp only [Option.some.injEq, Prod.mk.injEq] at h; obtain ⟨rfl, rfl, rfl⟩ := h; simp only [List.mem_cons, List.not_mem_nil, or_false, forall_eq_or_imp, forall_eq, false_implies, implies_true] at ho)
  obtain ⟨rfl, ho1, ho2, ho3⟩ := ho
  refine ⟨Nat.le_of_ble_eq_true rfl, ?_⟩
  have el : (cR b a).length = b.length - a.toNat := by simp
  have hk := nbP_le (cR b a) 32768
  by_cases k1 : nbC (cR b a) 32768 = 0
  rotate_left
  · have e : szC (cR b a) = nbC (cR b a) 32768 := if_pos k1
    have e1 : szW (cR b a) = 0 := if_neg (by rw [e]; exact k1)
    have e2 : szH (cR b a) = 0 := if_neg (by rw [e]; exact k1)
    have e3 : szP (cR b a) = nbP (cR b a) 32768 := if_neg k1
    rw [e, e1, e2, e3]
    clear e e1 e2 e3
    (repeat' (first | (refine xI (fun hfk => ?_) (fun hfk => ?_) <;> ((try (first | replace hfk := oT hfk | replace hfk := oF hfk | simp only [oD, ne_eq, reduceCtorEq] at hfk)); (try exact oX))) | refine And.intro oZ ?_ | exact True.intro | (show _ = _; first | exact oY | exact rfl) | exact oW | (apply And.intro)))
    (refine ⟨[0, 1], ⟨by kernel_rfl⟩, ?_⟩)
    (repeat' (first | (refine xI (fun hfk => ?_) (fun hfk => ?_) <;> ((try (first | replace hfk := oT hfk | replace hfk := oF hfk | simp only [oD, ne_eq, reduceCtorEq] at hfk)); (try exact oX))) | refine And.intro oZ ?_ | exact True.intro | (show _ = _; first | exact oY | exact rfl) | exact oW | (apply And.intro)))
    refine ⟨[some 0, some 1], ?_⟩
    (repeat' (first | (refine xI (fun hfk => ?_) (fun hfk => ?_) <;> ((try (first | replace hfk := oT hfk | replace hfk := oF hfk | simp only [oD, ne_eq, reduceCtorEq] at hfk)); (try exact oX))) | refine And.intro oZ ?_ | exact True.intro | (show _ = _; first | exact oY | (first | rfl | (show (_ : Int) = _; omega); done) | exact rfl) | exact oW | (apply And.intro)))
  have ec := cR_add (b := b) (a := a) (n := nbP (cR b a) 32768) ho1
  have e3 : a + (szP (cR b a) : Int) = a + (nbP (cR b a) 32768 : Int) + (nbP (cR b (a + (nbP (cR b a) 32768 : Int))) 32768 : Int) := by rw [ec]; unfold szP; rw [if_pos k1]; omega
  have r1 := nbV_rng (cR b a) (m := 32768) (by decide)
  have r2 := nbV_rng (cR b (a + (nbP (cR b a) 32768 : Int))) (m := 32768) (by decide)
  have eC : szC (cR b a) = if nbC (cR b (a + (nbP (cR b a) 32768 : Int))) 32768 ≠ 0 then nbC (cR b (a + (nbP (cR b a) 32768 : Int))) 32768 else if nbV (cR b a) 32768 < 1 ∨ nbV (cR b (a + (nbP (cR b a) 32768 : Int))) 32768 < 1 then 12 else if 4194304 < nbV (cR b a) 32768 * nbV (cR b (a + (nbP (cR b a) 32768 : Int))) 32768 then 30 else 0 := by
    rw [ec]; unfold szC; rw [if_neg (fun k => k k1)]
  have eW : szW (cR b a) = if szC (cR b a) = 0 then nbV (cR b a) 32768 else 0 := rfl
  have eH : szH (cR b a) = if szC (cR b a) = 0 then nbV (cR b (a + (nbP (cR b a) 32768 : Int))) 32768 else 0 := by rw [ec]; rfl
  rw [e3, eW, eH]
  clear e3 eW eH ec
  have w0 : 0 ≤ nbV (cR b a) 32768 * nbV (cR b (a + (nbP (cR b a) 32768 : Int))) 32768 := Int.mul_nonneg r1.1 r2.1
  have w1 : nbV (cR b a) 32768 * nbV (cR b (a + (nbP (cR b a) 32768 : Int))) 32768 ≤ 32768 * 32768 := Int.le_trans (Int.mul_le_mul_of_nonneg_right r1.2 r2.1) (Int.mul_le_mul_of_nonneg_left r2.2 (by omega))
  have rg : rngI .i64 (nbV (cR b a) 32768 * nbV (cR b (a + (nbP (cR b a) 32768 : Int))) 32768) := rng64 (by omega) (by omega)
  clear w0 w1
  by_cases k2 : nbC (cR b (a + (nbP (cR b a) 32768 : Int))) 32768 = 0
  rotate_left
  · rw [if_pos k2] at eC
    rw [eC, if_neg k2, if_neg k2]
    clear eC
    (repeat' (first | (refine xI (fun hfk => ?_) (fun hfk => ?_) <;> ((try (first | replace hfk := oT hfk | replace hfk := oF hfk | simp only [oD, ne_eq, reduceCtorEq] at hfk)); (try exact oX))) | refine And.intro oZ ?_ | exact True.intro | (show _ = _; first | exact oY | exact rfl) | exact oW | (apply And.intro)))
    (refine ⟨[0, 1], ⟨by kernel_rfl⟩, ?_⟩)
    (repeat' (first | (refine xI (fun hfk => ?_) (fun hfk => ?_) <;> ((try (first | replace hfk := oT hfk | replace hfk := oF hfk | simp only [oD, ne_eq, reduceCtorEq] at hfk)); (try exact oX))) | refine And.intro oZ ?_ | exact True.intro | (show _ = _; first | exact oY | exact rfl) | exact oW | (apply And.intro)))
    (refine ⟨[0, 1], ⟨by kernel_rfl⟩, ?_⟩)
    (repeat' (first | (refine xI (fun hfk => ?_) (fun hfk => ?_) <;> ((try (first | replace hfk := oT hfk | replace hfk := oF hfk | simp only [oD, ne_eq, reduceCtorEq] at hfk)); (try exact oX))) | refine And.intro oZ ?_ | exact True.intro | (show _ = _; first | exact oY | exact rfl) | exact oW | (apply And.intro)))
    refine ⟨[some 0, some 1], ?_⟩
    (repeat' (first | (refine xI (fun hfk => ?_) (fun hfk => ?_) <;> ((try (first | replace hfk := oT hfk | replace hfk := oF hfk | simp only [oD, ne_eq, reduceCtorEq] at hfk)); (try exact oX))) | refine And.intro oZ ?_ | exact True.intro | (show _ = _; first | exact oY | (first | rfl | (show (_ : Int) = _; omega); done) | exact rfl) | exact oW | (apply And.intro)))
  rw [if_neg (fun k => k k2)] at eC
  by_cases k3 : nbV (cR b a) 32768 < 1 ∨ nbV (cR b (a + (nbP (cR b a) 32768 : Int))) 32768 < 1
  · rw [if_pos k3] at eC
    rw [eC, if_neg (by decide), if_neg (by decide)]
    clear eC
    (repeat' (first | (refine xI (fun hfk => ?_) (fun hfk => ?_) <;> ((try (first | replace hfk := oT hfk | replace hfk := oF hfk | simp only [oD, ne_eq, reduceCtorEq] at hfk)); (try exact oX))) | refine And.intro oZ ?_ | exact True.intro | (show _ = _; first | exact oY | exact rfl) | exact oW | (apply And.intro)))
    (refine ⟨[0, 1], ⟨by kernel_rfl⟩, ?_⟩)
    (repeat' (first | (refine xI (fun hfk => ?_) (fun hfk => ?_) <;> ((try (first | replace hfk := oT hfk | replace hfk := oF hfk | simp only [oD, ne_eq, reduceCtorEq] at hfk)); (try exact oX))) | refine And.intro oZ ?_ | exact True.intro | (show _ = _; first | exact oY | exact rfl) | exact oW | (apply And.intro)))
    (refine ⟨[0, 1], ⟨by kernel_rfl⟩, ?_⟩)
    (repeat' (first | (refine xI (fun hfk => ?_) (fun hfk => ?_) <;> ((try (first | replace hfk := oT hfk | replace hfk := oF hfk | simp only [oD, ne_eq, reduceCtorEq] at hfk)); (try exact oX))) | refine And.intro oZ ?_ | exact True.intro | (show _ = _; first | exact oY | exact rfl) | exact oW | (apply And.intro)))
    all_goals (refine ⟨[some 0, some 1], ?_⟩)
    (repeat' (first | (refine xI (fun hfk => ?_) (fun hfk => ?_) <;> ((try (first | replace hfk := oT hfk | replace hfk := oF hfk | simp only [oD, ne_eq, reduceCtorEq] at hfk)); (try exact oX))) | refine And.intro oZ ?_ | exact True.intro | (show _ = _; first | exact oY | (first | rfl | (show (_ : Int) = _; omega); done) | exact rfl) | exact oW | (apply And.intro)))
  rw [if_neg k3] at eC
  by_cases k4 : 4194304 < nbV (cR b a) 32768 * nbV (cR b (a + (nbP (cR b a) 32768 : Int))) 32768
  · rw [if_pos k4] at eC
    rw [eC, if_neg (by decide), if_neg (by decide)]
    clear eC
    (repeat' (first | (refine xI (fun hfk => ?_) (fun hfk => ?_) <;> ((try (first | replace hfk := oT hfk | replace hfk := oF hfk | simp only [oD, ne_eq, reduceCtorEq] at hfk)); (try exact oX))) | refine And.intro oZ ?_ | exact True.intro | (show _ = _; first | exact oY | exact rfl) | exact oW | (apply And.intro)))
    (refine ⟨[0, 1], ⟨by kernel_rfl⟩, ?_⟩)
    (repeat' (first | (refine xI (fun hfk => ?_) (fun hfk => ?_) <;> ((try (first | replace hfk := oT hfk | replace hfk := oF hfk | simp only [oD, ne_eq, reduceCtorEq] at hfk)); (try exact oX))) | refine And.intro oZ ?_ | exact True.intro | (show _ = _; first | exact oY | exact rfl) | exact oW | (apply And.intro)))
    (refine ⟨[0, 1], ⟨by kernel_rfl⟩, ?_⟩)
    (repeat' (first | (refine xI (fun hfk => ?_) (fun hfk => ?_) <;> ((try (first | replace hfk := oT hfk | replace hfk := oF hfk | simp only [oD, ne_eq, reduceCtorEq] at hfk)); (try exact oX))) | refine And.intro oZ ?_ | exact True.intro | (show _ = _; first | exact oY | exact rfl) | exact oW | (apply And.intro)))
    refine ⟨[some 0, some 1], ?_⟩
    (repeat' (first | (refine xI (fun hfk => ?_) (fun hfk => ?_) <;> ((try (first | replace hfk := oT hfk | replace hfk := oF hfk | simp only [oD, ne_eq, reduceCtorEq] at hfk)); (try exact oX))) | refine And.intro oZ ?_ | exact True.intro | (show _ = _; first | exact oY | (first | rfl | (show (_ : Int) = _; omega); done) | exact rfl) | exact oW | (apply And.intro)))
  rw [if_neg k4] at eC
  rw [eC, if_pos rfl, if_pos rfl]
  clear eC
  (repeat' (first | (refine xI (fun hfk => ?_) (fun hfk => ?_) <;> ((try (first | replace hfk := oT hfk | replace hfk := oF hfk | simp only [oD, ne_eq, reduceCtorEq] at hfk)); (try exact oX))) | refine And.intro oZ ?_ | exact True.intro | (show _ = _; first | exact oY | exact rfl) | exact oW | (apply And.intro)))
  (refine ⟨[0, 1], ⟨by kernel_rfl⟩, ?_⟩)
  (repeat' (first | (refine xI (fun hfk => ?_) (fun hfk => ?_) <;> ((try (first | replace hfk := oT hfk | replace hfk := oF hfk | simp only [oD, ne_eq, reduceCtorEq] at hfk)); (try exact oX))) | refine And.intro oZ ?_ | exact True.intro | (show _ = _; first | exact oY | exact rfl) | exact oW | (apply And.intro)))
  (refine ⟨[0, 1], ⟨by kernel_rfl⟩, ?_⟩)
  (repeat' (first | (refine xI (fun hfk => ?_) (fun hfk => ?_) <;> ((try (first | replace hfk := oT hfk | replace hfk := oF hfk | simp only [oD, ne_eq, reduceCtorEq] at hfk)); (try exact oX))) | refine And.intro oZ ?_ | exact True.intro | (show _ = _; first | exact oY | exact rfl) | exact oW | (apply And.intro)))
  refine ⟨[some 0, some 1], ?_⟩
  (repeat' (first | (refine xI (fun hfk => ?_) (fun hfk => ?_) <;> ((try (first | replace hfk := oT hfk | replace hfk := oF hfk | simp only [oD, ne_eq, reduceCtorEq] at hfk)); (try exact oX))) | refine And.intro oZ ?_ | exact True.intro | (show _ = _; first | exact oY | (first | rfl | (show (_ : Int) = _; omega); done) | exact rfl) | exact oW | (apply And.intro)))
def dpC (r : List Int) : Int := if nbC r 255 ≠ 0 then nbC r 255 else if nbV r 255 ≠ 255 then 21 else (oneV (r.drop (nbP r 255))).2
def dpP (r : List Int) : Int := if nbC r 255 = 0 ∧ nbV r 255 = 255 then (nbP r 255 : Int) + (oneV (r.drop (nbP r 255))).1 else nbP r 255
def pdepF : FSpec := fun l es => match l, es with
  | [.ptr 0 0], [.cells 120 [.sl 1 1 0 n, .int .i64 a], .ints 5 .u8 b] =>
    some ([n = b.length, 0 ≤ a, a ≤ b.length, b.length ≤ 140737488355328], .int .i64 (dpC (cR b a)), [some (cutE n (a + dpP (cR b a))), some (bE b)])
  | _, _ => none
theorem pdep_g : GSOK Tryz.prog 86 (fG pdepF) := by
  refine fok (S := []) (G := glook [(116, fG pnumF), (117, fG coneF)]) pok_nil (gl_cons pnum_g (gl_cons cone_g gl_nil)) ⟨Tryz.func86, by kernel_rfl, by kernel_rfl, by kernel_rfl⟩ fun l es obs v es' h ho => ?_
  (unfold pdepF at h; split at h; rotate_left; (focus (cases h)); rename_i n a b; simp only [Option.some.injEq, Prod.mk.injEq] at h; obtain ⟨rfl, rfl, rfl⟩ := h; simp only [List.mem_cons, List.not_mem_nil, or_false, forall_eq_or_imp, forall_eq, false_implies, implies_true] at ho)
  obtain ⟨rfl, ho1, ho2, ho3⟩ := ho
  refine ⟨Nat.le_of_ble_eq_true rfl, ?_⟩
  have el : (cR b a).length = b.length - a.toNat := by simp
  have hk := nbP_le (cR b a) 255
  by_cases k1 : nbC (cR b a) 255 = 0
  rotate_left
  · have e : dpC (cR b a) = nbC (cR b a) 255 := if_pos k1
    have e1 : dpP (cR b a) = nbP (cR b a) 255 := if_neg (fun k => k1 k.1)
    rw [e, e1]
    clear e e1
    (repeat' (first | (refine xI (fun hfk => ?_) (fun hfk => ?_) <;> ((try (first | replace hfk := oT hfk | replace hfk := oF hfk | simp only [oD, ne_eq, reduceCtorEq] at hfk)); (try exact oX))) | refine And.intro oZ ?_ | exact True.intro | (show _ = _; first | exact oY | exact rfl) | exact oW | (apply And.intro)))
    (refine ⟨[0, 1], ⟨by kernel_rfl⟩, ?_⟩)
    (repeat' (first | (refine xI (fun hfk => ?_) (fun hfk => ?_) <;> ((try (first | replace hfk := oT hfk | replace hfk := oF hfk | simp only [oD, ne_eq, reduceCtorEq] at hfk)); (try exact oX))) | refine And.intro oZ ?_ | exact True.intro | (show _ = _; first | exact oY | exact rfl) | exact oW | (apply And.intro)))
    refine ⟨[some 0, some 1], ?_⟩
    (repeat' (first | (refine xI (fun hfk => ?_) (fun hfk => ?_) <;> ((try (first | replace hfk := oT hfk | replace hfk := oF hfk | simp only [oD, ne_eq, reduceCtorEq] at hfk)); (try exact oX))) | refine And.intro oZ ?_ | exact True.intro | (show _ = _; first | exact oY | (first | rfl | (show (_ : Int) = _; omega); done) | exact rfl) | exact oW | (apply And.intro)))
  by_cases k2 : nbV (cR b a) 255 = 255
  rotate_left
  · have e : dpC (cR b a) = 21 := by unfold dpC; rw [if_neg (fun k => k k1), if_pos k2]
    have e1 : dpP (cR b a) = nbP (cR b a) 255 := if_neg (fun k => k2 k.2)
    rw [e, e1]
    clear e e1
    (repeat' (first | (refine xI (fun hfk => ?_) (fun hfk => ?_) <;> ((try (first | replace hfk := oT hfk | replace hfk := oF hfk | simp only [oD, ne_eq, reduceCtorEq] at hfk)); (try exact oX))) | refine And.intro oZ ?_ | exact True.intro | (show _ = _; first | exact oY | exact rfl) | exact oW | (apply And.intro)))
    (refine ⟨[0, 1], ⟨by kernel_rfl⟩, ?_⟩)
    (repeat' (first | (refine xI (fun hfk => ?_) (fun hfk => ?_) <;> ((try (first | replace hfk := oT hfk | replace hfk := oF hfk | simp only [oD, ne_eq, reduceCtorEq] at hfk)); (try exact oX))) | refine And.intro oZ ?_ | exact True.intro | (show _ = _; first | exact oY | exact rfl) | exact oW | (apply And.intro)))
    refine ⟨[some 0, some 1], ?_⟩
    (repeat' (first | (refine xI (fun hfk => ?_) (fun hfk => ?_) <;> ((try (first | replace hfk := oT hfk | replace hfk := oF hfk | simp only [oD, ne_eq, reduceCtorEq] at hfk)); (try exact oX))) | refine And.intro oZ ?_ | exact True.intro | (show _ = _; first | exact oY | (first | rfl | (show (_ : Int) = _; omega); done) | exact rfl) | exact oW | (apply And.intro)))
  have ec := cR_add (b := b) (a := a) (n := nbP (cR b a) 255) ho1
  have e : dpC (cR b a) = (oneV (cR b (a + (nbP (cR b a) 255 : Int)))).2 := by rw [ec]; unfold dpC; rw [if_neg (fun k => k k1), if_neg (fun k => k k2)]
  have e1 : a + dpP (cR b a) = a + (nbP (cR b a) 255 : Int) + (oneV (cR b (a + (nbP (cR b a) 255 : Int)))).1 := by rw [ec]; unfold dpP; rw [if_pos ⟨k1, k2⟩]; omega
  rw [e, e1]
  clear e e1 ec
  (repeat' (first | (refine xI (fun hfk => ?_) (fun hfk => ?_) <;> ((try (first | replace hfk := oT hfk | replace hfk := oF hfk | simp only [oD, ne_eq, reduceCtorEq] at hfk)); (try exact oX))) | refine And.intro oZ ?_ | exact True.intro | (show _ = _; first | exact oY | exact rfl) | exact oW | (apply And.intro)))
  (refine ⟨[0, 1], ⟨by kernel_rfl⟩, ?_⟩)
  (repeat' (first | (refine xI (fun hfk => ?_) (fun hfk => ?_) <;> ((try (first | replace hfk := oT hfk | replace hfk := oF hfk | simp only [oD, ne_eq, reduceCtorEq] at hfk)); (try exact oX))) | refine And.intro oZ ?_ | exact True.intro | (show _ = _; first | exact oY | exact rfl) | exact oW | (apply And.intro)))
  (refine ⟨[0, 1], ⟨by kernel_rfl⟩, ?_⟩)
  (repeat' (first | (refine xI (fun hfk => ?_) (fun hfk => ?_) <;> ((try (first | replace hfk := oT hfk | replace hfk := oF hfk | simp only [oD, ne_eq, reduceCtorEq] at hfk)); (try exact oX))) | refine And.intro oZ ?_ | exact True.intro | (show _ = _; first | exact oY | exact rfl) | exact oW | (apply And.intro)))
  refine ⟨[some 0, some 1], ?_⟩
  (repeat' (first | (refine xI (fun hfk => ?_) (fun hfk => ?_) <;> ((try (first | replace hfk := oT hfk | replace hfk := oF hfk | simp only [oD, ne_eq, reduceCtorEq] at hfk)); (try exact oX))) | refine And.intro oZ ?_ | exact True.intro | (show _ = _; first | exact oY | (first | rfl | (show (_ : Int) = _; omega); done) | exact rfl) | exact oW | (apply And.intro)))
def kdC (r : List Int) : Int := if wordC r [80, 53] = 0 then 0 else wordC r [80, 54]
def kdV (r : List Int) : Int := if wordC r [80, 53] = 0 then 1 else 3
def kdP (r : List Int) : Nat := if kdC r = 0 then 2 else 0
end Go.Proofs.YtljdahepmmgfeaaGreatDoor
namespace Go.Proofs.YtljdahepmmgfeaaGreatDoor
open Go Go.RowKit
set_option maxHeartbeats 4000000
theorem kdP_le (r : List Int) : kdP r ≤ r.length := by
  unfold kdP
  split
  · rename_i h
    unfold kdC at h
    split at h
    · rename_i k; exact wordC_le (s := [80, 53]) k
    · exact wordC_le (s := [80, 54]) h
  · omega
def pkindF : FSpec := fun l es => match l, es with
  | [.ptr 0 0], [.cells 120 [.sl 1 1 0 n, .int .i64 a], .ints 5 .u8 b] =>
    some ([n = b.length, 0 ≤ a, a ≤ b.length, b.length ≤ 140737488355328], .tup [.int .i64 (kdV (cR b a)), .int .i64 (kdC (cR b a))], [some (cutE n (a + (kdP (cR b a) : Int))), some (bE b)])
  | _, _ => none
theorem pkind_g : GSOK Tryz.prog 84 (fG pkindF) := by
  refine fok (S := []) (G := glook [(89, fG cwordF)]) pok_nil (gl_cons cword_g gl_nil) ⟨Tryz.func84, by kernel_rfl, by kernel_rfl, by kernel_rfl⟩ fun l es obs v es' h ho => ?_
  (unfold pkindF at h; split at h; rotate_left; (focus (cases h)); rename_i n a b; simp only [Option.some.injEq, Prod.mk.injEq] at h; obtain ⟨rfl, rfl, rfl⟩ := h; simp only [List.mem_cons, List.not_mem_nil, or_false, forall_eq_or_imp, forall_eq, false_implies, implies_true] at ho)
  obtain ⟨rfl, ho1, ho2, ho3⟩ := ho
  refine ⟨Nat.le_of_ble_eq_true rfl, ?_⟩
  have el : (cR b a).length = b.length - a.toNat := by simp
  have q5 : wordC (cR b a) (strI (ByteArray.mk #[80, 53]).data.toList) = wordC (cR b a) [80, 53] := rfl
  have q6 : wordC (cR b a) (strI (ByteArray.mk #[80, 54]).data.toList) = wordC (cR b a) [80, 54] := rfl
  have l5 : (ByteArray.mk #[80, 53]).data.toList.length ≤ 140737488355328 := by decide
  have l6 : (ByteArray.mk #[80, 54]).data.toList.length ≤ 140737488355328 := by decide
  by_cases k1 : wordC (cR b a) [80, 53] = 0
  · have e : kdC (cR b a) = wordC (cR b a) (strI (ByteArray.mk #[80, 53]).data.toList) := by rw [q5]; unfold kdC; rw [if_pos k1, k1]
    have e1 : kdV (cR b a) = 1 := if_pos k1
    have e2 : (kdP (cR b a) : Int) = wordN (cR b a) (ByteArray.mk #[80, 53]).data.toList := by
      unfold kdP wordN; rw [e, q5, if_pos k1, if_pos k1]; rfl
    have k2 : wordC (cR b a) (strI (ByteArray.mk #[80, 53]).data.toList) = 0 := k1
    rw [e, e1, e2]
    clear e e1 e2 q5 q6
    (repeat' (first | (refine xI (fun hfk => ?_) (fun hfk => ?_) <;> ((try (first | replace hfk := oT hfk | replace hfk := oF hfk | simp only [oD, ne_eq, reduceCtorEq] at hfk)); (try exact oX))) | refine And.intro oZ ?_ | exact True.intro | (show _ = _; first | exact oY | exact rfl) | exact oW | (apply And.intro)))
    (refine ⟨[0, 1], ⟨by kernel_rfl⟩, ?_⟩)
    (repeat' (first | (refine xI (fun hfk => ?_) (fun hfk => ?_) <;> ((try (first | replace hfk := oT hfk | replace hfk := oF hfk | simp only [oD, ne_eq, reduceCtorEq] at hfk)); (try exact oX))) | refine And.intro oZ ?_ | exact True.intro | (show _ = _; first | exact oY | exact rfl) | exact oW | (apply And.intro)))
    refine ⟨[some 0, some 1], ?_⟩
    (repeat' (first | (refine xI (fun hfk => ?_) (fun hfk => ?_) <;> ((try (first | replace hfk := oT hfk | replace hfk := oF hfk | simp only [oD, ne_eq, reduceCtorEq] at hfk)); (try exact oX))) | refine And.intro oZ ?_ | exact True.intro | (show _ = _; first | exact oY | (first | rfl | (show (_ : Int) = _; omega); done) | exact rfl) | exact oW | (apply And.intro)))
  · have z : wordN (cR b a) (ByteArray.mk #[80, 53]).data.toList = 0 := by unfold wordN; rw [q5, if_neg k1]
    have ea : a + wordN (cR b a) (ByteArray.mk #[80, 53]).data.toList = a := by rw [z]; omega
    have e : kdC (cR b a) = wordC (cR b (a + wordN (cR b a) (ByteArray.mk #[80, 53]).data.toList)) (strI (ByteArray.mk #[80, 54]).data.toList) := by rw [ea, q6]; unfold kdC; rw [if_neg k1]
    have e1 : kdV (cR b a) = 3 := if_neg k1
    have e2 : a + (kdP (cR b a) : Int) = a + wordN (cR b a) (ByteArray.mk #[80, 53]).data.toList + wordN (cR b (a + wordN (cR b a) (ByteArray.mk #[80, 53]).data.toList)) (ByteArray.mk #[80, 54]).data.toList := by
      rw [ea]
      unfold kdP wordN
      have : kdC (cR b a) = wordC (cR b a) [80, 54] := if_neg k1
      rw [this, q6]
      by_cases k : wordC (cR b a) [80, 54] = 0
      · rw [if_pos k, if_pos k]; rfl
      · rw [if_neg k, if_neg k]; rfl
    have k2 : ¬ wordC (cR b a) (strI (ByteArray.mk #[80, 53]).data.toList) = 0 := k1
    rw [e, e1, e2]
    clear e e1 e2 q5 q6
    (repeat' (first | (refine xI (fun hfk => ?_) (fun hfk => ?_) <;> ((try (first | replace hfk := oT hfk | replace hfk := oF hfk | simp only [oD, ne_eq, reduceCtorEq] at hfk)); (try exact oX))) | refine And.intro oZ ?_ | exact True.intro | (show _ = _; first | exact oY | exact rfl) | exact oW | (apply And.intro)))
    (refine ⟨[0, 1], ⟨by kernel_rfl⟩, ?_⟩)
    (repeat' (first | (refine xI (fun hfk => ?_) (fun hfk => ?_) <;> ((try (first | replace hfk := oT hfk | replace hfk := oF hfk | simp only [oD, ne_eq, reduceCtorEq] at hfk)); (try exact oX))) | refine And.intro oZ ?_ | exact True.intro | (show _ = _; first | exact oY | exact rfl) | exact oW | (apply And.intro)))
    (refine ⟨[0, 1], ⟨by kernel_rfl⟩, ?_⟩)
    (repeat' (first | (refine xI (fun hfk => ?_) (fun hfk => ?_) <;> ((try (first | replace hfk := oT hfk | replace hfk := oF hfk | simp only [oD, ne_eq, reduceCtorEq] at hfk)); (try exact oX))) | refine And.intro oZ ?_ | exact True.intro | (show _ = _; first | exact oY | exact rfl) | exact oW | (apply And.intro)))
    refine ⟨[some 0, some 1], ?_⟩
    (repeat' (first | (refine xI (fun hfk => ?_) (fun hfk => ?_) <;> ((try (first | replace hfk := oT hfk | replace hfk := oF hfk | simp only [oD, ne_eq, reduceCtorEq] at hfk)); (try exact oX))) | refine And.intro oZ ?_ | exact True.intro | (show _ = _; first | exact oY | (first | rfl | (show (_ : Int) = _; omega); done) | exact rfl) | exact oW | (apply And.intro)))
def pgE (r : List Int) : Int := if kdC r ≠ 0 then kdC r else if szC (r.drop 2) ≠ 0 then szC (r.drop 2) else dpC ((r.drop 2).drop (szP (r.drop 2)))
def pgW (r : List Int) : Int := if kdC r = 0 then szW (r.drop 2) else 0
def pgH (r : List Int) : Int := if kdC r = 0 then szH (r.drop 2) else 0
def pgP (r : List Int) : Int := if kdC r ≠ 0 then 0 else if szC (r.drop 2) ≠ 0 then 2 + (szP (r.drop 2) : Int) else 2 + (szP (r.drop 2) : Int) + dpP ((r.drop 2).drop (szP (r.drop 2)))
def pheadF : FSpec := fun l es => match l, es with
  | [.ptr 0 0], [.cells 120 [.sl 1 1 0 n, .int .i64 a], .ints 5 .u8 b] =>
    some ([n = b.length, 0 ≤ a, a ≤ b.length, b.length ≤ 140737488355328], .tup [.agg [.int .i64 (pgW (cR b a)), .int .i64 (pgH (cR b a)), .int .i64 (kdV (cR b a)), .nils], .int .i64 (pgE (cR b a))], [some (cutE n (a + pgP (cR b a))), some (bE b)])
  | _, _ => none
theorem phead_g : GSOK Tryz.prog 51 (fG pheadF) := by
  refine fokE (S := []) (G := glook [(84, fG pkindF), (85, fG psizeF)]) [(86, pdepF)] [] [] pok_nil (gl_cons pkind_g (gl_cons psize_g gl_nil)) (dl_cons pdep_g dl_nil) ⟨Tryz.func51, by kernel_rfl, by kernel_rfl, by kernel_rfl⟩ fun l es obs v es' h ho => ?_
  (unfold pheadF at h; split at h; rotate_left; (focus (cases h)); rename_i n a b; simp only [Option.some.injEq, Prod.mk.injEq] at h; obtain ⟨rfl, rfl, rfl⟩ := h; simp only [List.mem_cons, List.not_mem_nil, or_false, forall_eq_or_imp, forall_eq, false_implies, implies_true] at ho)
  obtain ⟨rfl, ho1, ho2, ho3⟩ := ho
  refine ⟨Nat.le_of_ble_eq_true rfl, ?_⟩
  have el : (cR b a).length = b.length - a.toNat := by simp
  have hk := kdP_le (cR b a)
  by_cases k1 : kdC (cR b a) = 0
  rotate_left
  · have e : pgE (cR b a) = kdC (cR b a) := if_pos k1
    have e1 : pgW (cR b a) = 0 := if_neg k1
    have e2 : pgH (cR b a) = 0 := if_neg k1
    have e3 : a + pgP (cR b a) = a + (kdP (cR b a) : Int) := by unfold pgP kdP; rw [if_pos k1, if_neg k1]; rfl
    rw [e, e1, e2, e3]
    clear e e1 e2 e3
    (repeat' (first | (refine xI (fun hfk => ?_) (fun hfk => ?_) <;> ((try (first | replace hfk := oT hfk | replace hfk := oF hfk | simp only [oD, ne_eq, reduceCtorEq] at hfk)); (try exact oX))) | refine And.intro oZ ?_ | exact True.intro | (show _ = _; first | exact oY | exact rfl) | exact oW | (apply And.intro)))
    (refine ⟨[0, 1], ⟨by kernel_rfl⟩, ?_⟩)
    (repeat' (first | (refine xI (fun hfk => ?_) (fun hfk => ?_) <;> ((try (first | replace hfk := oT hfk | replace hfk := oF hfk | simp only [oD, ne_eq, reduceCtorEq] at hfk)); (try exact oX))) | refine And.intro oZ ?_ | exact True.intro | (show _ = _; first | exact oY | exact rfl) | exact oW | (apply And.intro)))
    refine ⟨[some 0, some 1], ?_⟩
    (repeat' (first | (refine xI (fun hfk => ?_) (fun hfk => ?_) <;> ((try (first | replace hfk := oT hfk | replace hfk := oF hfk | simp only [oD, ne_eq, reduceCtorEq] at hfk)); (try exact oX))) | refine And.intro oZ ?_ | exact True.intro | (show _ = _; first | exact oY | (first | rfl | (show (_ : Int) = _; omega); done) | exact rfl) | exact oW | (apply And.intro)))
  have hp2 : kdP (cR b a) = 2 := if_pos k1
  have ec := cR_add (b := b) (a := a) (n := kdP (cR b a)) ho1
  have hs := szP_le (cR b (a + (kdP (cR b a) : Int)))
  have hl2 : (cR b (a + (kdP (cR b a) : Int))).length = b.length - (a + (kdP (cR b a) : Int)).toNat := by simp
  have e1 : pgW (cR b a) = szW (cR b (a + (kdP (cR b a) : Int))) := by rw [ec, hp2]; exact if_pos k1
  have e2 : pgH (cR b a) = szH (cR b (a + (kdP (cR b a) : Int))) := by rw [ec, hp2]; exact if_pos k1
  rw [e1, e2]
  clear e1 e2
  by_cases k2 : szC (cR b (a + (kdP (cR b a) : Int))) = 0
  rotate_left
  · have e : pgE (cR b a) = szC (cR b (a + (kdP (cR b a) : Int))) := by
      rw [ec, hp2] at k2 ⊢; unfold pgE; rw [if_neg (fun k => k k1), if_pos k2]
    have e3 : a + pgP (cR b a) = a + (kdP (cR b a) : Int) + (szP (cR b (a + (kdP (cR b a) : Int))) : Int) := by
      rw [ec, hp2] at k2 ⊢; unfold pgP; rw [if_neg (fun k => k k1), if_pos k2]; omega
    rw [e, e3]
    clear e e3 ec
    (repeat' (first | (refine xI (fun hfk => ?_) (fun hfk => ?_) <;> ((try (first | replace hfk := oT hfk | replace hfk := oF hfk | simp only [oD, ne_eq, reduceCtorEq] at hfk)); (try exact oX))) | refine And.intro oZ ?_ | exact True.intro | (show _ = _; first | exact oY | exact rfl) | exact oW | (apply And.intro)))
    (refine ⟨[0, 1], ⟨by kernel_rfl⟩, ?_⟩)
    (repeat' (first | (refine xI (fun hfk => ?_) (fun hfk => ?_) <;> ((try (first | replace hfk := oT hfk | replace hfk := oF hfk | simp only [oD, ne_eq, reduceCtorEq] at hfk)); (try exact oX))) | refine And.intro oZ ?_ | exact True.intro | (show _ = _; first | exact oY | exact rfl) | exact oW | (apply And.intro)))
    (refine ⟨[0, 1], ⟨by kernel_rfl⟩, ?_⟩)
    (repeat' (first | (refine xI (fun hfk => ?_) (fun hfk => ?_) <;> ((try (first | replace hfk := oT hfk | replace hfk := oF hfk | simp only [oD, ne_eq, reduceCtorEq] at hfk)); (try exact oX))) | refine And.intro oZ ?_ | exact True.intro | (show _ = _; first | exact oY | exact rfl) | exact oW | (apply And.intro)))
    refine ⟨[some 0, some 1], ?_⟩
    (repeat' (first | (refine xI (fun hfk => ?_) (fun hfk => ?_) <;> ((try (first | replace hfk := oT hfk | replace hfk := oF hfk | simp only [oD, ne_eq, reduceCtorEq] at hfk)); (try exact oX))) | refine And.intro oZ ?_ | exact True.intro | (show _ = _; first | exact oY | (first | rfl | (show (_ : Int) = _; omega); done) | exact rfl) | exact oW | (apply And.intro)))
  have ed := cR_add (b := b) (a := a + (kdP (cR b a) : Int)) (n := szP (cR b (a + (kdP (cR b a) : Int)))) (by omega)
  have e : pgE (cR b a) = dpC (cR b (a + (kdP (cR b a) : Int) + (szP (cR b (a + (kdP (cR b a) : Int))) : Int))) := by
    rw [ed]
    rw [ec, hp2] at k2 ⊢; unfold pgE; rw [if_neg (fun k => k k1), if_neg (fun k => k k2)]
  have e3 : a + pgP (cR b a) = a + (kdP (cR b a) : Int) + (szP (cR b (a + (kdP (cR b a) : Int))) : Int) + dpP (cR b (a + (kdP (cR b a) : Int) + (szP (cR b (a + (kdP (cR b a) : Int))) : Int))) := by
    rw [ed]
    rw [ec, hp2] at k2 ⊢; unfold pgP; rw [if_neg (fun k => k k1), if_neg (fun k => k k2)]; omega
  rw [e, e3]
  clear e e3 ec ed
  (repeat' (first | (refine xI (fun hfk => ?_) (fun hfk => ?_) <;> ((try (first | replace hfk := oT hfk | replace hfk := oF hfk | simp only [oD, ne_eq, reduceCtorEq] at hfk)); (try exact oX))) | refine And.intro oZ ?_ | exact True.intro | (show _ = _; first | exact oY | exact rfl) | exact oW | (apply And.intro)))
  (refine ⟨[0, 1], ⟨by kernel_rfl⟩, ?_⟩)
  (repeat' (first | (refine xI (fun hfk => ?_) (fun hfk => ?_) <;> ((try (first | replace hfk := oT hfk | replace hfk := oF hfk | simp only [oD, ne_eq, reduceCtorEq] at hfk)); (try exact oX))) | refine And.intro oZ ?_ | exact True.intro | (show _ = _; first | exact oY | exact rfl) | exact oW | (apply And.intro)))
  (refine ⟨[0, 1], ⟨by kernel_rfl⟩, ?_⟩)
  (repeat' (first | (refine xI (fun hfk => ?_) (fun hfk => ?_) <;> ((try (first | replace hfk := oT hfk | replace hfk := oF hfk | simp only [oD, ne_eq, reduceCtorEq] at hfk)); (try exact oX))) | refine And.intro oZ ?_ | exact True.intro | (show _ = _; first | exact oY | exact rfl) | exact oW | (apply And.intro)))
  refine ⟨[some 0, some 1], ?_⟩
  (repeat' (first | (refine xI (fun hfk => ?_) (fun hfk => ?_) <;> ((try (first | replace hfk := oT hfk | replace hfk := oF hfk | simp only [oD, ne_eq, reduceCtorEq] at hfk)); (try exact oX))) | refine And.intro oZ ?_ | exact True.intro | (show _ = _; first | exact oY | (first | rfl | (show (_ : Int) = _; omega); done) | exact rfl) | exact oW | (apply And.intro)))
end Go.Proofs.YtljdahepmmgfeaaGreatDoor

