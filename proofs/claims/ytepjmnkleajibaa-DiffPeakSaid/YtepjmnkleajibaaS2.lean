/- Texts laid together. No condition. -/
import Derived.Test.YtepjmnkleajibaaS1
set_option maxRecDepth 100000
set_option linter.unusedVariables false
set_option linter.unusedSimpArgs false
namespace Go.Proofs.Ytepjmnkleajibaa
open Go Go.RowKit
set_option maxHeartbeats 4000000
theorem u64_wf {x : Int} (h : (Lit.int .u64 x).wf = true) : 0 ≤ x ∧ x < 18446744073709551616 := by
  simp [Lit.wf, IntKind.min, IntKind.max, IntKind.signed, IntKind.bits] at h
  omega
def pkV (sq n : Int) : Int := if n < 1 ∨ sq = 0 then 0 else (65025 * min n 1099511627776) / sq
theorem pk_bd {sq n : Int} (h0 : 0 ≤ sq) (h1 : ¬ (n < 1 ∨ sq = 0)) : 65025 ≤ 65025 * min n 1099511627776 ∧ 65025 * min n 1099511627776 ≤ 71495743596134400 ∧ 0 ≤ pkV sq n ∧ pkV sq n ≤ 65025 * min n 1099511627776 ∧ pkV sq n = (65025 * min n 1099511627776) / sq := by
  have e : pkV sq n = (65025 * min n 1099511627776) / sq := if_neg h1
  have hk : 1 ≤ min n 1099511627776 ∧ min n 1099511627776 ≤ 1099511627776 := by omega
  rw [e]
  exact ⟨by omega, by omega, Int.ediv_nonneg (by omega) h0, Int.ediv_le_self _ (by omega), rfl⟩
abbrev peakS : PSpec := fun l => match l with
  | [.agg [.int .i64 c, .int .i64 mo, .int .u64 su, .int .u64 sq, .int .i64 x, .int .i64 y, .int .i64 k], .int .i64 n] => some ([0 ≤ sq, sq < 18446744073709551616], .int .i64 (pkV sq n))
  | _ => none
theorem peak_s : SOK Try.prog 62 peakS := by
  refine sok_of (C := mkC 0 [] noG) (mkC_ok pok_nil noG_ok) rfl mixed ⟨Try.func62, by kernel_rfl, by kernel_rfl, by kernel_rfl⟩ fun l obs v h ho => ?_
  (unfold peakS at h; split at h; rotate_left; (focus (cases h)); rename_i c mo su sq x y k n; simp only [Option.some.injEq, Prod.mk.injEq] at h; obtain ⟨rfl, rfl⟩ := h; simp only [List.mem_cons, List.not_mem_nil, or_false, forall_eq_or_imp, forall_eq, false_implies, implies_true] at ho)
  obtain ⟨h0, h1⟩ := ho
  refine ⟨Nat.le_of_ble_eq_true rfl, ?_⟩
  by_cases hz : n < 1 ∨ sq = 0
  · have e : pkV sq n = 0 := if_pos hz
    rw [e]
    (repeat' (first | (refine xI (fun hfk => ?_) (fun hfk => ?_) <;> ((try (first | replace hfk := oT hfk | replace hfk := oF hfk | simp only [oA, oB, dh1, dh0, ne_eq, reduceCtorEq] at hfk)); (try (exfalso; first | omega | contradiction | exact xF hfk (by with_reducible assumption) | exact xT hfk (by with_reducible assumption))))) | (refine And.intro ?ob ?_; (case ob => (first | exact Chk.mk (by kernel_rfl) | exact True.intro | with_reducible assumption | exact rng64 (by omega) (by omega) | omega | (dsimp only; omega) | (show (_ : Nat) ≤ _; omega) | (simp only [ll1, ll2, ll0]; first | done | omega) | (dsimp only; simp only [ll1, ll2, ll0]; omega)))) | exact True.intro | (show _ = _; first | with_reducible rfl | with_reducible assumption | omega | (simp only [ll1, ll2, ll0]; omega) | (rfl; done) | exact rfl) | with_reducible assumption | (apply And.intro) | omega | (intro j hj; exact rfl)))
  obtain ⟨a1, a2, a3, a4, a5⟩ := pk_bd h0 hz
  have r1 : rngI .i64 (65025 * min n 1099511627776) := rng64 (by omega) (by omega)
  have w1 : IntKind.u64.wrap (65025 * min n 1099511627776) = 65025 * min n 1099511627776 := u64_id (by omega) (by omega)
  have w2 : IntKind.u64.wrap ((IntKind.u64.wrap (65025 * min n 1099511627776)).tdiv sq) = pkV sq n := by
    rw [w1, Int.tdiv_eq_ediv_of_nonneg (by omega), ← a5]; exact u64_id (by omega) (by omega)
  have w3 : min (IntKind.u64.wrap ((IntKind.u64.wrap (65025 * min n 1099511627776)).tdiv sq)) 4611686018427387904 = pkV sq n := by rw [w2]; omega
  have w4 : IntKind.i64.wrap (min (IntKind.u64.wrap ((IntKind.u64.wrap (65025 * min n 1099511627776)).tdiv sq)) 4611686018427387904) = pkV sq n := by
    rw [w3]; exact wrap_rng (rng64 (by omega) (by omega))
  (repeat' (first | (refine xI (fun hfk => ?_) (fun hfk => ?_) <;> ((try (first | replace hfk := oT hfk | replace hfk := oF hfk | simp only [oA, oB, dh1, dh0, ne_eq, reduceCtorEq] at hfk)); (try (exfalso; first | omega | contradiction | exact xF hfk (by with_reducible assumption) | exact xT hfk (by with_reducible assumption))))) | (refine And.intro ?ob ?_; (case ob => (first | exact Chk.mk (by kernel_rfl) | exact True.intro | with_reducible assumption | exact rng64 (by omega) (by omega) | omega | (dsimp only; omega) | (show (_ : Nat) ≤ _; omega) | (simp only [ll1, ll2, ll0]; first | done | omega) | (dsimp only; simp only [ll1, ll2, ll0]; omega)))) | exact True.intro | (show _ = _; first | with_reducible rfl | with_reducible assumption | omega | (simp only [ll1, ll2, ll0]; omega) | (first | exact r1 | exact w4 | rfl; done) | exact rfl) | with_reducible assumption | (apply And.intro) | omega | (intro j hj; exact rfl)))
abbrev rpeakS : PSpec := fun l => match l with
  | [.int .u64 sq, .int .i64 n] => some ([0 ≤ sq, sq < 18446744073709551616], .int .i64 (pkV sq n))
  | _ => none
theorem rpeak_s : SOK Try.prog 63 rpeakS := by
  refine sok_of (C := mkE 0 [(127, ofS), (128, unsS), (126, floorS), (129, cmpS), (130, powS), (131, smallS)] noG [] [] [4])
    (mkE_ok (pok_cons of_s (pok_cons uns_s (pok_cons floor_s (pok_cons cmp_s (pok_cons pow_s (pok_cons small_s pok_nil)))))) noG_ok dl_nil) rfl mixed ⟨Try.func63, by kernel_rfl, by kernel_rfl, by kernel_rfl⟩ fun l obs v h ho => ?_
  (unfold rpeakS at h; split at h; rotate_left; (focus (cases h)); rename_i sq n; simp only [Option.some.injEq, Prod.mk.injEq] at h; obtain ⟨rfl, rfl⟩ := h; simp only [List.mem_cons, List.not_mem_nil, or_false, forall_eq_or_imp, forall_eq, false_implies, implies_true] at ho)
  obtain ⟨h0, h1⟩ := ho
  refine ⟨Nat.le_of_ble_eq_true rfl, ?_⟩
  by_cases hz : n < 1 ∨ sq = 0
  · have e : pkV sq n = 0 := if_pos hz
    rw [e]
    (repeat' (first | (refine xI (fun hfk => ?_) (fun hfk => ?_) <;> ((try (first | replace hfk := oT hfk | replace hfk := oF hfk | simp only [oA, oB, dh1, dh0, ne_eq, reduceCtorEq] at hfk)); (try (exfalso; first | omega | contradiction | exact xF hfk (by with_reducible assumption) | exact xT hfk (by with_reducible assumption))))) | (refine And.intro ?ob ?_; (case ob => (first | exact Chk.mk (by kernel_rfl) | exact True.intro | with_reducible assumption | exact rng64 (by omega) (by omega) | omega | (dsimp only; omega) | (show (_ : Nat) ≤ _; omega) | (simp only [ll1, ll2, ll0]; first | done | omega) | (dsimp only; simp only [ll1, ll2, ll0]; omega)))) | exact True.intro | (show _ = _; first | with_reducible rfl | with_reducible assumption | omega | (simp only [ll1, ll2, ll0]; omega) | (rfl; done) | exact rfl) | with_reducible assumption | (apply And.intro) | omega | (intro j hj; exact rfl)))
  obtain ⟨a1, a2, a3, a4, a5⟩ := pk_bd h0 hz
  have r1 : rngI .i64 (65025 * min n 1099511627776) := rng64 (by omega) (by omega)
  obtain ⟨A, hA⟩ : ∃ A, 65025 * min n 1099511627776 = A := ⟨_, rfl⟩
  have B1 : Bg (decide (65025 * min n 1099511627776 < 0)) (dgs (65025 * min n 1099511627776).natAbs) := Bg_i64 (by omega) (by omega)
  have p5 : (32768 : Nat) ^ 5 = 37778931862957161709568 := rfl
  have q5 : sq.natAbs < 32768 ^ 5 := by omega
  have B2 : Bg (decide (sq < 0)) (dgs sq.natAbs) := Bg_big (by have := dgs_len (k := 5) (n := sq.natAbs) q5; omega)
  clear p5 q5
  have s1 : decide (65025 * min n 1099511627776 < 0) = false := decide_eq_false (by omega)
  have s2 : decide (sq < 0) = false := decide_eq_false (by omega)
  have v1 : valD (dgs (65025 * min n 1099511627776).natAbs) = A := by rw [valD_dgs]; omega
  have v2 : valD (dgs sq.natAbs) = sq := by rw [valD_dgs]; omega
  have l1 : valD (dgs (65025 * min n 1099511627776).natAbs) < 1152921504606846976 := by omega
  have l2 : 0 < valD (dgs sq.natAbs) := by omega
  have l3 : valD (dgs sq.natAbs) < 18446744073709551616 := by omega
  obtain ⟨Q, hQ⟩ : ∃ Q, pkV sq n = Q := ⟨_, rfl⟩
  have vq : valD (dgs (65025 * min n 1099511627776).natAbs) / valD (dgs sq.natAbs) = Q := by rw [v1, v2, ← hQ, a5, hA]
  have eb : decide (valD (dgs (65025 * min n 1099511627776).natAbs) / valD (dgs sq.natAbs) < 0) = decide (Q < 0) := by rw [vq]
  have ed : dgs (valD (dgs (65025 * min n 1099511627776).natAbs) / valD (dgs sq.natAbs)).natAbs = dgs Q.natAbs := by rw [vq]
  rw [hQ]
  (repeat' (first | (refine xI (fun hfk => ?_) (fun hfk => ?_) <;> ((try (first | replace hfk := oT hfk | replace hfk := oF hfk | simp only [oA, oB, dh1, dh0, ne_eq, reduceCtorEq] at hfk)); (try (exfalso; first | omega | contradiction | exact xF hfk (by with_reducible assumption) | exact xT hfk (by with_reducible assumption))))) | (refine And.intro ?ob ?_; (case ob => (first | exact Chk.mk (by kernel_rfl) | exact True.intro | with_reducible assumption | exact rng64 (by omega) (by omega) | omega | (dsimp only; omega) | (show (_ : Nat) ≤ _; omega) | (simp only [ll1, ll2, ll0]; first | done | omega) | (dsimp only; simp only [ll1, ll2, ll0]; omega)))) | exact True.intro | (show _ = _; first | with_reducible rfl | with_reducible assumption | omega | (simp only [ll1, ll2, ll0]; omega) | (first | exact r1 | exact B1 | exact B2 | exact s1 | exact s2 | exact l1 | exact l2 | exact l3 | skip; done) | exact rfl) | with_reducible assumption | (apply And.intro) | omega | (intro j hj; exact rfl)))
  refine ⟨[(6, .ptr 0 0)], ⟨1, [(0, some (.cells 195 [.bool (decide (Q < 0)), .roi .i64 (dgs Q.natAbs)]))]⟩, [some 0], ?_, ?_⟩
  · (repeat' (first | (refine And.intro ?_ ?_) | exact True.intro | (show _ = _; with_reducible rfl) | exact Chk.mk (by kernel_rfl)))
    all_goals first | exact eb | exact ed | rfl
  rw [hQ] at a3 a4
  clear eb ed vq l1 l2 l3 v1 v2 s1 s2 B1 B2 r1 a5 hQ
  have BQ : Bg (decide (Q < 0)) (dgs Q.natAbs) := Bg_i64 (by omega) (by omega)
  have BP : Bg (decide ((2 : Int) ^ (Int.toNat 62) < 0)) (dgs ((2 : Int) ^ (Int.toNat 62)).natAbs) := Bg_two (i := 62) (by decide)
  have eQ := bzv_big Q
  have eP : (2 : Int) ^ (Int.toNat 62) = 4611686018427387904 := rfl
  have hc : cmpV (bzv (decide (Q < 0)) (dgs Q.natAbs)) (bzv (decide ((2 : Int) ^ (Int.toNat 62) < 0)) (dgs ((2 : Int) ^ (Int.toNat 62)).natAbs)) ≤ 0 := by
    rw [bzv_big, bzv_big, eP]; unfold cmpV; rw [if_pos (by omega)]; decide
  have vQ : valD (dgs Q.natAbs) < 9223372036854775808 := by rw [valD_dgs]; omega
  (repeat' (first | (refine xI (fun hfk => ?_) (fun hfk => ?_) <;> ((try (first | replace hfk := oT hfk | replace hfk := oF hfk | simp only [oA, oB, dh1, dh0, ne_eq, reduceCtorEq] at hfk)); (try (exfalso; first | omega | contradiction | exact xF hfk (by with_reducible assumption) | exact xT hfk (by with_reducible assumption))))) | (refine And.intro ?ob ?_; (case ob => (first | exact Chk.mk (by kernel_rfl) | exact True.intro | with_reducible assumption | exact rng64 (by omega) (by omega) | omega | (dsimp only; omega) | (show (_ : Nat) ≤ _; omega) | (simp only [ll1, ll2, ll0]; first | done | omega) | (dsimp only; simp only [ll1, ll2, ll0]; omega)))) | exact True.intro | (show _ = _; first | with_reducible rfl | with_reducible assumption | omega | (simp only [ll1, ll2, ll0]; omega) | (first | exact BQ | exact BP | exact vQ | exact eQ | skip; done) | exact rfl) | with_reducible assumption | (apply And.intro) | omega | (intro j hj; exact rfl)))
theorem walk_DiffPeak' (a b c d e f g n : Int) (hd : (Lit.int .u64 d).wf = true) (W : World) {cl : List Value} (hcl : CRel noN W NoO [.agg [.int .i64 a, .int .i64 b, .int .u64 c, .int .u64 d, .int .i64 e, .int .i64 f, .int .i64 g], .int .i64 n] cl) :
    Calls Try.prog 13 cl.toArray W fun e W' => e = .returned (.bool true) ∧ Below W.heap.size W W' := by
  refine law_of (C := mkC 0 [(62, peakS), (63, rpeakS), (64, sN (.bool true))] noG)
    (mkC_ok (pok_cons peak_s (pok_cons rpeak_s (pok_cons alive13_s pok_nil))) noG_ok) rfl ⟨Try.func13, by kernel_rfl, by kernel_rfl, by kernel_rfl⟩ (by exact Nat.le_of_ble_eq_true rfl) ?_ hcl
  obtain ⟨h0, h1⟩ := u64_wf hd
  (repeat' (first | (refine xI (fun hfk => ?_) (fun hfk => ?_) <;> ((try (first | replace hfk := oT hfk | replace hfk := oF hfk | simp only [oA, oB, dh1, dh0, ne_eq, reduceCtorEq] at hfk)); (try (exfalso; first | omega | contradiction | exact xF hfk (by with_reducible assumption) | exact xT hfk (by with_reducible assumption))))) | (refine And.intro ?ob ?_; (case ob => (first | exact Chk.mk (by kernel_rfl) | exact True.intro | with_reducible assumption | exact rng64 (by omega) (by omega) | omega | (dsimp only; omega) | (show (_ : Nat) ≤ _; omega) | (simp only [ll1, ll2, ll0]; first | done | omega) | (dsimp only; simp only [ll1, ll2, ll0]; omega)))) | exact True.intro | (show _ = _; first | with_reducible rfl | with_reducible assumption | omega | (simp only [ll1, ll2, ll0]; omega) | (first | exact h0 | exact h1 | rfl; done) | exact rfl) | with_reducible assumption | (apply And.intro) | omega | (intro j hj; exact rfl)))
end Go.Proofs.Ytepjmnkleajibaa

