/- The law GridTiles: its conditions. -/
import Derived.Test.YtenjmgopfcbbbaaG9d
namespace Go.Proofs.Ytenjmgopfcbbbaa
open Go Go.RowKit
set_option linter.unusedVariables false
set_option linter.unusedSimpArgs false
set_option maxRecDepth 100000

theorem walk_GridTiles' (g : R4) (i : Int) (W : World) {cl : List Value} (hc : CRel noN W NoO [g.av, .int .i64 i] cl) :
    Calls Try.prog 9 cl.toArray W fun e W' => e = .returned (.bool true) ∧ Below W.heap.size W W' := by
  refine law_of (l := [g.av, .int .i64 i]) (C := mkC 0 [(47, sR fun g => .tup [g.av, .bool (soonG g)]), (48, sR fun g => .int .i64 (gcheck g)), (49, gtileS), (50, sR fun g => .int .i64 (gcheck g)),
    (51, sR fun g => .int .i64 (gcols g)), (52, sR fun g => .int .i64 (grows g)), (53, sR fun g => .int .i64 (gcount g)), (54, sN (.bool true)),
    (55, tilesS), (56, rcolsS)] noG)
    (mkC_ok (pok_cons own9_s (pok_cons rcheck9_s (pok_cons gtile_s (pok_cons gcheck_s (pok_cons gcols_s (pok_cons grows_s (pok_cons gcount_s (pok_cons alive9_s (pok_cons tiles_s (pok_cons rcols_s pok_nil)))))))))) noG_ok) rfl ⟨Try.func9, by kernel_rfl, by kernel_rfl, by kernel_rfl⟩ (by exact Nat.le_of_ble_eq_true rfl) ?_ hc
  obtain ⟨r0, r1, r2, r3⟩ := g
  refine ⟨fun h1 => rfl, fun h1 => ?_⟩
  refine ⟨fun h2 => ?_, fun h2 => ?_⟩
  · exact absurd (of_decide_eq_true h2) (fun h => h rfl)
  refine ⟨fun h3 => ?_, fun h3 => ?_⟩
  · have h3 : ¬ gcheck ⟨r0, r1, r2, r3⟩ = 0 := by simpa using h3
    obtain ⟨e1, e2, e3⟩ := gcount_0 h3
    have e4 : gtile ⟨r0, r1, r2, r3⟩ i = .zero := if_neg (by omega)
    have e5 : gis ⟨r0, r1, r2, r3⟩ i = false := by simp [gis]; omega
    (repeat' (first | apply And.intro | intro h)); (all_goals (try exact Chk.mk (by kernel_rfl)))
    (all_goals (try first | exact True.intro | exact rfl | exact And.intro rfl rfl | exact And.intro rfl (fun _ _ => rfl)))
    all_goals (exfalso; simp only [e1, e2, e3, e4, e5, R4.zero] at *; simp_all)
  · have h3 : gcheck ⟨r0, r1, r2, r3⟩ = 0 := by simpa using h3
    have hc := gcount_eq h3
    have hc1 := cN_eq h3
    have hc2 := rN_eq h3
    have hl := tilesL_len ⟨r0, r1, r2, r3⟩ (rN ⟨r0, r1, r2, r3⟩)
    refine ⟨h3, h3, ?_⟩
    have w2 : grows ⟨r0, r1, r2, r3⟩ * gcols ⟨r0, r1, r2, r3⟩ = (((tilesL ⟨r0, r1, r2, r3⟩ (rN ⟨r0, r1, r2, r3⟩)).length : Nat) : Int) := by rw [hl, ← hc2, ← hc1]; rfl
    have w3 : gcount ⟨r0, r1, r2, r3⟩ = (((tilesL ⟨r0, r1, r2, r3⟩ (rN ⟨r0, r1, r2, r3⟩)).length : Nat) : Int) := by rw [hl, hc]
    have wb := gcount_bd ⟨r0, r1, r2, r3⟩
    rw [w3] at wb
    refine ⟨fun h4 => ?_, fun h4 => ?_⟩
    · exact absurd rfl (of_decide_eq_true h4)
    refine ⟨?_, fun h5 => ?_, fun h5 => ?_⟩
    · show rngI .i64 (grows ⟨r0, r1, r2, r3⟩ * gcols ⟨r0, r1, r2, r3⟩)
      rw [w2]; exact rng64 (by omega) (by omega)
    · exact absurd w2 (of_decide_eq_true h5)
    refine ⟨fun h6 => ?_, fun h6 => ?_⟩
    · exact absurd w3 (of_decide_eq_true h6)
    refine ⟨Nat, fun k => [(2, .ptr 0 0), (1, .int .i64 i), (12, .int .i64 k), (10, rectsA (tilesL ⟨r0, r1, r2, r3⟩ (rN ⟨r0, r1, r2, r3⟩))), (8, .ptr 1 0), (9, .bool (gis ⟨r0, r1, r2, r3⟩ i))], fun k => ⟨2, [(0, some (.cells 51 [.int .i64 r0, .int .i64 r1, .int .i64 r2, .int .i64 r3])), (1, some (.cells 31 [.int .i64 (gtile ⟨r0, r1, r2, r3⟩ i).x0, .int .i64 (gtile ⟨r0, r1, r2, r3⟩ i).y0, .int .i64 (gtile ⟨r0, r1, r2, r3⟩ i).x1, .int .i64 (gtile ⟨r0, r1, r2, r3⟩ i).y1]))]⟩,
      fun k => k ≤ (tilesL ⟨r0, r1, r2, r3⟩ (rN ⟨r0, r1, r2, r3⟩)).length, fun k => (tilesL ⟨r0, r1, r2, r3⟩ (rN ⟨r0, r1, r2, r3⟩)).length - k, ⟨0, [some 0, some 2], Nat.zero_le _, ?_⟩, fun k hk => ?_⟩
    · (repeat' (first | apply And.intro | intro h)); (all_goals (try exact Chk.mk (by kernel_rfl)))
      (all_goals (try first | exact True.intro | exact rfl | exact And.intro rfl rfl | exact And.intro rfl (fun _ _ => rfl)))
    refine ⟨fun hy => ?_, fun hy => ?_⟩
    · replace hy : (k : Int) < (((tilesL ⟨r0, r1, r2, r3⟩ (rN ⟨r0, r1, r2, r3⟩)).length : Nat) : Int) := of_decide_eq_true hy
      have g1 : gis ⟨r0, r1, r2, r3⟩ k = true := by simp [gis]; omega
      have g2 : gtile ⟨r0, r1, r2, r3⟩ k = (tilesL ⟨r0, r1, r2, r3⟩ (rN ⟨r0, r1, r2, r3⟩)).getD k .zero := by
        rw [tilesL_get _ _ _ (by rw [hl] at hy; omega)]
        exact if_pos (by omega)
      clear h1 h2 h4 h5 h6 hc hc1 hc2
      (repeat' (first | apply And.intro | intro h)); (all_goals (try exact Chk.mk (by kernel_rfl)))
      (all_goals (try first | exact True.intro | exact rfl | exact And.intro rfl rfl | exact And.intro rfl (fun _ _ => rfl)))
      · exfalso; rename_i h; replace h : (!gis ⟨r0, r1, r2, r3⟩ k) = true := h; rw [g1] at h; cases h
      · show (0 : Int) ≤ k; omega
      · exact hy
      · exfalso; rename_i h h'; conv at h => whnf
        have h : (!(decide ((gtile ⟨r0, r1, r2, r3⟩ k).x0 = ((tilesL ⟨r0, r1, r2, r3⟩ (rN ⟨r0, r1, r2, r3⟩)).getD k .zero).x0) && (decide ((gtile ⟨r0, r1, r2, r3⟩ k).y0 = ((tilesL ⟨r0, r1, r2, r3⟩ (rN ⟨r0, r1, r2, r3⟩)).getD k .zero).y0) && (decide ((gtile ⟨r0, r1, r2, r3⟩ k).x1 = ((tilesL ⟨r0, r1, r2, r3⟩ (rN ⟨r0, r1, r2, r3⟩)).getD k .zero).x1) && (decide ((gtile ⟨r0, r1, r2, r3⟩ k).y1 = ((tilesL ⟨r0, r1, r2, r3⟩ (rN ⟨r0, r1, r2, r3⟩)).getD k .zero).y1) && true))))) = true := h
        rw [g2] at h; simp at h
      · exact rng64 (by omega) (by omega)
      · refine ⟨k + 1, [some 0, some 1], (by show k + 1 ≤ _; omega), (by show _ - (k + 1) < _ - k; omega), ?_⟩
        (repeat' (first | apply And.intro | intro h)); (all_goals (try exact Chk.mk (by kernel_rfl)))
        (all_goals (try first | exact True.intro | exact rfl | exact And.intro rfl rfl | exact And.intro rfl (fun _ _ => rfl)))
    · replace hy : ¬ (k : Int) < (((tilesL ⟨r0, r1, r2, r3⟩ (rN ⟨r0, r1, r2, r3⟩)).length : Nat) : Int) := of_decide_eq_false hy
      clear h1 h2 h4 h5 h6 hc hc1 hc2
      have z1 : gis ⟨r0, r1, r2, r3⟩ i = false → gtile ⟨r0, r1, r2, r3⟩ i = .zero := fun h => if_neg (by simp [gis] at h; omega)
      have z2 : 0 ≤ i → gis ⟨r0, r1, r2, r3⟩ i = decide (i < (((tilesL ⟨r0, r1, r2, r3⟩ (rN ⟨r0, r1, r2, r3⟩)).length : Nat) : Int)) := fun h => by simp [gis, h, w3]
      have z3 : ¬ 0 ≤ i → gis ⟨r0, r1, r2, r3⟩ i = false := fun h => by simp [gis]; omega
      (repeat' (first | apply And.intro | intro h)); (all_goals (try exact Chk.mk (by kernel_rfl)))
      (all_goals (try first | exact True.intro | exact rfl | exact And.intro rfl rfl | exact And.intro rfl (fun _ _ => rfl)))
      · exfalso; rename_i h4 h3 h2; rw [z1 h2] at h; exact absurd h (by decide)
      · exfalso; rename_i h2; replace h2 : 0 ≤ i := of_decide_eq_true h2; rw [z2 h2] at h; exact absurd h (by simp)
      · exfalso; rename_i h4 h3 h2; rw [z1 h2] at h; exact absurd h (by decide)
      · exfalso; rename_i h2; replace h2 : ¬ 0 ≤ i := of_decide_eq_false h2; rw [z3 h2] at h; exact absurd h (by simp)
end Go.Proofs.Ytenjmgopfcbbbaa
