/- The law GridPlaces: its conditions. -/
import Derived.Test.YtenjmgopfcbbbaaG9d
namespace Go.Proofs.Ytenjmgopfcbbbaa
open Go Go.RowKit
set_option linter.unusedVariables false
set_option linter.unusedSimpArgs false
set_option maxRecDepth 100000

/-- How many of the first k tiles have the place. -/
def gnum (g : R4) (x y : Int) (k : Nat) : Int := if gin g x y = true ∧ gof g x y < k then 1 else 0
theorem gnum_bd (g : R4) (x y : Int) (k : Nat) : 0 ≤ gnum g x y k ∧ gnum g x y k ≤ 1 := by unfold gnum; split <;> omega
theorem walk_GridPlaces' (g : R4) (x y : Int) (W : World) {cl : List Value} (hc : CRel noN W NoO [g.av, .int .i64 x, .int .i64 y] cl) :
    Calls Try.prog 11 cl.toArray W fun e W' => e = .returned (.bool true) ∧ Below W.heap.size W W' := by
  refine law_of (l := [g.av, .int .i64 x, .int .i64 y]) (C := mkC 0 [(47, sR fun g => .tup [g.av, .bool (soonG g)]), (48, sR fun g => .int .i64 (gcheck g)),
    (59, sRII fun g x y => .tup [.int .i64 (gof g x y), .bool (gin g x y)]), (54, sN (.bool true)),
    (55, tilesS), (37, sRII fun r x y => .bool (r.rhas x y))] noG)
    (mkC_ok (pok_cons own9_s (pok_cons rcheck9_s (pok_cons gof_s (pok_cons alive9_s (pok_cons tiles_s (pok_cons rhas_s pok_nil)))))) noG_ok) rfl ⟨Try.func11, by kernel_rfl, by kernel_rfl, by kernel_rfl⟩ (by exact Nat.le_of_ble_eq_true rfl) ?_ hc
  obtain ⟨r0, r1, r2, r3⟩ := g
  refine ⟨fun h1 => rfl, fun h1 => ?_⟩
  refine ⟨fun h3 => ?_, fun h3 => ?_⟩
  · have h3 : ¬ gcheck ⟨r0, r1, r2, r3⟩ = 0 := by simpa using h3
    have e5 : gin ⟨r0, r1, r2, r3⟩ x y = false := by simp [gin, h3]
    have e4 := gof_0 e5
    (repeat' (first | apply And.intro | intro h)); (all_goals (try exact Chk.mk (by kernel_rfl)))
    (all_goals (try first | exact True.intro | exact rfl | exact And.intro rfl rfl | exact And.intro rfl (fun _ _ => rfl)))
    all_goals (exfalso; simp only [e4, e5] at *; simp_all)
  · have h3 : gcheck ⟨r0, r1, r2, r3⟩ = 0 := by simpa using h3
    have hl := tilesL_len ⟨r0, r1, r2, r3⟩ (rN ⟨r0, r1, r2, r3⟩)
    have w3 : gcount ⟨r0, r1, r2, r3⟩ = (((tilesL ⟨r0, r1, r2, r3⟩ (rN ⟨r0, r1, r2, r3⟩)).length : Nat) : Int) := by rw [hl, gcount_eq h3]
    have wb := gcount_bd ⟨r0, r1, r2, r3⟩
    rw [w3] at wb
    have hof : ∀ k : Nat, k < (tilesL ⟨r0, r1, r2, r3⟩ (rN ⟨r0, r1, r2, r3⟩)).length → (((tilesL ⟨r0, r1, r2, r3⟩ (rN ⟨r0, r1, r2, r3⟩)).getD k .zero).has x y = true ↔ gin ⟨r0, r1, r2, r3⟩ x y = true ∧ gof ⟨r0, r1, r2, r3⟩ x y = k) := fun k hk => tile_of h3 (by rw [← hl]; exact hk)
    have hbd : gin ⟨r0, r1, r2, r3⟩ x y = true → 0 ≤ gof ⟨r0, r1, r2, r3⟩ x y ∧ gof ⟨r0, r1, r2, r3⟩ x y < (((tilesL ⟨r0, r1, r2, r3⟩ (rN ⟨r0, r1, r2, r3⟩)).length : Nat) : Int) := fun h => by rw [← w3]; exact gof_bd h
    have hz : gin ⟨r0, r1, r2, r3⟩ x y = false → gof ⟨r0, r1, r2, r3⟩ x y = 0 := fun h => gof_0 h
    clear hl w3
    refine ⟨h3, ?_⟩
    refine ⟨Nat, fun k => [(1, .int .i64 x), (2, .int .i64 y), (9, .int .i64 (gof ⟨r0, r1, r2, r3⟩ x y)), (10, .bool (gin ⟨r0, r1, r2, r3⟩ x y)), (11, .int .i64 (gnum ⟨r0, r1, r2, r3⟩ x y k)), (41, rectsA (tilesL ⟨r0, r1, r2, r3⟩ (rN ⟨r0, r1, r2, r3⟩))), (42, .int .i64 (tilesL ⟨r0, r1, r2, r3⟩ (rN ⟨r0, r1, r2, r3⟩)).length), (43, .int .i64 k)], fun k => ⟨0, []⟩,
      fun k => k ≤ (tilesL ⟨r0, r1, r2, r3⟩ (rN ⟨r0, r1, r2, r3⟩)).length, fun k => (tilesL ⟨r0, r1, r2, r3⟩ (rN ⟨r0, r1, r2, r3⟩)).length - k, ⟨0, [], Nat.zero_le _, ?_⟩, fun k hk => ?_⟩
    · (repeat' (first | apply And.intro | intro h)); (all_goals (try exact Chk.mk (by kernel_rfl)))
      (all_goals (try first | exact True.intro | exact rfl | exact And.intro rfl rfl | exact And.intro rfl (fun _ _ => rfl)))
      show (0 : Int) = gnum ⟨r0, r1, r2, r3⟩ x y 0
      unfold gnum
      rw [if_neg]; intro hc; have := hbd hc.1; omega
    refine ⟨fun hy => ?_, fun hy => ?_⟩
    · replace hy : (k : Int) < (((tilesL ⟨r0, r1, r2, r3⟩ (rN ⟨r0, r1, r2, r3⟩)).length : Nat) : Int) := of_decide_eq_true hy
      replace hof := hof k (by omega)
      refine ⟨⟨by show (0 : Int) ≤ k; omega, hy⟩, fun h7 => ?_, fun h7 => ?_⟩
      · have h7 : ((tilesL ⟨r0, r1, r2, r3⟩ (rN ⟨r0, r1, r2, r3⟩)).getD k .zero).rhas x y = true := h7
        rw [R4.rhas_eq] at h7
        obtain ⟨k1, k2⟩ := hof.1 h7
        have k3 : gnum ⟨r0, r1, r2, r3⟩ x y k = 0 := if_neg (by omega)
        have k4 : gnum ⟨r0, r1, r2, r3⟩ x y (k + 1) = 1 := if_pos ⟨k1, by omega⟩
        (repeat' (first | apply And.intro | intro h)); (all_goals (try exact Chk.mk (by kernel_rfl)))
        (all_goals (try first | exact True.intro | exact rfl | exact And.intro rfl rfl | exact And.intro rfl (fun _ _ => rfl)))
        · show rngI .i64 (gnum ⟨r0, r1, r2, r3⟩ x y k + 1)
          rw [k3]; exact rng64 (by omega) (by omega)
        · rename_i h; exact absurd k2 (of_decide_eq_true h)
        · exact rng64 (by omega) (by omega)
        · refine ⟨k + 1, [], (by show k + 1 ≤ _; omega), (by show _ - (k + 1) < _ - k; omega), ?_⟩
          (repeat' (first | apply And.intro | intro h)); (all_goals (try exact Chk.mk (by kernel_rfl)))
          (all_goals (try first | exact True.intro | exact rfl | exact And.intro rfl rfl | exact And.intro rfl (fun _ _ => rfl)))
          show gnum ⟨r0, r1, r2, r3⟩ x y k + 1 = gnum ⟨r0, r1, r2, r3⟩ x y (k + 1)
          omega
      · have h7 : ((tilesL ⟨r0, r1, r2, r3⟩ (rN ⟨r0, r1, r2, r3⟩)).getD k .zero).rhas x y = false := h7
        rw [R4.rhas_eq] at h7
        have k4 : gnum ⟨r0, r1, r2, r3⟩ x y (k + 1) = gnum ⟨r0, r1, r2, r3⟩ x y k := by
          have : ¬ (gin ⟨r0, r1, r2, r3⟩ x y = true ∧ gof ⟨r0, r1, r2, r3⟩ x y = k) := fun h => by rw [hof.2 h] at h7; cases h7
          unfold gnum
          by_cases hg : gin ⟨r0, r1, r2, r3⟩ x y = true
          · simp only [hg, true_and] at this ⊢
            congr 1; simp only [eq_iff_iff]; omega
          · simp [hg]
        (repeat' (first | apply And.intro | intro h)); (all_goals (try exact Chk.mk (by kernel_rfl)))
        (all_goals (try first | exact True.intro | exact rfl | exact And.intro rfl rfl | exact And.intro rfl (fun _ _ => rfl)))
        · exact rng64 (by omega) (by omega)
        · refine ⟨k + 1, [], (by show k + 1 ≤ _; omega), (by show _ - (k + 1) < _ - k; omega), ?_⟩
          (repeat' (first | apply And.intro | intro h)); (all_goals (try exact Chk.mk (by kernel_rfl)))
          (all_goals (try first | exact True.intro | exact rfl | exact And.intro rfl rfl | exact And.intro rfl (fun _ _ => rfl)))
          exact k4.symm
    · replace hy : ¬ (k : Int) < (((tilesL ⟨r0, r1, r2, r3⟩ (rN ⟨r0, r1, r2, r3⟩)).length : Nat) : Int) := of_decide_eq_false hy
      have k4 : gnum ⟨r0, r1, r2, r3⟩ x y k = if gin ⟨r0, r1, r2, r3⟩ x y = true then 1 else 0 := by
        unfold gnum
        by_cases hg : gin ⟨r0, r1, r2, r3⟩ x y = true
        · have := hbd hg
          simp only [hg, true_and]; rw [if_pos (by omega)]; rfl
        · simp [hg]
      have k5 := gnum_bd ⟨r0, r1, r2, r3⟩ x y k
      clear hof hbd
      (repeat' (first | apply And.intro | intro h)); (all_goals (try exact Chk.mk (by kernel_rfl)))
      (all_goals (try first | exact True.intro | exact rfl | exact And.intro rfl rfl | exact And.intro rfl (fun _ _ => rfl)))
      · exfalso; rename_i h2; exact absurd (hz h2) (of_decide_eq_false h)
      · exfalso; rename_i h; rw [k4] at h; cases hg : gin ⟨r0, r1, r2, r3⟩ x y <;> rw [hg] at h <;> exact absurd h (by decide)
      · rename_i h; exact absurd k5.2 (of_decide_eq_false h)
end Go.Proofs.Ytenjmgopfcbbbaa
