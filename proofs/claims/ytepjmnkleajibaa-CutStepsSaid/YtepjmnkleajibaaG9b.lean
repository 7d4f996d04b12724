
/- What more functions of the layer grid answer. -/
import Derived.Test.YtepjmnkleajibaaG9t
import Derived.Test.YtepjmnkleajibaaG5
namespace Go.Proofs.Ytepjmnkleajibaa
open Go Go.RowKit
set_option linter.unusedVariables false
set_option linter.unusedSimpArgs false
set_option maxRecDepth 100000

theorem soon_div {a b : Int} (ha : 0 ≤ a) (hb : 1 ≤ b) (h : a ≤ 32768) : 0 ≤ a.tdiv b ∧ a.tdiv b ≤ 32768 := by
  rw [Int.tdiv_eq_ediv_of_nonneg ha]
  constructor
  · exact Int.ediv_nonneg ha (by omega)
  · exact Int.le_trans (Int.ediv_le_self b ha) h
theorem gtile_s : SOK Try.prog 115 (sRI fun g i => .tup [(gtile g i).av, .bool (gis g i)]) := by
  refine sok_of (C := mkC 0 [(153, sR fun g => .int .i64 (gcols g)), (152, sR fun g => .int .i64 (gcount g)), (155, sR fun g => (R4.mk 0 0 g.x0 g.y0).av), (154, sRR fun a b => (a.both b).av)] noG)
    (mkC_ok (pok_cons gcols_s (pok_cons gcount_s (pok_cons gwhole_s (pok_cons both_s pok_nil)))) noG_ok) rfl mixed ⟨Try.func115, by kernel_rfl, by kernel_rfl, by kernel_rfl⟩ fun l obs v h _ => ?_
  obtain ⟨r, i, rfl, rfl⟩ := sRI_inv h
  obtain ⟨r0, r1, r2, r3⟩ := r
  refine ⟨Nat.le_of_ble_eq_true rfl, ?_⟩
  refine ⟨fun h1 => ?_, fun h1 => ⟨fun h2 => ?_, fun h2 => ?_⟩⟩
  · have h1 : i < 0 := of_decide_eq_true h1
    have e1 : gtile ⟨r0, r1, r2, r3⟩ i = .zero := if_neg (by omega)
    have e2 : gis ⟨r0, r1, r2, r3⟩ i = false := by simp [gis]; omega
    rw [e1, e2]
    (repeat' (first | apply And.intro | intro h)); (all_goals (try exact Chk.mk (by kernel_rfl)))
    (all_goals (try first | exact True.intro | exact rfl | exact And.intro rfl rfl | exact And.intro rfl (fun _ _ => rfl)))
  · have h1 : ¬ i < 0 := of_decide_eq_false h1
    have h2 : gcount ⟨r0, r1, r2, r3⟩ ≤ i := of_decide_eq_true h2
    have e1 : gtile ⟨r0, r1, r2, r3⟩ i = .zero := if_neg (by omega)
    have e2 : gis ⟨r0, r1, r2, r3⟩ i = false := by simp [gis]; omega
    rw [e1, e2]
    (repeat' (first | apply And.intro | intro h)); (all_goals (try exact Chk.mk (by kernel_rfl)))
    (all_goals (try first | exact True.intro | exact rfl | exact And.intro rfl rfl | exact And.intro rfl (fun _ _ => rfl)))
  · have h1 : ¬ i < 0 := of_decide_eq_false h1
    have h2 : ¬ gcount ⟨r0, r1, r2, r3⟩ ≤ i := of_decide_eq_false h2
    have e2 : gis ⟨r0, r1, r2, r3⟩ i = true := by simp [gis]; omega
    obtain ⟨hg, hj, hk, e3, e4⟩ := gidx (g := ⟨r0, r1, r2, r3⟩) (i := i) (by omega) (by omega)
    have e1 : gtile ⟨r0, r1, r2, r3⟩ i = tileAt ⟨r0, r1, r2, r3⟩ (i.toNat / cN ⟨r0, r1, r2, r3⟩) (i.toNat % cN ⟨r0, r1, r2, r3⟩) := if_pos (by omega)
    have hb := gcheck_inv hg
    have ht := tile_lt hg hj hk
    have hbt := tile_both hg hj hk
    rw [e2, e1, ← hbt]
    simp only at hb ht ⊢
    generalize i.toNat / cN ⟨r0, r1, r2, r3⟩ = J at *
    generalize i.toNat % cN ⟨r0, r1, r2, r3⟩ = K at *
    have hcp := cN_pos hg
    have hc0 : gcols ⟨r0, r1, r2, r3⟩ ≠ 0 := by rw [← cN_eq hg]; omega
    have q1 : rngI .i64 (i.tmod (gcols ⟨r0, r1, r2, r3⟩) * r2) := by rw [e3]; exact rng64 (by omega) (by omega)
    have q2 : rngI .i64 (i.tdiv (gcols ⟨r0, r1, r2, r3⟩)) := by
      rw [e4]
      have := grows_bd ⟨r0, r1, r2, r3⟩
      rw [← rN_eq hg] at this
      exact rng64 (by omega) (by omega)
    have q3 : rngI .i64 (i.tdiv (gcols ⟨r0, r1, r2, r3⟩) * r3) := by rw [e4]; exact rng64 (by omega) (by omega)
    have q4 : rngI .i64 (i.tmod (gcols ⟨r0, r1, r2, r3⟩) * r2 + r2) := by rw [e3]; exact rng64 (by omega) (by omega)
    have q5 : rngI .i64 (i.tdiv (gcols ⟨r0, r1, r2, r3⟩) * r3 + r3) := by rw [e4]; exact rng64 (by omega) (by omega)
    rw [← e3, ← e4]
    refine ⟨⟨by kernel_rfl⟩, hc0, q1, hc0, q2, q3, ?_⟩
    (repeat' (first | apply And.intro | intro h)); (all_goals (try exact Chk.mk (by kernel_rfl)))
    (all_goals (try first | exact True.intro | exact rfl | exact And.intro rfl rfl | exact And.intro rfl (fun _ _ => rfl)))
    · exact q4
    · exact q5
end Go.Proofs.Ytepjmnkleajibaa
