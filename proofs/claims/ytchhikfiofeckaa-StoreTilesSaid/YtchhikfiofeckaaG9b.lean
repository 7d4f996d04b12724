
/- What more functions of the layer grid answer. -/
import Derived.Test.YtchhikfiofeckaaG9t
import Derived.Test.YtchhikfiofeckaaG5
namespace Go.Proofs.Ytchhikfiofeckaa
open Go Go.RowKit
set_option linter.unusedVariables false
set_option linter.unusedSimpArgs false
set_option maxRecDepth 100000

theorem soon_div {a b : Int} (ha : 0 ≤ a) (hb : 1 ≤ b) (h : a ≤ 32768) : 0 ≤ a.tdiv b ∧ a.tdiv b ≤ 32768 := by
  rw [Int.tdiv_eq_ediv_of_nonneg ha]
  constructor
  · exact Int.ediv_nonneg ha (by omega)
  · exact Int.le_trans (Int.ediv_le_self b ha) h
theorem gtile_s : SOK Try.prog 117 (sRI fun g i => .tup [(gtile g i).av, .bool (gis g i)]) := by
  refine sok_of (C := mkC 0 [(146, sR fun g => .int .i64 (gcols g)), (116, sR fun g => .int .i64 (gcount g)), (145, sR fun g => (R4.mk 0 0 g.x0 g.y0).av), (149, sRR fun a b => (a.both b).av)] noG)
    (mkC_ok (pok_cons gcols_s (pok_cons gcount_s (pok_cons gwhole_s (pok_cons both_s pok_nil)))) noG_ok) rfl mixed ⟨Try.func117, by kernel_rfl, by kernel_rfl, by kernel_rfl⟩ fun l obs v h _ => ?_
  obtain ⟨r, i, rfl, rfl⟩ := sRI_inv h
  obtain ⟨r0, r1, r2, r3⟩ := r
  refine ⟨Nat.le_of_ble_eq_true rfl, ?_⟩
  refine ⟨fun h1 => ?_, fun h1 => ⟨fun h2 => ?_, fun h2 => ?_⟩⟩
  · have h1 : i < 0 := of_decide_eq_true h1
    have e1 : gtile ⟨r0, r1, r2, r3⟩ i = .zero := if_neg (by omega)
    have e2 : gis ⟨r0, r1, r2, r3⟩ i = false := by simp [gis]; omega
    rw [e1, e2]
    (repeat' (first | apply And.intro | intro h)); (all_goals (try exact Chk.mk (by kernel_rfl)))
    (all_goals (try first | exact True.intro | exact rfl | exact And.intro rfl rfl | exact And.intro rfl (fun _ _ => rfl)))
  · have h1 : ¬ i < 0 := of_decide_eq_false h1
    have h2 : gcount ⟨r0, r1, r2, r3⟩ ≤ i := of_decide_eq_true h2
    have e1 : gtile ⟨r0, r1, r2, r3⟩ i = .zero := if_neg (by omega)
    have e2 : gis ⟨r0, r1, r2, r3⟩ i = false := by simp [gis]; omega
    rw [e1, e2]
    (repeat' (first | apply And.intro | intro h)); (all_goals (try exact Chk.mk (by kernel_rfl)))
    (all_goals (try first | exact True.intro | exact rfl | exact And.intro rfl rfl | exact And.intro rfl (fun _ _ => rfl)))
  · have h1 : ¬ i < 0 := of_decide_eq_false h1
    have h2 : ¬ gcount ⟨r0, r1, r2, r3⟩ ≤ i := of_decide_eq_false h2
    have e2 : gis ⟨r0, r1, r2, r3⟩ i = true := by simp [gis]; omega
    obtain ⟨hg, hj, hk, e3, e4⟩ := gidx (g := ⟨r0, r1, r2, r3⟩) (i := i) (by omega) (by omega)
    have e1 : gtile ⟨r0, r1, r2, r3⟩ i = tileAt ⟨r0, r1, r2, r3⟩ (i.toNat / cN ⟨r0, r1, r2, r3⟩) (i.toNat % cN ⟨r0, r1, r2, r3⟩) := if_pos (by omega)
    have hb := gcheck_inv hg
    have ht := tile_lt hg hj hk
    have hbt := tile_both hg hj hk
    rw [e2, e1, ← hbt]
    simp only at hb ht ⊢
    generalize i.toNat / cN ⟨r0, r1, r2, r3⟩ = J at *
    generalize i.toNat % cN ⟨r0, r1, r2, r3⟩ = K at *
    have hcp := cN_pos hg
    have hc0 : gcols ⟨r0, r1, r2, r3⟩ ≠ 0 := by rw [← cN_eq hg]; omega
    have q1 : rngI .i64 (i.tmod (gcols ⟨r0, r1, r2, r3⟩) * r2) := by rw [e3]; exact rng64 (by omega) (by omega)
    have q2 : rngI .i64 (i.tdiv (gcols ⟨r0, r1, r2, r3⟩)) := by
      rw [e4]
      have := grows_bd ⟨r0, r1, r2, r3⟩
      rw [← rN_eq hg] at this
      exact rng64 (by omega) (by omega)
    have q3 : rngI .i64 (i.tdiv (gcols ⟨r0, r1, r2, r3⟩) * r3) := by rw [e4]; exact rng64 (by omega) (by omega)
    have q4 : rngI .i64 (i.tmod (gcols ⟨r0, r1, r2, r3⟩) * r2 + r2) := by rw [e3]; exact rng64 (by omega) (by omega)
    have q5 : rngI .i64 (i.tdiv (gcols ⟨r0, r1, r2, r3⟩) * r3 + r3) := by rw [e4]; exact rng64 (by omega) (by omega)
    rw [← e3, ← e4]
    refine ⟨⟨by kernel_rfl⟩, hc0, q1, hc0, q2, q3, ?_⟩
    (repeat' (first | apply And.intro | intro h)); (all_goals (try exact Chk.mk (by kernel_rfl)))
    (all_goals (try first | exact True.intro | exact rfl | exact And.intro rfl rfl | exact And.intro rfl (fun _ _ => rfl)))
    · exact q4
    · exact q5
theorem gof_s : SOK Try.prog 110 (sRII fun g x y => .tup [.int .i64 (gof g x y), .bool (gin g x y)]) := by
  refine sok_of (C := mkC 0 [(146, sR fun g => .int .i64 (gcols g)), (143, sR fun g => .bool (decide (gcheck g = 0))), (145, sR fun g => (R4.mk 0 0 g.x0 g.y0).av), (144, sRII fun r x y => .bool (r.has x y))] noG)
    (mkC_ok (pok_cons gcols_s (pok_cons gright_s (pok_cons gwhole_s (pok_cons has_s pok_nil)))) noG_ok) rfl mixed ⟨Try.func110, by kernel_rfl, by kernel_rfl, by kernel_rfl⟩ fun l obs v h _ => ?_
  obtain ⟨r, x, y, rfl, rfl⟩ := sRII_inv h
  obtain ⟨r0, r1, r2, r3⟩ := r
  refine ⟨Nat.le_of_ble_eq_true rfl, ?_⟩
  refine ⟨fun h1 => ?_, fun h1 => ⟨fun h2 => ?_, fun h2 => ?_⟩⟩
  · have h1 : ¬ gcheck ⟨r0, r1, r2, r3⟩ = 0 := by simpa using h1
    have e2 : gin ⟨r0, r1, r2, r3⟩ x y = false := by simp [gin, h1]
    rw [gof_0 e2, e2]
    (repeat' (first | apply And.intro | intro h)); (all_goals (try exact Chk.mk (by kernel_rfl)))
    (all_goals (try first | exact True.intro | exact rfl | exact And.intro rfl rfl | exact And.intro rfl (fun _ _ => rfl)))
  · have h2 : (R4.mk 0 0 r0 r1).has x y = false := by simpa using h2
    have e2 : gin ⟨r0, r1, r2, r3⟩ x y = false := by simp [gin, h2]
    rw [gof_0 e2, e2]
    (repeat' (first | apply And.intro | intro h)); (all_goals (try exact Chk.mk (by kernel_rfl)))
    (all_goals (try first | exact True.intro | exact rfl | exact And.intro rfl rfl | exact And.intro rfl (fun _ _ => rfl)))
  · have h1 : gcheck ⟨r0, r1, r2, r3⟩ = 0 := by simpa using h1
    have h2 : (R4.mk 0 0 r0 r1).has x y = true := by simpa using h2
    have e2 : gin ⟨r0, r1, r2, r3⟩ x y = true := by simp [gin, h1, h2]
    have hb := gcheck_inv h1
    obtain ⟨X, Y, _, _, hX, hY, e, e3, e4⟩ := gof_nat e2
    have hbd := gof_bd e2
    have hcb := gcount_bd ⟨r0, r1, r2, r3⟩
    have hc := gcols_bd ⟨r0, r1, r2, r3⟩
    have hr := grows_bd ⟨r0, r1, r2, r3⟩
    have hgo : gof ⟨r0, r1, r2, r3⟩ x y = y.tdiv r3 * gcols ⟨r0, r1, r2, r3⟩ + x.tdiv r2 := if_pos ⟨h1, h2⟩
    rw [← cN_eq h1] at hc
    rw [← rN_eq h1] at hr
    simp only at hb e3 e4
    have hm : 0 ≤ y.tdiv r3 * gcols ⟨r0, r1, r2, r3⟩ := by rw [e4, ← cN_eq h1]; exact Int.mul_nonneg (by omega) (by omega)
    have q1 : rngI .i64 (y.tdiv r3) := rng64 (by omega) (by omega)
    have q2 : rngI .i64 (y.tdiv r3 * gcols ⟨r0, r1, r2, r3⟩) := rng64 (by omega) (by omega)
    have q3 : rngI .i64 (x.tdiv r2) := rng64 (by omega) (by omega)
    have q4 : rngI .i64 (y.tdiv r3 * gcols ⟨r0, r1, r2, r3⟩ + x.tdiv r2) := by rw [← hgo]; exact rng64 (by omega) (by omega)
    rw [e2, hgo]
    refine ⟨⟨by kernel_rfl⟩, (by omega : r3 ≠ 0), q1, q2, (by omega : r2 ≠ 0), q3, q4, ?_⟩
    (repeat' (first | apply And.intro | intro h)); (all_goals (try exact Chk.mk (by kernel_rfl)))
    (all_goals (try first | exact True.intro | exact rfl | exact And.intro rfl rfl | exact And.intro rfl (fun _ _ => rfl)))
end Go.Proofs.Ytchhikfiofeckaa
