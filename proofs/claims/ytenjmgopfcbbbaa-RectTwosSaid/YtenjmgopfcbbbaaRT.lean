/- The law RectTwos: its conditions. -/
import Derived.Test.YtenjmgopfcbbbaaR6b
namespace Go.Proofs.Ytenjmgopfcbbbaa
open Go Go.RowKit
set_option linter.unusedVariables false
set_option linter.unusedSimpArgs false
set_option maxRecDepth 100000

theorem R4.eta (a : R4) : R4.mk a.x0 a.y0 a.x1 a.y1 = a := rfl
theorem walk_RectTwos' (a b : R4) (W : World) {cl : List Value} (hc : CRel noN W NoO [a.av, b.av] cl) :
    Calls Try.prog 4 cl.toArray W fun e W' => e = .returned (.bool true) ∧ Below W.heap.size W W' := by
  refine law_of (l := [a.av, b.av]) (C := mkC 0 [(23, sRR fun a b => (a.both b).av), (24, sRR fun a b => (a.around b).av), (25, sRR fun a b => .bool (a.inside b)),
    (26, sR fun r => .int .i64 r.rarea), (27, sRR fun a b => (a.rboth b).av), (28, sR fun r => r.norm.av), (29, sRR fun a b => (a.raround b).av),
    (30, sN (.bool true))] noG)
    (mkC_ok (pok_cons both_s (pok_cons around_s (pok_cons inside_s (pok_cons rarea_s (pok_cons rboth_s (pok_cons rnorm_s (pok_cons raround_s (pok_cons alive6_s pok_nil)))))))) noG_ok) rfl ⟨Try.func4, by kernel_rfl, by kernel_rfl, by kernel_rfl⟩ (by exact Nat.le_of_ble_eq_true rfl) ?_ hc
  have f1 := R4.both_comm a b
  have f2 := R4.around_comm a b
  have f3 := R4.inside_around a b
  have f4 := R4.inside_around' a b
  have f5 := R4.inside_both a b
  have f6 := R4.rboth_eq a b
  have f7 := R4.raround_eq a b
  have f8 : a.rarea = 0 → a.inside b = true := fun h => by rw [← R4.in_eq, h]; rfl
  have f9 : ¬ a.rarea = 0 → a.inside b = (decide ((a.rboth b).x0 = a.norm.x0) && (decide ((a.rboth b).y0 = a.norm.y0) && (decide ((a.rboth b).x1 = a.norm.x1) && (decide ((a.rboth b).y1 = a.norm.y1) && true)))) := fun h => by
    rw [← R4.in_eq, beq_eq_false_iff_ne.2 h]; simp [R4.beq, beq8, Bool.and_assoc]; rfl
  (repeat' (first | apply And.intro | intro h)); (all_goals (try exact Chk.mk (by kernel_rfl)))
  (all_goals (try first | exact True.intro | exact rfl | exact And.intro rfl rfl | exact And.intro rfl (fun _ _ => rfl)))
  all_goals (exfalso; clear hc; revert h; simp only [R4.eta, f1, f2, f3, f4, f5, f6, f7, decide_true, Bool.and_self, Bool.not_true, Bool.and_true]; try (intro h; cases h; done))
  · rw [f8 (of_decide_eq_true (by assumption))]; decide
  · rw [f9 (of_decide_eq_false (by assumption)), f6]; simp
end Go.Proofs.Ytenjmgopfcbbbaa
