/- The statement QueueSteps, for every input: the law's walk (YtgbekbofeaoniaaS2), lifted to the row. No condition. -/
import Derived.Test.YtgbekbofeaoniaaS2
import Derived.Test.YtgbekbofeaoniaaFr
import Derived.Test.YtgbekbofeaoniaaFQs
namespace Go.Proofs.Ytgbekbofeaoniaa
open Go.ChangeShapes Go.WideShapes Go.ChangeAt Go.RowKit Go.Deep
open Go.ChangeMaps (open_string shut_string)
set_option linter.unusedVariables false
set_option linter.unusedSimpArgs false

theorem walk_QueueSteps (lvA : Option Addr) (lvn lvc : Nat) (lv : List Qs) (W : World) (r_lv : Rep noN W NoO (QsA lv) (.slice lvA lvn lvc)) (o_lv : ∀ m ∈ lv, m.ok) :
    Calls Try.prog 6 #[.slice lvA lvn lvc] W fun e W' => e = .returned (.bool true) ∧ Below W.heap.size W W' :=
  walk_QueueSteps' lv W (crel_cons r_lv crel_nil)

set_option maxRecDepth 100000 in
set_option maxHeartbeats 1000000 in
theorem lifted_QueueSteps (os : Os) (started : os.Started) (H : Type) (enc : TypeId × Value → H) :
    ReturnsInHanded {} Try.checked os 6 .any (Rows.queueStepsSpec.pre6 enc Try.prog Try.f6 Rows.queueStepsRow.domain false) (Rows.queueStepsSpec.post enc Try.prog Try.f6 false true false false) := by
  refine returnsInHanded_of_change (C := Try.checked) own started (by kernel_rfl) Try.func6
    (ChangeSpec.witness6 (enc := enc) (C := Try.checked) false ⟨#[], #[.slice none 0 0], []⟩ 8 (by kernel_rfl) (by kernel_rfl) (by kernel_rfl) (by kernel_rfl)) ?_
  intro W base args ds gs before hval0 hW hcnd _
  have hval : ∀ (j : Nat) t v, Try.f6.params[j]? = some t → args[j]? = some v → Value.okWide Try.prog W .any base t v := hval0
  have hW' := hW
  obtain ⟨p, q, hA0, hV, rfl, hfz, hnd⟩ := hW
  have hA : DataW.TrodAll enc Try.prog W 0 (fun _ => true) true Try.f6.params.toList args.toList ds p := hA0
  rw [Try.params6] at hA hval
  obtain ⟨v0, vs0, d0, ds0, p0, q0, hargs, rfl, rfl, h0, rr0⟩ := trodAll_cons hA
  obtain ⟨rfl, rfl, rfl⟩ := trodAll_nil rr0
  obtain rfl : args = #[v0] := by cases args; simp_all
  obtain ⟨rfl, rfl⟩ := trodVars_none hV
  have k0 := h0
  have lt0 : ∀ x ∈ p0, x.block < W.heap.size := by obtain ⟨m, hm⟩ := k0; exact DataW.trod_lt m _ _ _ hm
  obtain ⟨lvA, lvn, lvc, rfl⟩ := okWide_slice Try.underlying70 (hval 0 70 v0 rfl rfl)
  obtain ⟨fu0, hf0⟩ := h0; simp only [Value.cells] at hf0
  obtain ⟨qA, qn, qc, lv, qe, f_lv, o_lv, g_lv⟩ := open_Qs Try.underlying70 hf0; simp only [Value.slice.injEq] at qe; obtain ⟨rfl, rfl, rfl⟩ := qe
  have r_lv := g_lv (adr_top Try.underlying70 (hval 0 70 _ rfl rfl))
  clear hA0 hval0
  refine (walk_QueueSteps lvA lvn lvc lv W r_lv o_lv).mono fun e W' ⟨he, bel⟩ => ?_
  subst he
  exact ⟨_, rfl, _, _, _, [], _, [], hW', trodAll_mk1 (shut_bool Try.underlying4 _), (trodAll_cons_mk (Below.trod laidOut (by kernel_rfl) (of_decide_eq_true (by kernel_rfl)) k0 bel lt0) trodAll_mk0), rfl, bel.frame _, fun h => by cases h⟩

theorem over_QueueSteps : Rows.queueStepsRow.holds Try.pinned (OpenSpec.ofChange Rows.queueStepsSpec) :=
  OpenClaim.holds_of_wide 6 Try.f6 rfl rfl rfl rfl rfl rfl rfl ⟨rfl, rfl, rfl, rfl, rfl⟩ rfl rfl rfl rfl rfl (by kernel_rfl) Try.func6 (by kernel_rfl)
    (of_decide_eq_true (by kernel_rfl)) (by unfold Func.isWrapper; first | (rw [if_pos (by decide +kernel)]; kernel_rfl) | (rw [if_neg (by decide +kernel)]; exact ⟨rfl, rfl⟩))
    (fun os started H enc _ => lifted_QueueSteps os started H enc)

theorem queueSteps_holds : Rows.QueueStepsSaid := over_QueueSteps
#print axioms queueSteps_holds
end Go.Proofs.Ytgbekbofeaoniaa
