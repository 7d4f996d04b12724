/- The statement PnmReads, for every input: the law's walk (YtejnnjjnbjpacaaDoorS3), lifted to the row. No condition. -/
import Derived.Test.YtejnnjjnbjpacaaDoorS3
import Derived.Test.YtejnnjjnbjpacaaDoorFr
import Derived.Test.YtejnnjjnbjpacaaDoorTie
import Derived.Test.YtejnnjjnbjpacaaDoorCards
import Derived.LaidMore
import Derived.OpenShut
import Derived.SevenTiedAt
namespace Go.Proofs.YtejnnjjnbjpacaaDoor
open Go.ChangeShapes Go.WideShapes Go.ChangeAt Go.RowKit Go.Deep
open Go.ChangeMaps (open_string shut_string)
set_option linter.unusedVariables false
set_option linter.unusedSimpArgs false

theorem walk_PnmReads (bA : Option Addr) (bn bc : Nat) (b : List Int) (W : World) (f_b : Sl W .u8 W.heap.size bA bn b) (g_b : bn ≤ bc) (m_b : bc ≤ maxLen) (z_b : Adr W bA bn bc) :
    Calls Tryd.prog 3 #[.slice bA bn bc] W fun e W' => e = .returned (.bool true) ∧ Below W.heap.size W W' :=
  walk_PnmReads' b (bytes_of f_b.wf) W (crel_cons (rep_sl f_b g_b m_b z_b) crel_nil)

abbrev laid_PnmReads : List (String × DataW Unit) := Rows.pnmReadsRow.laid
set_option maxRecDepth 100000 in
theorem door_PnmReads (os : Os) (args : Array Value) : laidMetH Tryd.prog laid_PnmReads ((World.doorLaid Tryd.prog 400 os).forCall (fun _ _ => 0) ⟨#[], args, []⟩).memory :=
  laidMetH_of_parts3 (fuel := 8) (laidMet_of_run' 8 (by kernel_rfl) (by kernel_rfl)) (by kernel_rfl) (by kernel_rfl)
set_option maxRecDepth 100000 in
set_option maxHeartbeats 1000000 in
theorem lifted_PnmReads (os : Os) (started : os.Started) (H : Type) (enc : TypeId × Value → H) :
    ReturnsInHanded {} Tryd.checked os 3 .any (fun w args => (Rows.pnmReadsSpec.pre enc Tryd.prog Tryd.f3 [] false w args ∧ laidMetH Tryd.prog laid_PnmReads w) ∧ sizedMet enc Tryd.prog Tryd.f3 (OpenSpec.ofChange Rows.pnmReadsSpec) false w args) (Rows.pnmReadsSpec.post enc Tryd.prog Tryd.f3 false true false false) := by
  refine returnsInHanded_of_change_and (C := Tryd.checked) (X := fun w _ => laidMetH Tryd.prog laid_PnmReads w) (fun _ _ _ hh h => h.of_heap hh) own started (by kernel_rfl) Tryd.func3
    (ChangeSpec.witness_shaped (enc := enc) (C := Tryd.checked) (os := os) (X := fun w _ => laidMetH Tryd.prog laid_PnmReads w) false (World.doorLaid Tryd.prog 400 os) #[.slice none 0 0] 8 rfl (World.shaped_of_RefB (by kernel_rfl) (by kernel_rfl)) (by kernel_rfl) (by kernel_rfl) (by kernel_rfl) (door_PnmReads os _)) ?_
  intro W base args ds gs before hval0 hW hcnd _ _ _
  have hval : ∀ (j : Nat) t v, Tryd.f3.params[j]? = some t → args[j]? = some v → Value.okWide Tryd.prog W .any base t v := hval0
  have hW' := hW
  obtain ⟨p, q, hA0, hV, rfl, hfz, hnd⟩ := hW
  have hA : DataW.TrodAll enc Tryd.prog W 0 (fun _ => true) true Tryd.f3.params.toList args.toList ds p := hA0
  rw [Tryd.params3] at hA hval
  obtain ⟨v0, vs0, d0, ds0, p0, q0, hargs, rfl, rfl, h0, rr0⟩ := trodAll_cons hA
  obtain ⟨rfl, rfl, rfl⟩ := trodAll_nil rr0
  obtain rfl : args = #[v0] := by cases args; simp_all
  obtain ⟨rfl, rfl⟩ := trodVars_none hV
  have k0 := h0
  have lt0 : ∀ x ∈ p0, x.block < W.heap.size := by obtain ⟨m, hm⟩ := k0; exact DataW.trod_lt m _ _ _ hm
  obtain ⟨bA, bn, bc, rfl⟩ := okWide_slice Tryd.underlying22 (hval 0 22 v0 rfl rfl)
  obtain ⟨fu0, hf0⟩ := h0; simp only [Value.cells] at hf0
  obtain ⟨qA, qn, qc, b, qe, f_b, g_b, m_b, _⟩ := sl_of Tryd.underlying22 Tryd.underlying5 (by kernel_rfl) hf0; simp only [Value.slice.injEq] at qe; obtain ⟨rfl, rfl, rfl⟩ := qe
  have z_b : Adr W bA bn bc := adr_top Tryd.underlying22 (hval 0 22 _ rfl rfl)
  clear hA0 hval0
  refine (walk_PnmReads bA bn bc b W f_b g_b m_b z_b).mono fun e W' ⟨he, bel⟩ => ?_
  subst he
  exact ⟨_, rfl, _, _, _, [], _, [], hW', trodAll_mk1 (shut_bool Tryd.underlying4 _), (trodAll_cons_mk (Below.trod laidOut (by kernel_rfl) (of_decide_eq_true (by kernel_rfl)) k0 bel lt0) trodAll_mk0), rfl, bel.frame _, fun h => by cases h⟩

theorem over_PnmReads : Rows.pnmReadsRow.holds Tryd.pinned (OpenSpec.ofChange Rows.pnmReadsSpec) :=
  OpenClaim.holds_of_wide 3 Tryd.f3 rfl rfl rfl rfl rfl rfl rfl ⟨rfl, rfl, rfl, rfl, rfl⟩ rfl rfl rfl rfl rfl (by kernel_rfl) Tryd.func3 (by kernel_rfl)
    (of_decide_eq_true (by kernel_rfl)) (by unfold Func.isWrapper; first | (rw [if_pos (by decide +kernel)]; kernel_rfl) | (rw [if_neg (by decide +kernel)]; exact ⟨rfl, rfl⟩))
    (fun os started H enc _ => lifted_PnmReads os started H enc)

theorem pnmReads_row : Rows.PnmReadsSaid := over_PnmReads
theorem pnmReads_holds : Rows.PnmReadsCardSaid :=
  Claim7.holds_tied_plain_at .later [] [.data, .data, .data] true (true, "2adaa55efb6f1b9dc93641ec6d6e278b7df0b2ab481f9e236070340f9c5b7f4f") false
    pnmReads_row (fun _ h => by cases h) (by kernel_rfl) (fun _ h => by cases h) pnmReads_row_tie rfl ⟨rfl, rfl⟩ (by kernel_rfl) rfl
    (fun f fn hf hfn => by
      obtain rfl : f = 3 := Option.some.inj ((show Tryd.prog.funcNamed "anamorph/anamorphlaw15.PnmReads" = some 3 by kernel_rfl).symm.trans hf) |>.symm
      obtain rfl : fn = Tryd.f3 := (Option.some.inj (Tryd.func3.symm.trans hfn)).symm
      exact ⟨by kernel_rfl, fun j t ht => by
        rw [Tryd.params3] at ht
        have hm : t ∈ [22] := by simpa using Array.mem_of_getElem? ht
        have hall : ([22].all fun u => !Tryd.prog.wantsStandIn u) = true := by kernel_rfl
        exact (show Tryd.prog.wantsStandIn t = false by simpa using List.all_eq_true.1 hall t hm)⟩)
    (by kernel_rfl)
#print axioms pnmReads_holds
end Go.Proofs.YtejnnjjnbjpacaaDoor
