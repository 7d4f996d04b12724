/- The statement CodecReads, for every input: the law's walk (YtepjmnkleajibaaS5), lifted to the row. No condition. -/
import Derived.Test.YtepjmnkleajibaaS5
import Derived.Test.YtepjmnkleajibaaFr
namespace Go.Proofs.Ytepjmnkleajibaa
open Go.ChangeShapes Go.WideShapes Go.ChangeAt Go.RowKit Go.Deep
open Go.ChangeMaps (open_string shut_string)
set_option linter.unusedVariables false
set_option linter.unusedSimpArgs false

theorem walk_CodecReads (bA : Option Addr) (bn bc : Nat) (b : List Int) (W : World) (f_b : Sl W .u8 W.heap.size bA bn b) (g_b : bn ≤ bc) (m_b : bc ≤ maxLen) (z_b : Adr W bA bn bc) :
    Calls Try.prog 16 #[.slice bA bn bc] W fun e W' => e = .returned (.bool true) ∧ Below W.heap.size W W' :=
  walk_CodecReads' b (bytes_of f_b.wf) W (crel_cons (rep_sl f_b g_b m_b z_b) crel_nil)

set_option maxRecDepth 100000 in
set_option maxHeartbeats 1000000 in
theorem lifted_CodecReads (os : Os) (started : os.Started) (H : Type) (enc : TypeId × Value → H) :
    ReturnsInHanded {} Try.checked os 16 .any (Rows.codecReadsSpec.pre6 enc Try.prog Try.f16 Rows.codecReadsRow.domain false) (Rows.codecReadsSpec.post enc Try.prog Try.f16 false true false false) := by
  refine returnsInHanded_of_change (C := Try.checked) own started (by kernel_rfl) Try.func16
    (ChangeSpec.witness6 (enc := enc) (C := Try.checked) false ⟨#[], #[.slice none 0 0], []⟩ 8 (by kernel_rfl) (by kernel_rfl) (by kernel_rfl) (by kernel_rfl)) ?_
  intro W base args ds gs before hval0 hW hcnd _
  have hval : ∀ (j : Nat) t v, Try.f16.params[j]? = some t → args[j]? = some v → Value.okWide Try.prog W .any base t v := hval0
  have hW' := hW
  obtain ⟨p, q, hA0, hV, rfl, hfz, hnd⟩ := hW
  have hA : DataW.TrodAll enc Try.prog W 0 (fun _ => true) true Try.f16.params.toList args.toList ds p := hA0
  rw [Try.params16] at hA hval
  obtain ⟨v0, vs0, d0, ds0, p0, q0, hargs, rfl, rfl, h0, rr0⟩ := trodAll_cons hA
  obtain ⟨rfl, rfl, rfl⟩ := trodAll_nil rr0
  obtain rfl : args = #[v0] := by cases args; simp_all
  obtain ⟨rfl, rfl⟩ := trodVars_none hV
  have k0 := h0
  have lt0 : ∀ x ∈ p0, x.block < W.heap.size := by obtain ⟨m, hm⟩ := k0; exact DataW.trod_lt m _ _ _ hm
  obtain ⟨bA, bn, bc, rfl⟩ := okWide_slice Try.underlying22 (hval 0 22 v0 rfl rfl)
  obtain ⟨fu0, hf0⟩ := h0; simp only [Value.cells] at hf0
  obtain ⟨qA, qn, qc, b, qe, f_b, g_b, m_b, _⟩ := sl_of Try.underlying22 Try.underlying5 (by kernel_rfl) hf0; simp only [Value.slice.injEq] at qe; obtain ⟨rfl, rfl, rfl⟩ := qe
  have z_b : Adr W bA bn bc := adr_top Try.underlying22 (hval 0 22 _ rfl rfl)
  clear hA0 hval0
  refine (walk_CodecReads bA bn bc b W f_b g_b m_b z_b).mono fun e W' ⟨he, bel⟩ => ?_
  subst he
  exact ⟨_, rfl, _, _, _, [], _, [], hW', trodAll_mk1 (shut_bool Try.underlying4 _), (trodAll_cons_mk (Below.trod laidOut (by kernel_rfl) (of_decide_eq_true (by kernel_rfl)) k0 bel lt0) trodAll_mk0), rfl, bel.frame _, fun h => by cases h⟩

theorem over_CodecReads : Rows.codecReadsRow.holds Try.pinned (OpenSpec.ofChange Rows.codecReadsSpec) :=
  OpenClaim.holds_of_wide 16 Try.f16 rfl rfl rfl rfl rfl rfl rfl ⟨rfl, rfl, rfl, rfl, rfl⟩ rfl rfl rfl rfl rfl (by kernel_rfl) Try.func16 (by kernel_rfl)
    (of_decide_eq_true (by kernel_rfl)) (by unfold Func.isWrapper; first | (rw [if_pos (by decide +kernel)]; kernel_rfl) | (rw [if_neg (by decide +kernel)]; exact ⟨rfl, rfl⟩))
    (fun os started H enc _ => lifted_CodecReads os started H enc)

theorem codecReads_holds : Rows.CodecReadsSaid := over_CodecReads
#print axioms codecReads_holds
end Go.Proofs.Ytepjmnkleajibaa
