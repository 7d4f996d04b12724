/- The statement CutOwn, for every input: the law's walk (YtpgikaeddhaiiaaK14e), lifted to the row. No condition. -/
import Derived.Test.YtpgikaeddhaiiaaK14e
import Derived.Test.YtpgikaeddhaiiaaFr
namespace Go.Proofs.Ytpgikaeddhaiiaa
open Go.ChangeShapes Go.WideShapes Go.ChangeAt Go.RowKit Go.Deep
open Go.ChangeMaps (open_string shut_string)
set_option linter.unusedVariables false
set_option linter.unusedSimpArgs false

theorem walk_CutOwn (bA : Option Addr) (bn bc : Nat) (b : List Int) (n : Int) (W : World) (f_b : Sl W .u8 W.heap.size bA bn b) (g_b : bn ≤ bc) (m_b : bc ≤ maxLen) (z_b : Adr W bA bn bc) (f_n : (Lit.int .i64 n).wf = true) :
    Calls Try.prog 13 #[.slice bA bn bc, .int .i64 n] W fun e W' => e = .returned (.bool true) ∧ Below W.heap.size W W' :=
  walk_CutOwn' b n (bytes_of f_b.wf) W (crel_cons (rep_sl f_b g_b m_b z_b) (crel_cons (.int _ _) crel_nil))

set_option maxRecDepth 100000 in
set_option maxHeartbeats 1000000 in
theorem lifted_CutOwn (os : Os) (started : os.Started) (H : Type) (enc : TypeId × Value → H) :
    ReturnsInHanded {} Try.checked os 13 .any (Rows.cutOwnSpec.pre6 enc Try.prog Try.f13 Rows.cutOwnRow.domain false) (Rows.cutOwnSpec.post enc Try.prog Try.f13 false true false false) := by
  refine returnsInHanded_of_change (C := Try.checked) own started (by kernel_rfl) Try.func13
    (ChangeSpec.witness6 (enc := enc) (C := Try.checked) false ⟨#[], #[.slice none 0 0, .int .i64 0], []⟩ 8 (by kernel_rfl) (by kernel_rfl) (by kernel_rfl) (by kernel_rfl)) ?_
  intro W base args ds gs before hval0 hW hcnd _
  have hval : ∀ (j : Nat) t v, Try.f13.params[j]? = some t → args[j]? = some v → Value.okWide Try.prog W .any base t v := hval0
  have hW' := hW
  obtain ⟨p, q, hA0, hV, rfl, hfz, hnd⟩ := hW
  have hA : DataW.TrodAll enc Try.prog W 0 (fun _ => true) true Try.f13.params.toList args.toList ds p := hA0
  rw [Try.params13] at hA hval
  obtain ⟨v0, vs0, d0, ds0, p0, q0, hargs, rfl, rfl, h0, rr0⟩ := trodAll_cons hA
  obtain ⟨v1, vs1, d1, ds1, p1, q1, rfl, rfl, rfl, h1, rr1⟩ := trodAll_cons rr0
  obtain ⟨rfl, rfl, rfl⟩ := trodAll_nil rr1
  obtain rfl : args = #[v0, v1] := by cases args; simp_all
  obtain ⟨rfl, rfl⟩ := trodVars_none hV
  have k0 := h0
  have lt0 : ∀ x ∈ p0, x.block < W.heap.size := by obtain ⟨m, hm⟩ := k0; exact DataW.trod_lt m _ _ _ hm
  have k1 := h1
  have lt1 : ∀ x ∈ p1, x.block < W.heap.size := by obtain ⟨m, hm⟩ := k1; exact DataW.trod_lt m _ _ _ hm
  obtain ⟨bA, bn, bc, rfl⟩ := okWide_slice Try.underlying28 (hval 0 28 v0 rfl rfl)
  obtain ⟨fu0, hf0⟩ := h0; simp only [Value.cells] at hf0
  obtain ⟨qA, qn, qc, b, qe, f_b, g_b, m_b, _⟩ := sl_of Try.underlying28 Try.underlying5 (by kernel_rfl) hf0; simp only [Value.slice.injEq] at qe; obtain ⟨rfl, rfl, rfl⟩ := qe
  have z_b : Adr W bA bn bc := adr_top Try.underlying28 (hval 0 28 _ rfl rfl)
  obtain ⟨n, rfl, rfl, rfl, f_n⟩ := open_int Try.underlying3 (hval 1 3 v1 rfl rfl) h1
  clear hA0 hval0
  refine (walk_CutOwn bA bn bc b n W f_b g_b m_b z_b f_n).mono fun e W' ⟨he, bel⟩ => ?_
  subst he
  exact ⟨_, rfl, _, _, _, [], _, [], hW', trodAll_mk1 (shut_bool Try.underlying4 _), (trodAll_cons_mk (Below.trod laidOut (by kernel_rfl) (of_decide_eq_true (by kernel_rfl)) k0 bel lt0) (trodAll_cons_mk (Below.trod laidOut (by kernel_rfl) (of_decide_eq_true (by kernel_rfl)) k1 bel lt1) trodAll_mk0)), rfl, bel.frame _, fun h => by cases h⟩

theorem over_CutOwn : Rows.cutOwnRow.holds Try.pinned (OpenSpec.ofChange Rows.cutOwnSpec) :=
  OpenClaim.holds_of_wide 13 Try.f13 rfl rfl rfl rfl rfl rfl rfl ⟨rfl, rfl, rfl, rfl, rfl⟩ rfl rfl rfl rfl rfl (by kernel_rfl) Try.func13 (by kernel_rfl)
    (of_decide_eq_true (by kernel_rfl)) (by unfold Func.isWrapper; first | (rw [if_pos (by decide +kernel)]; kernel_rfl) | (rw [if_neg (by decide +kernel)]; exact ⟨rfl, rfl⟩))
    (fun os started H enc _ => lifted_CutOwn os started H enc)

theorem cutOwn_holds : Rows.CutOwnSaid := over_CutOwn
#print axioms cutOwn_holds
end Go.Proofs.Ytpgikaeddhaiiaa
