/- The statement PermIs, for every input: the law's walk (YtpgikaeddhaiiaaK10p), lifted to the row. No condition. -/
import Derived.Test.YtpgikaeddhaiiaaK10p
import Derived.Test.YtpgikaeddhaiiaaFr
namespace Go.Proofs.Ytpgikaeddhaiiaa
open Go.ChangeShapes Go.WideShapes Go.ChangeAt Go.RowKit Go.Deep
open Go.ChangeMaps (open_string shut_string)
set_option linter.unusedVariables false
set_option linter.unusedSimpArgs false

theorem walk_PermIs (aA : Option Addr) (an ac : Nat) (a : List Int) (bA : Option Addr) (bn bc : Nat) (b : List Int) (n : Int) (W : World) (f_a : Sl W .i64 W.heap.size aA an a) (g_a : an ≤ ac) (m_a : ac ≤ maxLen) (z_a : Adr W aA an ac) (f_b : Sl W .i64 W.heap.size bA bn b) (g_b : bn ≤ bc) (m_b : bc ≤ maxLen) (z_b : Adr W bA bn bc) (f_n : (Lit.int .i64 n).wf = true) :
    Calls Try.prog 6 #[.slice aA an ac, .slice bA bn bc, .int .i64 n] W fun e W' => e = .returned (.bool true) ∧ Below W.heap.size W W' :=
  walk_PermIs' a b n W (crel_cons (rep_sl f_a g_a m_a z_a) (crel_cons (rep_sl f_b g_b m_b z_b) (crel_cons (.int _ _) crel_nil)))

set_option maxRecDepth 100000 in
set_option maxHeartbeats 1000000 in
theorem lifted_PermIs (os : Os) (started : os.Started) (H : Type) (enc : TypeId × Value → H) :
    ReturnsInHanded {} Try.checked os 6 .any (Rows.permIsSpec.pre6 enc Try.prog Try.f6 Rows.permIsRow.domain false) (Rows.permIsSpec.post enc Try.prog Try.f6 false true false false) := by
  refine returnsInHanded_of_change (C := Try.checked) own started (by kernel_rfl) Try.func6
    (ChangeSpec.witness6 (enc := enc) (C := Try.checked) false ⟨#[], #[.slice none 0 0, .slice none 0 0, .int .i64 0], []⟩ 8 (by kernel_rfl) (by kernel_rfl) (by kernel_rfl) (by kernel_rfl)) ?_
  intro W base args ds gs before hval0 hW hcnd _
  have hval : ∀ (j : Nat) t v, Try.f6.params[j]? = some t → args[j]? = some v → Value.okWide Try.prog W .any base t v := hval0
  have hW' := hW
  obtain ⟨p, q, hA0, hV, rfl, hfz, hnd⟩ := hW
  have hA : DataW.TrodAll enc Try.prog W 0 (fun _ => true) true Try.f6.params.toList args.toList ds p := hA0
  rw [Try.params6] at hA hval
  obtain ⟨v0, vs0, d0, ds0, p0, q0, hargs, rfl, rfl, h0, rr0⟩ := trodAll_cons hA
  obtain ⟨v1, vs1, d1, ds1, p1, q1, rfl, rfl, rfl, h1, rr1⟩ := trodAll_cons rr0
  obtain ⟨v2, vs2, d2, ds2, p2, q2, rfl, rfl, rfl, h2, rr2⟩ := trodAll_cons rr1
  obtain ⟨rfl, rfl, rfl⟩ := trodAll_nil rr2
  obtain rfl : args = #[v0, v1, v2] := by cases args; simp_all
  obtain ⟨rfl, rfl⟩ := trodVars_none hV
  have k0 := h0
  have lt0 : ∀ x ∈ p0, x.block < W.heap.size := by obtain ⟨m, hm⟩ := k0; exact DataW.trod_lt m _ _ _ hm
  have k1 := h1
  have lt1 : ∀ x ∈ p1, x.block < W.heap.size := by obtain ⟨m, hm⟩ := k1; exact DataW.trod_lt m _ _ _ hm
  have k2 := h2
  have lt2 : ∀ x ∈ p2, x.block < W.heap.size := by obtain ⟨m, hm⟩ := k2; exact DataW.trod_lt m _ _ _ hm
  obtain ⟨aA, an, ac, rfl⟩ := okWide_slice Try.underlying39 (hval 0 39 v0 rfl rfl)
  obtain ⟨fu0, hf0⟩ := h0; simp only [Value.cells] at hf0
  obtain ⟨qA, qn, qc, a, qe, f_a, g_a, m_a, _⟩ := sl_of Try.underlying39 Try.underlying3 (by kernel_rfl) hf0; simp only [Value.slice.injEq] at qe; obtain ⟨rfl, rfl, rfl⟩ := qe
  have z_a : Adr W aA an ac := adr_top Try.underlying39 (hval 0 39 _ rfl rfl)
  obtain ⟨bA, bn, bc, rfl⟩ := okWide_slice Try.underlying39 (hval 1 39 v1 rfl rfl)
  obtain ⟨fu1, hf1⟩ := h1; simp only [Value.cells] at hf1
  obtain ⟨qA, qn, qc, b, qe, f_b, g_b, m_b, _⟩ := sl_of Try.underlying39 Try.underlying3 (by kernel_rfl) hf1; simp only [Value.slice.injEq] at qe; obtain ⟨rfl, rfl, rfl⟩ := qe
  have z_b : Adr W bA bn bc := adr_top Try.underlying39 (hval 1 39 _ rfl rfl)
  obtain ⟨n, rfl, rfl, rfl, f_n⟩ := open_int Try.underlying3 (hval 2 3 v2 rfl rfl) h2
  clear hA0 hval0
  refine (walk_PermIs aA an ac a bA bn bc b n W f_a g_a m_a z_a f_b g_b m_b z_b f_n).mono fun e W' ⟨he, bel⟩ => ?_
  subst he
  exact ⟨_, rfl, _, _, _, [], _, [], hW', trodAll_mk1 (shut_bool Try.underlying4 _), (trodAll_cons_mk (Below.trod laidOut (by kernel_rfl) (of_decide_eq_true (by kernel_rfl)) k0 bel lt0) (trodAll_cons_mk (Below.trod laidOut (by kernel_rfl) (of_decide_eq_true (by kernel_rfl)) k1 bel lt1) (trodAll_cons_mk (Below.trod laidOut (by kernel_rfl) (of_decide_eq_true (by kernel_rfl)) k2 bel lt2) trodAll_mk0))), rfl, bel.frame _, fun h => by cases h⟩

theorem over_PermIs : Rows.permIsRow.holds Try.pinned (OpenSpec.ofChange Rows.permIsSpec) :=
  OpenClaim.holds_of_wide 6 Try.f6 rfl rfl rfl rfl rfl rfl rfl ⟨rfl, rfl, rfl, rfl, rfl⟩ rfl rfl rfl rfl rfl (by kernel_rfl) Try.func6 (by kernel_rfl)
    (of_decide_eq_true (by kernel_rfl)) (by unfold Func.isWrapper; first | (rw [if_pos (by decide +kernel)]; kernel_rfl) | (rw [if_neg (by decide +kernel)]; exact ⟨rfl, rfl⟩))
    (fun os started H enc _ => lifted_PermIs os started H enc)

theorem permIs_holds : Rows.PermIsSaid := over_PermIs
#print axioms permIs_holds
end Go.Proofs.Ytpgikaeddhaiiaa
