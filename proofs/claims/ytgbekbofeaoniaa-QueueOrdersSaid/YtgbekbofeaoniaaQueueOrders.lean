/- The statement QueueOrders, for every input: the law's walk (YtgbekbofeaoniaaS3), lifted to the row. No condition. -/
import Derived.Test.YtgbekbofeaoniaaS3
import Derived.Test.YtgbekbofeaoniaaFi
import Derived.Test.YtgbekbofeaoniaaFTl
namespace Go.Proofs.Ytgbekbofeaoniaa
open Go.ChangeShapes Go.WideShapes Go.ChangeAt Go.RowKit Go.Deep
open Go.ChangeMaps (open_string shut_string)
set_option linter.unusedVariables false
set_option linter.unusedSimpArgs false

theorem walk_QueueOrders (lvA : Option Addr) (lvn lvc : Nat) (lv : List Im) (askA : Option Addr) (askn askc : Nat) (ask : List Tl) (pv0 : Int) (pv1 : Int) (W : World) (r_lv : Rep noN W NoO (imsA lv) (.slice lvA lvn lvc)) (r_ask : Rep noN W NoO (TlA ask) (.slice askA askn askc)) (o_ask : ∀ m ∈ ask, m.ok) (f_pv0 : (Lit.int .i64 pv0).wf = true) (f_pv1 : (Lit.int .i64 pv1).wf = true) :
    Calls Try.prog 8 #[.slice lvA lvn lvc, .slice askA askn askc, .agg #[.int .i64 pv0, .int .i64 pv1]] W fun e W' => e = .returned (.bool true) ∧ Below W.heap.size W W' :=
  walk_QueueOrders' lv ask pv0 pv1 W (crel_cons r_lv (crel_cons r_ask (crel_cons (rep_fields (crel_cons (.int _ _) (crel_cons (.int _ _) crel_nil))) crel_nil)))

set_option maxRecDepth 100000 in
set_option maxHeartbeats 1000000 in
theorem lifted_QueueOrders (os : Os) (started : os.Started) (H : Type) (enc : TypeId × Value → H) :
    ReturnsInHanded {} Try.checked os 8 .any (Rows.queueOrdersSpec.pre6 enc Try.prog Try.f8 Rows.queueOrdersRow.domain false) (Rows.queueOrdersSpec.post enc Try.prog Try.f8 false true false false) := by
  refine returnsInHanded_of_change (C := Try.checked) own started (by kernel_rfl) Try.func8
    (ChangeSpec.witness6 (enc := enc) (C := Try.checked) false ⟨#[], #[.slice none 0 0, .slice none 0 0, .agg #[.int .i64 0, .int .i64 0]], []⟩ 8 (by kernel_rfl) (by kernel_rfl) (by kernel_rfl) (by kernel_rfl)) ?_
  intro W base args ds gs before hval0 hW hcnd _
  have hval : ∀ (j : Nat) t v, Try.f8.params[j]? = some t → args[j]? = some v → Value.okWide Try.prog W .any base t v := hval0
  have hW' := hW
  obtain ⟨p, q, hA0, hV, rfl, hfz, hnd⟩ := hW
  have hA : DataW.TrodAll enc Try.prog W 0 (fun _ => true) true Try.f8.params.toList args.toList ds p := hA0
  rw [Try.params8] at hA hval
  obtain ⟨v0, vs0, d0, ds0, p0, q0, hargs, rfl, rfl, h0, rr0⟩ := trodAll_cons hA
  obtain ⟨v1, vs1, d1, ds1, p1, q1, rfl, rfl, rfl, h1, rr1⟩ := trodAll_cons rr0
  obtain ⟨v2, vs2, d2, ds2, p2, q2, rfl, rfl, rfl, h2, rr2⟩ := trodAll_cons rr1
  obtain ⟨rfl, rfl, rfl⟩ := trodAll_nil rr2
  obtain rfl : args = #[v0, v1, v2] := by cases args; simp_all
  obtain ⟨rfl, rfl⟩ := trodVars_none hV
  have k0 := h0
  have lt0 : ∀ x ∈ p0, x.block < W.heap.size := by obtain ⟨m, hm⟩ := k0; exact DataW.trod_lt m _ _ _ hm
  have k1 := h1
  have lt1 : ∀ x ∈ p1, x.block < W.heap.size := by obtain ⟨m, hm⟩ := k1; exact DataW.trod_lt m _ _ _ hm
  have k2 := h2
  have lt2 : ∀ x ∈ p2, x.block < W.heap.size := by obtain ⟨m, hm⟩ := k2; exact DataW.trod_lt m _ _ _ hm
  obtain ⟨lvA, lvn, lvc, rfl⟩ := okWide_slice Try.underlying44 (hval 0 44 v0 rfl rfl)
  obtain ⟨fu0, hf0⟩ := h0; simp only [Value.cells] at hf0
  obtain ⟨qA, qn, qc, lv, qe, f_lv, g_lv⟩ := open_images Try.underlying44 hf0; simp only [Value.slice.injEq] at qe; obtain ⟨rfl, rfl, rfl⟩ := qe
  have r_lv := g_lv (adr_top Try.underlying44 (hval 0 44 _ rfl rfl))
  obtain ⟨askA, askn, askc, rfl⟩ := okWide_slice Try.underlying58 (hval 1 58 v1 rfl rfl)
  obtain ⟨fu1, hf1⟩ := h1; simp only [Value.cells] at hf1
  obtain ⟨qA, qn, qc, ask, qe, f_ask, o_ask, g_ask⟩ := open_Tl Try.underlying58 hf1; simp only [Value.slice.injEq] at qe; obtain ⟨rfl, rfl, rfl⟩ := qe
  have r_ask := g_ask (adr_top Try.underlying58 (hval 1 58 _ rfl rfl))
  obtain ⟨l2, rfl, hl2, hx2⟩ := open_parts Try.underlying52 (by kernel_rfl) (by kernel_rfl) (hval 2 52 v2 rfl rfl) h2
  obtain ⟨x2_0, x2_1, rfl⟩ := list2 hl2
  obtain ⟨n2_0, y2_0, q2_0, eq2_0, r2_0⟩ := hx2 0 (by decide)
  simp only [List.getElem?_cons_zero, List.getElem?_cons_succ, Option.some.injEq] at eq2_0; subst eq2_0
  obtain ⟨pv0, e_pv0, _, f_pv0⟩ := DataW.trod_int Try.underlying3 r2_0; simp only [List.cons.injEq, and_true] at e_pv0; subst e_pv0
  obtain ⟨n2_1, y2_1, q2_1, eq2_1, r2_1⟩ := hx2 1 (by decide)
  simp only [List.getElem?_cons_zero, List.getElem?_cons_succ, Option.some.injEq] at eq2_1; subst eq2_1
  obtain ⟨pv1, e_pv1, _, f_pv1⟩ := DataW.trod_int Try.underlying3 r2_1; simp only [List.cons.injEq, and_true] at e_pv1; subst e_pv1
  clear hA0 hval0
  refine (walk_QueueOrders lvA lvn lvc lv askA askn askc ask pv0 pv1 W r_lv r_ask o_ask f_pv0 f_pv1).mono fun e W' ⟨he, bel⟩ => ?_
  subst he
  exact ⟨_, rfl, _, _, _, [], _, [], hW', trodAll_mk1 (shut_bool Try.underlying4 _), (trodAll_cons_mk (Below.trod laidOut (by kernel_rfl) (of_decide_eq_true (by kernel_rfl)) k0 bel lt0) (trodAll_cons_mk (Below.trod laidOut (by kernel_rfl) (of_decide_eq_true (by kernel_rfl)) k1 bel lt1) (trodAll_cons_mk (Below.trod laidOut (by kernel_rfl) (of_decide_eq_true (by kernel_rfl)) k2 bel lt2) trodAll_mk0))), rfl, bel.frame _, fun h => by cases h⟩

theorem over_QueueOrders : Rows.queueOrdersRow.holds Try.pinned (OpenSpec.ofChange Rows.queueOrdersSpec) :=
  OpenClaim.holds_of_wide 8 Try.f8 rfl rfl rfl rfl rfl rfl rfl ⟨rfl, rfl, rfl, rfl, rfl⟩ rfl rfl rfl rfl rfl (by kernel_rfl) Try.func8 (by kernel_rfl)
    (of_decide_eq_true (by kernel_rfl)) (by unfold Func.isWrapper; first | (rw [if_pos (by decide +kernel)]; kernel_rfl) | (rw [if_neg (by decide +kernel)]; exact ⟨rfl, rfl⟩))
    (fun os started H enc _ => lifted_QueueOrders os started H enc)

theorem queueOrders_holds : Rows.QueueOrdersSaid := over_QueueOrders
#print axioms queueOrders_holds
end Go.Proofs.Ytgbekbofeaoniaa
