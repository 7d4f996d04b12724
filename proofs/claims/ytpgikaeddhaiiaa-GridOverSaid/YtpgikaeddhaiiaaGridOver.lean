/- The statement GridOver, for every input: the law's walk (YtpgikaeddhaiiaaGO6), lifted to the row. No condition. -/
import Derived.Test.YtpgikaeddhaiiaaGO6
import Derived.Test.YtpgikaeddhaiiaaFr
namespace Go.Proofs.Ytpgikaeddhaiiaa
open Go.ChangeShapes Go.WideShapes Go.ChangeAt Go.RowKit Go.Deep
open Go.ChangeMaps (open_string shut_string)
set_option linter.unusedVariables false
set_option linter.unusedSimpArgs false

theorem walk_GridOver (g0 : Int) (g1 : Int) (g2 : Int) (g3 : Int) (rv0 : Int) (rv1 : Int) (rv2 : Int) (rv3 : Int) (i : Int) (W : World) (f_g0 : (Lit.int .i64 g0).wf = true) (f_g1 : (Lit.int .i64 g1).wf = true) (f_g2 : (Lit.int .i64 g2).wf = true) (f_g3 : (Lit.int .i64 g3).wf = true) (f_rv0 : (Lit.int .i64 rv0).wf = true) (f_rv1 : (Lit.int .i64 rv1).wf = true) (f_rv2 : (Lit.int .i64 rv2).wf = true) (f_rv3 : (Lit.int .i64 rv3).wf = true) (f_i : (Lit.int .i64 i).wf = true) :
    Calls Try.prog 12 #[.agg #[.int .i64 g0, .int .i64 g1, .int .i64 g2, .int .i64 g3], .agg #[.int .i64 rv0, .int .i64 rv1, .int .i64 rv2, .int .i64 rv3], .int .i64 i] W fun e W' => e = .returned (.bool true) ∧ Below W.heap.size W W' :=
  walk_GridOver' ⟨g0, g1, g2, g3⟩ ⟨rv0, rv1, rv2, rv3⟩ i W (crel_cons (rep_fields (crel_cons (.int _ _) (crel_cons (.int _ _) (crel_cons (.int _ _) (crel_cons (.int _ _) crel_nil))))) (crel_cons (rep_fields (crel_cons (.int _ _) (crel_cons (.int _ _) (crel_cons (.int _ _) (crel_cons (.int _ _) crel_nil))))) (crel_cons (.int _ _) crel_nil)))

set_option maxRecDepth 100000 in
set_option maxHeartbeats 1000000 in
theorem lifted_GridOver (os : Os) (started : os.Started) (H : Type) (enc : TypeId × Value → H) :
    ReturnsInHanded {} Try.checked os 12 .any (Rows.gridOverSpec.pre6 enc Try.prog Try.f12 Rows.gridOverRow.domain false) (Rows.gridOverSpec.post enc Try.prog Try.f12 false true false false) := by
  refine returnsInHanded_of_change (C := Try.checked) own started (by kernel_rfl) Try.func12
    (ChangeSpec.witness6 (enc := enc) (C := Try.checked) false ⟨#[], #[.agg #[.int .i64 0, .int .i64 0, .int .i64 0, .int .i64 0], .agg #[.int .i64 0, .int .i64 0, .int .i64 0, .int .i64 0], .int .i64 0], []⟩ 8 (by kernel_rfl) (by kernel_rfl) (by kernel_rfl) (by kernel_rfl)) ?_
  intro W base args ds gs before hval0 hW hcnd _
  have hval : ∀ (j : Nat) t v, Try.f12.params[j]? = some t → args[j]? = some v → Value.okWide Try.prog W .any base t v := hval0
  have hW' := hW
  obtain ⟨p, q, hA0, hV, rfl, hfz, hnd⟩ := hW
  have hA : DataW.TrodAll enc Try.prog W 0 (fun _ => true) true Try.f12.params.toList args.toList ds p := hA0
  rw [Try.params12] at hA hval
  obtain ⟨v0, vs0, d0, ds0, p0, q0, hargs, rfl, rfl, h0, rr0⟩ := trodAll_cons hA
  obtain ⟨v1, vs1, d1, ds1, p1, q1, rfl, rfl, rfl, h1, rr1⟩ := trodAll_cons rr0
  obtain ⟨v2, vs2, d2, ds2, p2, q2, rfl, rfl, rfl, h2, rr2⟩ := trodAll_cons rr1
  obtain ⟨rfl, rfl, rfl⟩ := trodAll_nil rr2
  obtain rfl : args = #[v0, v1, v2] := by cases args; simp_all
  obtain ⟨rfl, rfl⟩ := trodVars_none hV
  have k0 := h0
  have lt0 : ∀ x ∈ p0, x.block < W.heap.size := by obtain ⟨m, hm⟩ := k0; exact DataW.trod_lt m _ _ _ hm
  have k1 := h1
  have lt1 : ∀ x ∈ p1, x.block < W.heap.size := by obtain ⟨m, hm⟩ := k1; exact DataW.trod_lt m _ _ _ hm
  have k2 := h2
  have lt2 : ∀ x ∈ p2, x.block < W.heap.size := by obtain ⟨m, hm⟩ := k2; exact DataW.trod_lt m _ _ _ hm
  obtain ⟨l0, rfl, hl0, hx0⟩ := open_fields Try.underlying75 (by kernel_rfl) (by kernel_rfl) (hval 0 75 v0 rfl rfl) h0
  obtain ⟨x0_0, x0_1, x0_2, x0_3, rfl⟩ := list4 hl0
  obtain ⟨n0_0, y0_0, q0_0, eq0_0, r0_0⟩ := hx0 0 _ rfl
  simp only [List.getElem?_cons_zero, List.getElem?_cons_succ, Option.some.injEq] at eq0_0; subst eq0_0
  obtain ⟨g0, e_g0, _, f_g0⟩ := DataW.trod_int Try.underlying3 r0_0; simp only [List.cons.injEq, and_true] at e_g0; subst e_g0
  obtain ⟨n0_1, y0_1, q0_1, eq0_1, r0_1⟩ := hx0 1 _ rfl
  simp only [List.getElem?_cons_zero, List.getElem?_cons_succ, Option.some.injEq] at eq0_1; subst eq0_1
  obtain ⟨g1, e_g1, _, f_g1⟩ := DataW.trod_int Try.underlying3 r0_1; simp only [List.cons.injEq, and_true] at e_g1; subst e_g1
  obtain ⟨n0_2, y0_2, q0_2, eq0_2, r0_2⟩ := hx0 2 _ rfl
  simp only [List.getElem?_cons_zero, List.getElem?_cons_succ, Option.some.injEq] at eq0_2; subst eq0_2
  obtain ⟨g2, e_g2, _, f_g2⟩ := DataW.trod_int Try.underlying3 r0_2; simp only [List.cons.injEq, and_true] at e_g2; subst e_g2
  obtain ⟨n0_3, y0_3, q0_3, eq0_3, r0_3⟩ := hx0 3 _ rfl
  simp only [List.getElem?_cons_zero, List.getElem?_cons_succ, Option.some.injEq] at eq0_3; subst eq0_3
  obtain ⟨g3, e_g3, _, f_g3⟩ := DataW.trod_int Try.underlying3 r0_3; simp only [List.cons.injEq, and_true] at e_g3; subst e_g3
  obtain ⟨l1, rfl, hl1, hx1⟩ := open_fields Try.underlying77 (by kernel_rfl) (by kernel_rfl) (hval 1 77 v1 rfl rfl) h1
  obtain ⟨x1_0, x1_1, x1_2, x1_3, rfl⟩ := list4 hl1
  obtain ⟨n1_0, y1_0, q1_0, eq1_0, r1_0⟩ := hx1 0 _ rfl
  simp only [List.getElem?_cons_zero, List.getElem?_cons_succ, Option.some.injEq] at eq1_0; subst eq1_0
  obtain ⟨rv0, e_rv0, _, f_rv0⟩ := DataW.trod_int Try.underlying3 r1_0; simp only [List.cons.injEq, and_true] at e_rv0; subst e_rv0
  obtain ⟨n1_1, y1_1, q1_1, eq1_1, r1_1⟩ := hx1 1 _ rfl
  simp only [List.getElem?_cons_zero, List.getElem?_cons_succ, Option.some.injEq] at eq1_1; subst eq1_1
  obtain ⟨rv1, e_rv1, _, f_rv1⟩ := DataW.trod_int Try.underlying3 r1_1; simp only [List.cons.injEq, and_true] at e_rv1; subst e_rv1
  obtain ⟨n1_2, y1_2, q1_2, eq1_2, r1_2⟩ := hx1 2 _ rfl
  simp only [List.getElem?_cons_zero, List.getElem?_cons_succ, Option.some.injEq] at eq1_2; subst eq1_2
  obtain ⟨rv2, e_rv2, _, f_rv2⟩ := DataW.trod_int Try.underlying3 r1_2; simp only [List.cons.injEq, and_true] at e_rv2; subst e_rv2
  obtain ⟨n1_3, y1_3, q1_3, eq1_3, r1_3⟩ := hx1 3 _ rfl
  simp only [List.getElem?_cons_zero, List.getElem?_cons_succ, Option.some.injEq] at eq1_3; subst eq1_3
  obtain ⟨rv3, e_rv3, _, f_rv3⟩ := DataW.trod_int Try.underlying3 r1_3; simp only [List.cons.injEq, and_true] at e_rv3; subst e_rv3
  obtain ⟨i, rfl, rfl, rfl, f_i⟩ := open_int Try.underlying3 (hval 2 3 v2 rfl rfl) h2
  clear hA0 hval0
  refine (walk_GridOver g0 g1 g2 g3 rv0 rv1 rv2 rv3 i W f_g0 f_g1 f_g2 f_g3 f_rv0 f_rv1 f_rv2 f_rv3 f_i).mono fun e W' ⟨he, bel⟩ => ?_
  subst he
  exact ⟨_, rfl, _, _, _, [], _, [], hW', trodAll_mk1 (shut_bool Try.underlying4 _), (trodAll_cons_mk (Below.trod laidOut (by kernel_rfl) (of_decide_eq_true (by kernel_rfl)) k0 bel lt0) (trodAll_cons_mk (Below.trod laidOut (by kernel_rfl) (of_decide_eq_true (by kernel_rfl)) k1 bel lt1) (trodAll_cons_mk (Below.trod laidOut (by kernel_rfl) (of_decide_eq_true (by kernel_rfl)) k2 bel lt2) trodAll_mk0))), rfl, bel.frame _, fun h => by cases h⟩

theorem over_GridOver : Rows.gridOverRow.holds Try.pinned (OpenSpec.ofChange Rows.gridOverSpec) :=
  OpenClaim.holds_of_wide 12 Try.f12 rfl rfl rfl rfl rfl rfl rfl ⟨rfl, rfl, rfl, rfl, rfl⟩ rfl rfl rfl rfl rfl (by kernel_rfl) Try.func12 (by kernel_rfl)
    (of_decide_eq_true (by kernel_rfl)) (by unfold Func.isWrapper; first | (rw [if_pos (by decide +kernel)]; kernel_rfl) | (rw [if_neg (by decide +kernel)]; exact ⟨rfl, rfl⟩))
    (fun os started H enc _ => lifted_GridOver os started H enc)

theorem gridOver_holds : Rows.GridOverSaid := over_GridOver
#print axioms gridOver_holds
end Go.Proofs.Ytpgikaeddhaiiaa
