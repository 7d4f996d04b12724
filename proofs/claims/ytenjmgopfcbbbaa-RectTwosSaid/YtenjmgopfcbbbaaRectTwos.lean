/- The statement RectTwos, for every input: the law's walk (YtenjmgopfcbbbaaRT), lifted to the row. No condition. -/
import Derived.Test.YtenjmgopfcbbbaaRT
import Derived.Test.YtenjmgopfcbbbaaFr
namespace Go.Proofs.Ytenjmgopfcbbbaa
open Go.ChangeShapes Go.WideShapes Go.ChangeAt Go.RowKit Go.Deep
open Go.ChangeMaps (open_string shut_string)
set_option linter.unusedVariables false
set_option linter.unusedSimpArgs false

theorem walk_RectTwos (a0 : Int) (a1 : Int) (a2 : Int) (a3 : Int) (b0 : Int) (b1 : Int) (b2 : Int) (b3 : Int) (W : World) (f_a0 : (Lit.int .i64 a0).wf = true) (f_a1 : (Lit.int .i64 a1).wf = true) (f_a2 : (Lit.int .i64 a2).wf = true) (f_a3 : (Lit.int .i64 a3).wf = true) (f_b0 : (Lit.int .i64 b0).wf = true) (f_b1 : (Lit.int .i64 b1).wf = true) (f_b2 : (Lit.int .i64 b2).wf = true) (f_b3 : (Lit.int .i64 b3).wf = true) :
    Calls Try.prog 4 #[.agg #[.int .i64 a0, .int .i64 a1, .int .i64 a2, .int .i64 a3], .agg #[.int .i64 b0, .int .i64 b1, .int .i64 b2, .int .i64 b3]] W fun e W' => e = .returned (.bool true) ∧ Below W.heap.size W W' :=
  walk_RectTwos' ⟨a0, a1, a2, a3⟩ ⟨b0, b1, b2, b3⟩ W (crel_cons (rep_fields (crel_cons (.int _ _) (crel_cons (.int _ _) (crel_cons (.int _ _) (crel_cons (.int _ _) crel_nil))))) (crel_cons (rep_fields (crel_cons (.int _ _) (crel_cons (.int _ _) (crel_cons (.int _ _) (crel_cons (.int _ _) crel_nil))))) crel_nil))

set_option maxRecDepth 100000 in
set_option maxHeartbeats 1000000 in
theorem lifted_RectTwos (os : Os) (started : os.Started) (H : Type) (enc : TypeId × Value → H) :
    ReturnsInHanded {} Try.checked os 4 .any (Rows.rectTwosSpec.pre6 enc Try.prog Try.f4 Rows.rectTwosRow.domain false) (Rows.rectTwosSpec.post enc Try.prog Try.f4 false true false false) := by
  refine returnsInHanded_of_change (C := Try.checked) own started (by kernel_rfl) Try.func4
    (ChangeSpec.witness6 (enc := enc) (C := Try.checked) false ⟨#[], #[.agg #[.int .i64 0, .int .i64 0, .int .i64 0, .int .i64 0], .agg #[.int .i64 0, .int .i64 0, .int .i64 0, .int .i64 0]], []⟩ 8 (by kernel_rfl) (by kernel_rfl) (by kernel_rfl) (by kernel_rfl)) ?_
  intro W base args ds gs before hval0 hW hcnd _
  have hval : ∀ (j : Nat) t v, Try.f4.params[j]? = some t → args[j]? = some v → Value.okWide Try.prog W .any base t v := hval0
  have hW' := hW
  obtain ⟨p, q, hA0, hV, rfl, hfz, hnd⟩ := hW
  have hA : DataW.TrodAll enc Try.prog W 0 (fun _ => true) true Try.f4.params.toList args.toList ds p := hA0
  rw [Try.params4] at hA hval
  obtain ⟨v0, vs0, d0, ds0, p0, q0, hargs, rfl, rfl, h0, rr0⟩ := trodAll_cons hA
  obtain ⟨v1, vs1, d1, ds1, p1, q1, rfl, rfl, rfl, h1, rr1⟩ := trodAll_cons rr0
  obtain ⟨rfl, rfl, rfl⟩ := trodAll_nil rr1
  obtain rfl : args = #[v0, v1] := by cases args; simp_all
  obtain ⟨rfl, rfl⟩ := trodVars_none hV
  have k0 := h0
  have lt0 : ∀ x ∈ p0, x.block < W.heap.size := by obtain ⟨m, hm⟩ := k0; exact DataW.trod_lt m _ _ _ hm
  have k1 := h1
  have lt1 : ∀ x ∈ p1, x.block < W.heap.size := by obtain ⟨m, hm⟩ := k1; exact DataW.trod_lt m _ _ _ hm
  obtain ⟨l0, rfl, hl0, hx0⟩ := open_fields Try.underlying31 (by kernel_rfl) (by kernel_rfl) (hval 0 31 v0 rfl rfl) h0
  obtain ⟨x0_0, x0_1, x0_2, x0_3, rfl⟩ := list4 hl0
  obtain ⟨n0_0, y0_0, q0_0, eq0_0, r0_0⟩ := hx0 0 _ rfl
  simp only [List.getElem?_cons_zero, List.getElem?_cons_succ, Option.some.injEq] at eq0_0; subst eq0_0
  obtain ⟨a0, e_a0, _, f_a0⟩ := DataW.trod_int Try.underlying3 r0_0; simp only [List.cons.injEq, and_true] at e_a0; subst e_a0
  obtain ⟨n0_1, y0_1, q0_1, eq0_1, r0_1⟩ := hx0 1 _ rfl
  simp only [List.getElem?_cons_zero, List.getElem?_cons_succ, Option.some.injEq] at eq0_1; subst eq0_1
  obtain ⟨a1, e_a1, _, f_a1⟩ := DataW.trod_int Try.underlying3 r0_1; simp only [List.cons.injEq, and_true] at e_a1; subst e_a1
  obtain ⟨n0_2, y0_2, q0_2, eq0_2, r0_2⟩ := hx0 2 _ rfl
  simp only [List.getElem?_cons_zero, List.getElem?_cons_succ, Option.some.injEq] at eq0_2; subst eq0_2
  obtain ⟨a2, e_a2, _, f_a2⟩ := DataW.trod_int Try.underlying3 r0_2; simp only [List.cons.injEq, and_true] at e_a2; subst e_a2
  obtain ⟨n0_3, y0_3, q0_3, eq0_3, r0_3⟩ := hx0 3 _ rfl
  simp only [List.getElem?_cons_zero, List.getElem?_cons_succ, Option.some.injEq] at eq0_3; subst eq0_3
  obtain ⟨a3, e_a3, _, f_a3⟩ := DataW.trod_int Try.underlying3 r0_3; simp only [List.cons.injEq, and_true] at e_a3; subst e_a3
  obtain ⟨l1, rfl, hl1, hx1⟩ := open_fields Try.underlying31 (by kernel_rfl) (by kernel_rfl) (hval 1 31 v1 rfl rfl) h1
  obtain ⟨x1_0, x1_1, x1_2, x1_3, rfl⟩ := list4 hl1
  obtain ⟨n1_0, y1_0, q1_0, eq1_0, r1_0⟩ := hx1 0 _ rfl
  simp only [List.getElem?_cons_zero, List.getElem?_cons_succ, Option.some.injEq] at eq1_0; subst eq1_0
  obtain ⟨b0, e_b0, _, f_b0⟩ := DataW.trod_int Try.underlying3 r1_0; simp only [List.cons.injEq, and_true] at e_b0; subst e_b0
  obtain ⟨n1_1, y1_1, q1_1, eq1_1, r1_1⟩ := hx1 1 _ rfl
  simp only [List.getElem?_cons_zero, List.getElem?_cons_succ, Option.some.injEq] at eq1_1; subst eq1_1
  obtain ⟨b1, e_b1, _, f_b1⟩ := DataW.trod_int Try.underlying3 r1_1; simp only [List.cons.injEq, and_true] at e_b1; subst e_b1
  obtain ⟨n1_2, y1_2, q1_2, eq1_2, r1_2⟩ := hx1 2 _ rfl
  simp only [List.getElem?_cons_zero, List.getElem?_cons_succ, Option.some.injEq] at eq1_2; subst eq1_2
  obtain ⟨b2, e_b2, _, f_b2⟩ := DataW.trod_int Try.underlying3 r1_2; simp only [List.cons.injEq, and_true] at e_b2; subst e_b2
  obtain ⟨n1_3, y1_3, q1_3, eq1_3, r1_3⟩ := hx1 3 _ rfl
  simp only [List.getElem?_cons_zero, List.getElem?_cons_succ, Option.some.injEq] at eq1_3; subst eq1_3
  obtain ⟨b3, e_b3, _, f_b3⟩ := DataW.trod_int Try.underlying3 r1_3; simp only [List.cons.injEq, and_true] at e_b3; subst e_b3
  clear hA0 hval0
  refine (walk_RectTwos a0 a1 a2 a3 b0 b1 b2 b3 W f_a0 f_a1 f_a2 f_a3 f_b0 f_b1 f_b2 f_b3).mono fun e W' ⟨he, bel⟩ => ?_
  subst he
  exact ⟨_, rfl, _, _, _, [], _, [], hW', trodAll_mk1 (shut_bool Try.underlying4 _), (trodAll_cons_mk (Below.trod laidOut (by kernel_rfl) (of_decide_eq_true (by kernel_rfl)) k0 bel lt0) (trodAll_cons_mk (Below.trod laidOut (by kernel_rfl) (of_decide_eq_true (by kernel_rfl)) k1 bel lt1) trodAll_mk0)), rfl, bel.frame _, fun h => by cases h⟩

theorem over_RectTwos : Rows.rectTwosRow.holds Try.pinned (OpenSpec.ofChange Rows.rectTwosSpec) :=
  OpenClaim.holds_of_wide 4 Try.f4 rfl rfl rfl rfl rfl rfl rfl ⟨rfl, rfl, rfl, rfl, rfl⟩ rfl rfl rfl rfl rfl (by kernel_rfl) Try.func4 (by kernel_rfl)
    (of_decide_eq_true (by kernel_rfl)) (by unfold Func.isWrapper; first | (rw [if_pos (by decide +kernel)]; kernel_rfl) | (rw [if_neg (by decide +kernel)]; exact ⟨rfl, rfl⟩))
    (fun os started H enc _ => lifted_RectTwos os started H enc)

theorem rectTwos_holds : Rows.RectTwosSaid := over_RectTwos
#print axioms rectTwos_holds
end Go.Proofs.Ytenjmgopfcbbbaa
