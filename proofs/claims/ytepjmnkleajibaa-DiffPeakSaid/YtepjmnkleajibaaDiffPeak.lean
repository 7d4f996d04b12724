/- The statement DiffPeak, for every input: the law's walk (YtepjmnkleajibaaS2), lifted to the row. No condition. -/
import Derived.Test.YtepjmnkleajibaaS2
import Derived.Test.YtepjmnkleajibaaFr
namespace Go.Proofs.Ytepjmnkleajibaa
open Go.ChangeShapes Go.WideShapes Go.ChangeAt Go.RowKit Go.Deep
open Go.ChangeMaps (open_string shut_string)
set_option linter.unusedVariables false
set_option linter.unusedSimpArgs false

theorem walk_DiffPeak (dv0 : Int) (dv1 : Int) (dv2 : Int) (dv3 : Int) (dv4 : Int) (dv5 : Int) (dv6 : Int) (n : Int) (W : World) (f_dv0 : (Lit.int .i64 dv0).wf = true) (f_dv1 : (Lit.int .i64 dv1).wf = true) (f_dv2 : (Lit.int .u64 dv2).wf = true) (f_dv3 : (Lit.int .u64 dv3).wf = true) (f_dv4 : (Lit.int .i64 dv4).wf = true) (f_dv5 : (Lit.int .i64 dv5).wf = true) (f_dv6 : (Lit.int .i64 dv6).wf = true) (f_n : (Lit.int .i64 n).wf = true) :
    Calls Try.prog 13 #[.agg #[.int .i64 dv0, .int .i64 dv1, .int .u64 dv2, .int .u64 dv3, .int .i64 dv4, .int .i64 dv5, .int .i64 dv6], .int .i64 n] W fun e W' => e = .returned (.bool true) ∧ Below W.heap.size W W' :=
  walk_DiffPeak' dv0 dv1 dv2 dv3 dv4 dv5 dv6 n f_dv3 W (crel_cons (rep_fields (crel_cons (.int _ _) (crel_cons (.int _ _) (crel_cons (.int _ _) (crel_cons (.int _ _) (crel_cons (.int _ _) (crel_cons (.int _ _) (crel_cons (.int _ _) crel_nil)))))))) (crel_cons (.int _ _) crel_nil))

set_option maxRecDepth 100000 in
set_option maxHeartbeats 1000000 in
theorem lifted_DiffPeak (os : Os) (started : os.Started) (H : Type) (enc : TypeId × Value → H) :
    ReturnsInHanded {} Try.checked os 13 .any (Rows.diffPeakSpec.pre6 enc Try.prog Try.f13 Rows.diffPeakRow.domain false) (Rows.diffPeakSpec.post enc Try.prog Try.f13 false true false false) := by
  refine returnsInHanded_of_change (C := Try.checked) own started (by kernel_rfl) Try.func13
    (ChangeSpec.witness6 (enc := enc) (C := Try.checked) false ⟨#[], #[.agg #[.int .i64 0, .int .i64 0, .int .u64 0, .int .u64 0, .int .i64 0, .int .i64 0, .int .i64 0], .int .i64 0], []⟩ 8 (by kernel_rfl) (by kernel_rfl) (by kernel_rfl) (by kernel_rfl)) ?_
  intro W base args ds gs before hval0 hW hcnd _
  have hval : ∀ (j : Nat) t v, Try.f13.params[j]? = some t → args[j]? = some v → Value.okWide Try.prog W .any base t v := hval0
  have hW' := hW
  obtain ⟨p, q, hA0, hV, rfl, hfz, hnd⟩ := hW
  have hA : DataW.TrodAll enc Try.prog W 0 (fun _ => true) true Try.f13.params.toList args.toList ds p := hA0
  rw [Try.params13] at hA hval
  obtain ⟨v0, vs0, d0, ds0, p0, q0, hargs, rfl, rfl, h0, rr0⟩ := trodAll_cons hA
  obtain ⟨v1, vs1, d1, ds1, p1, q1, rfl, rfl, rfl, h1, rr1⟩ := trodAll_cons rr0
  obtain ⟨rfl, rfl, rfl⟩ := trodAll_nil rr1
  obtain rfl : args = #[v0, v1] := by cases args; simp_all
  obtain ⟨rfl, rfl⟩ := trodVars_none hV
  have k0 := h0
  have lt0 : ∀ x ∈ p0, x.block < W.heap.size := by obtain ⟨m, hm⟩ := k0; exact DataW.trod_lt m _ _ _ hm
  have k1 := h1
  have lt1 : ∀ x ∈ p1, x.block < W.heap.size := by obtain ⟨m, hm⟩ := k1; exact DataW.trod_lt m _ _ _ hm
  obtain ⟨l0, rfl, hl0, hx0⟩ := open_fields Try.underlying109 (by kernel_rfl) (by kernel_rfl) (hval 0 109 v0 rfl rfl) h0
  obtain ⟨x0_0, x0_1, x0_2, x0_3, x0_4, x0_5, x0_6, rfl⟩ := list7 hl0
  obtain ⟨n0_0, y0_0, q0_0, eq0_0, r0_0⟩ := hx0 0 _ rfl
  simp only [List.getElem?_cons_zero, List.getElem?_cons_succ, Option.some.injEq] at eq0_0; subst eq0_0
  obtain ⟨dv0, e_dv0, _, f_dv0⟩ := DataW.trod_int Try.underlying3 r0_0; simp only [List.cons.injEq, and_true] at e_dv0; subst e_dv0
  obtain ⟨n0_1, y0_1, q0_1, eq0_1, r0_1⟩ := hx0 1 _ rfl
  simp only [List.getElem?_cons_zero, List.getElem?_cons_succ, Option.some.injEq] at eq0_1; subst eq0_1
  obtain ⟨dv1, e_dv1, _, f_dv1⟩ := DataW.trod_int Try.underlying3 r0_1; simp only [List.cons.injEq, and_true] at e_dv1; subst e_dv1
  obtain ⟨n0_2, y0_2, q0_2, eq0_2, r0_2⟩ := hx0 2 _ rfl
  simp only [List.getElem?_cons_zero, List.getElem?_cons_succ, Option.some.injEq] at eq0_2; subst eq0_2
  obtain ⟨dv2, e_dv2, _, f_dv2⟩ := DataW.trod_int Try.underlying107 r0_2; simp only [List.cons.injEq, and_true] at e_dv2; subst e_dv2
  obtain ⟨n0_3, y0_3, q0_3, eq0_3, r0_3⟩ := hx0 3 _ rfl
  simp only [List.getElem?_cons_zero, List.getElem?_cons_succ, Option.some.injEq] at eq0_3; subst eq0_3
  obtain ⟨dv3, e_dv3, _, f_dv3⟩ := DataW.trod_int Try.underlying107 r0_3; simp only [List.cons.injEq, and_true] at e_dv3; subst e_dv3
  obtain ⟨n0_4, y0_4, q0_4, eq0_4, r0_4⟩ := hx0 4 _ rfl
  simp only [List.getElem?_cons_zero, List.getElem?_cons_succ, Option.some.injEq] at eq0_4; subst eq0_4
  obtain ⟨dv4, e_dv4, _, f_dv4⟩ := DataW.trod_int Try.underlying3 r0_4; simp only [List.cons.injEq, and_true] at e_dv4; subst e_dv4
  obtain ⟨n0_5, y0_5, q0_5, eq0_5, r0_5⟩ := hx0 5 _ rfl
  simp only [List.getElem?_cons_zero, List.getElem?_cons_succ, Option.some.injEq] at eq0_5; subst eq0_5
  obtain ⟨dv5, e_dv5, _, f_dv5⟩ := DataW.trod_int Try.underlying3 r0_5; simp only [List.cons.injEq, and_true] at e_dv5; subst e_dv5
  obtain ⟨n0_6, y0_6, q0_6, eq0_6, r0_6⟩ := hx0 6 _ rfl
  simp only [List.getElem?_cons_zero, List.getElem?_cons_succ, Option.some.injEq] at eq0_6; subst eq0_6
  obtain ⟨dv6, e_dv6, _, f_dv6⟩ := DataW.trod_int Try.underlying3 r0_6; simp only [List.cons.injEq, and_true] at e_dv6; subst e_dv6
  obtain ⟨n, rfl, rfl, rfl, f_n⟩ := open_int Try.underlying3 (hval 1 3 v1 rfl rfl) h1
  clear hA0 hval0
  refine (walk_DiffPeak dv0 dv1 dv2 dv3 dv4 dv5 dv6 n W f_dv0 f_dv1 f_dv2 f_dv3 f_dv4 f_dv5 f_dv6 f_n).mono fun e W' ⟨he, bel⟩ => ?_
  subst he
  exact ⟨_, rfl, _, _, _, [], _, [], hW', trodAll_mk1 (shut_bool Try.underlying4 _), (trodAll_cons_mk (Below.trod laidOut (by kernel_rfl) (of_decide_eq_true (by kernel_rfl)) k0 bel lt0) (trodAll_cons_mk (Below.trod laidOut (by kernel_rfl) (of_decide_eq_true (by kernel_rfl)) k1 bel lt1) trodAll_mk0)), rfl, bel.frame _, fun h => by cases h⟩

theorem over_DiffPeak : Rows.diffPeakRow.holds Try.pinned (OpenSpec.ofChange Rows.diffPeakSpec) :=
  OpenClaim.holds_of_wide 13 Try.f13 rfl rfl rfl rfl rfl rfl rfl ⟨rfl, rfl, rfl, rfl, rfl⟩ rfl rfl rfl rfl rfl (by kernel_rfl) Try.func13 (by kernel_rfl)
    (of_decide_eq_true (by kernel_rfl)) (by unfold Func.isWrapper; first | (rw [if_pos (by decide +kernel)]; kernel_rfl) | (rw [if_neg (by decide +kernel)]; exact ⟨rfl, rfl⟩))
    (fun os started H enc _ => lifted_DiffPeak os started H enc)

theorem diffPeak_holds : Rows.DiffPeakSaid := over_DiffPeak
#print axioms diffPeak_holds
end Go.Proofs.Ytepjmnkleajibaa
