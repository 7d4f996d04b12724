/- The statement StorePlaces, for every input: the law's walk (YtchhikfiofeckaaS41e), lifted to the row. No condition. -/
import Derived.Test.YtchhikfiofeckaaS41e
import Derived.Test.YtchhikfiofeckaaFi
namespace Go.Proofs.Ytchhikfiofeckaa
open Go.ChangeShapes Go.WideShapes Go.ChangeAt Go.RowKit Go.Deep
open Go.ChangeMaps (open_string shut_string)
set_option linter.unusedVariables false
set_option linter.unusedSimpArgs false

theorem walk_StorePlaces (lvA : Option Addr) (lvn lvc : Nat) (lv : List Im) (size0 : Int) (size1 : Int) (pv0 : Int) (pv1 : Int) (pv2 : Int) (W : World) (r_lv : Rep noN W NoO (imsA lv) (.slice lvA lvn lvc)) (f_size0 : (Lit.int .i64 size0).wf = true) (f_size1 : (Lit.int .i64 size1).wf = true) (f_pv0 : (Lit.int .i64 pv0).wf = true) (f_pv1 : (Lit.int .i64 pv1).wf = true) (f_pv2 : (Lit.int .i64 pv2).wf = true) :
    Calls Try.prog 11 #[.slice lvA lvn lvc, .agg #[.int .i64 size0, .int .i64 size1], .agg #[.int .i64 pv0, .int .i64 pv1, .int .i64 pv2]] W fun e W' => e = .returned (.bool true) ∧ Below W.heap.size W W' :=
  walk_StorePlaces' lv size0 size1 pv0 pv1 pv2 W (crel_cons r_lv (crel_cons (rep_fields (crel_cons (.int _ _) (crel_cons (.int _ _) crel_nil))) (crel_cons (rep_fields (crel_cons (.int _ _) (crel_cons (.int _ _) (crel_cons (.int _ _) crel_nil)))) crel_nil)))

set_option maxRecDepth 100000 in
set_option maxHeartbeats 1000000 in
theorem lifted_StorePlaces (os : Os) (started : os.Started) (H : Type) (enc : TypeId × Value → H) :
    ReturnsInHanded {} Try.checked os 11 .any (Rows.storePlacesSpec.pre6 enc Try.prog Try.f11 Rows.storePlacesRow.domain false) (Rows.storePlacesSpec.post enc Try.prog Try.f11 false true false false) := by
  refine returnsInHanded_of_change (C := Try.checked) own started (by kernel_rfl) Try.func11
    (ChangeSpec.witness6 (enc := enc) (C := Try.checked) false ⟨#[], #[.slice none 0 0, .agg #[.int .i64 0, .int .i64 0], .agg #[.int .i64 0, .int .i64 0, .int .i64 0]], []⟩ 8 (by kernel_rfl) (by kernel_rfl) (by kernel_rfl) (by kernel_rfl)) ?_
  intro W base args ds gs before hval0 hW hcnd _
  have hval : ∀ (j : Nat) t v, Try.f11.params[j]? = some t → args[j]? = some v → Value.okWide Try.prog W .any base t v := hval0
  have hW' := hW
  obtain ⟨p, q, hA0, hV, rfl, hfz, hnd⟩ := hW
  have hA : DataW.TrodAll enc Try.prog W 0 (fun _ => true) true Try.f11.params.toList args.toList ds p := hA0
  rw [Try.params11] at hA hval
  obtain ⟨v0, vs0, d0, ds0, p0, q0, hargs, rfl, rfl, h0, rr0⟩ := trodAll_cons hA
  obtain ⟨v1, vs1, d1, ds1, p1, q1, rfl, rfl, rfl, h1, rr1⟩ := trodAll_cons rr0
  obtain ⟨v2, vs2, d2, ds2, p2, q2, rfl, rfl, rfl, h2, rr2⟩ := trodAll_cons rr1
  obtain ⟨rfl, rfl, rfl⟩ := trodAll_nil rr2
  obtain rfl : args = #[v0, v1, v2] := by cases args; simp_all
  obtain ⟨rfl, rfl⟩ := trodVars_none hV
  have k0 := h0
  have lt0 : ∀ x ∈ p0, x.block < W.heap.size := by obtain ⟨m, hm⟩ := k0; exact DataW.trod_lt m _ _ _ hm
  have k1 := h1
  have lt1 : ∀ x ∈ p1, x.block < W.heap.size := by obtain ⟨m, hm⟩ := k1; exact DataW.trod_lt m _ _ _ hm
  have k2 := h2
  have lt2 : ∀ x ∈ p2, x.block < W.heap.size := by obtain ⟨m, hm⟩ := k2; exact DataW.trod_lt m _ _ _ hm
  obtain ⟨lvA, lvn, lvc, rfl⟩ := okWide_slice Try.underlying61 (hval 0 61 v0 rfl rfl)
  obtain ⟨fu0, hf0⟩ := h0; simp only [Value.cells] at hf0
  obtain ⟨qA, qn, qc, lv, qe, f_lv, g_lv⟩ := open_images Try.underlying61 hf0; simp only [Value.slice.injEq] at qe; obtain ⟨rfl, rfl, rfl⟩ := qe
  have r_lv := g_lv (adr_top Try.underlying61 (hval 0 61 _ rfl rfl))
  obtain ⟨l1, rfl, hl1, hx1⟩ := open_parts Try.underlying71 (by kernel_rfl) (by kernel_rfl) (hval 1 71 v1 rfl rfl) h1
  obtain ⟨x1_0, x1_1, rfl⟩ := list2 hl1
  obtain ⟨n1_0, y1_0, q1_0, eq1_0, r1_0⟩ := hx1 0 (by decide)
  simp only [List.getElem?_cons_zero, List.getElem?_cons_succ, Option.some.injEq] at eq1_0; subst eq1_0
  obtain ⟨size0, e_size0, _, f_size0⟩ := DataW.trod_int Try.underlying3 r1_0; simp only [List.cons.injEq, and_true] at e_size0; subst e_size0
  obtain ⟨n1_1, y1_1, q1_1, eq1_1, r1_1⟩ := hx1 1 (by decide)
  simp only [List.getElem?_cons_zero, List.getElem?_cons_succ, Option.some.injEq] at eq1_1; subst eq1_1
  obtain ⟨size1, e_size1, _, f_size1⟩ := DataW.trod_int Try.underlying3 r1_1; simp only [List.cons.injEq, and_true] at e_size1; subst e_size1
  obtain ⟨l2, rfl, hl2, hx2⟩ := open_parts Try.underlying48 (by kernel_rfl) (by kernel_rfl) (hval 2 48 v2 rfl rfl) h2
  obtain ⟨x2_0, x2_1, x2_2, rfl⟩ := list3 hl2
  obtain ⟨n2_0, y2_0, q2_0, eq2_0, r2_0⟩ := hx2 0 (by decide)
  simp only [List.getElem?_cons_zero, List.getElem?_cons_succ, Option.some.injEq] at eq2_0; subst eq2_0
  obtain ⟨pv0, e_pv0, _, f_pv0⟩ := DataW.trod_int Try.underlying3 r2_0; simp only [List.cons.injEq, and_true] at e_pv0; subst e_pv0
  obtain ⟨n2_1, y2_1, q2_1, eq2_1, r2_1⟩ := hx2 1 (by decide)
  simp only [List.getElem?_cons_zero, List.getElem?_cons_succ, Option.some.injEq] at eq2_1; subst eq2_1
  obtain ⟨pv1, e_pv1, _, f_pv1⟩ := DataW.trod_int Try.underlying3 r2_1; simp only [List.cons.injEq, and_true] at e_pv1; subst e_pv1
  obtain ⟨n2_2, y2_2, q2_2, eq2_2, r2_2⟩ := hx2 2 (by decide)
  simp only [List.getElem?_cons_zero, List.getElem?_cons_succ, Option.some.injEq] at eq2_2; subst eq2_2
  obtain ⟨pv2, e_pv2, _, f_pv2⟩ := DataW.trod_int Try.underlying3 r2_2; simp only [List.cons.injEq, and_true] at e_pv2; subst e_pv2
  clear hA0 hval0
  refine (walk_StorePlaces lvA lvn lvc lv size0 size1 pv0 pv1 pv2 W r_lv f_size0 f_size1 f_pv0 f_pv1 f_pv2).mono fun e W' ⟨he, bel⟩ => ?_
  subst he
  exact ⟨_, rfl, _, _, _, [], _, [], hW', trodAll_mk1 (shut_bool Try.underlying4 _), (trodAll_cons_mk (Below.trod laidOut (by kernel_rfl) (of_decide_eq_true (by kernel_rfl)) k0 bel lt0) (trodAll_cons_mk (Below.trod laidOut (by kernel_rfl) (of_decide_eq_true (by kernel_rfl)) k1 bel lt1) (trodAll_cons_mk (Below.trod laidOut (by kernel_rfl) (of_decide_eq_true (by kernel_rfl)) k2 bel lt2) trodAll_mk0))), rfl, bel.frame _, fun h => by cases h⟩

theorem over_StorePlaces : Rows.storePlacesRow.holds Try.pinned (OpenSpec.ofChange Rows.storePlacesSpec) :=
  OpenClaim.holds_of_wide 11 Try.f11 rfl rfl rfl rfl rfl rfl rfl ⟨rfl, rfl, rfl, rfl, rfl⟩ rfl rfl rfl rfl rfl (by kernel_rfl) Try.func11 (by kernel_rfl)
    (of_decide_eq_true (by kernel_rfl)) (by unfold Func.isWrapper; first | (rw [if_pos (by decide +kernel)]; kernel_rfl) | (rw [if_neg (by decide +kernel)]; exact ⟨rfl, rfl⟩))
    (fun os started H enc _ => lifted_StorePlaces os started H enc)

theorem storePlaces_holds : Rows.StorePlacesSaid := over_StorePlaces
#print axioms storePlaces_holds
end Go.Proofs.Ytchhikfiofeckaa
