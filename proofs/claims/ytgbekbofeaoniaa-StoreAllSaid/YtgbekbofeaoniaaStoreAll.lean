/- The statement StoreAll, for every input: the law's walk (YtgbekbofeaoniaaS2), lifted to the row. No condition. -/
import Derived.Test.YtgbekbofeaoniaaS2
import Derived.Test.YtgbekbofeaoniaaFi
namespace Go.Proofs.Ytgbekbofeaoniaa
open Go.ChangeShapes Go.WideShapes Go.ChangeAt Go.RowKit Go.Deep
open Go.ChangeMaps (open_string shut_string)
set_option linter.unusedVariables false
set_option linter.unusedSimpArgs false

theorem walk_StoreAll (lvA : Option Addr) (lvn lvc : Nat) (lv : List Im) (size0 : Int) (size1 : Int) (W : World) (r_lv : Rep noN W NoO (imsA lv) (.slice lvA lvn lvc)) (f_size0 : (Lit.int .i64 size0).wf = true) (f_size1 : (Lit.int .i64 size1).wf = true) :
    Calls Try.prog 5 #[.slice lvA lvn lvc, .agg #[.int .i64 size0, .int .i64 size1]] W fun e W' => e = .returned (.bool true) ∧ Below W.heap.size W W' :=
  walk_StoreAll' lv size0 size1 W (crel_cons r_lv (crel_cons (rep_fields (crel_cons (.int _ _) (crel_cons (.int _ _) crel_nil))) crel_nil))

set_option maxRecDepth 100000 in
set_option maxHeartbeats 1000000 in
theorem lifted_StoreAll (os : Os) (started : os.Started) (H : Type) (enc : TypeId × Value → H) :
    ReturnsInHanded {} Try.checked os 5 .any (Rows.storeAllSpec.pre6 enc Try.prog Try.f5 Rows.storeAllRow.domain false) (Rows.storeAllSpec.post enc Try.prog Try.f5 false true false false) := by
  refine returnsInHanded_of_change (C := Try.checked) own started (by kernel_rfl) Try.func5
    (ChangeSpec.witness6 (enc := enc) (C := Try.checked) false ⟨#[], #[.slice none 0 0, .agg #[.int .i64 0, .int .i64 0]], []⟩ 8 (by kernel_rfl) (by kernel_rfl) (by kernel_rfl) (by kernel_rfl)) ?_
  intro W base args ds gs before hval0 hW hcnd _
  have hval : ∀ (j : Nat) t v, Try.f5.params[j]? = some t → args[j]? = some v → Value.okWide Try.prog W .any base t v := hval0
  have hW' := hW
  obtain ⟨p, q, hA0, hV, rfl, hfz, hnd⟩ := hW
  have hA : DataW.TrodAll enc Try.prog W 0 (fun _ => true) true Try.f5.params.toList args.toList ds p := hA0
  rw [Try.params5] at hA hval
  obtain ⟨v0, vs0, d0, ds0, p0, q0, hargs, rfl, rfl, h0, rr0⟩ := trodAll_cons hA
  obtain ⟨v1, vs1, d1, ds1, p1, q1, rfl, rfl, rfl, h1, rr1⟩ := trodAll_cons rr0
  obtain ⟨rfl, rfl, rfl⟩ := trodAll_nil rr1
  obtain rfl : args = #[v0, v1] := by cases args; simp_all
  obtain ⟨rfl, rfl⟩ := trodVars_none hV
  have k0 := h0
  have lt0 : ∀ x ∈ p0, x.block < W.heap.size := by obtain ⟨m, hm⟩ := k0; exact DataW.trod_lt m _ _ _ hm
  have k1 := h1
  have lt1 : ∀ x ∈ p1, x.block < W.heap.size := by obtain ⟨m, hm⟩ := k1; exact DataW.trod_lt m _ _ _ hm
  obtain ⟨lvA, lvn, lvc, rfl⟩ := okWide_slice Try.underlying44 (hval 0 44 v0 rfl rfl)
  obtain ⟨fu0, hf0⟩ := h0; simp only [Value.cells] at hf0
  obtain ⟨qA, qn, qc, lv, qe, f_lv, g_lv⟩ := open_images Try.underlying44 hf0; simp only [Value.slice.injEq] at qe; obtain ⟨rfl, rfl, rfl⟩ := qe
  have r_lv := g_lv (adr_top Try.underlying44 (hval 0 44 _ rfl rfl))
  obtain ⟨l1, rfl, hl1, hx1⟩ := open_parts Try.underlying52 (by kernel_rfl) (by kernel_rfl) (hval 1 52 v1 rfl rfl) h1
  obtain ⟨x1_0, x1_1, rfl⟩ := list2 hl1
  obtain ⟨n1_0, y1_0, q1_0, eq1_0, r1_0⟩ := hx1 0 (by decide)
  simp only [List.getElem?_cons_zero, List.getElem?_cons_succ, Option.some.injEq] at eq1_0; subst eq1_0
  obtain ⟨size0, e_size0, _, f_size0⟩ := DataW.trod_int Try.underlying3 r1_0; simp only [List.cons.injEq, and_true] at e_size0; subst e_size0
  obtain ⟨n1_1, y1_1, q1_1, eq1_1, r1_1⟩ := hx1 1 (by decide)
  simp only [List.getElem?_cons_zero, List.getElem?_cons_succ, Option.some.injEq] at eq1_1; subst eq1_1
  obtain ⟨size1, e_size1, _, f_size1⟩ := DataW.trod_int Try.underlying3 r1_1; simp only [List.cons.injEq, and_true] at e_size1; subst e_size1
  clear hA0 hval0
  refine (walk_StoreAll lvA lvn lvc lv size0 size1 W r_lv f_size0 f_size1).mono fun e W' ⟨he, bel⟩ => ?_
  subst he
  exact ⟨_, rfl, _, _, _, [], _, [], hW', trodAll_mk1 (shut_bool Try.underlying4 _), (trodAll_cons_mk (Below.trod laidOut (by kernel_rfl) (of_decide_eq_true (by kernel_rfl)) k0 bel lt0) (trodAll_cons_mk (Below.trod laidOut (by kernel_rfl) (of_decide_eq_true (by kernel_rfl)) k1 bel lt1) trodAll_mk0)), rfl, bel.frame _, fun h => by cases h⟩

theorem over_StoreAll : Rows.storeAllRow.holds Try.pinned (OpenSpec.ofChange Rows.storeAllSpec) :=
  OpenClaim.holds_of_wide 5 Try.f5 rfl rfl rfl rfl rfl rfl rfl ⟨rfl, rfl, rfl, rfl, rfl⟩ rfl rfl rfl rfl rfl (by kernel_rfl) Try.func5 (by kernel_rfl)
    (of_decide_eq_true (by kernel_rfl)) (by unfold Func.isWrapper; first | (rw [if_pos (by decide +kernel)]; kernel_rfl) | (rw [if_neg (by decide +kernel)]; exact ⟨rfl, rfl⟩))
    (fun os started H enc _ => lifted_StoreAll os started H enc)

theorem storeAll_holds : Rows.StoreAllSaid := over_StoreAll
#print axioms storeAll_holds
end Go.Proofs.Ytgbekbofeaoniaa
