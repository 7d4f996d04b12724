/- The statement DiffThird, for every input: the law's walk (YtkenkpbkaeoifaaD13b), lifted to the row. No condition. -/
import Derived.Test.YtkenkpbkaeoifaaD13b
import Derived.Test.YtkenkpbkaeoifaaFr
namespace Go.Proofs.Ytkenkpbkaeoifaa
open Go.ChangeShapes Go.WideShapes Go.ChangeAt Go.RowKit Go.Deep
open Go.ChangeMaps (open_string shut_string)
set_option linter.unusedVariables false
set_option linter.unusedSimpArgs false

theorem walk_DiffThird (a0 : Int) (a1 : Int) (a2 : Int) (a3A : Option Addr) (a3n a3c : Nat) (a3 : List Int) (b0 : Int) (b1 : Int) (b2 : Int) (b3A : Option Addr) (b3n b3c : Nat) (b3 : List Int) (c0 : Int) (c1 : Int) (c2 : Int) (c3A : Option Addr) (c3n c3c : Nat) (c3 : List Int) (W : World) (f_a0 : (Lit.int .i64 a0).wf = true) (f_a1 : (Lit.int .i64 a1).wf = true) (f_a2 : (Lit.int .i64 a2).wf = true) (f_a3 : Sl W .u8 W.heap.size a3A a3n a3) (g_a3 : a3n ≤ a3c) (m_a3 : a3c ≤ maxLen) (z_a3 : Adr W a3A a3n a3c) (f_b0 : (Lit.int .i64 b0).wf = true) (f_b1 : (Lit.int .i64 b1).wf = true) (f_b2 : (Lit.int .i64 b2).wf = true) (f_b3 : Sl W .u8 W.heap.size b3A b3n b3) (g_b3 : b3n ≤ b3c) (m_b3 : b3c ≤ maxLen) (z_b3 : Adr W b3A b3n b3c) (f_c0 : (Lit.int .i64 c0).wf = true) (f_c1 : (Lit.int .i64 c1).wf = true) (f_c2 : (Lit.int .i64 c2).wf = true) (f_c3 : Sl W .u8 W.heap.size c3A c3n c3) (g_c3 : c3n ≤ c3c) (m_c3 : c3c ≤ maxLen) (z_c3 : Adr W c3A c3n c3c) :
    Calls Try.prog 4 #[.agg #[.int .i64 a0, .int .i64 a1, .int .i64 a2, .slice a3A a3n a3c], .agg #[.int .i64 b0, .int .i64 b1, .int .i64 b2, .slice b3A b3n b3c], .agg #[.int .i64 c0, .int .i64 c1, .int .i64 c2, .slice c3A c3n c3c]] W fun e W' => e = .returned (.bool true) ∧ Below W.heap.size W W' :=
  walk_DiffThird' a0 a1 a2 a3 b0 b1 b2 b3 c0 c1 c2 c3 (bytes_of f_a3.wf) (bytes_of f_b3.wf) (bytes_of f_c3.wf) W (crel_cons (rep_fields (crel_cons (.int _ _) (crel_cons (.int _ _) (crel_cons (.int _ _) (crel_cons (rep_sl f_a3 g_a3 m_a3 z_a3) crel_nil))))) (crel_cons (rep_fields (crel_cons (.int _ _) (crel_cons (.int _ _) (crel_cons (.int _ _) (crel_cons (rep_sl f_b3 g_b3 m_b3 z_b3) crel_nil))))) (crel_cons (rep_fields (crel_cons (.int _ _) (crel_cons (.int _ _) (crel_cons (.int _ _) (crel_cons (rep_sl f_c3 g_c3 m_c3 z_c3) crel_nil))))) crel_nil)))

set_option maxRecDepth 100000 in
set_option maxHeartbeats 1000000 in
theorem lifted_DiffThird (os : Os) (started : os.Started) (H : Type) (enc : TypeId × Value → H) :
    ReturnsInHanded {} Try.checked os 4 .any (Rows.diffThirdSpec.pre6 enc Try.prog Try.f4 Rows.diffThirdRow.domain false) (Rows.diffThirdSpec.post enc Try.prog Try.f4 false true false false) := by
  refine returnsInHanded_of_change (C := Try.checked) own started (by kernel_rfl) Try.func4
    (ChangeSpec.witness6 (enc := enc) (C := Try.checked) false ⟨#[], #[.agg #[.int .i64 0, .int .i64 0, .int .i64 0, .slice none 0 0], .agg #[.int .i64 0, .int .i64 0, .int .i64 0, .slice none 0 0], .agg #[.int .i64 0, .int .i64 0, .int .i64 0, .slice none 0 0]], []⟩ 8 (by kernel_rfl) (by kernel_rfl) (by kernel_rfl) (by kernel_rfl)) ?_
  intro W base args ds gs before hval0 hW hcnd _
  have hval : ∀ (j : Nat) t v, Try.f4.params[j]? = some t → args[j]? = some v → Value.okWide Try.prog W .any base t v := hval0
  have hW' := hW
  obtain ⟨p, q, hA0, hV, rfl, hfz, hnd⟩ := hW
  have hA : DataW.TrodAll enc Try.prog W 0 (fun _ => true) true Try.f4.params.toList args.toList ds p := hA0
  rw [Try.params4] at hA hval
  obtain ⟨v0, vs0, d0, ds0, p0, q0, hargs, rfl, rfl, h0, rr0⟩ := trodAll_cons hA
  obtain ⟨v1, vs1, d1, ds1, p1, q1, rfl, rfl, rfl, h1, rr1⟩ := trodAll_cons rr0
  obtain ⟨v2, vs2, d2, ds2, p2, q2, rfl, rfl, rfl, h2, rr2⟩ := trodAll_cons rr1
  obtain ⟨rfl, rfl, rfl⟩ := trodAll_nil rr2
  obtain rfl : args = #[v0, v1, v2] := by cases args; simp_all
  obtain ⟨rfl, rfl⟩ := trodVars_none hV
  have k0 := h0
  have lt0 : ∀ x ∈ p0, x.block < W.heap.size := by obtain ⟨m, hm⟩ := k0; exact DataW.trod_lt m _ _ _ hm
  have k1 := h1
  have lt1 : ∀ x ∈ p1, x.block < W.heap.size := by obtain ⟨m, hm⟩ := k1; exact DataW.trod_lt m _ _ _ hm
  have k2 := h2
  have lt2 : ∀ x ∈ p2, x.block < W.heap.size := by obtain ⟨m, hm⟩ := k2; exact DataW.trod_lt m _ _ _ hm
  obtain ⟨l0, rfl, hl0, hx0⟩ := open_fields Try.underlying25 (by kernel_rfl) (by kernel_rfl) (hval 0 25 v0 rfl rfl) h0
  obtain ⟨x0_0, x0_1, x0_2, x0_3, rfl⟩ := list4 hl0
  have ok0 := okWide_cells (ts := [3, 3, 3, 23]) Try.underlying25 (by kernel_rfl) (hval 0 25 _ rfl rfl)
  obtain ⟨n0_0, y0_0, q0_0, eq0_0, r0_0⟩ := hx0 0 _ rfl
  simp only [List.getElem?_cons_zero, List.getElem?_cons_succ, Option.some.injEq] at eq0_0; subst eq0_0
  obtain ⟨a0, e_a0, _, f_a0⟩ := DataW.trod_int Try.underlying3 r0_0; simp only [List.cons.injEq, and_true] at e_a0; subst e_a0
  obtain ⟨n0_1, y0_1, q0_1, eq0_1, r0_1⟩ := hx0 1 _ rfl
  simp only [List.getElem?_cons_zero, List.getElem?_cons_succ, Option.some.injEq] at eq0_1; subst eq0_1
  obtain ⟨a1, e_a1, _, f_a1⟩ := DataW.trod_int Try.underlying3 r0_1; simp only [List.cons.injEq, and_true] at e_a1; subst e_a1
  obtain ⟨n0_2, y0_2, q0_2, eq0_2, r0_2⟩ := hx0 2 _ rfl
  simp only [List.getElem?_cons_zero, List.getElem?_cons_succ, Option.some.injEq] at eq0_2; subst eq0_2
  obtain ⟨a2, e_a2, _, f_a2⟩ := DataW.trod_int Try.underlying3 r0_2; simp only [List.cons.injEq, and_true] at e_a2; subst e_a2
  obtain ⟨n0_3, y0_3, q0_3, eq0_3, r0_3⟩ := hx0 3 _ rfl
  simp only [List.getElem?_cons_zero, List.getElem?_cons_succ, Option.some.injEq] at eq0_3; subst eq0_3
  obtain ⟨a3A, a3n, a3c, a3, e_a3, f_a3, g_a3, m_a3, _⟩ := sl_of Try.underlying23 Try.underlying5 (by kernel_rfl) r0_3; subst e_a3
  have z_a3 : Adr W a3A a3n a3c := by
    obtain ⟨u, hu, ok⟩ := ok0 3 _ rfl
    cases hu
    exact adr_of Try.underlying23 ok
  obtain ⟨l1, rfl, hl1, hx1⟩ := open_fields Try.underlying25 (by kernel_rfl) (by kernel_rfl) (hval 1 25 v1 rfl rfl) h1
  obtain ⟨x1_0, x1_1, x1_2, x1_3, rfl⟩ := list4 hl1
  have ok1 := okWide_cells (ts := [3, 3, 3, 23]) Try.underlying25 (by kernel_rfl) (hval 1 25 _ rfl rfl)
  obtain ⟨n1_0, y1_0, q1_0, eq1_0, r1_0⟩ := hx1 0 _ rfl
  simp only [List.getElem?_cons_zero, List.getElem?_cons_succ, Option.some.injEq] at eq1_0; subst eq1_0
  obtain ⟨b0, e_b0, _, f_b0⟩ := DataW.trod_int Try.underlying3 r1_0; simp only [List.cons.injEq, and_true] at e_b0; subst e_b0
  obtain ⟨n1_1, y1_1, q1_1, eq1_1, r1_1⟩ := hx1 1 _ rfl
  simp only [List.getElem?_cons_zero, List.getElem?_cons_succ, Option.some.injEq] at eq1_1; subst eq1_1
  obtain ⟨b1, e_b1, _, f_b1⟩ := DataW.trod_int Try.underlying3 r1_1; simp only [List.cons.injEq, and_true] at e_b1; subst e_b1
  obtain ⟨n1_2, y1_2, q1_2, eq1_2, r1_2⟩ := hx1 2 _ rfl
  simp only [List.getElem?_cons_zero, List.getElem?_cons_succ, Option.some.injEq] at eq1_2; subst eq1_2
  obtain ⟨b2, e_b2, _, f_b2⟩ := DataW.trod_int Try.underlying3 r1_2; simp only [List.cons.injEq, and_true] at e_b2; subst e_b2
  obtain ⟨n1_3, y1_3, q1_3, eq1_3, r1_3⟩ := hx1 3 _ rfl
  simp only [List.getElem?_cons_zero, List.getElem?_cons_succ, Option.some.injEq] at eq1_3; subst eq1_3
  obtain ⟨b3A, b3n, b3c, b3, e_b3, f_b3, g_b3, m_b3, _⟩ := sl_of Try.underlying23 Try.underlying5 (by kernel_rfl) r1_3; subst e_b3
  have z_b3 : Adr W b3A b3n b3c := by
    obtain ⟨u, hu, ok⟩ := ok1 3 _ rfl
    cases hu
    exact adr_of Try.underlying23 ok
  obtain ⟨l2, rfl, hl2, hx2⟩ := open_fields Try.underlying25 (by kernel_rfl) (by kernel_rfl) (hval 2 25 v2 rfl rfl) h2
  obtain ⟨x2_0, x2_1, x2_2, x2_3, rfl⟩ := list4 hl2
  have ok2 := okWide_cells (ts := [3, 3, 3, 23]) Try.underlying25 (by kernel_rfl) (hval 2 25 _ rfl rfl)
  obtain ⟨n2_0, y2_0, q2_0, eq2_0, r2_0⟩ := hx2 0 _ rfl
  simp only [List.getElem?_cons_zero, List.getElem?_cons_succ, Option.some.injEq] at eq2_0; subst eq2_0
  obtain ⟨c0, e_c0, _, f_c0⟩ := DataW.trod_int Try.underlying3 r2_0; simp only [List.cons.injEq, and_true] at e_c0; subst e_c0
  obtain ⟨n2_1, y2_1, q2_1, eq2_1, r2_1⟩ := hx2 1 _ rfl
  simp only [List.getElem?_cons_zero, List.getElem?_cons_succ, Option.some.injEq] at eq2_1; subst eq2_1
  obtain ⟨c1, e_c1, _, f_c1⟩ := DataW.trod_int Try.underlying3 r2_1; simp only [List.cons.injEq, and_true] at e_c1; subst e_c1
  obtain ⟨n2_2, y2_2, q2_2, eq2_2, r2_2⟩ := hx2 2 _ rfl
  simp only [List.getElem?_cons_zero, List.getElem?_cons_succ, Option.some.injEq] at eq2_2; subst eq2_2
  obtain ⟨c2, e_c2, _, f_c2⟩ := DataW.trod_int Try.underlying3 r2_2; simp only [List.cons.injEq, and_true] at e_c2; subst e_c2
  obtain ⟨n2_3, y2_3, q2_3, eq2_3, r2_3⟩ := hx2 3 _ rfl
  simp only [List.getElem?_cons_zero, List.getElem?_cons_succ, Option.some.injEq] at eq2_3; subst eq2_3
  obtain ⟨c3A, c3n, c3c, c3, e_c3, f_c3, g_c3, m_c3, _⟩ := sl_of Try.underlying23 Try.underlying5 (by kernel_rfl) r2_3; subst e_c3
  have z_c3 : Adr W c3A c3n c3c := by
    obtain ⟨u, hu, ok⟩ := ok2 3 _ rfl
    cases hu
    exact adr_of Try.underlying23 ok
  clear hA0 hval0
  refine (walk_DiffThird a0 a1 a2 a3A a3n a3c a3 b0 b1 b2 b3A b3n b3c b3 c0 c1 c2 c3A c3n c3c c3 W f_a0 f_a1 f_a2 f_a3 g_a3 m_a3 z_a3 f_b0 f_b1 f_b2 f_b3 g_b3 m_b3 z_b3 f_c0 f_c1 f_c2 f_c3 g_c3 m_c3 z_c3).mono fun e W' ⟨he, bel⟩ => ?_
  subst he
  exact ⟨_, rfl, _, _, _, [], _, [], hW', trodAll_mk1 (shut_bool Try.underlying4 _), (trodAll_cons_mk (Below.trod laidOut (by kernel_rfl) (of_decide_eq_true (by kernel_rfl)) k0 bel lt0) (trodAll_cons_mk (Below.trod laidOut (by kernel_rfl) (of_decide_eq_true (by kernel_rfl)) k1 bel lt1) (trodAll_cons_mk (Below.trod laidOut (by kernel_rfl) (of_decide_eq_true (by kernel_rfl)) k2 bel lt2) trodAll_mk0))), rfl, bel.frame _, fun h => by cases h⟩

theorem over_DiffThird : Rows.diffThirdRow.holds Try.pinned (OpenSpec.ofChange Rows.diffThirdSpec) :=
  OpenClaim.holds_of_wide 4 Try.f4 rfl rfl rfl rfl rfl rfl rfl ⟨rfl, rfl, rfl, rfl, rfl⟩ rfl rfl rfl rfl rfl (by kernel_rfl) Try.func4 (by kernel_rfl)
    (of_decide_eq_true (by kernel_rfl)) (by unfold Func.isWrapper; first | (rw [if_pos (by decide +kernel)]; kernel_rfl) | (rw [if_neg (by decide +kernel)]; exact ⟨rfl, rfl⟩))
    (fun os started H enc _ => lifted_DiffThird os started H enc)

theorem diffThird_holds : Rows.DiffThirdSaid := over_DiffThird
#print axioms diffThird_holds
end Go.Proofs.Ytkenkpbkaeoifaa
