/- The statement DiffTells, for every input: the law's walk (YtkenkpbkaeoifaaD13c), lifted to the row. No condition. -/
import Derived.Test.YtkenkpbkaeoifaaD13c
import Derived.Test.YtkenkpbkaeoifaaFr
namespace Go.Proofs.Ytkenkpbkaeoifaa
open Go.ChangeShapes Go.WideShapes Go.ChangeAt Go.RowKit Go.Deep
open Go.ChangeMaps (open_string shut_string)
set_option linter.unusedVariables false
set_option linter.unusedSimpArgs false

theorem walk_DiffTells (a0 : Int) (a1 : Int) (a2 : Int) (a3A : Option Addr) (a3n a3c : Nat) (a3 : List Int) (b0 : Int) (b1 : Int) (b2 : Int) (b3A : Option Addr) (b3n b3c : Nat) (b3 : List Int) (byy : Int) (W : World) (f_a0 : (Lit.int .i64 a0).wf = true) (f_a1 : (Lit.int .i64 a1).wf = true) (f_a2 : (Lit.int .i64 a2).wf = true) (f_a3 : Sl W .u8 W.heap.size a3A a3n a3) (g_a3 : a3n ≤ a3c) (m_a3 : a3c ≤ maxLen) (z_a3 : Adr W a3A a3n a3c) (f_b0 : (Lit.int .i64 b0).wf = true) (f_b1 : (Lit.int .i64 b1).wf = true) (f_b2 : (Lit.int .i64 b2).wf = true) (f_b3 : Sl W .u8 W.heap.size b3A b3n b3) (g_b3 : b3n ≤ b3c) (m_b3 : b3c ≤ maxLen) (z_b3 : Adr W b3A b3n b3c) (f_byy : (Lit.int .i64 byy).wf = true) :
    Calls Try.prog 5 #[.agg #[.int .i64 a0, .int .i64 a1, .int .i64 a2, .slice a3A a3n a3c], .agg #[.int .i64 b0, .int .i64 b1, .int .i64 b2, .slice b3A b3n b3c], .int .i64 byy] W fun e W' => e = .returned (.bool true) ∧ Below W.heap.size W W' :=
  walk_DiffTells' a0 a1 a2 a3 b0 b1 b2 b3 byy (bytes_of f_a3.wf) (bytes_of f_b3.wf) W (crel_cons (rep_fields (crel_cons (.int _ _) (crel_cons (.int _ _) (crel_cons (.int _ _) (crel_cons (rep_sl f_a3 g_a3 m_a3 z_a3) crel_nil))))) (crel_cons (rep_fields (crel_cons (.int _ _) (crel_cons (.int _ _) (crel_cons (.int _ _) (crel_cons (rep_sl f_b3 g_b3 m_b3 z_b3) crel_nil))))) (crel_cons (.int _ _) crel_nil)))

set_option maxRecDepth 100000 in
set_option maxHeartbeats 1000000 in
theorem lifted_DiffTells (os : Os) (started : os.Started) (H : Type) (enc : TypeId × Value → H) :
    ReturnsInHanded {} Try.checked os 5 .any (Rows.diffTellsSpec.pre6 enc Try.prog Try.f5 Rows.diffTellsRow.domain false) (Rows.diffTellsSpec.post enc Try.prog Try.f5 false true false false) := by
  refine returnsInHanded_of_change (C := Try.checked) own started (by kernel_rfl) Try.func5
    (ChangeSpec.witness6 (enc := enc) (C := Try.checked) false ⟨#[], #[.agg #[.int .i64 0, .int .i64 0, .int .i64 0, .slice none 0 0], .agg #[.int .i64 0, .int .i64 0, .int .i64 0, .slice none 0 0], .int .i64 0], []⟩ 8 (by kernel_rfl) (by kernel_rfl) (by kernel_rfl) (by kernel_rfl)) ?_
  intro W base args ds gs before hval0 hW hcnd _
  have hval : ∀ (j : Nat) t v, Try.f5.params[j]? = some t → args[j]? = some v → Value.okWide Try.prog W .any base t v := hval0
  have hW' := hW
  obtain ⟨p, q, hA0, hV, rfl, hfz, hnd⟩ := hW
  have hA : DataW.TrodAll enc Try.prog W 0 (fun _ => true) true Try.f5.params.toList args.toList ds p := hA0
  rw [Try.params5] at hA hval
  obtain ⟨v0, vs0, d0, ds0, p0, q0, hargs, rfl, rfl, h0, rr0⟩ := trodAll_cons hA
  obtain ⟨v1, vs1, d1, ds1, p1, q1, rfl, rfl, rfl, h1, rr1⟩ := trodAll_cons rr0
  obtain ⟨v2, vs2, d2, ds2, p2, q2, rfl, rfl, rfl, h2, rr2⟩ := trodAll_cons rr1
  obtain ⟨rfl, rfl, rfl⟩ := trodAll_nil rr2
  obtain rfl : args = #[v0, v1, v2] := by cases args; simp_all
  obtain ⟨rfl, rfl⟩ := trodVars_none hV
  have k0 := h0
  have lt0 : ∀ x ∈ p0, x.block < W.heap.size := by obtain ⟨m, hm⟩ := k0; exact DataW.trod_lt m _ _ _ hm
  have k1 := h1
  have lt1 : ∀ x ∈ p1, x.block < W.heap.size := by obtain ⟨m, hm⟩ := k1; exact DataW.trod_lt m _ _ _ hm
  have k2 := h2
  have lt2 : ∀ x ∈ p2, x.block < W.heap.size := by obtain ⟨m, hm⟩ := k2; exact DataW.trod_lt m _ _ _ hm
  obtain ⟨l0, rfl, hl0, hx0⟩ := open_fields Try.underlying25 (by kernel_rfl) (by kernel_rfl) (hval 0 25 v0 rfl rfl) h0
  obtain ⟨x0_0, x0_1, x0_2, x0_3, rfl⟩ := list4 hl0
  have ok0 := okWide_cells (ts := [3, 3, 3, 23]) Try.underlying25 (by kernel_rfl) (hval 0 25 _ rfl rfl)
  obtain ⟨n0_0, y0_0, q0_0, eq0_0, r0_0⟩ := hx0 0 _ rfl
  simp only [List.getElem?_cons_zero, List.getElem?_cons_succ, Option.some.injEq] at eq0_0; subst eq0_0
  obtain ⟨a0, e_a0, _, f_a0⟩ := DataW.trod_int Try.underlying3 r0_0; simp only [List.cons.injEq, and_true] at e_a0; subst e_a0
  obtain ⟨n0_1, y0_1, q0_1, eq0_1, r0_1⟩ := hx0 1 _ rfl
  simp only [List.getElem?_cons_zero, List.getElem?_cons_succ, Option.some.injEq] at eq0_1; subst eq0_1
  obtain ⟨a1, e_a1, _, f_a1⟩ := DataW.trod_int Try.underlying3 r0_1; simp only [List.cons.injEq, and_true] at e_a1; subst e_a1
  obtain ⟨n0_2, y0_2, q0_2, eq0_2, r0_2⟩ := hx0 2 _ rfl
  simp only [List.getElem?_cons_zero, List.getElem?_cons_succ, Option.some.injEq] at eq0_2; subst eq0_2
  obtain ⟨a2, e_a2, _, f_a2⟩ := DataW.trod_int Try.underlying3 r0_2; simp only [List.cons.injEq, and_true] at e_a2; subst e_a2
  obtain ⟨n0_3, y0_3, q0_3, eq0_3, r0_3⟩ := hx0 3 _ rfl
  simp only [List.getElem?_cons_zero, List.getElem?_cons_succ, Option.some.injEq] at eq0_3; subst eq0_3
  obtain ⟨a3A, a3n, a3c, a3, e_a3, f_a3, g_a3, m_a3, _⟩ := sl_of Try.underlying23 Try.underlying5 (by kernel_rfl) r0_3; subst e_a3
  have z_a3 : Adr W a3A a3n a3c := by
    obtain ⟨u, hu, ok⟩ := ok0 3 _ rfl
    cases hu
    exact adr_of Try.underlying23 ok
  obtain ⟨l1, rfl, hl1, hx1⟩ := open_fields Try.underlying25 (by kernel_rfl) (by kernel_rfl) (hval 1 25 v1 rfl rfl) h1
  obtain ⟨x1_0, x1_1, x1_2, x1_3, rfl⟩ := list4 hl1
  have ok1 := okWide_cells (ts := [3, 3, 3, 23]) Try.underlying25 (by kernel_rfl) (hval 1 25 _ rfl rfl)
  obtain ⟨n1_0, y1_0, q1_0, eq1_0, r1_0⟩ := hx1 0 _ rfl
  simp only [List.getElem?_cons_zero, List.getElem?_cons_succ, Option.some.injEq] at eq1_0; subst eq1_0
  obtain ⟨b0, e_b0, _, f_b0⟩ := DataW.trod_int Try.underlying3 r1_0; simp only [List.cons.injEq, and_true] at e_b0; subst e_b0
  obtain ⟨n1_1, y1_1, q1_1, eq1_1, r1_1⟩ := hx1 1 _ rfl
  simp only [List.getElem?_cons_zero, List.getElem?_cons_succ, Option.some.injEq] at eq1_1; subst eq1_1
  obtain ⟨b1, e_b1, _, f_b1⟩ := DataW.trod_int Try.underlying3 r1_1; simp only [List.cons.injEq, and_true] at e_b1; subst e_b1
  obtain ⟨n1_2, y1_2, q1_2, eq1_2, r1_2⟩ := hx1 2 _ rfl
  simp only [List.getElem?_cons_zero, List.getElem?_cons_succ, Option.some.injEq] at eq1_2; subst eq1_2
  obtain ⟨b2, e_b2, _, f_b2⟩ := DataW.trod_int Try.underlying3 r1_2; simp only [List.cons.injEq, and_true] at e_b2; subst e_b2
  obtain ⟨n1_3, y1_3, q1_3, eq1_3, r1_3⟩ := hx1 3 _ rfl
  simp only [List.getElem?_cons_zero, List.getElem?_cons_succ, Option.some.injEq] at eq1_3; subst eq1_3
  obtain ⟨b3A, b3n, b3c, b3, e_b3, f_b3, g_b3, m_b3, _⟩ := sl_of Try.underlying23 Try.underlying5 (by kernel_rfl) r1_3; subst e_b3
  have z_b3 : Adr W b3A b3n b3c := by
    obtain ⟨u, hu, ok⟩ := ok1 3 _ rfl
    cases hu
    exact adr_of Try.underlying23 ok
  obtain ⟨byy, rfl, rfl, rfl, f_byy⟩ := open_int Try.underlying3 (hval 2 3 v2 rfl rfl) h2
  clear hA0 hval0
  refine (walk_DiffTells a0 a1 a2 a3A a3n a3c a3 b0 b1 b2 b3A b3n b3c b3 byy W f_a0 f_a1 f_a2 f_a3 g_a3 m_a3 z_a3 f_b0 f_b1 f_b2 f_b3 g_b3 m_b3 z_b3 f_byy).mono fun e W' ⟨he, bel⟩ => ?_
  subst he
  exact ⟨_, rfl, _, _, _, [], _, [], hW', trodAll_mk1 (shut_bool Try.underlying4 _), (trodAll_cons_mk (Below.trod laidOut (by kernel_rfl) (of_decide_eq_true (by kernel_rfl)) k0 bel lt0) (trodAll_cons_mk (Below.trod laidOut (by kernel_rfl) (of_decide_eq_true (by kernel_rfl)) k1 bel lt1) (trodAll_cons_mk (Below.trod laidOut (by kernel_rfl) (of_decide_eq_true (by kernel_rfl)) k2 bel lt2) trodAll_mk0))), rfl, bel.frame _, fun h => by cases h⟩

theorem over_DiffTells : Rows.diffTellsRow.holds Try.pinned (OpenSpec.ofChange Rows.diffTellsSpec) :=
  OpenClaim.holds_of_wide 5 Try.f5 rfl rfl rfl rfl rfl rfl rfl ⟨rfl, rfl, rfl, rfl, rfl⟩ rfl rfl rfl rfl rfl (by kernel_rfl) Try.func5 (by kernel_rfl)
    (of_decide_eq_true (by kernel_rfl)) (by unfold Func.isWrapper; first | (rw [if_pos (by decide +kernel)]; kernel_rfl) | (rw [if_neg (by decide +kernel)]; exact ⟨rfl, rfl⟩))
    (fun os started H enc _ => lifted_DiffTells os started H enc)

theorem diffTells_holds : Rows.DiffTellsSaid := over_DiffTells
#print axioms diffTells_holds
end Go.Proofs.Ytkenkpbkaeoifaa
