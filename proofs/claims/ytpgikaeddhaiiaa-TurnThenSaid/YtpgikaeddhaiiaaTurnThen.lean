/- The statement TurnThen, for every input: the law's walk (YtpgikaeddhaiiaaV23i), lifted to the row. No condition. -/
import Derived.Test.YtpgikaeddhaiiaaV23i
import Derived.Test.YtpgikaeddhaiiaaFr
namespace Go.Proofs.Ytpgikaeddhaiiaa
open Go.ChangeShapes Go.WideShapes Go.ChangeAt Go.RowKit Go.Deep
open Go.ChangeMaps (open_string shut_string)
set_option linter.unusedVariables false
set_option linter.unusedSimpArgs false

theorem walk_TurnThen (m0 : Int) (m1 : Int) (m2 : Int) (m3A : Option Addr) (m3n m3c : Nat) (m3 : List Int) (a : Int) (b : Int) (W : World) (f_m0 : (Lit.int .i64 m0).wf = true) (f_m1 : (Lit.int .i64 m1).wf = true) (f_m2 : (Lit.int .i64 m2).wf = true) (f_m3 : Sl W .u8 W.heap.size m3A m3n m3) (g_m3 : m3n ≤ m3c) (m_m3 : m3c ≤ maxLen) (z_m3 : Adr W m3A m3n m3c) (f_a : (Lit.int .i64 a).wf = true) (f_b : (Lit.int .i64 b).wf = true) :
    Calls Try.prog 11 #[.agg #[.int .i64 m0, .int .i64 m1, .int .i64 m2, .slice m3A m3n m3c], .int .i64 a, .int .i64 b] W fun e W' => e = .returned (.bool true) ∧ Below W.heap.size W W' :=
  walk_TurnThen' m0 m1 m2 m3 a b W (crel_cons (rep_fields (crel_cons (.int _ _) (crel_cons (.int _ _) (crel_cons (.int _ _) (crel_cons (rep_sl f_m3 g_m3 m_m3 z_m3) crel_nil))))) (crel_cons (.int _ _) (crel_cons (.int _ _) crel_nil)))

set_option maxRecDepth 100000 in
set_option maxHeartbeats 1000000 in
theorem lifted_TurnThen (os : Os) (started : os.Started) (H : Type) (enc : TypeId × Value → H) :
    ReturnsInHanded {} Try.checked os 11 .any (Rows.turnThenSpec.pre6 enc Try.prog Try.f11 Rows.turnThenRow.domain false) (Rows.turnThenSpec.post enc Try.prog Try.f11 false true false false) := by
  refine returnsInHanded_of_change (C := Try.checked) own started (by kernel_rfl) Try.func11
    (ChangeSpec.witness6 (enc := enc) (C := Try.checked) false ⟨#[], #[.agg #[.int .i64 0, .int .i64 0, .int .i64 0, .slice none 0 0], .int .i64 0, .int .i64 0], []⟩ 8 (by kernel_rfl) (by kernel_rfl) (by kernel_rfl) (by kernel_rfl)) ?_
  intro W base args ds gs before hval0 hW hcnd _
  have hval : ∀ (j : Nat) t v, Try.f11.params[j]? = some t → args[j]? = some v → Value.okWide Try.prog W .any base t v := hval0
  have hW' := hW
  obtain ⟨p, q, hA0, hV, rfl, hfz, hnd⟩ := hW
  have hA : DataW.TrodAll enc Try.prog W 0 (fun _ => true) true Try.f11.params.toList args.toList ds p := hA0
  rw [Try.params11] at hA hval
  obtain ⟨v0, vs0, d0, ds0, p0, q0, hargs, rfl, rfl, h0, rr0⟩ := trodAll_cons hA
  obtain ⟨v1, vs1, d1, ds1, p1, q1, rfl, rfl, rfl, h1, rr1⟩ := trodAll_cons rr0
  obtain ⟨v2, vs2, d2, ds2, p2, q2, rfl, rfl, rfl, h2, rr2⟩ := trodAll_cons rr1
  obtain ⟨rfl, rfl, rfl⟩ := trodAll_nil rr2
  obtain rfl : args = #[v0, v1, v2] := by cases args; simp_all
  obtain ⟨rfl, rfl⟩ := trodVars_none hV
  have k0 := h0
  have lt0 : ∀ x ∈ p0, x.block < W.heap.size := by obtain ⟨m, hm⟩ := k0; exact DataW.trod_lt m _ _ _ hm
  have k1 := h1
  have lt1 : ∀ x ∈ p1, x.block < W.heap.size := by obtain ⟨m, hm⟩ := k1; exact DataW.trod_lt m _ _ _ hm
  have k2 := h2
  have lt2 : ∀ x ∈ p2, x.block < W.heap.size := by obtain ⟨m, hm⟩ := k2; exact DataW.trod_lt m _ _ _ hm
  obtain ⟨l0, rfl, hl0, hx0⟩ := open_fields Try.underlying32 (by kernel_rfl) (by kernel_rfl) (hval 0 32 v0 rfl rfl) h0
  obtain ⟨x0_0, x0_1, x0_2, x0_3, rfl⟩ := list4 hl0
  have ok0 := okWide_cells (ts := [3, 3, 3, 28]) Try.underlying32 (by kernel_rfl) (hval 0 32 _ rfl rfl)
  obtain ⟨n0_0, y0_0, q0_0, eq0_0, r0_0⟩ := hx0 0 _ rfl
  simp only [List.getElem?_cons_zero, List.getElem?_cons_succ, Option.some.injEq] at eq0_0; subst eq0_0
  obtain ⟨m0, e_m0, _, f_m0⟩ := DataW.trod_int Try.underlying3 r0_0; simp only [List.cons.injEq, and_true] at e_m0; subst e_m0
  obtain ⟨n0_1, y0_1, q0_1, eq0_1, r0_1⟩ := hx0 1 _ rfl
  simp only [List.getElem?_cons_zero, List.getElem?_cons_succ, Option.some.injEq] at eq0_1; subst eq0_1
  obtain ⟨m1, e_m1, _, f_m1⟩ := DataW.trod_int Try.underlying3 r0_1; simp only [List.cons.injEq, and_true] at e_m1; subst e_m1
  obtain ⟨n0_2, y0_2, q0_2, eq0_2, r0_2⟩ := hx0 2 _ rfl
  simp only [List.getElem?_cons_zero, List.getElem?_cons_succ, Option.some.injEq] at eq0_2; subst eq0_2
  obtain ⟨m2, e_m2, _, f_m2⟩ := DataW.trod_int Try.underlying3 r0_2; simp only [List.cons.injEq, and_true] at e_m2; subst e_m2
  obtain ⟨n0_3, y0_3, q0_3, eq0_3, r0_3⟩ := hx0 3 _ rfl
  simp only [List.getElem?_cons_zero, List.getElem?_cons_succ, Option.some.injEq] at eq0_3; subst eq0_3
  obtain ⟨m3A, m3n, m3c, m3, e_m3, f_m3, g_m3, m_m3, _⟩ := sl_of Try.underlying28 Try.underlying5 (by kernel_rfl) r0_3; subst e_m3
  have z_m3 : Adr W m3A m3n m3c := by
    obtain ⟨u, hu, ok⟩ := ok0 3 _ rfl
    cases hu
    exact adr_of Try.underlying28 ok
  obtain ⟨a, rfl, rfl, rfl, f_a⟩ := open_int Try.underlying3 (hval 1 3 v1 rfl rfl) h1
  obtain ⟨b, rfl, rfl, rfl, f_b⟩ := open_int Try.underlying3 (hval 2 3 v2 rfl rfl) h2
  clear hA0 hval0
  refine (walk_TurnThen m0 m1 m2 m3A m3n m3c m3 a b W f_m0 f_m1 f_m2 f_m3 g_m3 m_m3 z_m3 f_a f_b).mono fun e W' ⟨he, bel⟩ => ?_
  subst he
  exact ⟨_, rfl, _, _, _, [], _, [], hW', trodAll_mk1 (shut_bool Try.underlying4 _), (trodAll_cons_mk (Below.trod laidOut (by kernel_rfl) (of_decide_eq_true (by kernel_rfl)) k0 bel lt0) (trodAll_cons_mk (Below.trod laidOut (by kernel_rfl) (of_decide_eq_true (by kernel_rfl)) k1 bel lt1) (trodAll_cons_mk (Below.trod laidOut (by kernel_rfl) (of_decide_eq_true (by kernel_rfl)) k2 bel lt2) trodAll_mk0))), rfl, bel.frame _, fun h => by cases h⟩

theorem over_TurnThen : Rows.turnThenRow.holds Try.pinned (OpenSpec.ofChange Rows.turnThenSpec) :=
  OpenClaim.holds_of_wide 11 Try.f11 rfl rfl rfl rfl rfl rfl rfl ⟨rfl, rfl, rfl, rfl, rfl⟩ rfl rfl rfl rfl rfl (by kernel_rfl) Try.func11 (by kernel_rfl)
    (of_decide_eq_true (by kernel_rfl)) (by unfold Func.isWrapper; first | (rw [if_pos (by decide +kernel)]; kernel_rfl) | (rw [if_neg (by decide +kernel)]; exact ⟨rfl, rfl⟩))
    (fun os started H enc _ => lifted_TurnThen os started H enc)

theorem turnThen_holds : Rows.TurnThenSaid := over_TurnThen
#print axioms turnThen_holds
end Go.Proofs.Ytpgikaeddhaiiaa
