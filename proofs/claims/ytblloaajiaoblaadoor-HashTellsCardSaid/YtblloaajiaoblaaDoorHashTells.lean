/- The statement HashTells, for every input: the law's walk (YtblloaajiaoblaaDoorS2), lifted to the row. No condition. -/
import Derived.Test.YtblloaajiaoblaaDoorS2
import Derived.Test.YtblloaajiaoblaaDoorFr
import Derived.Test.YtblloaajiaoblaaDoorGL
import Derived.Test.YtblloaajiaoblaaDoorTie
import Derived.Test.YtblloaajiaoblaaDoorCards
import Derived.LaidMore
import Derived.LaidLaws
import Derived.Stop.LaidErr
import Derived.OpenShut
import Derived.SevenTiedAt
namespace Go.Proofs.YtblloaajiaoblaaDoor
open Go.ChangeShapes Go.WideShapes Go.ChangeAt Go.RowKit Go.Deep
open Go.ChangeMaps (open_string shut_string)
set_option linter.unusedVariables false
set_option linter.unusedSimpArgs false

set_option maxRecDepth 100000 in
theorem sent_star : "*" ++ "errors.errorString" = "*errors.errorString" := by decide
theorem sent_row (u : TypeId) (h : Tryd.prog.typeName? 3 u = some "*errors.errorString") : u = 134 :=
  typeName_ptr_named (nm := "errors.errorString") (by rw [sent_star]; kernel_rfl) (by kernel_rfl) (by decide) u (by rw [sent_star]; exact h)
theorem laid_var {P : Program} {W : World} {nm : String} {g : Nat} {te : TypeId} {pe : Value} (hg : P.globalNamed nm = some g) (hv : W.var? P nm = some #[.iface te pe]) :
    g < W.heap.size ∧ ¬ NoO g ∧ ∃ te pe ty fr, W.heap[g]? = some (.cells #[.iface te pe] ty fr) := by
  simp only [World.var?, hg, Option.bind_some] at hv
  split at hv
  · rename_i cs ty fr hh
    simp only [Option.some.injEq] at hv
    subst hv
    exact ⟨(Array.getElem?_eq_some_iff.1 hh).1, fun h => h.elim, te, pe, ty, fr, hh⟩
  · cases hv
set_option maxRecDepth 100000 in
theorem gl_of_laid {W : World} (h : laidMetH Tryd.prog (Rows.hashTellsRow.laid) W) : GL W NoO := by
  rw [MakeChecks.laidMetH_plain _ _ _ (by kernel_rfl)] at h
  obtain ⟨a0, s0, hs0, _, _, _⟩ := laid_sentinel (g := 1) (ti := 56) (tp := 134) (te := 136) (ts := 9) h.tail.tail.tail (by kernel_rfl) (by kernel_rfl) Tryd.underlying56 sent_row Tryd.underlying134 Tryd.underlying136 rfl rfl Tryd.underlying9 (by kernel_rfl) (by kernel_rfl)
  have w0 := laid_var (g := 1) (by kernel_rfl) hs0
  obtain ⟨a1, s1, hs1, _, _, _⟩ := laid_sentinel (g := 0) (ti := 56) (tp := 134) (te := 136) (ts := 9) h.tail.tail.tail.tail (by kernel_rfl) (by kernel_rfl) Tryd.underlying56 sent_row Tryd.underlying134 Tryd.underlying136 rfl rfl Tryd.underlying9 (by kernel_rfl) (by kernel_rfl)
  have w1 := laid_var (g := 0) (by kernel_rfl) hs1
  obtain ⟨ps, ⟨g0, t0, cs0, f0, p0, q0, hg0, ht0, hv0, hd0, ⟨g1, t1, cs1, f1, p1, q1, hg1, ht1, hv1, hd1, ⟨g2, t2, cs2, f2, p2, q2, hg2, ht2, hv2, hd2, _, _⟩, _⟩, _⟩, _, _⟩ := h
  obtain rfl := Option.some.inj ((show Tryd.prog.globalNamed "math/bits.deBruijn32tab" = some 4 by kernel_rfl).symm.trans hg0)
  obtain rfl := Option.some.inj ((show (Tryd.prog.globals[4]?).map (·.type) = some 138 by kernel_rfl).symm.trans ht0)
  have c0 := laid_ints (n := 32) (k := .u8) (xs := [0, 1, 28, 2, 29, 14, 24, 3, 30, 22, 20, 15, 25, 17, 4, 8, 31, 27, 13, 23, 21, 19, 16, 7, 26, 12, 18, 6, 11, 5, 10, 9]) (show Tryd.prog.underlying 138 = some (.array 32 5) by kernel_rfl) (show Tryd.prog.underlying 5 = some (.int .u8) by kernel_rfl) (by kernel_rfl) (by kernel_rfl) hd0
  have k0 := laid_cells hg0 hv0 c0
  obtain rfl := Option.some.inj ((show Tryd.prog.globalNamed "math/bits.deBruijn64tab" = some 5 by kernel_rfl).symm.trans hg1)
  obtain rfl := Option.some.inj ((show (Tryd.prog.globals[5]?).map (·.type) = some 139 by kernel_rfl).symm.trans ht1)
  have c1 := laid_ints (n := 64) (k := .u8) (xs := [0, 1, 56, 2, 57, 49, 28, 3, 61, 58, 42, 50, 38, 29, 17, 4, 62, 47, 59, 36, 45, 43, 51, 22, 53, 39, 33, 30, 24, 18, 12, 5, 63, 55, 48, 27, 60, 41, 37, 16, 46, 35, 44, 21, 52, 32, 23, 11, 54, 26, 40, 15, 34, 20, 31, 10, 25, 14, 19, 9, 13, 8, 7, 6]) (show Tryd.prog.underlying 139 = some (.array 64 5) by kernel_rfl) (show Tryd.prog.underlying 5 = some (.int .u8) by kernel_rfl) (by kernel_rfl) (by kernel_rfl) hd1
  have k1 := laid_cells hg1 hv1 c1
  obtain rfl := Option.some.inj ((show Tryd.prog.globalNamed "internal/strconv.uint64pow10" = some 2 by kernel_rfl).symm.trans hg2)
  obtain rfl := Option.some.inj ((show (Tryd.prog.globals[2]?).map (·.type) = some 130 by kernel_rfl).symm.trans ht2)
  have c2 := laid_ints (n := 20) (k := .u64) (xs := [1, 10, 100, 1000, 10000, 100000, 1000000, 10000000, 100000000, 1000000000, 10000000000, 100000000000, 1000000000000, 10000000000000, 100000000000000, 1000000000000000, 10000000000000000, 100000000000000000, 1000000000000000000, 10000000000000000000]) (show Tryd.prog.underlying 130 = some (.array 20 23) by kernel_rfl) (show Tryd.prog.underlying 23 = some (.int .u64) by kernel_rfl) (by kernel_rfl) (by kernel_rfl) hd2
  have k2 := laid_cells hg2 hv2 c2
  refine ⟨fun t ht => ?_, fun g hg => ?_⟩
  rotate_left
  · rcases List.mem_cons.1 hg with rfl | hg
    · exact w1
    rcases List.mem_cons.1 hg with rfl | hg
    · exact w0
    cases hg
  rcases List.mem_cons.1 ht with rfl | ht
  · exact k2
  rcases List.mem_cons.1 ht with rfl | ht
  · exact k0
  rcases List.mem_cons.1 ht with rfl | ht
  · exact k1
  cases ht
theorem walk_HashTells (m0 : Int) (m1 : Int) (m2 : Int) (m3A : Option Addr) (m3n m3c : Nat) (m3 : List Int) (x : Int) (s : ByteArray) (W : World) (f_m0 : (Lit.int .i64 m0).wf = true) (f_m1 : (Lit.int .i64 m1).wf = true) (f_m2 : (Lit.int .i64 m2).wf = true) (f_m3 : Sl W .u8 W.heap.size m3A m3n m3) (g_m3 : m3n ≤ m3c) (m_m3 : m3c ≤ maxLen) (z_m3 : Adr W m3A m3n m3c) (f_x : (Lit.int .u64 x).wf = true) (f_s : s.size ≤ maxLen) (hgl : GL W NoO) :
    Calls Tryd.prog 5 #[.agg #[.int .i64 m0, .int .i64 m1, .int .i64 m2, .slice m3A m3n m3c], .int .u64 x, .string s] W fun e W' => e = .returned (.bool true) ∧ Below W.heap.size W W' :=
  walk_HashTells' m0 m1 m2 m3 x s.data.toList f_m3.wf f_x W hgl (crel_cons (rep_fields (crel_cons (.int _ _) (crel_cons (.int _ _) (crel_cons (.int _ _) (crel_cons (rep_sl f_m3 g_m3 m_m3 z_m3) crel_nil))))) (crel_cons (.int _ _) (crel_cons (rep_string _) crel_nil)))

abbrev laid_HashTells : List (String × DataW Unit) := Rows.hashTellsRow.laid
set_option maxRecDepth 100000 in
theorem door_HashTells (os : Os) (args : Array Value) : laidMetH Tryd.prog laid_HashTells ((World.doorLaid Tryd.prog 400 os).forCall (fun _ _ => 0) ⟨#[], args, []⟩).memory :=
  laidMetH_of_parts3 (fuel := 8) (laidMet_of_run' 8 (by kernel_rfl) (by kernel_rfl)) (by kernel_rfl) (by kernel_rfl)
set_option maxRecDepth 100000 in
set_option maxHeartbeats 1000000 in
theorem lifted_HashTells (os : Os) (started : os.Started) (H : Type) (enc : TypeId × Value → H) :
    ReturnsInHanded {} Tryd.checked os 5 .any (fun w args => (Rows.hashTellsSpec.pre enc Tryd.prog Tryd.f5 [] false w args ∧ laidMetH Tryd.prog laid_HashTells w) ∧ sizedMet enc Tryd.prog Tryd.f5 (OpenSpec.ofChange Rows.hashTellsSpec) false w args) (Rows.hashTellsSpec.post enc Tryd.prog Tryd.f5 false true false false) := by
  refine returnsInHanded_of_change_and (C := Tryd.checked) (X := fun w _ => laidMetH Tryd.prog laid_HashTells w) (fun _ _ _ hh h => h.of_heap hh) own started (by kernel_rfl) Tryd.func5
    (ChangeSpec.witness_shaped (enc := enc) (C := Tryd.checked) (os := os) (X := fun w _ => laidMetH Tryd.prog laid_HashTells w) false (World.doorLaid Tryd.prog 400 os) #[.agg #[.int .i64 0, .int .i64 0, .int .i64 0, .slice none 0 0], .int .u64 0, .string ByteArray.empty] 8 rfl (World.shaped_of_RefB (by kernel_rfl) (by kernel_rfl)) (by kernel_rfl) (by kernel_rfl) (by kernel_rfl) (door_HashTells os _)) ?_
  intro W base args ds gs before hval0 hW hcnd hZ hL _
  have hval : ∀ (j : Nat) t v, Tryd.f5.params[j]? = some t → args[j]? = some v → Value.okWide Tryd.prog W .any base t v := hval0
  have hW' := hW
  obtain ⟨p, q, hA0, hV, rfl, hfz, hnd⟩ := hW
  have hA : DataW.TrodAll enc Tryd.prog W 0 (fun _ => true) true Tryd.f5.params.toList args.toList ds p := hA0
  rw [Tryd.params5] at hA hval
  obtain ⟨v0, vs0, d0, ds0, p0, q0, hargs, rfl, rfl, h0, rr0⟩ := trodAll_cons hA
  obtain ⟨v1, vs1, d1, ds1, p1, q1, rfl, rfl, rfl, h1, rr1⟩ := trodAll_cons rr0
  obtain ⟨v2, vs2, d2, ds2, p2, q2, rfl, rfl, rfl, h2, rr2⟩ := trodAll_cons rr1
  obtain ⟨rfl, rfl, rfl⟩ := trodAll_nil rr2
  obtain rfl : args = #[v0, v1, v2] := by cases args; simp_all
  obtain ⟨rfl, rfl⟩ := trodVars_none hV
  have k0 := h0
  have lt0 : ∀ x ∈ p0, x.block < W.heap.size := by obtain ⟨m, hm⟩ := k0; exact DataW.trod_lt m _ _ _ hm
  have k1 := h1
  have lt1 : ∀ x ∈ p1, x.block < W.heap.size := by obtain ⟨m, hm⟩ := k1; exact DataW.trod_lt m _ _ _ hm
  have k2 := h2
  have lt2 : ∀ x ∈ p2, x.block < W.heap.size := by obtain ⟨m, hm⟩ := k2; exact DataW.trod_lt m _ _ _ hm
  obtain ⟨l0, rfl, hl0, hx0⟩ := open_fields Tryd.underlying37 (by kernel_rfl) (by kernel_rfl) (hval 0 37 v0 rfl rfl) h0
  obtain ⟨x0_0, x0_1, x0_2, x0_3, rfl⟩ := list4 hl0
  have ok0 := okWide_cells (ts := [3, 3, 3, 22]) Tryd.underlying37 (by kernel_rfl) (hval 0 37 _ rfl rfl)
  obtain ⟨n0_0, y0_0, q0_0, eq0_0, r0_0⟩ := hx0 0 _ rfl
  simp only [List.getElem?_cons_zero, List.getElem?_cons_succ, Option.some.injEq] at eq0_0; subst eq0_0
  obtain ⟨m0, e_m0, _, f_m0⟩ := DataW.trod_int Tryd.underlying3 r0_0; simp only [List.cons.injEq, and_true] at e_m0; subst e_m0
  obtain ⟨n0_1, y0_1, q0_1, eq0_1, r0_1⟩ := hx0 1 _ rfl
  simp only [List.getElem?_cons_zero, List.getElem?_cons_succ, Option.some.injEq] at eq0_1; subst eq0_1
  obtain ⟨m1, e_m1, _, f_m1⟩ := DataW.trod_int Tryd.underlying3 r0_1; simp only [List.cons.injEq, and_true] at e_m1; subst e_m1
  obtain ⟨n0_2, y0_2, q0_2, eq0_2, r0_2⟩ := hx0 2 _ rfl
  simp only [List.getElem?_cons_zero, List.getElem?_cons_succ, Option.some.injEq] at eq0_2; subst eq0_2
  obtain ⟨m2, e_m2, _, f_m2⟩ := DataW.trod_int Tryd.underlying3 r0_2; simp only [List.cons.injEq, and_true] at e_m2; subst e_m2
  obtain ⟨n0_3, y0_3, q0_3, eq0_3, r0_3⟩ := hx0 3 _ rfl
  simp only [List.getElem?_cons_zero, List.getElem?_cons_succ, Option.some.injEq] at eq0_3; subst eq0_3
  obtain ⟨m3A, m3n, m3c, m3, e_m3, f_m3, g_m3, m_m3, _⟩ := sl_of Tryd.underlying22 Tryd.underlying5 (by kernel_rfl) r0_3; subst e_m3
  have z_m3 : Adr W m3A m3n m3c := by
    obtain ⟨u, hu, ok⟩ := ok0 3 _ rfl
    cases hu
    exact adr_of Tryd.underlying22 ok
  obtain ⟨x, rfl, rfl, rfl, f_x⟩ := open_int Tryd.underlying23 (hval 1 23 v1 rfl rfl) h1
  obtain ⟨s, rfl, rfl, rfl, f_s⟩ := open_string Tryd.underlying9 (hval 2 9 v2 rfl rfl) h2
  clear hA0 hval0
  refine (walk_HashTells m0 m1 m2 m3A m3n m3c m3 x s W f_m0 f_m1 f_m2 f_m3 g_m3 m_m3 z_m3 f_x f_s (gl_of_laid hL)).mono fun e W' ⟨he, bel⟩ => ?_
  subst he
  exact ⟨_, rfl, _, _, _, [], _, [], hW', trodAll_mk1 (shut_bool Tryd.underlying4 _), (trodAll_cons_mk (Below.trod laidOut (by kernel_rfl) (of_decide_eq_true (by kernel_rfl)) k0 bel lt0) (trodAll_cons_mk (Below.trod laidOut (by kernel_rfl) (of_decide_eq_true (by kernel_rfl)) k1 bel lt1) (trodAll_cons_mk (Below.trod laidOut (by kernel_rfl) (of_decide_eq_true (by kernel_rfl)) k2 bel lt2) trodAll_mk0))), rfl, bel.frame _, fun h => by cases h⟩

theorem over_HashTells : Rows.hashTellsRow.holds Tryd.pinned (OpenSpec.ofChange Rows.hashTellsSpec) :=
  OpenClaim.holds_of_wide 5 Tryd.f5 rfl rfl rfl rfl rfl rfl rfl ⟨rfl, rfl, rfl, rfl, rfl⟩ rfl rfl rfl rfl rfl (by kernel_rfl) Tryd.func5 (by kernel_rfl)
    (of_decide_eq_true (by kernel_rfl)) (by unfold Func.isWrapper; first | (rw [if_pos (by decide +kernel)]; kernel_rfl) | (rw [if_neg (by decide +kernel)]; exact ⟨rfl, rfl⟩))
    (fun os started H enc _ => lifted_HashTells os started H enc)

theorem hashTells_row : Rows.HashTellsSaid := over_HashTells
theorem hashTells_holds : Rows.HashTellsCardSaid :=
  Claim7.holds_tied_plain_at .later [] [.data, .data, .data, .sentinel, .sentinel] true (true, "2c1f8b73f42d44fb8d2612c4e00e2c574b8ffe8cb1d5cdfee8553b2aa2c28cf6") true
    hashTells_row (fun _ h => by cases h) (by kernel_rfl) (fun _ h => by cases h) hashTells_row_tie rfl ⟨rfl, rfl⟩ (by kernel_rfl) rfl
    (fun f fn hf hfn => by
      obtain rfl : f = 5 := Option.some.inj ((show Tryd.prog.funcNamed "anamorph/anamorphlaw12.HashTells" = some 5 by kernel_rfl).symm.trans hf) |>.symm
      obtain rfl : fn = Tryd.f5 := (Option.some.inj (Tryd.func5.symm.trans hfn)).symm
      exact ⟨by kernel_rfl, fun j t ht => by
        rw [Tryd.params5] at ht
        have hm : t ∈ [37, 23, 9] := by simpa using Array.mem_of_getElem? ht
        have hall : ([37, 23, 9].all fun u => !Tryd.prog.wantsStandIn u) = true := by kernel_rfl
        exact (show Tryd.prog.wantsStandIn t = false by simpa using List.all_eq_true.1 hall t hm)⟩)
    (by kernel_rfl)
#print axioms hashTells_holds
end Go.Proofs.YtblloaajiaoblaaDoor
