/- The statement CodecWrites, for every input: the law's walk (YtocboijpmmlegaaDoorS7), lifted to the row. No condition. -/
import Derived.Test.YtocboijpmmlegaaDoorS7
import Derived.Test.YtocboijpmmlegaaDoorFr
import Derived.Test.YtocboijpmmlegaaDoorGL
import Derived.Test.YtocboijpmmlegaaDoorTie
import Derived.Test.YtocboijpmmlegaaDoorCards
import Derived.LaidMore
import Derived.OpenShut
import Derived.SevenTiedAt
namespace Go.Proofs.YtocboijpmmlegaaDoor
open Go.ChangeShapes Go.WideShapes Go.ChangeAt Go.RowKit Go.Deep
open Go.ChangeMaps (open_string shut_string)
set_option linter.unusedVariables false
set_option linter.unusedSimpArgs false

set_option maxRecDepth 100000 in
theorem gl_of_laid {W : World} (h : laidMetH Tryd.prog (Rows.codecWritesRow.laid) W) : GL W NoO := by
  rw [MakeChecks.laidMetH_plain _ _ _ (by kernel_rfl)] at h
  obtain ⟨ps, ⟨g0, t0, cs0, f0, p0, q0, hg0, ht0, hv0, hd0, ⟨g1, t1, cs1, f1, p1, q1, hg1, ht1, hv1, hd1, ⟨g2, t2, cs2, f2, p2, q2, hg2, ht2, hv2, hd2, _, _⟩, _⟩, _⟩, _, _⟩ := h
  obtain rfl := Option.some.inj ((show Tryd.prog.globalNamed "math/bits.deBruijn32tab" = some 1 by kernel_rfl).symm.trans hg0)
  obtain rfl := Option.some.inj ((show (Tryd.prog.globals[1]?).map (·.type) = some 131 by kernel_rfl).symm.trans ht0)
  have c0 := laid_ints (n := 32) (k := .u8) (xs := [0, 1, 28, 2, 29, 14, 24, 3, 30, 22, 20, 15, 25, 17, 4, 8, 31, 27, 13, 23, 21, 19, 16, 7, 26, 12, 18, 6, 11, 5, 10, 9]) (show Tryd.prog.underlying 131 = some (.array 32 5) by kernel_rfl) (show Tryd.prog.underlying 5 = some (.int .u8) by kernel_rfl) (by kernel_rfl) (by kernel_rfl) hd0
  have k0 := laid_cells hg0 hv0 c0
  obtain rfl := Option.some.inj ((show Tryd.prog.globalNamed "math/bits.deBruijn64tab" = some 2 by kernel_rfl).symm.trans hg1)
  obtain rfl := Option.some.inj ((show (Tryd.prog.globals[2]?).map (·.type) = some 132 by kernel_rfl).symm.trans ht1)
  have c1 := laid_ints (n := 64) (k := .u8) (xs := [0, 1, 56, 2, 57, 49, 28, 3, 61, 58, 42, 50, 38, 29, 17, 4, 62, 47, 59, 36, 45, 43, 51, 22, 53, 39, 33, 30, 24, 18, 12, 5, 63, 55, 48, 27, 60, 41, 37, 16, 46, 35, 44, 21, 52, 32, 23, 11, 54, 26, 40, 15, 34, 20, 31, 10, 25, 14, 19, 9, 13, 8, 7, 6]) (show Tryd.prog.underlying 132 = some (.array 64 5) by kernel_rfl) (show Tryd.prog.underlying 5 = some (.int .u8) by kernel_rfl) (by kernel_rfl) (by kernel_rfl) hd1
  have k1 := laid_cells hg1 hv1 c1
  obtain rfl := Option.some.inj ((show Tryd.prog.globalNamed "internal/strconv.uint64pow10" = some 0 by kernel_rfl).symm.trans hg2)
  obtain rfl := Option.some.inj ((show (Tryd.prog.globals[0]?).map (·.type) = some 126 by kernel_rfl).symm.trans ht2)
  have c2 := laid_ints (n := 20) (k := .u64) (xs := [1, 10, 100, 1000, 10000, 100000, 1000000, 10000000, 100000000, 1000000000, 10000000000, 100000000000, 1000000000000, 10000000000000, 100000000000000, 1000000000000000, 10000000000000000, 100000000000000000, 1000000000000000000, 10000000000000000000]) (show Tryd.prog.underlying 126 = some (.array 20 64) by kernel_rfl) (show Tryd.prog.underlying 64 = some (.int .u64) by kernel_rfl) (by kernel_rfl) (by kernel_rfl) hd2
  have k2 := laid_cells hg2 hv2 c2
  intro t ht
  rcases List.mem_cons.1 ht with rfl | ht
  · exact k2
  rcases List.mem_cons.1 ht with rfl | ht
  · exact k0
  rcases List.mem_cons.1 ht with rfl | ht
  · exact k1
  cases ht
theorem walk_CodecWrites (kind : Int) (m0 : Int) (m1 : Int) (m2 : Int) (m3A : Option Addr) (m3n m3c : Nat) (m3 : List Int) (W : World) (f_kind : (Lit.int .i64 kind).wf = true) (f_m0 : (Lit.int .i64 m0).wf = true) (f_m1 : (Lit.int .i64 m1).wf = true) (f_m2 : (Lit.int .i64 m2).wf = true) (f_m3 : Sl W .u8 W.heap.size m3A m3n m3) (g_m3 : m3n ≤ m3c) (m_m3 : m3c ≤ maxLen) (z_m3 : Adr W m3A m3n m3c) (hgl : GL W NoO) :
    Calls Tryd.prog 6 #[.int .i64 kind, .agg #[.int .i64 m0, .int .i64 m1, .int .i64 m2, .slice m3A m3n m3c]] W fun e W' => e = .returned (.bool true) ∧ Below W.heap.size W W' :=
  walk_CodecWrites' kind m0 m1 m2 m3 (bytes_of f_m3.wf) W hgl (crel_cons (.int _ _) (crel_cons (rep_fields (crel_cons (.int _ _) (crel_cons (.int _ _) (crel_cons (.int _ _) (crel_cons (rep_sl f_m3 g_m3 m_m3 z_m3) crel_nil))))) crel_nil))

abbrev laid_CodecWrites : List (String × DataW Unit) := Rows.codecWritesRow.laid
set_option maxRecDepth 100000 in
theorem door_CodecWrites (os : Os) (args : Array Value) : laidMetH Tryd.prog laid_CodecWrites ((World.doorLaid Tryd.prog 400 os).forCall (fun _ _ => 0) ⟨#[], args, []⟩).memory :=
  laidMetH_of_parts3 (fuel := 8) (laidMet_of_run' 8 (by kernel_rfl) (by kernel_rfl)) (by kernel_rfl) (by kernel_rfl)
set_option maxRecDepth 100000 in
set_option maxHeartbeats 1000000 in
theorem lifted_CodecWrites (os : Os) (started : os.Started) (H : Type) (enc : TypeId × Value → H) :
    ReturnsInHanded {} Tryd.checked os 6 .any (fun w args => (Rows.codecWritesSpec.pre enc Tryd.prog Tryd.f6 [] false w args ∧ laidMetH Tryd.prog laid_CodecWrites w) ∧ sizedMet enc Tryd.prog Tryd.f6 (OpenSpec.ofChange Rows.codecWritesSpec) false w args) (Rows.codecWritesSpec.post enc Tryd.prog Tryd.f6 false true false false) := by
  refine returnsInHanded_of_change_and (C := Tryd.checked) (X := fun w _ => laidMetH Tryd.prog laid_CodecWrites w) (fun _ _ _ hh h => h.of_heap hh) own started (by kernel_rfl) Tryd.func6
    (ChangeSpec.witness_shaped (enc := enc) (C := Tryd.checked) (os := os) (X := fun w _ => laidMetH Tryd.prog laid_CodecWrites w) false (World.doorLaid Tryd.prog 400 os) #[.int .i64 0, .agg #[.int .i64 0, .int .i64 0, .int .i64 0, .slice none 0 0]] 8 rfl (World.shaped_of_RefB (by kernel_rfl) (by kernel_rfl)) (by kernel_rfl) (by kernel_rfl) (by kernel_rfl) (door_CodecWrites os _)) ?_
  intro W base args ds gs before hval0 hW hcnd _ hL _
  have hval : ∀ (j : Nat) t v, Tryd.f6.params[j]? = some t → args[j]? = some v → Value.okWide Tryd.prog W .any base t v := hval0
  have hW' := hW
  obtain ⟨p, q, hA0, hV, rfl, hfz, hnd⟩ := hW
  have hA : DataW.TrodAll enc Tryd.prog W 0 (fun _ => true) true Tryd.f6.params.toList args.toList ds p := hA0
  rw [Tryd.params6] at hA hval
  obtain ⟨v0, vs0, d0, ds0, p0, q0, hargs, rfl, rfl, h0, rr0⟩ := trodAll_cons hA
  obtain ⟨v1, vs1, d1, ds1, p1, q1, rfl, rfl, rfl, h1, rr1⟩ := trodAll_cons rr0
  obtain ⟨rfl, rfl, rfl⟩ := trodAll_nil rr1
  obtain rfl : args = #[v0, v1] := by cases args; simp_all
  obtain ⟨rfl, rfl⟩ := trodVars_none hV
  have k0 := h0
  have lt0 : ∀ x ∈ p0, x.block < W.heap.size := by obtain ⟨m, hm⟩ := k0; exact DataW.trod_lt m _ _ _ hm
  have k1 := h1
  have lt1 : ∀ x ∈ p1, x.block < W.heap.size := by obtain ⟨m, hm⟩ := k1; exact DataW.trod_lt m _ _ _ hm
  obtain ⟨kind, rfl, rfl, rfl, f_kind⟩ := open_int Tryd.underlying3 (hval 0 3 v0 rfl rfl) h0
  obtain ⟨l1, rfl, hl1, hx1⟩ := open_fields Tryd.underlying24 (by kernel_rfl) (by kernel_rfl) (hval 1 24 v1 rfl rfl) h1
  obtain ⟨x1_0, x1_1, x1_2, x1_3, rfl⟩ := list4 hl1
  have ok1 := okWide_cells (ts := [3, 3, 3, 22]) Tryd.underlying24 (by kernel_rfl) (hval 1 24 _ rfl rfl)
  obtain ⟨n1_0, y1_0, q1_0, eq1_0, r1_0⟩ := hx1 0 _ rfl
  simp only [List.getElem?_cons_zero, List.getElem?_cons_succ, Option.some.injEq] at eq1_0; subst eq1_0
  obtain ⟨m0, e_m0, _, f_m0⟩ := DataW.trod_int Tryd.underlying3 r1_0; simp only [List.cons.injEq, and_true] at e_m0; subst e_m0
  obtain ⟨n1_1, y1_1, q1_1, eq1_1, r1_1⟩ := hx1 1 _ rfl
  simp only [List.getElem?_cons_zero, List.getElem?_cons_succ, Option.some.injEq] at eq1_1; subst eq1_1
  obtain ⟨m1, e_m1, _, f_m1⟩ := DataW.trod_int Tryd.underlying3 r1_1; simp only [List.cons.injEq, and_true] at e_m1; subst e_m1
  obtain ⟨n1_2, y1_2, q1_2, eq1_2, r1_2⟩ := hx1 2 _ rfl
  simp only [List.getElem?_cons_zero, List.getElem?_cons_succ, Option.some.injEq] at eq1_2; subst eq1_2
  obtain ⟨m2, e_m2, _, f_m2⟩ := DataW.trod_int Tryd.underlying3 r1_2; simp only [List.cons.injEq, and_true] at e_m2; subst e_m2
  obtain ⟨n1_3, y1_3, q1_3, eq1_3, r1_3⟩ := hx1 3 _ rfl
  simp only [List.getElem?_cons_zero, List.getElem?_cons_succ, Option.some.injEq] at eq1_3; subst eq1_3
  obtain ⟨m3A, m3n, m3c, m3, e_m3, f_m3, g_m3, m_m3, _⟩ := sl_of Tryd.underlying22 Tryd.underlying5 (by kernel_rfl) r1_3; subst e_m3
  have z_m3 : Adr W m3A m3n m3c := by
    obtain ⟨u, hu, ok⟩ := ok1 3 _ rfl
    cases hu
    exact adr_of Tryd.underlying22 ok
  clear hA0 hval0
  refine (walk_CodecWrites kind m0 m1 m2 m3A m3n m3c m3 W f_kind f_m0 f_m1 f_m2 f_m3 g_m3 m_m3 z_m3 (gl_of_laid hL)).mono fun e W' ⟨he, bel⟩ => ?_
  subst he
  exact ⟨_, rfl, _, _, _, [], _, [], hW', trodAll_mk1 (shut_bool Tryd.underlying4 _), (trodAll_cons_mk (Below.trod laidOut (by kernel_rfl) (of_decide_eq_true (by kernel_rfl)) k0 bel lt0) (trodAll_cons_mk (Below.trod laidOut (by kernel_rfl) (of_decide_eq_true (by kernel_rfl)) k1 bel lt1) trodAll_mk0)), rfl, bel.frame _, fun h => by cases h⟩

theorem over_CodecWrites : Rows.codecWritesRow.holds Tryd.pinned (OpenSpec.ofChange Rows.codecWritesSpec) :=
  OpenClaim.holds_of_wide 6 Tryd.f6 rfl rfl rfl rfl rfl rfl rfl ⟨rfl, rfl, rfl, rfl, rfl⟩ rfl rfl rfl rfl rfl (by kernel_rfl) Tryd.func6 (by kernel_rfl)
    (of_decide_eq_true (by kernel_rfl)) (by unfold Func.isWrapper; first | (rw [if_pos (by decide +kernel)]; kernel_rfl) | (rw [if_neg (by decide +kernel)]; exact ⟨rfl, rfl⟩))
    (fun os started H enc _ => lifted_CodecWrites os started H enc)

theorem codecWrites_row : Rows.CodecWritesSaid := over_CodecWrites
theorem codecWrites_holds : Rows.CodecWritesCardSaid :=
  Claim7.holds_tied_plain_at .later [] [.data, .data, .data] true (true, "6238438ad9df1242919ee95e8336ce5afbf7385881141f9bb6acd6e8141031f9") false
    codecWrites_row (fun _ h => by cases h) (by kernel_rfl) (fun _ h => by cases h) codecWrites_row_tie rfl ⟨rfl, rfl⟩ (by kernel_rfl) rfl
    (fun f fn hf hfn => by
      obtain rfl : f = 6 := Option.some.inj ((show Tryd.prog.funcNamed "anamorph/anamorphlaw17.CodecWrites" = some 6 by kernel_rfl).symm.trans hf) |>.symm
      obtain rfl : fn = Tryd.f6 := (Option.some.inj (Tryd.func6.symm.trans hfn)).symm
      exact ⟨by kernel_rfl, fun j t ht => by
        rw [Tryd.params6] at ht
        have hm : t ∈ [3, 24] := by simpa using Array.mem_of_getElem? ht
        have hall : ([3, 24].all fun u => !Tryd.prog.wantsStandIn u) = true := by kernel_rfl
        exact (show Tryd.prog.wantsStandIn t = false by simpa using List.all_eq_true.1 hall t hm)⟩)
    (by kernel_rfl)
#print axioms codecWrites_holds
end Go.Proofs.YtocboijpmmlegaaDoor
