/- The statement ReportTexts, for every input: the law's walk (YtljdahepmmgfeaaGreatDoorS8), lifted to the row. No condition. -/
import Derived.Test.YtljdahepmmgfeaaGreatDoorS8
import Derived.Test.YtljdahepmmgfeaaGreatDoorFr
import Derived.Test.YtljdahepmmgfeaaGreatDoorGL
import Derived.Test.YtljdahepmmgfeaaGreatDoorTie
import Derived.Test.YtljdahepmmgfeaaGreatDoorCards
import Derived.LaidMore
import Derived.OpenShut
import Derived.SevenTiedAt
import Derived.Test.YtljdahepmmgfeaaGreatDoorFw
namespace Go.Proofs.YtljdahepmmgfeaaGreatDoor
open Go.ChangeShapes Go.WideShapes Go.ChangeAt Go.RowKit Go.Deep
open Go.ChangeMaps (open_string shut_string)
set_option linter.unusedVariables false
set_option linter.unusedSimpArgs false

set_option maxRecDepth 100000 in
theorem gl_of_laid {W : World} (h : laidMetH Tryz.prog (Rows.reportTextsRow.laid) W) : GL W NoO := by
  rw [MakeChecks.laidMetH_plain _ _ _ (by kernel_rfl)] at h
  obtain ⟨ps, ⟨g0, t0, cs0, f0, p0, q0, hg0, ht0, hv0, hd0, ⟨g1, t1, cs1, f1, p1, q1, hg1, ht1, hv1, hd1, ⟨g2, t2, cs2, f2, p2, q2, hg2, ht2, hv2, hd2, _, _⟩, _⟩, _⟩, _, _⟩ := h
  obtain rfl := Option.some.inj ((show Tryz.prog.globalNamed "math/bits.deBruijn32tab" = some 2 by kernel_rfl).symm.trans hg0)
  obtain rfl := Option.some.inj ((show (Tryz.prog.globals[2]?).map (·.type) = some 168 by kernel_rfl).symm.trans ht0)
  have c0 := laid_ints (n := 32) (k := .u8) (xs := [0, 1, 28, 2, 29, 14, 24, 3, 30, 22, 20, 15, 25, 17, 4, 8, 31, 27, 13, 23, 21, 19, 16, 7, 26, 12, 18, 6, 11, 5, 10, 9]) (show Tryz.prog.underlying 168 = some (.array 32 5) by kernel_rfl) (show Tryz.prog.underlying 5 = some (.int .u8) by kernel_rfl) (by kernel_rfl) (by kernel_rfl) hd0
  have k0 := laid_cells hg0 hv0 c0
  obtain rfl := Option.some.inj ((show Tryz.prog.globalNamed "math/bits.deBruijn64tab" = some 3 by kernel_rfl).symm.trans hg1)
  obtain rfl := Option.some.inj ((show (Tryz.prog.globals[3]?).map (·.type) = some 169 by kernel_rfl).symm.trans ht1)
  have c1 := laid_ints (n := 64) (k := .u8) (xs := [0, 1, 56, 2, 57, 49, 28, 3, 61, 58, 42, 50, 38, 29, 17, 4, 62, 47, 59, 36, 45, 43, 51, 22, 53, 39, 33, 30, 24, 18, 12, 5, 63, 55, 48, 27, 60, 41, 37, 16, 46, 35, 44, 21, 52, 32, 23, 11, 54, 26, 40, 15, 34, 20, 31, 10, 25, 14, 19, 9, 13, 8, 7, 6]) (show Tryz.prog.underlying 169 = some (.array 64 5) by kernel_rfl) (show Tryz.prog.underlying 5 = some (.int .u8) by kernel_rfl) (by kernel_rfl) (by kernel_rfl) hd1
  have k1 := laid_cells hg1 hv1 c1
  obtain rfl := Option.some.inj ((show Tryz.prog.globalNamed "internal/strconv.uint64pow10" = some 0 by kernel_rfl).symm.trans hg2)
  obtain rfl := Option.some.inj ((show (Tryz.prog.globals[0]?).map (·.type) = some 157 by kernel_rfl).symm.trans ht2)
  have c2 := laid_ints (n := 20) (k := .u64) (xs := [1, 10, 100, 1000, 10000, 100000, 1000000, 10000000, 100000000, 1000000000, 10000000000, 100000000000, 1000000000000, 10000000000000, 100000000000000, 1000000000000000, 10000000000000000, 100000000000000000, 1000000000000000000, 10000000000000000000]) (show Tryz.prog.underlying 157 = some (.array 20 35) by kernel_rfl) (show Tryz.prog.underlying 35 = some (.int .u64) by kernel_rfl) (by kernel_rfl) (by kernel_rfl) hd2
  have k2 := laid_cells hg2 hv2 c2
  intro t ht
  rcases List.mem_cons.1 ht with rfl | ht
  · exact k2
  rcases List.mem_cons.1 ht with rfl | ht
  · exact k0
  rcases List.mem_cons.1 ht with rfl | ht
  · exact k1
  cases ht
theorem walk_ReportTexts (rv0A : Option Addr) (rv0n rv0c : Nat) (rv0 : List (List Int)) (rv1 : Int) (rv2 : Int) (rv3 : Int) (rv4 : Int) (rv5 : Int) (rv6 : Int) (W : World) (r_rv0 : Rep noN W NoO (bsA rv0) (.slice rv0A rv0n rv0c)) (o_rv0 : ∀ l ∈ rv0, ∀ x ∈ l, (Lit.int .u8 x).wf = true) (t_rv0 : ∀ l ∈ rv0, l.length ≤ reachBytes) (f_rv1 : (Lit.int .i64 rv1).wf = true) (f_rv2 : (Lit.int .i64 rv2).wf = true) (f_rv3 : (Lit.int .i64 rv3).wf = true) (f_rv4 : (Lit.int .i64 rv4).wf = true) (f_rv5 : (Lit.int .i64 rv5).wf = true) (f_rv6 : (Lit.int .i64 rv6).wf = true) (hgl : GL W NoO) :
    Calls Tryz.prog 4 #[.agg #[.slice rv0A rv0n rv0c, .int .i64 rv1, .int .i64 rv2, .int .i64 rv3, .int .i64 rv4, .int .i64 rv5, .int .i64 rv6]] W fun e W' => e = .returned (.bool true) ∧ Below W.heap.size W W' :=
  walk_ReportTexts' rv0 rv1 rv2 rv3 rv4 rv5 rv6 o_rv0 t_rv0 f_rv1 f_rv2 f_rv3 f_rv4 W hgl (crel_cons (rep_fields (crel_cons r_rv0 (crel_cons (.int _ _) (crel_cons (.int _ _) (crel_cons (.int _ _) (crel_cons (.int _ _) (crel_cons (.int _ _) (crel_cons (.int _ _) crel_nil)))))))) crel_nil)

abbrev laid_ReportTexts : List (String × DataW Unit) := Rows.reportTextsRow.laid
set_option maxRecDepth 100000 in
theorem door_ReportTexts (os : Os) (args : Array Value) : laidMetH Tryz.prog laid_ReportTexts ((World.doorLaid Tryz.prog 400 os).forCall (fun _ _ => 0) ⟨#[], args, []⟩).memory :=
  laidMetH_of_parts3 (fuel := 8) (laidMet_of_run' 8 (by kernel_rfl) (by kernel_rfl)) (by kernel_rfl) (by kernel_rfl)
set_option maxRecDepth 100000 in
set_option maxHeartbeats 1000000 in
theorem lifted_ReportTexts (os : Os) (started : os.Started) (H : Type) (enc : TypeId × Value → H) :
    ReturnsInHanded {} Tryz.checked os 4 .any (fun w args => (Rows.reportTextsSpec.pre enc Tryz.prog Tryz.f4 [] false w args ∧ laidMetH Tryz.prog laid_ReportTexts w) ∧ sizedMet enc Tryz.prog Tryz.f4 (OpenSpec.ofChange Rows.reportTextsSpec) false w args) (Rows.reportTextsSpec.post enc Tryz.prog Tryz.f4 false true false false) := by
  refine returnsInHanded_of_change_and (C := Tryz.checked) (X := fun w _ => laidMetH Tryz.prog laid_ReportTexts w) (fun _ _ _ hh h => h.of_heap hh) own started (by kernel_rfl) Tryz.func4
    (ChangeSpec.witness_shaped (enc := enc) (C := Tryz.checked) (os := os) (X := fun w _ => laidMetH Tryz.prog laid_ReportTexts w) false (World.doorLaid Tryz.prog 400 os) #[.agg #[.slice none 0 0, .int .i64 0, .int .i64 0, .int .i64 0, .int .i64 0, .int .i64 0, .int .i64 0]] 8 rfl (World.shaped_of_RefB (by kernel_rfl) (by kernel_rfl)) (by kernel_rfl) (by kernel_rfl) (by kernel_rfl) (door_ReportTexts os _)) ?_
  intro W base args ds gs before hval0 hW hcnd hZ hL _
  have hval : ∀ (j : Nat) t v, Tryz.f4.params[j]? = some t → args[j]? = some v → Value.okWide Tryz.prog W .any base t v := hval0
  have hW' := hW
  obtain ⟨p, q, hA0, hV, rfl, hfz, hnd⟩ := hW
  have hA : DataW.TrodAll enc Tryz.prog W 0 (fun _ => true) true Tryz.f4.params.toList args.toList ds p := hA0
  rw [Tryz.params4] at hA hval
  obtain ⟨v0, vs0, d0, ds0, p0, q0, hargs, rfl, rfl, h0, rr0⟩ := trodAll_cons hA
  obtain ⟨rfl, rfl, rfl⟩ := trodAll_nil rr0
  obtain rfl : args = #[v0] := by cases args; simp_all
  obtain ⟨rfl, rfl⟩ := trodVars_none hV
  have k0 := h0
  have lt0 : ∀ x ∈ p0, x.block < W.heap.size := by obtain ⟨m, hm⟩ := k0; exact DataW.trod_lt m _ _ _ hm
  have hz0 : ∀ n ∈ d0.weights Tryz.prog 31, n ≤ reachBytes := fun n hn => by
    have := List.all_eq_true.1 hZ n (DataW.weights_mem_each (j := 0) (t := 31) (d := d0) (by kernel_rfl) rfl n hn)
    simpa using this
  obtain ⟨l0, rfl, hl0, hx0⟩ := open_fieldsW Tryz.underlying31 (by kernel_rfl) (by kernel_rfl) (hval 0 31 v0 rfl rfl) h0
  obtain ⟨x0_0, x0_1, x0_2, x0_3, x0_4, x0_5, x0_6, rfl⟩ := list7 hl0
  have ok0 := okWide_cells (ts := [29, 24, 3, 3, 2, 3, 3]) Tryz.underlying31 (by kernel_rfl) (hval 0 31 _ rfl rfl)
  obtain ⟨n0_0, y0_0, q0_0, eq0_0, r0_0, w0_0⟩ := hx0 0 _ rfl
  simp only [List.getElem?_cons_zero, List.getElem?_cons_succ, Option.some.injEq] at eq0_0; subst eq0_0
  obtain ⟨rv0A, rv0n, rv0c, rv0, e_rv0, f_rv0, o_rv0, g_rv0, s_rv0⟩ := open_rowsW Tryz.underlying29 r0_0; subst e_rv0
  have z_rv0 : Adr W rv0A rv0n rv0c := by
    obtain ⟨u, hu, ok⟩ := ok0 0 _ rfl
    cases hu
    exact adr_of Tryz.underlying29 ok
  have r_rv0 := g_rv0 z_rv0
  have t_rv0 := s_rv0 (fun m hm => hz0 m (w0_0 m hm))
  obtain ⟨n0_1, y0_1, q0_1, eq0_1, r0_1, w0_1⟩ := hx0 1 _ rfl
  simp only [List.getElem?_cons_zero, List.getElem?_cons_succ, Option.some.injEq] at eq0_1; subst eq0_1
  obtain ⟨rv1, e_rv1, _, f_rv1⟩ := DataW.trod_int Tryz.underlying24 r0_1; simp only [List.cons.injEq, and_true] at e_rv1; subst e_rv1
  obtain ⟨n0_2, y0_2, q0_2, eq0_2, r0_2, w0_2⟩ := hx0 2 _ rfl
  simp only [List.getElem?_cons_zero, List.getElem?_cons_succ, Option.some.injEq] at eq0_2; subst eq0_2
  obtain ⟨rv2, e_rv2, _, f_rv2⟩ := DataW.trod_int Tryz.underlying3 r0_2; simp only [List.cons.injEq, and_true] at e_rv2; subst e_rv2
  obtain ⟨n0_3, y0_3, q0_3, eq0_3, r0_3, w0_3⟩ := hx0 3 _ rfl
  simp only [List.getElem?_cons_zero, List.getElem?_cons_succ, Option.some.injEq] at eq0_3; subst eq0_3
  obtain ⟨rv3, e_rv3, _, f_rv3⟩ := DataW.trod_int Tryz.underlying3 r0_3; simp only [List.cons.injEq, and_true] at e_rv3; subst e_rv3
  obtain ⟨n0_4, y0_4, q0_4, eq0_4, r0_4, w0_4⟩ := hx0 4 _ rfl
  simp only [List.getElem?_cons_zero, List.getElem?_cons_succ, Option.some.injEq] at eq0_4; subst eq0_4
  obtain ⟨rv4, e_rv4, _, f_rv4⟩ := DataW.trod_int Tryz.underlying2 r0_4; simp only [List.cons.injEq, and_true] at e_rv4; subst e_rv4
  obtain ⟨n0_5, y0_5, q0_5, eq0_5, r0_5, w0_5⟩ := hx0 5 _ rfl
  simp only [List.getElem?_cons_zero, List.getElem?_cons_succ, Option.some.injEq] at eq0_5; subst eq0_5
  obtain ⟨rv5, e_rv5, _, f_rv5⟩ := DataW.trod_int Tryz.underlying3 r0_5; simp only [List.cons.injEq, and_true] at e_rv5; subst e_rv5
  obtain ⟨n0_6, y0_6, q0_6, eq0_6, r0_6, w0_6⟩ := hx0 6 _ rfl
  simp only [List.getElem?_cons_zero, List.getElem?_cons_succ, Option.some.injEq] at eq0_6; subst eq0_6
  obtain ⟨rv6, e_rv6, _, f_rv6⟩ := DataW.trod_int Tryz.underlying3 r0_6; simp only [List.cons.injEq, and_true] at e_rv6; subst e_rv6
  clear hA0 hval0
  refine (walk_ReportTexts rv0A rv0n rv0c rv0 rv1 rv2 rv3 rv4 rv5 rv6 W r_rv0 o_rv0 t_rv0 f_rv1 f_rv2 f_rv3 f_rv4 f_rv5 f_rv6 (gl_of_laid hL)).mono fun e W' ⟨he, bel⟩ => ?_
  subst he
  exact ⟨_, rfl, _, _, _, [], _, [], hW', trodAll_mk1 (shut_bool Tryz.underlying4 _), (trodAll_cons_mk (Below.trod laidOut (by kernel_rfl) (of_decide_eq_true (by kernel_rfl)) k0 bel lt0) trodAll_mk0), rfl, bel.frame _, fun h => by cases h⟩

theorem over_ReportTexts : Rows.reportTextsRow.holds Tryz.pinned (OpenSpec.ofChange Rows.reportTextsSpec) :=
  OpenClaim.holds_of_wide 4 Tryz.f4 rfl rfl rfl rfl rfl rfl rfl ⟨rfl, rfl, rfl, rfl, rfl⟩ rfl rfl rfl rfl rfl (by kernel_rfl) Tryz.func4 (by kernel_rfl)
    (of_decide_eq_true (by kernel_rfl)) (by unfold Func.isWrapper; first | (rw [if_pos (by decide +kernel)]; kernel_rfl) | (rw [if_neg (by decide +kernel)]; exact ⟨rfl, rfl⟩))
    (fun os started H enc _ => lifted_ReportTexts os started H enc)

theorem reportTexts_row : Rows.ReportTextsSaid := over_ReportTexts
theorem reportTexts_holds : Rows.ReportTextsCardSaid :=
  Claim7.holds_tied_plain_at .later [] [.data, .data, .data] true (true, "7f74951c4709a7c60b65ae16cdfcd62879b788b4afee8b8b48b737d0bd4857a3") false
    reportTexts_row (fun _ h => by cases h) (by kernel_rfl) (fun _ h => by cases h) reportTexts_row_tie rfl ⟨rfl, rfl⟩ (by kernel_rfl) rfl
    (fun f fn hf hfn => by
      obtain rfl : f = 4 := Option.some.inj ((show Tryz.prog.funcNamed "anamorph/anamorphlaw53.ReportTexts" = some 4 by kernel_rfl).symm.trans hf) |>.symm
      obtain rfl : fn = Tryz.f4 := (Option.some.inj (Tryz.func4.symm.trans hfn)).symm
      exact ⟨by kernel_rfl, fun j t ht => by
        rw [Tryz.params4] at ht
        have hm : t ∈ [31] := by simpa using Array.mem_of_getElem? ht
        have hall : ([31].all fun u => !Tryz.prog.wantsStandIn u) = true := by kernel_rfl
        exact (show Tryz.prog.wantsStandIn t = false by simpa using List.all_eq_true.1 hall t hm)⟩)
    (by kernel_rfl)
#print axioms reportTexts_holds
end Go.Proofs.YtljdahepmmgfeaaGreatDoor
