/- The statement WordsJoins, for every input: the law's walk (YtblloaajiaoblaaDoorS3), lifted to the row. No condition. -/
import Derived.Test.YtblloaajiaoblaaDoorS3
import Derived.Test.YtblloaajiaoblaaDoorFr
import Derived.Test.YtblloaajiaoblaaDoorGL
import Derived.Test.YtblloaajiaoblaaDoorTie
import Derived.Test.YtblloaajiaoblaaDoorCards
import Derived.LaidMore
import Derived.LaidLaws
import Derived.Stop.LaidErr
import Derived.OpenShut
import Derived.SevenTiedAt
import Derived.Deep.DeepHandedRow
import Derived.Deep.DeepWitnessRowRef
import Derived.JoinedCond
namespace Go.Proofs.YtblloaajiaoblaaDoor
open Go.ChangeShapes Go.WideShapes Go.ChangeAt Go.RowKit Go.Deep
open Go.ChangeMaps (open_string shut_string)
set_option linter.unusedVariables false
set_option linter.unusedSimpArgs false

set_option maxRecDepth 100000 in
theorem sent_star : "*" ++ "errors.errorString" = "*errors.errorString" := by decide
theorem sent_row (u : TypeId) (h : Tryd.prog.typeName? 3 u = some "*errors.errorString") : u = 134 :=
  typeName_ptr_named (nm := "errors.errorString") (by rw [sent_star]; kernel_rfl) (by kernel_rfl) (by decide) u (by rw [sent_star]; exact h)
theorem laid_var {P : Program} {W : World} {nm : String} {g : Nat} {te : TypeId} {pe : Value} (hg : P.globalNamed nm = some g) (hv : W.var? P nm = some #[.iface te pe]) :
    g < W.heap.size ∧ ¬ NoO g ∧ ∃ te pe ty fr, W.heap[g]? = some (.cells #[.iface te pe] ty fr) := by
  simp only [World.var?, hg, Option.bind_some] at hv
  split at hv
  · rename_i cs ty fr hh
    simp only [Option.some.injEq] at hv
    subst hv
    exact ⟨(Array.getElem?_eq_some_iff.1 hh).1, fun h => h.elim, te, pe, ty, fr, hh⟩
  · cases hv
set_option maxRecDepth 100000 in
theorem gl_of_laid {W : World} (h : laidMetH Tryd.prog (Rows.wordsJoinsUptoRow.laid) W) : GL W NoO := by
  rw [MakeChecks.laidMetH_plain _ _ _ (by kernel_rfl)] at h
  obtain ⟨a0, s0, hs0, _, _, _⟩ := laid_sentinel (g := 1) (ti := 56) (tp := 134) (te := 136) (ts := 9) h.tail.tail.tail (by kernel_rfl) (by kernel_rfl) Tryd.underlying56 sent_row Tryd.underlying134 Tryd.underlying136 rfl rfl Tryd.underlying9 (by kernel_rfl) (by kernel_rfl)
  have w0 := laid_var (g := 1) (by kernel_rfl) hs0
  obtain ⟨a1, s1, hs1, _, _, _⟩ := laid_sentinel (g := 0) (ti := 56) (tp := 134) (te := 136) (ts := 9) h.tail.tail.tail.tail (by kernel_rfl) (by kernel_rfl) Tryd.underlying56 sent_row Tryd.underlying134 Tryd.underlying136 rfl rfl Tryd.underlying9 (by kernel_rfl) (by kernel_rfl)
  have w1 := laid_var (g := 0) (by kernel_rfl) hs1
  obtain ⟨ps, ⟨g0, t0, cs0, f0, p0, q0, hg0, ht0, hv0, hd0, ⟨g1, t1, cs1, f1, p1, q1, hg1, ht1, hv1, hd1, ⟨g2, t2, cs2, f2, p2, q2, hg2, ht2, hv2, hd2, _, _⟩, _⟩, _⟩, _, _⟩ := h
  obtain rfl := Option.some.inj ((show Tryd.prog.globalNamed "math/bits.deBruijn32tab" = some 4 by kernel_rfl).symm.trans hg0)
  obtain rfl := Option.some.inj ((show (Tryd.prog.globals[4]?).map (·.type) = some 138 by kernel_rfl).symm.trans ht0)
  have c0 := laid_ints (n := 32) (k := .u8) (xs := [0, 1, 28, 2, 29, 14, 24, 3, 30, 22, 20, 15, 25, 17, 4, 8, 31, 27, 13, 23, 21, 19, 16, 7, 26, 12, 18, 6, 11, 5, 10, 9]) (show Tryd.prog.underlying 138 = some (.array 32 5) by kernel_rfl) (show Tryd.prog.underlying 5 = some (.int .u8) by kernel_rfl) (by kernel_rfl) (by kernel_rfl) hd0
  have k0 := laid_cells hg0 hv0 c0
  obtain rfl := Option.some.inj ((show Tryd.prog.globalNamed "math/bits.deBruijn64tab" = some 5 by kernel_rfl).symm.trans hg1)
  obtain rfl := Option.some.inj ((show (Tryd.prog.globals[5]?).map (·.type) = some 139 by kernel_rfl).symm.trans ht1)
  have c1 := laid_ints (n := 64) (k := .u8) (xs := [0, 1, 56, 2, 57, 49, 28, 3, 61, 58, 42, 50, 38, 29, 17, 4, 62, 47, 59, 36, 45, 43, 51, 22, 53, 39, 33, 30, 24, 18, 12, 5, 63, 55, 48, 27, 60, 41, 37, 16, 46, 35, 44, 21, 52, 32, 23, 11, 54, 26, 40, 15, 34, 20, 31, 10, 25, 14, 19, 9, 13, 8, 7, 6]) (show Tryd.prog.underlying 139 = some (.array 64 5) by kernel_rfl) (show Tryd.prog.underlying 5 = some (.int .u8) by kernel_rfl) (by kernel_rfl) (by kernel_rfl) hd1
  have k1 := laid_cells hg1 hv1 c1
  obtain rfl := Option.some.inj ((show Tryd.prog.globalNamed "internal/strconv.uint64pow10" = some 2 by kernel_rfl).symm.trans hg2)
  obtain rfl := Option.some.inj ((show (Tryd.prog.globals[2]?).map (·.type) = some 130 by kernel_rfl).symm.trans ht2)
  have c2 := laid_ints (n := 20) (k := .u64) (xs := [1, 10, 100, 1000, 10000, 100000, 1000000, 10000000, 100000000, 1000000000, 10000000000, 100000000000, 1000000000000, 10000000000000, 100000000000000, 1000000000000000, 10000000000000000, 100000000000000000, 1000000000000000000, 10000000000000000000]) (show Tryd.prog.underlying 130 = some (.array 20 23) by kernel_rfl) (show Tryd.prog.underlying 23 = some (.int .u64) by kernel_rfl) (by kernel_rfl) (by kernel_rfl) hd2
  have k2 := laid_cells hg2 hv2 c2
  refine ⟨fun t ht => ?_, fun g hg => ?_⟩
  rotate_left
  · rcases List.mem_cons.1 hg with rfl | hg
    · exact w1
    rcases List.mem_cons.1 hg with rfl | hg
    · exact w0
    cases hg
  rcases List.mem_cons.1 ht with rfl | ht
  · exact k2
  rcases List.mem_cons.1 ht with rfl | ht
  · exact k0
  rcases List.mem_cons.1 ht with rfl | ht
  · exact k1
  cases ht
theorem walk_WordsJoins (lvA : Option Addr) (lvn lvc : Nat) (lv : List Ln) (s : ByteArray) (b : Int) (W : World) (r_lv : Rep noN W NoO (lnsA lv) (.slice lvA lvn lvc)) (t_lv : totL lv ≤ 1048576) (f_s : s.size ≤ maxLen) (f_b : (Lit.int .u8 b).wf = true) (hgl : GL W NoO) :
    Calls Tryd.prog 6 #[.slice lvA lvn lvc, .string s, .int .u8 b] W fun e W' => e = .returned (.bool true) ∧ Below W.heap.size W W' :=
  walk_WordsJoins' lv s.data.toList b t_lv W hgl (crel_cons r_lv (crel_cons (rep_string _) (crel_cons (.int _ _) crel_nil)))

abbrev laid_WordsJoins : List (String × DataW Unit) := Rows.wordsJoinsUptoRow.laid
set_option maxRecDepth 100000 in
theorem door_WordsJoins (os : Os) (args : Array Value) : laidMetH Tryd.prog laid_WordsJoins ((World.doorLaid Tryd.prog 400 os).forCall (fun _ _ => 0) ⟨#[], args, []⟩).memory :=
  laidMetH_of_parts3 (fuel := 8) (laidMet_of_run' 8 (by kernel_rfl) (by kernel_rfl)) (by kernel_rfl) (by kernel_rfl)
set_option maxRecDepth 100000 in
theorem reads_WordsJoins (os : Os) {H : Type} (enc : TypeId × Value → H) : ∃ places, DataW.whole enc Tryd.prog ((World.doorLaid Tryd.prog 400 os).forCall (fun _ _ => 0) ⟨#[], #[.slice none 0 0, .string ByteArray.empty, .int .u8 0], []⟩).memory Tryd.f6.params.toList Rows.wordsJoinsSpec.vars false (#[.slice none 0 0, .string ByteArray.empty, .int .u8 0] : Array Value).toList 8 = some ([.nil, .lit (.string []), .lit (.int .u8 0)], [], places) :=
  ⟨[], by kernel_rfl⟩
set_option maxRecDepth 100000 in
set_option maxHeartbeats 1000000 in
theorem lifted_WordsJoins (os : Os) (started : os.Started) (H : Type) (enc : TypeId × Value → H) (F : Stop.Interp) :
    ReturnsInHanded {} Tryd.checked os 6 .any ((Rows.OpenSpec.upto Rows.wordsJoinsSpec).preRow enc Tryd.prog Tryd.f6 Rows.wordsJoinsUptoRow.domain false Rows.wordsJoinsUptoRow.laid) (((Rows.OpenSpec.upto Rows.wordsJoinsSpec).at F).post enc Tryd.prog Tryd.f6 false true false false) := by
  obtain ⟨places, hx⟩ := reads_WordsJoins os enc
  refine returnsInHanded_of_row (C := Tryd.checked) (s := Rows.OpenSpec.upto Rows.wordsJoinsSpec) own started (by kernel_rfl) Tryd.func6
    (witness_row_atRef (enc := enc) (C := Tryd.checked) false (World.doorLaid Tryd.prog 400 os) #[.slice none 0 0, .string ByteArray.empty, .int .u8 0] rfl (by kernel_rfl) (by kernel_rfl) (by kernel_rfl)
      (OpenSpec.preRow_of_cond 8 hx (by kernel_rfl) (fun k hk => by cases hk; kernel_rfl) (by kernel_rfl) (door_WordsJoins os _))) ?_
  intro W base args ds gs before hval0 hW hcnd hcond hZ hL _ _
  have hk := hcond _ rfl
  have hval : ∀ (j : Nat) t v, Tryd.f6.params[j]? = some t → args[j]? = some v → Value.okWide Tryd.prog W .any base t v := hval0
  have hW' := hW
  obtain ⟨p, q, hA0, hV, rfl, hfz, hnd⟩ := hW
  have hA : DataW.TrodAll enc Tryd.prog W 0 (fun _ => true) true Tryd.f6.params.toList args.toList ds p := hA0
  rw [Tryd.params6] at hA hval
  obtain ⟨v0, vs0, d0, ds0, p0, q0, hargs, rfl, rfl, h0, rr0⟩ := trodAll_cons hA
  obtain ⟨v1, vs1, d1, ds1, p1, q1, rfl, rfl, rfl, h1, rr1⟩ := trodAll_cons rr0
  obtain ⟨v2, vs2, d2, ds2, p2, q2, rfl, rfl, rfl, h2, rr2⟩ := trodAll_cons rr1
  obtain ⟨rfl, rfl, rfl⟩ := trodAll_nil rr2
  obtain rfl : args = #[v0, v1, v2] := by cases args; simp_all
  obtain ⟨rfl, rfl⟩ := trodVars_none hV
  have k0 := h0
  have lt0 : ∀ x ∈ p0, x.block < W.heap.size := by obtain ⟨m, hm⟩ := k0; exact DataW.trod_lt m _ _ _ hm
  have k1 := h1
  have lt1 : ∀ x ∈ p1, x.block < W.heap.size := by obtain ⟨m, hm⟩ := k1; exact DataW.trod_lt m _ _ _ hm
  have k2 := h2
  have lt2 : ∀ x ∈ p2, x.block < W.heap.size := by obtain ⟨m, hm⟩ := k2; exact DataW.trod_lt m _ _ _ hm
  obtain ⟨lvA, lvn, lvc, rfl⟩ := okWide_slice Tryd.underlying43 (hval 0 43 v0 rfl rfl)
  obtain ⟨fu0, hf0⟩ := h0; simp only [Value.cells] at hf0
  obtain ⟨qA, qn, qc, lv, qe, r_lv, b_lv⟩ := open_lines Tryd.underlying43 hf0; simp only [Value.slice.injEq] at qe; obtain ⟨rfl, rfl, rfl⟩ := qe
  have t_lv : totL lv ≤ 1048576 := by
    refine Nat.le_trans b_lv (Nat.le_trans ?_ (of_decide_eq_true hk))
    exact bulk_part _ 0 d0 rfl
  obtain ⟨s, rfl, rfl, rfl, f_s⟩ := open_string Tryd.underlying9 (hval 1 9 v1 rfl rfl) h1
  obtain ⟨b, rfl, rfl, rfl, f_b⟩ := open_int Tryd.underlying5 (hval 2 5 v2 rfl rfl) h2
  clear hA0 hval0
  refine (walk_WordsJoins lvA lvn lvc lv s b W r_lv t_lv f_s f_b (gl_of_laid hL)).mono fun e W' ⟨he, bel⟩ => ?_
  subst he
  exact ⟨_, rfl, _, _, _, [], _, [], hW', trodAll_mk1 (shut_bool Tryd.underlying4 _), (trodAll_cons_mk (Below.trod laidOut (by kernel_rfl) (of_decide_eq_true (by kernel_rfl)) k0 bel lt0) (trodAll_cons_mk (Below.trod laidOut (by kernel_rfl) (of_decide_eq_true (by kernel_rfl)) k1 bel lt1) (trodAll_cons_mk (Below.trod laidOut (by kernel_rfl) (of_decide_eq_true (by kernel_rfl)) k2 bel lt2) trodAll_mk0))), rfl, bel.frame _, fun h => by cases h⟩

theorem over_WordsJoins : Rows.wordsJoinsUptoRow.holds Tryd.pinned (Rows.OpenSpec.upto Rows.wordsJoinsSpec) :=
  OpenClaim.holds_of_cond 6 Tryd.f6 rfl rfl rfl rfl rfl rfl rfl ⟨rfl, rfl, rfl, rfl, rfl⟩ rfl rfl rfl rfl rfl (by kernel_rfl) Tryd.func6 (by kernel_rfl)
    (of_decide_eq_true (by kernel_rfl)) (by unfold Func.isWrapper; first | (rw [if_pos (by decide +kernel)]; kernel_rfl) | (rw [if_neg (by decide +kernel)]; exact ⟨rfl, rfl⟩))
    (fun os started H enc _ F => by rw [OpenClaim.pre_eq_preRow]; exact lifted_WordsJoins os started H enc F)

theorem wordsJoinsUpto_row : Rows.WordsJoinsUptoSaid := over_WordsJoins
theorem wordsJoinsUpto_holds : Rows.WordsJoinsUptoCardSaid :=
  Claim7.holds_tied_plain_at .later [] [.data, .data, .data, .sentinel, .sentinel] true (true, "2c1f8b73f42d44fb8d2612c4e00e2c574b8ffe8cb1d5cdfee8553b2aa2c28cf6") true
    wordsJoinsUpto_row (fun _ h => by cases h) (by kernel_rfl) (fun _ h => by cases h) wordsJoinsUpto_row_tie rfl ⟨rfl, rfl⟩ (by kernel_rfl) rfl
    (fun f fn hf hfn => by
      obtain rfl : f = 6 := Option.some.inj ((show Tryd.prog.funcNamed "anamorph/anamorphlaw49.WordsJoins" = some 6 by kernel_rfl).symm.trans hf) |>.symm
      obtain rfl : fn = Tryd.f6 := (Option.some.inj (Tryd.func6.symm.trans hfn)).symm
      exact ⟨by kernel_rfl, fun j t ht => by
        rw [Tryd.params6] at ht
        have hm : t ∈ [43, 9, 5] := by simpa using Array.mem_of_getElem? ht
        have hall : ([43, 9, 5].all fun u => !Tryd.prog.wantsStandIn u) = true := by kernel_rfl
        exact (show Tryd.prog.wantsStandIn t = false by simpa using List.all_eq_true.1 hall t hm)⟩)
    (by kernel_rfl)
#print axioms wordsJoinsUpto_holds
end Go.Proofs.YtblloaajiaoblaaDoor
