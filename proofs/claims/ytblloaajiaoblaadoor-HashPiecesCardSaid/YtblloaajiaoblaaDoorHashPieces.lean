/- The statement HashPieces, for every input: the law's walk (YtblloaajiaoblaaDoorS2), lifted to the row. No condition. -/
import Derived.Test.YtblloaajiaoblaaDoorS2
import Derived.Test.YtblloaajiaoblaaDoorFr
import Derived.Test.YtblloaajiaoblaaDoorGL
import Derived.Test.YtblloaajiaoblaaDoorTie
import Derived.Test.YtblloaajiaoblaaDoorCards
import Derived.LaidMore
import Derived.OpenShut
import Derived.SevenTiedAt
import Derived.Test.YtblloaajiaoblaaDoorFb
namespace Go.Proofs.YtblloaajiaoblaaDoor
open Go.ChangeShapes Go.WideShapes Go.ChangeAt Go.RowKit Go.Deep
open Go.ChangeMaps (open_string shut_string)
set_option linter.unusedVariables false
set_option linter.unusedSimpArgs false

set_option maxRecDepth 100000 in
theorem gl_of_laid {W : World} (h : laidMetH Tryd.prog (Rows.hashPiecesRow.laid) W) : GL W NoO := by
  rw [MakeChecks.laidMetH_plain _ _ _ (by kernel_rfl)] at h
  obtain ⟨ps, ⟨g0, t0, cs0, f0, p0, q0, hg0, ht0, hv0, hd0, ⟨g1, t1, cs1, f1, p1, q1, hg1, ht1, hv1, hd1, ⟨g2, t2, cs2, f2, p2, q2, hg2, ht2, hv2, hd2, _, _⟩, _⟩, _⟩, _, _⟩ := h
  obtain rfl := Option.some.inj ((show Tryd.prog.globalNamed "math/bits.deBruijn32tab" = some 4 by kernel_rfl).symm.trans hg0)
  obtain rfl := Option.some.inj ((show (Tryd.prog.globals[4]?).map (·.type) = some 138 by kernel_rfl).symm.trans ht0)
  have c0 := laid_ints (n := 32) (k := .u8) (xs := [0, 1, 28, 2, 29, 14, 24, 3, 30, 22, 20, 15, 25, 17, 4, 8, 31, 27, 13, 23, 21, 19, 16, 7, 26, 12, 18, 6, 11, 5, 10, 9]) (show Tryd.prog.underlying 138 = some (.array 32 5) by kernel_rfl) (show Tryd.prog.underlying 5 = some (.int .u8) by kernel_rfl) (by kernel_rfl) (by kernel_rfl) hd0
  have k0 := laid_cells hg0 hv0 c0
  obtain rfl := Option.some.inj ((show Tryd.prog.globalNamed "math/bits.deBruijn64tab" = some 5 by kernel_rfl).symm.trans hg1)
  obtain rfl := Option.some.inj ((show (Tryd.prog.globals[5]?).map (·.type) = some 139 by kernel_rfl).symm.trans ht1)
  have c1 := laid_ints (n := 64) (k := .u8) (xs := [0, 1, 56, 2, 57, 49, 28, 3, 61, 58, 42, 50, 38, 29, 17, 4, 62, 47, 59, 36, 45, 43, 51, 22, 53, 39, 33, 30, 24, 18, 12, 5, 63, 55, 48, 27, 60, 41, 37, 16, 46, 35, 44, 21, 52, 32, 23, 11, 54, 26, 40, 15, 34, 20, 31, 10, 25, 14, 19, 9, 13, 8, 7, 6]) (show Tryd.prog.underlying 139 = some (.array 64 5) by kernel_rfl) (show Tryd.prog.underlying 5 = some (.int .u8) by kernel_rfl) (by kernel_rfl) (by kernel_rfl) hd1
  have k1 := laid_cells hg1 hv1 c1
  obtain rfl := Option.some.inj ((show Tryd.prog.globalNamed "internal/strconv.uint64pow10" = some 2 by kernel_rfl).symm.trans hg2)
  obtain rfl := Option.some.inj ((show (Tryd.prog.globals[2]?).map (·.type) = some 130 by kernel_rfl).symm.trans ht2)
  have c2 := laid_ints (n := 20) (k := .u64) (xs := [1, 10, 100, 1000, 10000, 100000, 1000000, 10000000, 100000000, 1000000000, 10000000000, 100000000000, 1000000000000, 10000000000000, 100000000000000, 1000000000000000, 10000000000000000, 100000000000000000, 1000000000000000000, 10000000000000000000]) (show Tryd.prog.underlying 130 = some (.array 20 23) by kernel_rfl) (show Tryd.prog.underlying 23 = some (.int .u64) by kernel_rfl) (by kernel_rfl) (by kernel_rfl) hd2
  have k2 := laid_cells hg2 hv2 c2
  intro t ht
  rcases List.mem_cons.1 ht with rfl | ht
  · exact k2
  rcases List.mem_cons.1 ht with rfl | ht
  · exact k0
  rcases List.mem_cons.1 ht with rfl | ht
  · exact k1
  cases ht
theorem walk_HashPieces (lvA : Option Addr) (lvn lvc : Nat) (lv : List (List Int)) (W : World) (r_lv : Rep noN W NoO (bsA lv) (.slice lvA lvn lvc)) (o_lv : ∀ l ∈ lv, ∀ x ∈ l, (Lit.int .u8 x).wf = true) (hgl : GL W NoO) :
    Calls Tryd.prog 4 #[.slice lvA lvn lvc] W fun e W' => e = .returned (.bool true) ∧ Below W.heap.size W W' :=
  walk_HashPieces' lv (fun l hl => bytes_of (o_lv l hl)) W hgl (crel_cons r_lv crel_nil)

abbrev laid_HashPieces : List (String × DataW Unit) := Rows.hashPiecesRow.laid
set_option maxRecDepth 100000 in
theorem door_HashPieces (os : Os) (args : Array Value) : laidMetH Tryd.prog laid_HashPieces ((World.doorLaid Tryd.prog 400 os).forCall (fun _ _ => 0) ⟨#[], args, []⟩).memory :=
  laidMetH_of_parts3 (fuel := 8) (laidMet_of_run' 8 (by kernel_rfl) (by kernel_rfl)) (by kernel_rfl) (by kernel_rfl)
set_option maxRecDepth 100000 in
set_option maxHeartbeats 1000000 in
theorem lifted_HashPieces (os : Os) (started : os.Started) (H : Type) (enc : TypeId × Value → H) :
    ReturnsInHanded {} Tryd.checked os 4 .any (fun w args => (Rows.hashPiecesSpec.pre enc Tryd.prog Tryd.f4 [] false w args ∧ laidMetH Tryd.prog laid_HashPieces w) ∧ sizedMet enc Tryd.prog Tryd.f4 (OpenSpec.ofChange Rows.hashPiecesSpec) false w args) (Rows.hashPiecesSpec.post enc Tryd.prog Tryd.f4 false true false false) := by
  refine returnsInHanded_of_change_and (C := Tryd.checked) (X := fun w _ => laidMetH Tryd.prog laid_HashPieces w) (fun _ _ _ hh h => h.of_heap hh) own started (by kernel_rfl) Tryd.func4
    (ChangeSpec.witness_shaped (enc := enc) (C := Tryd.checked) (os := os) (X := fun w _ => laidMetH Tryd.prog laid_HashPieces w) false (World.doorLaid Tryd.prog 400 os) #[.slice none 0 0] 8 rfl (World.shaped_of_RefB (by kernel_rfl) (by kernel_rfl)) (by kernel_rfl) (by kernel_rfl) (by kernel_rfl) (door_HashPieces os _)) ?_
  intro W base args ds gs before hval0 hW hcnd _ hL _
  have hval : ∀ (j : Nat) t v, Tryd.f4.params[j]? = some t → args[j]? = some v → Value.okWide Tryd.prog W .any base t v := hval0
  have hW' := hW
  obtain ⟨p, q, hA0, hV, rfl, hfz, hnd⟩ := hW
  have hA : DataW.TrodAll enc Tryd.prog W 0 (fun _ => true) true Tryd.f4.params.toList args.toList ds p := hA0
  rw [Tryd.params4] at hA hval
  obtain ⟨v0, vs0, d0, ds0, p0, q0, hargs, rfl, rfl, h0, rr0⟩ := trodAll_cons hA
  obtain ⟨rfl, rfl, rfl⟩ := trodAll_nil rr0
  obtain rfl : args = #[v0] := by cases args; simp_all
  obtain ⟨rfl, rfl⟩ := trodVars_none hV
  have k0 := h0
  have lt0 : ∀ x ∈ p0, x.block < W.heap.size := by obtain ⟨m, hm⟩ := k0; exact DataW.trod_lt m _ _ _ hm
  obtain ⟨lvA, lvn, lvc, rfl⟩ := okWide_slice Tryd.underlying27 (hval 0 27 v0 rfl rfl)
  obtain ⟨fu0, hf0⟩ := h0; simp only [Value.cells] at hf0
  obtain ⟨qA, qn, qc, lv, qe, f_lv, o_lv, g_lv⟩ := open_rows Tryd.underlying27 hf0; simp only [Value.slice.injEq] at qe; obtain ⟨rfl, rfl, rfl⟩ := qe
  have r_lv := g_lv (adr_top Tryd.underlying27 (hval 0 27 _ rfl rfl))
  clear hA0 hval0
  refine (walk_HashPieces lvA lvn lvc lv W r_lv o_lv (gl_of_laid hL)).mono fun e W' ⟨he, bel⟩ => ?_
  subst he
  exact ⟨_, rfl, _, _, _, [], _, [], hW', trodAll_mk1 (shut_bool Tryd.underlying4 _), (trodAll_cons_mk (Below.trod laidOut (by kernel_rfl) (of_decide_eq_true (by kernel_rfl)) k0 bel lt0) trodAll_mk0), rfl, bel.frame _, fun h => by cases h⟩

theorem over_HashPieces : Rows.hashPiecesRow.holds Tryd.pinned (OpenSpec.ofChange Rows.hashPiecesSpec) :=
  OpenClaim.holds_of_wide 4 Tryd.f4 rfl rfl rfl rfl rfl rfl rfl ⟨rfl, rfl, rfl, rfl, rfl⟩ rfl rfl rfl rfl rfl (by kernel_rfl) Tryd.func4 (by kernel_rfl)
    (of_decide_eq_true (by kernel_rfl)) (by unfold Func.isWrapper; first | (rw [if_pos (by decide +kernel)]; kernel_rfl) | (rw [if_neg (by decide +kernel)]; exact ⟨rfl, rfl⟩))
    (fun os started H enc _ => lifted_HashPieces os started H enc)

theorem hashPieces_row : Rows.HashPiecesSaid := over_HashPieces
theorem hashPieces_holds : Rows.HashPiecesCardSaid :=
  Claim7.holds_tied_plain_at .later [] [.data, .data, .data] true (true, "2c1f8b73f42d44fb8d2612c4e00e2c574b8ffe8cb1d5cdfee8553b2aa2c28cf6") true
    hashPieces_row (fun _ h => by cases h) (by kernel_rfl) (fun _ h => by cases h) hashPieces_row_tie rfl ⟨rfl, rfl⟩ (by kernel_rfl) rfl
    (fun f fn hf hfn => by
      obtain rfl : f = 4 := Option.some.inj ((show Tryd.prog.funcNamed "anamorph/anamorphlaw12.HashPieces" = some 4 by kernel_rfl).symm.trans hf) |>.symm
      obtain rfl : fn = Tryd.f4 := (Option.some.inj (Tryd.func4.symm.trans hfn)).symm
      exact ⟨by kernel_rfl, fun j t ht => by
        rw [Tryd.params4] at ht
        have hm : t ∈ [27] := by simpa using Array.mem_of_getElem? ht
        have hall : ([27].all fun u => !Tryd.prog.wantsStandIn u) = true := by kernel_rfl
        exact (show Tryd.prog.wantsStandIn t = false by simpa using List.all_eq_true.1 hall t hm)⟩)
    (by kernel_rfl)
#print axioms hashPieces_holds
end Go.Proofs.YtblloaajiaoblaaDoor
