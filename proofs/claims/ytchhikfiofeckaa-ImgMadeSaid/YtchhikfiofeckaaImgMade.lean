/- The statement ImgMade, for every input: the law's walk (YtchhikfiofeckaaIM2), lifted to the row. No condition. -/
import Derived.Test.YtchhikfiofeckaaIM2
import Derived.Test.YtchhikfiofeckaaFr
namespace Go.Proofs.Ytchhikfiofeckaa
open Go.ChangeShapes Go.WideShapes Go.ChangeAt Go.RowKit Go.Deep
open Go.ChangeMaps (open_string shut_string)
set_option linter.unusedVariables false
set_option linter.unusedSimpArgs false

theorem walk_ImgMade (w : Int) (hv : Int) (colorA : Option Addr) (colorn colorc : Nat) (color : List Int) (W : World) (f_w : (Lit.int .i64 w).wf = true) (f_hv : (Lit.int .i64 hv).wf = true) (f_color : Sl W .u8 W.heap.size colorA colorn color) (g_color : colorn ≤ colorc) (m_color : colorc ≤ maxLen) (z_color : Adr W colorA colorn colorc) :
    Calls Try.prog 3 #[.int .i64 w, .int .i64 hv, .slice colorA colorn colorc] W fun e W' => e = .returned (.bool true) ∧ Below W.heap.size W W' :=
  walk_ImgMade' w hv color W (crel_cons (.int _ _) (crel_cons (.int _ _) (crel_cons (rep_sl f_color g_color m_color z_color) crel_nil)))

set_option maxRecDepth 100000 in
set_option maxHeartbeats 1000000 in
theorem lifted_ImgMade (os : Os) (started : os.Started) (H : Type) (enc : TypeId × Value → H) :
    ReturnsInHanded {} Try.checked os 3 .any (Rows.imgMadeSpec.pre6 enc Try.prog Try.f3 Rows.imgMadeRow.domain false) (Rows.imgMadeSpec.post enc Try.prog Try.f3 false true false false) := by
  refine returnsInHanded_of_change (C := Try.checked) own started (by kernel_rfl) Try.func3
    (ChangeSpec.witness6 (enc := enc) (C := Try.checked) false ⟨#[], #[.int .i64 0, .int .i64 0, .slice none 0 0], []⟩ 8 (by kernel_rfl) (by kernel_rfl) (by kernel_rfl) (by kernel_rfl)) ?_
  intro W base args ds gs before hval0 hW hcnd _
  have hval : ∀ (j : Nat) t v, Try.f3.params[j]? = some t → args[j]? = some v → Value.okWide Try.prog W .any base t v := hval0
  have hW' := hW
  obtain ⟨p, q, hA0, hV, rfl, hfz, hnd⟩ := hW
  have hA : DataW.TrodAll enc Try.prog W 0 (fun _ => true) true Try.f3.params.toList args.toList ds p := hA0
  rw [Try.params3] at hA hval
  obtain ⟨v0, vs0, d0, ds0, p0, q0, hargs, rfl, rfl, h0, rr0⟩ := trodAll_cons hA
  obtain ⟨v1, vs1, d1, ds1, p1, q1, rfl, rfl, rfl, h1, rr1⟩ := trodAll_cons rr0
  obtain ⟨v2, vs2, d2, ds2, p2, q2, rfl, rfl, rfl, h2, rr2⟩ := trodAll_cons rr1
  obtain ⟨rfl, rfl, rfl⟩ := trodAll_nil rr2
  obtain rfl : args = #[v0, v1, v2] := by cases args; simp_all
  obtain ⟨rfl, rfl⟩ := trodVars_none hV
  have k0 := h0
  have lt0 : ∀ x ∈ p0, x.block < W.heap.size := by obtain ⟨m, hm⟩ := k0; exact DataW.trod_lt m _ _ _ hm
  have k1 := h1
  have lt1 : ∀ x ∈ p1, x.block < W.heap.size := by obtain ⟨m, hm⟩ := k1; exact DataW.trod_lt m _ _ _ hm
  have k2 := h2
  have lt2 : ∀ x ∈ p2, x.block < W.heap.size := by obtain ⟨m, hm⟩ := k2; exact DataW.trod_lt m _ _ _ hm
  obtain ⟨w, rfl, rfl, rfl, f_w⟩ := open_int Try.underlying3 (hval 0 3 v0 rfl rfl) h0
  obtain ⟨hv, rfl, rfl, rfl, f_hv⟩ := open_int Try.underlying3 (hval 1 3 v1 rfl rfl) h1
  obtain ⟨colorA, colorn, colorc, rfl⟩ := okWide_slice Try.underlying22 (hval 2 22 v2 rfl rfl)
  obtain ⟨fu2, hf2⟩ := h2; simp only [Value.cells] at hf2
  obtain ⟨qA, qn, qc, color, qe, f_color, g_color, m_color, _⟩ := sl_of Try.underlying22 Try.underlying5 (by kernel_rfl) hf2; simp only [Value.slice.injEq] at qe; obtain ⟨rfl, rfl, rfl⟩ := qe
  have z_color : Adr W colorA colorn colorc := adr_top Try.underlying22 (hval 2 22 _ rfl rfl)
  clear hA0 hval0
  refine (walk_ImgMade w hv colorA colorn colorc color W f_w f_hv f_color g_color m_color z_color).mono fun e W' ⟨he, bel⟩ => ?_
  subst he
  exact ⟨_, rfl, _, _, _, [], _, [], hW', trodAll_mk1 (shut_bool Try.underlying4 _), (trodAll_cons_mk (Below.trod laidOut (by kernel_rfl) (of_decide_eq_true (by kernel_rfl)) k0 bel lt0) (trodAll_cons_mk (Below.trod laidOut (by kernel_rfl) (of_decide_eq_true (by kernel_rfl)) k1 bel lt1) (trodAll_cons_mk (Below.trod laidOut (by kernel_rfl) (of_decide_eq_true (by kernel_rfl)) k2 bel lt2) trodAll_mk0))), rfl, bel.frame _, fun h => by cases h⟩

theorem over_ImgMade : Rows.imgMadeRow.holds Try.pinned (OpenSpec.ofChange Rows.imgMadeSpec) :=
  OpenClaim.holds_of_wide 3 Try.f3 rfl rfl rfl rfl rfl rfl rfl ⟨rfl, rfl, rfl, rfl, rfl⟩ rfl rfl rfl rfl rfl (by kernel_rfl) Try.func3 (by kernel_rfl)
    (of_decide_eq_true (by kernel_rfl)) (by unfold Func.isWrapper; first | (rw [if_pos (by decide +kernel)]; kernel_rfl) | (rw [if_neg (by decide +kernel)]; exact ⟨rfl, rfl⟩))
    (fun os started H enc _ => lifted_ImgMade os started H enc)

theorem imgMade_holds : Rows.ImgMadeSaid := over_ImgMade
#print axioms imgMade_holds
end Go.Proofs.Ytchhikfiofeckaa
