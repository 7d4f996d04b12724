/- The statement TurnAsks, for every input: the law's walk (YtpgikaeddhaiiaaV23e), lifted to the row. No condition. -/
import Derived.Test.YtpgikaeddhaiiaaV23e
import Derived.Test.YtpgikaeddhaiiaaFr
import Derived.Test.YtpgikaeddhaiiaaFPl
namespace Go.Proofs.Ytpgikaeddhaiiaa
open Go.ChangeShapes Go.WideShapes Go.ChangeAt Go.RowKit Go.Deep
open Go.ChangeMaps (open_string shut_string)
set_option linter.unusedVariables false
set_option linter.unusedSimpArgs false

theorem walk_TurnAsks (cA : Option Addr) (cn cc : Nat) (c : List Int) (lvA : Option Addr) (lvn lvc : Nat) (lv : List Pl) (W : World) (f_c : Sl W .i64 W.heap.size cA cn c) (g_c : cn ≤ cc) (m_c : cc ≤ maxLen) (z_c : Adr W cA cn cc) (r_lv : Rep noN W NoO (PlA lv) (.slice lvA lvn lvc)) (o_lv : ∀ m ∈ lv, m.ok) :
    Calls Try.prog 9 #[.slice cA cn cc, .slice lvA lvn lvc] W fun e W' => e = .returned (.bool true) ∧ Below W.heap.size W W' :=
  walk_TurnAsks' c lv W (crel_cons (rep_sl f_c g_c m_c z_c) (crel_cons r_lv crel_nil))

set_option maxRecDepth 100000 in
set_option maxHeartbeats 1000000 in
theorem lifted_TurnAsks (os : Os) (started : os.Started) (H : Type) (enc : TypeId × Value → H) :
    ReturnsInHanded {} Try.checked os 9 .any (Rows.turnAsksSpec.pre6 enc Try.prog Try.f9 Rows.turnAsksRow.domain false) (Rows.turnAsksSpec.post enc Try.prog Try.f9 false true false false) := by
  refine returnsInHanded_of_change (C := Try.checked) own started (by kernel_rfl) Try.func9
    (ChangeSpec.witness6 (enc := enc) (C := Try.checked) false ⟨#[], #[.slice none 0 0, .slice none 0 0], []⟩ 8 (by kernel_rfl) (by kernel_rfl) (by kernel_rfl) (by kernel_rfl)) ?_
  intro W base args ds gs before hval0 hW hcnd _
  have hval : ∀ (j : Nat) t v, Try.f9.params[j]? = some t → args[j]? = some v → Value.okWide Try.prog W .any base t v := hval0
  have hW' := hW
  obtain ⟨p, q, hA0, hV, rfl, hfz, hnd⟩ := hW
  have hA : DataW.TrodAll enc Try.prog W 0 (fun _ => true) true Try.f9.params.toList args.toList ds p := hA0
  rw [Try.params9] at hA hval
  obtain ⟨v0, vs0, d0, ds0, p0, q0, hargs, rfl, rfl, h0, rr0⟩ := trodAll_cons hA
  obtain ⟨v1, vs1, d1, ds1, p1, q1, rfl, rfl, rfl, h1, rr1⟩ := trodAll_cons rr0
  obtain ⟨rfl, rfl, rfl⟩ := trodAll_nil rr1
  obtain rfl : args = #[v0, v1] := by cases args; simp_all
  obtain ⟨rfl, rfl⟩ := trodVars_none hV
  have k0 := h0
  have lt0 : ∀ x ∈ p0, x.block < W.heap.size := by obtain ⟨m, hm⟩ := k0; exact DataW.trod_lt m _ _ _ hm
  have k1 := h1
  have lt1 : ∀ x ∈ p1, x.block < W.heap.size := by obtain ⟨m, hm⟩ := k1; exact DataW.trod_lt m _ _ _ hm
  obtain ⟨cA, cn, cc, rfl⟩ := okWide_slice Try.underlying52 (hval 0 52 v0 rfl rfl)
  obtain ⟨fu0, hf0⟩ := h0; simp only [Value.cells] at hf0
  obtain ⟨qA, qn, qc, c, qe, f_c, g_c, m_c, _⟩ := sl_of Try.underlying52 Try.underlying2 (by kernel_rfl) hf0; simp only [Value.slice.injEq] at qe; obtain ⟨rfl, rfl, rfl⟩ := qe
  have z_c : Adr W cA cn cc := adr_top Try.underlying52 (hval 0 52 _ rfl rfl)
  obtain ⟨lvA, lvn, lvc, rfl⟩ := okWide_slice Try.underlying53 (hval 1 53 v1 rfl rfl)
  obtain ⟨fu1, hf1⟩ := h1; simp only [Value.cells] at hf1
  obtain ⟨qA, qn, qc, lv, qe, f_lv, o_lv, g_lv⟩ := open_Pl Try.underlying53 hf1; simp only [Value.slice.injEq] at qe; obtain ⟨rfl, rfl, rfl⟩ := qe
  have r_lv := g_lv (adr_top Try.underlying53 (hval 1 53 _ rfl rfl))
  clear hA0 hval0
  refine (walk_TurnAsks cA cn cc c lvA lvn lvc lv W f_c g_c m_c z_c r_lv o_lv).mono fun e W' ⟨he, bel⟩ => ?_
  subst he
  exact ⟨_, rfl, _, _, _, [], _, [], hW', trodAll_mk1 (shut_bool Try.underlying4 _), (trodAll_cons_mk (Below.trod laidOut (by kernel_rfl) (of_decide_eq_true (by kernel_rfl)) k0 bel lt0) (trodAll_cons_mk (Below.trod laidOut (by kernel_rfl) (of_decide_eq_true (by kernel_rfl)) k1 bel lt1) trodAll_mk0)), rfl, bel.frame _, fun h => by cases h⟩

theorem over_TurnAsks : Rows.turnAsksRow.holds Try.pinned (OpenSpec.ofChange Rows.turnAsksSpec) :=
  OpenClaim.holds_of_wide 9 Try.f9 rfl rfl rfl rfl rfl rfl rfl ⟨rfl, rfl, rfl, rfl, rfl⟩ rfl rfl rfl rfl rfl (by kernel_rfl) Try.func9 (by kernel_rfl)
    (of_decide_eq_true (by kernel_rfl)) (by unfold Func.isWrapper; first | (rw [if_pos (by decide +kernel)]; kernel_rfl) | (rw [if_neg (by decide +kernel)]; exact ⟨rfl, rfl⟩))
    (fun os started H enc _ => lifted_TurnAsks os started H enc)

theorem turnAsks_holds : Rows.TurnAsksSaid := over_TurnAsks
#print axioms turnAsks_holds
end Go.Proofs.Ytpgikaeddhaiiaa
