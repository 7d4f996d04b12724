
/- The law DiffThird: an image against itself, two either way round, and over a third. No condition. -/
import Derived.Test.YtkenkpbkaeoifaaD13
namespace Go.Proofs.Ytkenkpbkaeoifaa
open Go Go.RowKit
set_option linter.unusedVariables false
set_option linter.unusedSimpArgs false
set_option maxRecDepth 100000

theorem bytes_of {xs : List Int} (h : ∀ x ∈ xs, (Lit.int .u8 x).wf = true) : Bytes xs := fun x hx => by
  have := h x hx
  simp [Lit.wf, IntKind.min, IntKind.max, IntKind.signed, IntKind.bits] at this
  omega
theorem bytes5 : Bytes [5] := by intro x hx; simp at hx; omega
theorem bytes9 : Bytes [9] := by intro x hx; simp at hx; omega
theorem alive13_s : SOK Try.prog 22 (sN (.bool true)) := by
  refine sok_of (C := mkC 0 [(21, ofS)] noG) (mkC_ok (pok_cons of_s pok_nil) noG_ok) rfl mixed ⟨Try.func22, by kernel_rfl, by kernel_rfl, by kernel_rfl⟩ fun l obs v h ho => ?_
  obtain ⟨rfl, rfl⟩ := sN_inv h
  refine ⟨Nat.le_of_ble_eq_true rfl, ?_⟩
  have b5 := bytes5
  have b9 := bytes9
  (repeat' (first | (refine And.intro (fun (hfk : _ = true) => ?_) (fun (hfk : _ = false) => ?_) <;> ((try (first | replace hfk := of_decide_eq_true hfk | replace hfk := of_decide_eq_false hfk | simp only [decide_eq_true_eq, decide_eq_false_iff_not, Bool.not_eq_true', Bool.not_eq_false', Bool.and_eq_true, Bool.or_eq_true, Bool.and_eq_false_iff, Bool.or_eq_false_iff, Int.not_lt, Int.not_le, ne_eq, Classical.not_not, Bool.true_eq_false, Bool.false_eq_true, or_false, false_or, and_true, true_and, not_true_eq_false, not_false_eq_true, reduceCtorEq] at hfk)); (try (exfalso; first | omega | contradiction)))) | (refine And.intro ?ob ?_; (case ob => (first | exact Chk.mk (by kernel_rfl) | exact True.intro | assumption | exact rng64 (by omega) (by omega) | omega | (dsimp only; omega) | (show (_ : Nat) ≤ _; omega) | exact Nat.le_of_ble_eq_true rfl | (constructor <;> omega)))) | exact True.intro | exact rfl | assumption | (show _ = _; first | assumption | omega | (skip; done) | fail) | (apply And.intro) | omega | (intro j hj; exact rfl) | fail))
/-! ### Over a third one -/
theorem ap_sym (a b : List Int) (n : Nat) : apN a b n = apN b a n := by unfold apN apI; omega
theorem ap_tri (a b c : List Int) (n : Nat) : apN a b n ≤ apN a c n + apN c b n := by unfold apN apI; omega
theorem ap_nn (a b : List Int) (n : Nat) : 0 ≤ apN a b n := by unfold apN apI; omega
theorem ap_self (a : List Int) (n : Nat) : apN a a n = 0 := by unfold apN apI; omega
theorem d_self (a : List Int) : ∀ n, dCn a a n = 0 ∧ dMx a a n = 0 ∧ dSm a a n = 0 ∧ dSq a a n = 0 ∧ ∀ g, dFi g a a n = 0
  | 0 => by simp [dCn, dMx, dSm, dSq, dFi]
  | n + 1 => by
    obtain ⟨h1, h2, h3, h4, h5⟩ := d_self a n
    simp [dCn, dMx, dSm, dSq, dFi, ap_self, h1, h2, h3, h4, h5]
theorem d_sym (a b : List Int) : ∀ n, dCn a b n = dCn b a n ∧ dMx a b n = dMx b a n ∧ dSm a b n = dSm b a n ∧ dSq a b n = dSq b a n ∧ ∀ g, dFi g a b n = dFi g b a n
  | 0 => by simp [dCn, dMx, dSm, dSq, dFi]
  | n + 1 => by
    obtain ⟨h1, h2, h3, h4, h5⟩ := d_sym a b n
    simp [dCn, dMx, dSm, dSq, dFi, ap_sym a b n, h1, h2, h3, h4, h5]
theorem d_tri (a b c : List Int) : ∀ n, dCn a b n ≤ dCn a c n + dCn c b n ∧ dMx a b n ≤ dMx a c n + dMx c b n ∧ dSm a b n ≤ dSm a c n + dSm c b n ∧ 0 ≤ dMx a c n ∧ 0 ≤ dMx c b n ∧ 0 ≤ dCn a b n ∧ 0 ≤ dSm a b n ∧ (dCn a b n = 0 ↔ dSm a b n = 0)
  | 0 => by simp [dCn, dMx, dSm]
  | n + 1 => by
    have h := d_tri a b c n
    have h1 := ap_tri a b c n
    have h2 := ap_nn a b n
    have h3 := ap_nn a c n
    have h4 := ap_nn c b n
    simp only [dCn, dMx, dSm]
    (repeat' split) <;> omega
theorem sok_weak {P : Program} {g : FuncId} {s s' : PSpec} (h : SOK P g s) (k : ∀ l obs v, s' l = some (obs, v) → (∀ p ∈ obs, p) → ∃ obs', s l = some (obs', v) ∧ ∀ p ∈ obs', p) : SOK P g s' :=
  ⟨h.1, fun l obs v h1 h2 w O cl h3 h4 => by
    obtain ⟨obs', k1, k2⟩ := k l obs v h1 h2
    exact h.2 l obs' v k1 k2 w O cl h3 h4⟩
abbrev of0S : PSpec := fun l => match l with
  | [.agg [.int .i64 w, .int .i64 h, .int .i64 c, .roi .u8 p], .agg [.int .i64 v, .int .i64 g, .int .i64 d, .roi .u8 q]] => some ([Bytes p, Bytes q, imC ⟨w, h, c, p⟩ ⟨v, g, d, q⟩ = 0], .tup [diffA w c p q p.length, .int .i64 0]) | _ => none
theorem of0_s : SOK Try.prog 21 of0S := by
  refine sok_weak of_s fun l obs v h ho => ?_
  (unfold of0S at h; split at h; rotate_left; (focus (cases h)); rename_i w hgt c p v g d q; simp only [Option.some.injEq, Prod.mk.injEq] at h; obtain ⟨rfl, rfl⟩ := h; simp only [List.mem_cons, List.not_mem_nil, or_false, forall_eq_or_imp, forall_eq, false_implies, implies_true] at ho)
  obtain ⟨h1, h2, h3⟩ := ho
  refine ⟨[Bytes p, Bytes q], by simp [ofS, ofA, h3], ?_⟩
  intro x hx
  simp only [List.mem_cons, List.not_mem_nil, or_false] at hx
  rcases hx with rfl | rfl <;> assumption
theorem walk_DiffThird' (a0 a1 a2 : Int) (a : List Int) (b0 b1 b2 : Int) (b : List Int) (c0 c1 c2 : Int) (c : List Int) (ha : Bytes a) (hb : Bytes b) (hc : Bytes c) (W : World) {cl : List Value} (hcl : CRel noN W NoO [imA a0 a1 a2 a, imA b0 b1 b2 b, imA c0 c1 c2 c] cl) :
    Calls Try.prog 4 cl.toArray W fun e W' => e = .returned (.bool true) ∧ Below W.heap.size W W' := by
  refine law_of (C := mkC 0 [(15, fewS), (20, chkS), (21, of0S), (22, sN (.bool true))] noG)
    (mkC_ok (pok_cons few_s (pok_cons rchk_s (pok_cons of0_s (pok_cons alive13_s pok_nil)))) noG_ok) rfl ⟨Try.func4, by kernel_rfl, by kernel_rfl, by kernel_rfl⟩ (by exact Nat.le_of_ble_eq_true rfl) ?_ hcl
  by_cases k1 : imC ⟨a0, a1, a2, a⟩ ⟨b0, b1, b2, b⟩ = 0
  · by_cases k2 : imC ⟨a0, a1, a2, a⟩ ⟨c0, c1, c2, c⟩ = 0
    · have z1 := imC_ok k1
      have z2 := imC_ok k2
      dsimp only at z1 z2
      obtain ⟨y1, y2, rfl, rfl, rfl, y3, y4, -⟩ := z1
      obtain ⟨x1, x2, rfl, rfl, rfl, x3, -⟩ := z2
      have k3 : imC ⟨a0, a1, a2, a⟩ ⟨a0, a1, a2, a⟩ = 0 := by simp [imC, y1]
      have k4 : imC ⟨a0, a1, a2, b⟩ ⟨a0, a1, a2, a⟩ = 0 := by simp [imC, y1, y2]
      have k5 : imC ⟨a0, a1, a2, c⟩ ⟨a0, a1, a2, b⟩ = 0 := by simp [imC, y2, x2]
      have s := d_self a a.length
      have s1 := s.2.2.2.2 (gX a0 a2)
      have s2 := s.2.2.2.2 (gY a0 a2)
      have s3 := s.2.2.2.2 (gK a2)
      have r := d_sym a b b.length
      have r1 := r.2.2.2.2 (gX a0 a2)
      have r2 := r.2.2.2.2 (gY a0 a2)
      have r3 := r.2.2.2.2 (gK a2)
      have t := d_tri a b c a.length
      rw [← y3] at r r1 r2 r3
      have bc := d_bd ha hc a.length
      have cb := d_bd hc hb a.length
      have q0 : c.length = a.length := x3.symm
      have q1 : b.length = a.length := y3.symm
      have eW : IntKind.u64.wrap (dSm a c a.length + dSm c b a.length) = dSm a c a.length + dSm c b a.length := w64 (by omega) (by omega)
      have u1 : dCn c b c.length = dCn c b a.length := by rw [q0]
      have u2 : dMx c b c.length = dMx c b a.length := by rw [q0]
      have u3 : dSm c b c.length = dSm c b a.length := by rw [q0]
      have v1 : dCn b a b.length = dCn b a a.length := by rw [q1]
      have v2 : dMx b a b.length = dMx b a a.length := by rw [q1]
      have v3 : dSm b a b.length = dSm b a a.length := by rw [q1]
      have v4 : dSq b a b.length = dSq b a a.length := by rw [q1]
      have v5 : dFi (gX a0 a2) b a b.length = dFi (gX a0 a2) b a a.length := by rw [q1]
      have v6 : dFi (gY a0 a2) b a b.length = dFi (gY a0 a2) b a a.length := by rw [q1]
      have v7 : dFi (gK a2) b a b.length = dFi (gK a2) b a a.length := by rw [q1]
      have eW2 : IntKind.u64.wrap (dSm a c a.length + dSm c b c.length) = dSm a c a.length + dSm c b a.length := by rw [u3]; exact eW
      obtain ⟨sa, sb, sc, sd, -⟩ := s
      obtain ⟨ra, rb, rc, rd, -⟩ := r
      (repeat' (first | (refine And.intro (fun (hfk : _ = true) => ?_) (fun (hfk : _ = false) => ?_) <;> ((try (first | replace hfk := of_decide_eq_true hfk | replace hfk := of_decide_eq_false hfk | simp only [decide_eq_true_eq, decide_eq_false_iff_not, Bool.not_eq_true', Bool.not_eq_false', Bool.and_eq_true, Bool.or_eq_true, Bool.and_eq_false_iff, Bool.or_eq_false_iff, Int.not_lt, Int.not_le, ne_eq, Classical.not_not, Bool.true_eq_false, Bool.false_eq_true, or_false, false_or, and_true, true_and, not_true_eq_false, not_false_eq_true, reduceCtorEq] at hfk)); (try (exfalso; first | omega | contradiction)))) | (refine And.intro ?ob ?_; (case ob => (first | exact Chk.mk (by kernel_rfl) | exact True.intro | assumption | exact rng64 (by omega) (by omega) | omega | (dsimp only; omega) | (show (_ : Nat) ≤ _; omega) | exact Nat.le_of_ble_eq_true rfl | (constructor <;> omega)))) | exact True.intro | exact rfl | assumption | (show _ = _; first | assumption | omega | (skip; done) | fail) | (apply And.intro) | omega | (intro j hj; exact rfl) | fail))
      exfalso
      apply ‹¬ decide _ = decide _›
      exact decide_eq_decide.2 (by omega)
    · (repeat' (first | (refine And.intro (fun (hfk : _ = true) => ?_) (fun (hfk : _ = false) => ?_) <;> ((try (first | replace hfk := of_decide_eq_true hfk | replace hfk := of_decide_eq_false hfk | simp only [decide_eq_true_eq, decide_eq_false_iff_not, Bool.not_eq_true', Bool.not_eq_false', Bool.and_eq_true, Bool.or_eq_true, Bool.and_eq_false_iff, Bool.or_eq_false_iff, Int.not_lt, Int.not_le, ne_eq, Classical.not_not, Bool.true_eq_false, Bool.false_eq_true, or_false, false_or, and_true, true_and, not_true_eq_false, not_false_eq_true, reduceCtorEq] at hfk)); (try (exfalso; first | omega | contradiction)))) | (refine And.intro ?ob ?_; (case ob => (first | exact Chk.mk (by kernel_rfl) | exact True.intro | assumption | exact rng64 (by omega) (by omega) | omega | (dsimp only; omega) | (show (_ : Nat) ≤ _; omega) | exact Nat.le_of_ble_eq_true rfl | (constructor <;> omega)))) | exact True.intro | exact rfl | assumption | (show _ = _; first | assumption | omega | (skip; done) | fail) | (apply And.intro) | omega | (intro j hj; exact rfl) | fail))
  · (repeat' (first | (refine And.intro (fun (hfk : _ = true) => ?_) (fun (hfk : _ = false) => ?_) <;> ((try (first | replace hfk := of_decide_eq_true hfk | replace hfk := of_decide_eq_false hfk | simp only [decide_eq_true_eq, decide_eq_false_iff_not, Bool.not_eq_true', Bool.not_eq_false', Bool.and_eq_true, Bool.or_eq_true, Bool.and_eq_false_iff, Bool.or_eq_false_iff, Int.not_lt, Int.not_le, ne_eq, Classical.not_not, Bool.true_eq_false, Bool.false_eq_true, or_false, false_or, and_true, true_and, not_true_eq_false, not_false_eq_true, reduceCtorEq] at hfk)); (try (exfalso; first | omega | contradiction)))) | (refine And.intro ?ob ?_; (case ob => (first | exact Chk.mk (by kernel_rfl) | exact True.intro | assumption | exact rng64 (by omega) (by omega) | omega | (dsimp only; omega) | (show (_ : Nat) ≤ _; omega) | exact Nat.le_of_ble_eq_true rfl | (constructor <;> omega)))) | exact True.intro | exact rfl | assumption | (show _ = _; first | assumption | omega | (skip; done) | fail) | (apply And.intro) | omega | (intro j hj; exact rfl) | fail))
end Go.Proofs.Ytkenkpbkaeoifaa
