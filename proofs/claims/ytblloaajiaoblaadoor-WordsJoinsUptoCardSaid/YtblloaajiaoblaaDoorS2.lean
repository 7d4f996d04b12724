/- Texts laid together. No condition. -/
import Derived.Test.YtblloaajiaoblaaDoorS1
set_option maxRecDepth 100000
set_option maxHeartbeats 4000000
set_option linter.unusedVariables false
set_option linter.unusedSimpArgs false
namespace Go.Proofs.YtblloaajiaoblaaDoor
open Go Go.RowKit
def cmpV (a b : Int) : Int := if a < b then -1 else if b < a then 1 else 0
abbrev lessS : PSpec := sL2 (fun a b => [Sh a, Sh b, Dig a, Dig b]) fun a b => .int .i64 (cmpV (valD a) (valD b))
theorem less_s : SOK Tryd.prog 57 lessS := by
  refine sok_of (C := mkC 0 [(81, digitS)] noG) (mkC_ok (pok_cons digit_s pok_nil) noG_ok) rfl mixed ⟨Tryd.func57, by kernel_rfl, by kernel_rfl, by kernel_rfl⟩ fun l obs v h ho => ?_
  unfold lessS at h
  (unfold sL2 at h; split at h; rotate_left; (focus (cases h)); rename_i a b; simp only [Option.some.injEq, Prod.mk.injEq] at h; obtain ⟨rfl, rfl⟩ := h; simp only [List.mem_cons, List.not_mem_nil, or_false, forall_eq_or_imp, forall_eq, false_implies, implies_true] at ho)
  obtain ⟨sa, sb, da, db⟩ := ho
  have la := sa.le
  have lb := sb.le
  obtain ⟨M, hM⟩ : ∃ M, max a.length b.length = M := ⟨_, rfl⟩
  have hMi : max (a.length : Int) (b.length : Int) = (M : Int) := by omega
  have r0 : rngI .i64 (max (a.length : Int) (b.length : Int) - 1) := rng64 (by omega) (by omega)
  refine ⟨Nat.le_of_ble_eq_true rfl, ?_⟩
  (repeat' (first | (refine xI (fun hfk => ?_) (fun hfk => ?_) <;> ((try (first | replace hfk := oT hfk | replace hfk := oF hfk | simp only [oD, ne_eq, reduceCtorEq] at hfk)); (try exact oX))) | (refine And.intro ?ob ?_; (case ob => (exact oZ))) | exact True.intro | (show _ = _; first | exact oY | exact rfl) | exact oW | (apply And.intro)))
  refine ⟨Nat, fun k => [(0, .roi .i64 a), (1, .roi .i64 b), (5, .int .i64 ((k : Int) - 1))], fun k => ⟨0, []⟩, fun k => k ≤ M ∧ valD (a.drop k) = valD (b.drop k), fun k => k, ⟨M, [], ⟨Nat.le_refl _, ?_⟩, ?_⟩, fun k hk => ?_⟩
  · rw [drop_out (l := a) (by omega), drop_out (l := b) (by omega)]
  · (repeat' (first | (refine And.intro ?_ ?_) | exact True.intro | (show _ = _; with_reducible rfl) | exact Chk.mk (by kernel_rfl)))
    show max (a.length : Int) (b.length : Int) - 1 = (M : Int) - 1
    omega
  obtain ⟨hk, he⟩ := hk
  cases k with
  | zero =>
    rw [List.drop_zero, List.drop_zero] at he
    have e : (0 : Int) = cmpV (valD a) (valD b) := by unfold cmpV; rw [if_neg (by omega), if_neg (by omega)]
    (repeat' (first | (refine xI (fun hfk => ?_) (fun hfk => ?_) <;> ((try (first | replace hfk := oT hfk | replace hfk := oF hfk | simp only [oD, ne_eq, reduceCtorEq] at hfk)); (try exact oX))) | (refine And.intro ?ob ?_; (case ob => (exact oZ))) | exact True.intro | (show _ = _; first | exact oY | (exact e; done) | exact rfl) | exact oW | (apply And.intro)))
  | succ j =>
    have ej : (((j + 1 : Nat) : Int) - 1) = (j : Int) := by omega
    have va := valD_drop a j
    have vb := valD_drop b j
    rcases Int.lt_trichotomy (dgAt a j) (dgAt b j) with hc | hc | hc
    · have hl := lt_drop (i := j) da db (by omega)
      have hc' : dgAt a (((j + 1 : Nat) : Int) - 1) < dgAt b (((j + 1 : Nat) : Int) - 1) := by rw [ej]; exact hc
      have e : (-1 : Int) = cmpV (valD a) (valD b) := by unfold cmpV; rw [if_pos hl]
      (repeat' (first | (refine xI (fun hfk => ?_) (fun hfk => ?_) <;> ((try (first | replace hfk := oT hfk | replace hfk := oF hfk | simp only [oD, ne_eq, reduceCtorEq] at hfk)); (try exact oX))) | (refine And.intro ?ob ?_; (case ob => (exact oZ))) | exact True.intro | (show _ = _; first | exact oY | (exact e; done) | exact rfl) | exact oW | (apply And.intro)))
    · have hc' : dgAt a (((j + 1 : Nat) : Int) - 1) = dgAt b (((j + 1 : Nat) : Int) - 1) := by rw [ej]; exact hc
      have rj : rngI .i64 (((j + 1 : Nat) : Int) - 1 - 1) := rng64 (by omega) (by omega)
      (repeat' (first | (refine xI (fun hfk => ?_) (fun hfk => ?_) <;> ((try (first | replace hfk := oT hfk | replace hfk := oF hfk | simp only [oD, ne_eq, reduceCtorEq] at hfk)); (try exact oX))) | (refine And.intro ?ob ?_; (case ob => (exact oZ))) | exact True.intro | (show _ = _; first | exact oY | exact rfl) | exact oW | (apply And.intro)))
      (refine ⟨j, [], ?_, ?mu, ?_⟩; (case mu => ((try dsimp only); omega)))
      · exact ⟨by omega, by omega⟩
      (repeat' (first | (refine xI (fun hfk => ?_) (fun hfk => ?_) <;> ((try (first | replace hfk := oT hfk | replace hfk := oF hfk | simp only [oD, ne_eq, reduceCtorEq] at hfk)); (try exact oX))) | (refine And.intro ?ob ?_; (case ob => (exact oZ))) | exact True.intro | (show _ = _; first | exact oY | exact rfl) | exact oW | (apply And.intro)))
    · have hl := lt_drop (i := j) db da (by omega)
      have hc' : dgAt b (((j + 1 : Nat) : Int) - 1) < dgAt a (((j + 1 : Nat) : Int) - 1) := by rw [ej]; exact hc
      have e : (1 : Int) = cmpV (valD a) (valD b) := by unfold cmpV; rw [if_neg (by omega), if_pos hl]
      (repeat' (first | (refine xI (fun hfk => ?_) (fun hfk => ?_) <;> ((try (first | replace hfk := oT hfk | replace hfk := oF hfk | simp only [oD, ne_eq, reduceCtorEq] at hfk)); (try exact oX))) | (refine And.intro ?ob ?_; (case ob => (exact oZ))) | exact True.intro | (show _ = _; first | exact oY | (exact e; done) | exact rfl) | exact oW | (apply And.intro)))
abbrev restS01 : PSpec := sL2 (fun a b => [Sh a, Sh b, Dig a, Dig b, valD b ≤ valD a]) fun a b => .roi .i64 (dgs (valD a - valD b).toNat)
theorem rest01_s : SOK Tryd.prog 58 restS01 := by
  refine sok_of (C := mkC 0 [(81, digitS)] (glook [(59, frzP trimS)])) (mkC_ok (pok_cons digit_s pok_nil) (gl_cons (gfrzP trim_s) gl_nil)) rfl mixed ⟨Tryd.func58, by kernel_rfl, by kernel_rfl, by kernel_rfl⟩ fun l obs v h ho => ?_
  unfold restS01 at h
  (unfold sL2 at h; split at h; rotate_left; (focus (cases h)); rename_i a b; simp only [Option.some.injEq, Prod.mk.injEq] at h; obtain ⟨rfl, rfl⟩ := h; simp only [List.mem_cons, List.not_mem_nil, or_false, forall_eq_or_imp, forall_eq, false_implies, implies_true] at ho)
  obtain ⟨sa, sb, da, db, hle⟩ := ho
  have la := sa.le
  refine ⟨Nat.le_of_ble_eq_true rfl, ?_⟩
  (repeat' (first | (refine xI (fun hfk => ?_) (fun hfk => ?_) <;> ((try (first | replace hfk := oT hfk | replace hfk := oF hfk | simp only [oD, ne_eq, reduceCtorEq] at hfk)); (try exact oX))) | (refine And.intro ?ob ?_; (case ob => (exact oZ))) | exact True.intro | (show _ = _; first | exact oY | exact rfl) | exact oW | (apply And.intro)))
  refine ⟨Nat × List Int × Int, fun g => [(0, .roi .i64 a), (1, .roi .i64 b), (5, .sl 0 1 0 g.1), (6, .int .i64 g.2.2), (7, .int .i64 (g.1 : Int))], fun g => ⟨1, [(0, some (.ints 3 .i64 g.2.1))]⟩,
    fun g => g.1 ≤ a.length ∧ g.2.1.length = g.1 ∧ 0 ≤ g.2.2 ∧ g.2.2 ≤ 1 ∧ g.2.1 ++ restR (a.drop g.1) (b.drop g.1) g.2.2 = restR a b 0, fun g => a.length - g.1, ⟨(0, [], 0), [none], ⟨Nat.zero_le _, rfl, by decide, by decide, rfl⟩, ?_⟩, fun g hg => ?_⟩
  · (repeat' (first | (refine And.intro ?_ ?_) | exact True.intro | (show _ = _; with_reducible rfl) | exact Chk.mk (by kernel_rfl)))
    all_goals rfl
  obtain ⟨i, out, c⟩ := g
  obtain ⟨g1, g2, g3, g4, g5⟩ := hg
  have g1 : i ≤ a.length := g1
  have g2 : out.length = i := g2
  have g3 : 0 ≤ c := g3
  have g4 : c ≤ 1 := g4
  have g5 : out ++ restR (a.drop i) (b.drop i) c = restR a b 0 := g5
  by_cases hlt : i < a.length
  · obtain ⟨a1, a2⟩ := dgAt_bd da (i : Int)
    obtain ⟨b1, b2⟩ := dgAt_bd db (i : Int)
    have r1 : rngI .i64 (dgAt a i - dgAt b i) := rng64 (by omega) (by omega)
    have r2 : rngI .i64 (dgAt a i - dgAt b i - c) := rng64 (by omega) (by omega)
    have r3 : rngI .i64 (dgAt a i - dgAt b i - c + 32768) := rng64 (by omega) (by omega)
    have st := restR_step (b := b) (c := c) hlt
    by_cases hs : dgAt a i - dgAt b i - c < 0
    · rw [if_pos hs, if_pos hs] at st
      (repeat' (first | (refine xI (fun hfk => ?_) (fun hfk => ?_) <;> ((try (first | replace hfk := oT hfk | replace hfk := oF hfk | simp only [oD, ne_eq, reduceCtorEq] at hfk)); (try exact oX))) | (refine And.intro ?ob ?_; (case ob => (exact oZ))) | exact True.intro | (show _ = _; first | exact oY | exact rfl) | exact oW | (apply And.intro)))
      refine ⟨(i + 1, out ++ [dgAt a i - dgAt b i - c + 32768], 1), [some 2], ?_, ?mu, ?_⟩
      case mu => (show a.length - (i + 1) < a.length - i; omega)
      · refine ⟨hlt, by simp [g2], by show (0:Int) ≤ 1; decide, by show (1:Int) ≤ 1; decide, ?_⟩
        show (out ++ [_]) ++ restR (a.drop (i + 1)) (b.drop (i + 1)) _ = _
        rw [← g5, st, List.append_assoc]; rfl
      (repeat' (first | (refine And.intro ?_ ?_) | exact True.intro | (show _ = _; with_reducible rfl) | exact Chk.mk (by kernel_rfl)))
      all_goals first | rfl | (show (_ : Int) = _; omega) | (show out.length + 1 = i + 1; omega)
    · rw [if_neg hs, if_neg hs] at st
      (repeat' (first | (refine xI (fun hfk => ?_) (fun hfk => ?_) <;> ((try (first | replace hfk := oT hfk | replace hfk := oF hfk | simp only [oD, ne_eq, reduceCtorEq] at hfk)); (try exact oX))) | (refine And.intro ?ob ?_; (case ob => (exact oZ))) | exact True.intro | (show _ = _; first | exact oY | exact rfl) | exact oW | (apply And.intro)))
      refine ⟨(i + 1, out ++ [dgAt a i - dgAt b i - c], 0), [some 2], ?_, ?mu, ?_⟩
      case mu => (show a.length - (i + 1) < a.length - i; omega)
      · refine ⟨hlt, by simp [g2], by show (0:Int) ≤ 0; decide, by show (0:Int) ≤ 1; decide, ?_⟩
        show (out ++ [_]) ++ restR (a.drop (i + 1)) (b.drop (i + 1)) _ = _
        rw [← g5, st, List.append_assoc]; rfl
      (repeat' (first | (refine And.intro ?_ ?_) | exact True.intro | (show _ = _; with_reducible rfl) | exact Chk.mk (by kernel_rfl)))
      all_goals first | rfl | (show (_ : Int) = _; omega) | (show out.length + 1 = i + 1; omega)
  · have hi : i = a.length := by omega
    have ge : restR (a.drop i) (b.drop i) c = [] := by rw [drop_out (l := a) (by omega), restR]
    rw [ge, List.append_nil] at g5
    have gd : Dig out := by rw [g5]; exact restR_dig da db (by decide) (by decide)
    have gv : trimL out = dgs (valD a - valD b).toNat := by
      rw [trim_dgs gd, g5, restR_val da db (by decide) (by decide) (by omega), Int.sub_zero]
    have qv : List.take i (List.drop 0 out) = out := by rw [List.drop_zero, List.take_of_length_le (by omega)]
    have qs : ShT (List.take i (List.drop 0 out)) := by
      rw [qv]
      exact ⟨by omega⟩
    have qt : trimL (List.take i (List.drop 0 out)) = dgs (valD a - valD b).toNat := by rw [qv]; exact gv
    (repeat' (first | (refine xI (fun hfk => ?_) (fun hfk => ?_) <;> ((try (first | replace hfk := oT hfk | replace hfk := oF hfk | simp only [oD, ne_eq, reduceCtorEq] at hfk)); (try exact oX))) | (refine And.intro ?ob ?_; (case ob => (exact oZ))) | exact True.intro | (show _ = _; first | exact oY | (exact qt; done) | exact rfl) | exact oW | (apply And.intro)))
end Go.Proofs.YtblloaajiaoblaaDoor
namespace Go.Proofs.YtblloaajiaoblaaDoor
open Go Go.RowKit
structure Bg (s : Bool) (l : List Int) : Prop where
  dig : Dig l
  can : dgs (valD l).toNat = l
  sh : Sh l
  sg : s = true → valD l ≠ 0
def bzv (s : Bool) (l : List Int) : Int := if s = true then -(valD l) else valD l
abbrev bigA (z : Int) : AV := .agg [.bool (decide (z < 0)), .roi .i64 (dgs z.natAbs)]
theorem bzv_big (z : Int) : bzv (decide (z < 0)) (dgs z.natAbs) = z := by
  unfold bzv
  rw [valD_dgs]
  by_cases h : z < 0
  · rw [decide_eq_true h, if_pos rfl]; omega
  · rw [decide_eq_false h, if_neg (by simp)]; omega
theorem Bg_big {z : Int} (h : (dgs z.natAbs).length ≤ 1000000) : Bg (decide (z < 0)) (dgs z.natAbs) :=
  ⟨Dig_dgs _, by rw [valD_dgs, Int.toNat_natCast], ⟨h⟩, fun k => by have k := of_decide_eq_true k; rw [valD_dgs]; omega⟩
theorem dgs_len0 {n : Nat} : (0 < ((dgs n).length : Int)) ↔ 0 < n := by
  by_cases h : n = 0
  · subst h; rw [dgs_0]; simp
  · rw [dgs_pos h, List.length_cons]; constructor <;> intro _ <;> omega
theorem made_sg (t : Bool) (n : Nat) : (t && decide (0 < ((dgs n).length : Int))) = decide ((if t = true then -(n : Int) else n) < 0) := by
  cases t with
  | true =>
    rw [if_pos rfl, Bool.true_and]
    exact decide_eq_decide.2 ⟨fun h => by have := dgs_len0.1 h; omega, fun h => dgs_len0.2 (by omega)⟩
  | false =>
    rw [if_neg (by simp), Bool.false_and]
    exact (decide_eq_false (by omega)).symm
theorem made_dg (t : Bool) (n : Nat) : dgs n = dgs (if t = true then -(n : Int) else n).natAbs := by
  cases t with
  | true => rw [if_pos rfl]; congr 1; omega
  | false => rw [if_neg (by simp)]; congr 1
theorem made_z {t : Bool} {n : Nat} {z : Int} (h : (if t = true then -(n : Int) else n) = z) : (t && decide (0 < ((dgs n).length : Int))) = decide (z < 0) ∧ dgs n = dgs z.natAbs := by
  rw [← h]; exact ⟨made_sg t n, made_dg t n⟩
theorem dgs_len : ∀ {k n : Nat}, n < 32768 ^ k → (dgs n).length ≤ k
  | 0, n, h => by
    have : n = 0 := by simpa using h
    subst this; rw [dgs_0]; exact Nat.le_refl _
  | k + 1, n, h => by
    by_cases hn : n = 0
    · subst hn; rw [dgs_0]; exact Nat.zero_le _
    · rw [dgs_pos hn, List.length_cons]
      have : n / 32768 < 32768 ^ k := by
        rw [Nat.pow_succ] at h
        exact Nat.div_lt_of_lt_mul (by rw [Nat.mul_comm]; exact h)
      have := dgs_len this
      omega
abbrev gB1 (ob : Bool → List Int → List Prop) (f : Bool → List Int → AV) : PSpec := fun l => match l with | [.agg [.bool s, .roi .i64 d]] => some (ob s d, f s d) | _ => none
abbrev gB2 (ob : Bool → List Int → Bool → List Int → List Prop) (f : Bool → List Int → Bool → List Int → AV) : PSpec := fun l => match l with | [.agg [.bool s, .roi .i64 d], .agg [.bool t, .roi .i64 e]] => some (ob s d t e, f s d t e) | _ => none
abbrev negS : PSpec := gB1 (fun s d => [Bg s d]) fun s d => bigA (-(bzv s d))
theorem neg_s : SOK Tryd.prog 37 negS := by
  refine sok_of (C := mkC 0 [(55, madeS)] noG) (mkC_ok (pok_cons made_s pok_nil) noG_ok) rfl mixed ⟨Tryd.func37, by kernel_rfl, by kernel_rfl, by kernel_rfl⟩ fun l obs v h ho => ?_
  unfold negS at h
  (unfold gB1 at h; split at h; rotate_left; (focus (cases h)); rename_i s d; simp only [Option.some.injEq, Prod.mk.injEq] at h; obtain ⟨rfl, rfl⟩ := h; simp only [List.mem_cons, List.not_mem_nil, or_false, forall_eq_or_imp, forall_eq, false_implies, implies_true] at ho)
  have hn := valD_nn ho.dig
  have hz : (if (!s) = true then -((valD d).toNat : Int) else ((valD d).toNat : Int)) = -(bzv s d) := by
    unfold bzv
    cases s <;> simp <;> omega
  obtain ⟨e1, e2⟩ := made_z hz
  rw [ho.can] at e1 e2
  refine ⟨Nat.le_of_ble_eq_true rfl, ?_⟩
  (repeat' (first | (refine xI (fun hfk => ?_) (fun hfk => ?_) <;> ((try (first | replace hfk := oT hfk | replace hfk := oF hfk | simp only [oD, ne_eq, reduceCtorEq] at hfk)); (try exact oX))) | (refine And.intro ?ob ?_; (case ob => (exact oZ))) | exact True.intro | (show _ = _; first | exact oY | (first | exact e1 | exact e2 | exact ⟨e1, e2⟩; done) | exact rfl) | exact oW | (apply And.intro)))
abbrev addS : PSpec := gB2 (fun s d t e => [Bg s d, Bg t e]) fun s d t e => bigA (bzv s d + bzv t e)
theorem add_s : SOK Tryd.prog 35 addS := by
  refine sok_of (C := mkC 0 [(55, madeS), (56, sumS), (58, restS01), (57, lessS)] noG) (mkC_ok (pok_cons made_s (pok_cons sum_s (pok_cons rest01_s (pok_cons less_s pok_nil)))) noG_ok) rfl mixed ⟨Tryd.func35, by kernel_rfl, by kernel_rfl, by kernel_rfl⟩ fun l obs v h ho => ?_
  unfold addS at h
  (unfold gB2 at h; split at h; rotate_left; (focus (cases h)); rename_i s d t e; simp only [Option.some.injEq, Prod.mk.injEq] at h; obtain ⟨rfl, rfl⟩ := h; simp only [List.mem_cons, List.not_mem_nil, or_false, forall_eq_or_imp, forall_eq, false_implies, implies_true] at ho)
  obtain ⟨hd, he⟩ := ho
  have nd := valD_nn hd.dig
  have ne := valD_nn he.dig
  have dd := hd.dig
  have de := he.dig
  have sd := hd.sh
  have se := he.sh
  refine ⟨Nat.le_of_ble_eq_true rfl, ?_⟩
  by_cases hs : s = t
  · have hz : (if s = true then -((valD d + valD e).toNat : Int) else ((valD d + valD e).toNat : Int)) = bzv s d + bzv t e := by
      subst hs
      unfold bzv
      cases s <;> simp <;> omega
    obtain ⟨e1, e2⟩ := made_z hz
    (repeat' (first | (refine xI (fun hfk => ?_) (fun hfk => ?_) <;> ((try (first | replace hfk := oT hfk | replace hfk := oF hfk | simp only [oD, ne_eq, reduceCtorEq] at hfk)); (try exact oX))) | (refine And.intro ?ob ?_; (case ob => (exact oZ))) | exact True.intro | (show _ = _; first | exact oY | (first | exact e1 | exact e2 | exact ⟨e1, e2⟩; done) | exact rfl) | exact oW | (apply And.intro)))
  · by_cases hc : valD e ≤ valD d
    · have hl : 0 ≤ cmpV (valD d) (valD e) := by unfold cmpV; rw [if_neg (by omega)]; split <;> decide
      have hz : (if s = true then -((valD d - valD e).toNat : Int) else ((valD d - valD e).toNat : Int)) = bzv s d + bzv t e := by
        unfold bzv
        cases s <;> cases t <;> simp at hs ⊢ <;> omega
      obtain ⟨e1, e2⟩ := made_z hz
      (repeat' (first | (refine xI (fun hfk => ?_) (fun hfk => ?_) <;> ((try (first | replace hfk := oT hfk | replace hfk := oF hfk | simp only [oD, ne_eq, reduceCtorEq] at hfk)); (try exact oX))) | (refine And.intro ?ob ?_; (case ob => (exact oZ))) | exact True.intro | (show _ = _; first | exact oY | (first | exact e1 | exact e2 | exact ⟨e1, e2⟩; done) | exact rfl) | exact oW | (apply And.intro)))
    · have hc' : valD d ≤ valD e := by omega
      have hl : ¬ 0 ≤ cmpV (valD d) (valD e) := by unfold cmpV; rw [if_pos (by omega)]; decide
      have hz : (if t = true then -((valD e - valD d).toNat : Int) else ((valD e - valD d).toNat : Int)) = bzv s d + bzv t e := by
        unfold bzv
        cases s <;> cases t <;> simp at hs ⊢ <;> omega
      obtain ⟨e1, e2⟩ := made_z hz
      (repeat' (first | (refine xI (fun hfk => ?_) (fun hfk => ?_) <;> ((try (first | replace hfk := oT hfk | replace hfk := oF hfk | simp only [oD, ne_eq, reduceCtorEq] at hfk)); (try exact oX))) | (refine And.intro ?ob ?_; (case ob => (exact oZ))) | exact True.intro | (show _ = _; first | exact oY | (first | exact e1 | exact e2 | exact ⟨e1, e2⟩; done) | exact rfl) | exact oW | (apply And.intro)))
end Go.Proofs.YtblloaajiaoblaaDoor
namespace Go.Proofs.YtblloaajiaoblaaDoor
open Go Go.RowKit
theorem Bg.nat {s : Bool} {l : List Int} (h : Bg s l) : dgs (bzv s l).natAbs = l := by
  have := valD_nn h.dig
  have e : (bzv s l).natAbs = (valD l).toNat := by unfold bzv; cases s <;> simp <;> omega
  rw [e, h.can]
theorem Bg.neg {s : Bool} {l : List Int} (h : Bg s l) : Bg (decide (-(bzv s l) < 0)) (dgs (-(bzv s l)).natAbs) :=
  Bg_big (by rw [Int.natAbs_neg, h.nat]; exact h.sh.le)
abbrev subS : PSpec := gB2 (fun s d t e => [Bg s d, Bg t e]) fun s d t e => bigA (bzv s d - bzv t e)
theorem sub_s : SOK Tryd.prog 64 subS := by
  refine sok_of (C := mkC 0 [(35, addS), (37, negS)] noG) (mkC_ok (pok_cons add_s (pok_cons neg_s pok_nil)) noG_ok) rfl mixed ⟨Tryd.func64, by kernel_rfl, by kernel_rfl, by kernel_rfl⟩ fun l obs v h ho => ?_
  unfold subS at h
  (unfold gB2 at h; split at h; rotate_left; (focus (cases h)); rename_i s d t e; simp only [Option.some.injEq, Prod.mk.injEq] at h; obtain ⟨rfl, rfl⟩ := h; simp only [List.mem_cons, List.not_mem_nil, or_false, forall_eq_or_imp, forall_eq, false_implies, implies_true] at ho)
  obtain ⟨hd, he⟩ := ho
  have hn := he.neg
  have hz : bzv s d + bzv (decide (-(bzv t e) < 0)) (dgs (-(bzv t e)).natAbs) = bzv s d - bzv t e := by rw [bzv_big]; omega
  have e1 : decide (bzv s d + bzv (decide (-(bzv t e) < 0)) (dgs (-(bzv t e)).natAbs) < 0) = decide (bzv s d - bzv t e < 0) := by rw [hz]
  have e2 : dgs (bzv s d + bzv (decide (-(bzv t e) < 0)) (dgs (-(bzv t e)).natAbs)).natAbs = dgs (bzv s d - bzv t e).natAbs := by rw [hz]
  refine ⟨Nat.le_of_ble_eq_true rfl, ?_⟩
  (repeat' (first | (refine xI (fun hfk => ?_) (fun hfk => ?_) <;> ((try (first | replace hfk := oT hfk | replace hfk := oF hfk | simp only [oD, ne_eq, reduceCtorEq] at hfk)); (try exact oX))) | (refine And.intro ?ob ?_; (case ob => (exact oZ))) | exact True.intro | (show _ = _; first | exact oY | (first | exact e1 | exact e2 | exact ⟨e1, e2⟩; done) | exact rfl) | exact oW | (apply And.intro)))
abbrev cmpS : PSpec := gB2 (fun s d t e => [Bg s d, Bg t e]) fun s d t e => .int .i64 (cmpV (bzv s d) (bzv t e))
theorem cmp_s : SOK Tryd.prog 60 cmpS := by
  refine sok_of (C := mkC 0 [(64, subS)] noG) (mkC_ok (pok_cons sub_s pok_nil) noG_ok) rfl mixed ⟨Tryd.func60, by kernel_rfl, by kernel_rfl, by kernel_rfl⟩ fun l obs v h ho => ?_
  unfold cmpS at h
  (unfold gB2 at h; split at h; rotate_left; (focus (cases h)); rename_i s d t e; simp only [Option.some.injEq, Prod.mk.injEq] at h; obtain ⟨rfl, rfl⟩ := h; simp only [List.mem_cons, List.not_mem_nil, or_false, forall_eq_or_imp, forall_eq, false_implies, implies_true] at ho)
  obtain ⟨hd, he⟩ := ho
  refine ⟨Nat.le_of_ble_eq_true rfl, ?_⟩
  rcases Int.lt_trichotomy (bzv s d) (bzv t e) with hc | hc | hc
  · have hb : decide (bzv s d - bzv t e < 0) = true := decide_eq_true (by omega)
    have hl : ¬ ((dgs (bzv s d - bzv t e).natAbs).length : Int) = 0 := by
      intro h; have := dgs_len0 (n := (bzv s d - bzv t e).natAbs); omega
    have e : (-1 : Int) = cmpV (bzv s d) (bzv t e) := by unfold cmpV; rw [if_pos hc]
    (repeat' (first | (refine xI (fun hfk => ?_) (fun hfk => ?_) <;> ((try (first | replace hfk := oT hfk | replace hfk := oF hfk | simp only [oD, ne_eq, reduceCtorEq] at hfk)); (try exact oX))) | (refine And.intro ?ob ?_; (case ob => (exact oZ))) | exact True.intro | (show _ = _; first | exact oY | (exact e; done) | exact rfl) | exact oW | (apply And.intro)))
  · have hl : ((dgs (bzv s d - bzv t e).natAbs).length : Int) = 0 := by
      have := dgs_len0 (n := (bzv s d - bzv t e).natAbs); omega
    have e : (0 : Int) = cmpV (bzv s d) (bzv t e) := by unfold cmpV; rw [if_neg (by omega), if_neg (by omega)]
    (repeat' (first | (refine xI (fun hfk => ?_) (fun hfk => ?_) <;> ((try (first | replace hfk := oT hfk | replace hfk := oF hfk | simp only [oD, ne_eq, reduceCtorEq] at hfk)); (try exact oX))) | (refine And.intro ?ob ?_; (case ob => (exact oZ))) | exact True.intro | (show _ = _; first | exact oY | (exact e; done) | exact rfl) | exact oW | (apply And.intro)))
  · have hb : ¬ decide (bzv s d - bzv t e < 0) = true := fun k => by have := of_decide_eq_true k; omega
    have hl : ¬ ((dgs (bzv s d - bzv t e).natAbs).length : Int) = 0 := by
      intro h; have := dgs_len0 (n := (bzv s d - bzv t e).natAbs); omega
    have e : (1 : Int) = cmpV (bzv s d) (bzv t e) := by unfold cmpV; rw [if_neg (by omega), if_pos hc]
    (repeat' (first | (refine xI (fun hfk => ?_) (fun hfk => ?_) <;> ((try (first | replace hfk := oT hfk | replace hfk := oF hfk | simp only [oD, ne_eq, reduceCtorEq] at hfk)); (try exact oX))) | (refine And.intro ?ob ?_; (case ob => (exact oZ))) | exact True.intro | (show _ = _; first | exact oY | (exact e; done) | exact rfl) | exact oW | (apply And.intro)))
abbrev unsS : PSpec := fun l => match l with | [.int .u64 x] => some ([0 ≤ x, x < 18446744073709551616], bigA x) | _ => none
theorem uns_s : SOK Tryd.prog 54 unsS := by
  refine sok_of (C := mkC 0 [] noG) (mkC_ok pok_nil noG_ok) rfl mixed ⟨Tryd.func54, by kernel_rfl, by kernel_rfl, by kernel_rfl⟩ fun l obs v h ho => ?_
  (unfold unsS at h; split at h; rotate_left; (focus (cases h)); rename_i x; simp only [Option.some.injEq, Prod.mk.injEq] at h; obtain ⟨rfl, rfl⟩ := h; simp only [List.mem_cons, List.not_mem_nil, or_false, forall_eq_or_imp, forall_eq, false_implies, implies_true] at ho)
  obtain ⟨h0, h1⟩ := ho
  have hk : (dgs x.toNat).length ≤ 5 := dgs_len (by rw [show (32768 : Nat) ^ 5 = 37778931862957161709568 from by decide]; omega)
  refine ⟨Nat.le_of_ble_eq_true rfl, ?_⟩
  (repeat' (first | (refine xI (fun hfk => ?_) (fun hfk => ?_) <;> ((try (first | replace hfk := oT hfk | replace hfk := oF hfk | simp only [oD, ne_eq, reduceCtorEq] at hfk)); (try exact oX))) | (refine And.intro ?ob ?_; (case ob => (exact oZ))) | exact True.intro | (show _ = _; first | exact oY | exact rfl) | exact oW | (apply And.intro)))
  refine ⟨Int × List Int, fun g => [(0, .int .u64 g.1), (2, .ptr 0 0), (3, .sl 1 1 0 g.2.length)], fun g => ⟨2, [(0, some (.cells 69 [.fls, .nils])), (1, some (.ints 3 .i64 g.2))]⟩,
    fun g => 0 ≤ g.1 ∧ g.1 ≤ x ∧ g.2 ++ dgs g.1.toNat = dgs x.toNat, fun g => g.1.toNat, ⟨(x, []), [some 0, none], ⟨h0, Int.le_refl _, rfl⟩, ?_⟩, fun g hg => ?_⟩
  · (repeat' (first | (refine And.intro ?_ ?_) | exact True.intro | (show _ = _; with_reducible rfl) | exact Chk.mk (by kernel_rfl)))
    all_goals rfl
  obtain ⟨y, out⟩ := g
  obtain ⟨g0, g1, g2⟩ := hg
  have g0 : 0 ≤ y := g0
  have g1 : y ≤ x := g1
  have g2 : out ++ dgs y.toNat = dgs x.toNat := g2
  have g3 : out.length + (dgs y.toNat).length ≤ 5 := by rw [← List.length_append, g2]; exact hk
  by_cases hp : 0 < y
  · have hm : Int.tmod y 32768 = y % 32768 := Int.tmod_eq_emod_of_nonneg g0
    have hd : Int.tdiv y 32768 = y / 32768 := Int.tdiv_eq_ediv_of_nonneg g0
    have hw : IntKind.u64.wrap (Int.tdiv y 32768) = y / 32768 := by
      rw [hd]; exact wrap_rng ⟨by show (0 : Int) ≤ _; omega, by show _ ≤ (18446744073709551615 : Int); omega⟩
    have rm : rngI .i64 (Int.tmod y 32768) := by rw [hm]; exact rng64 (by omega) (by omega)
    have st : dgs y.toNat = (y % 32768) :: dgs (y / 32768).toNat := by
      rw [dgs_pos (by omega)]
      congr 1
      · omega
      · congr 1; omega
    (repeat' (first | (refine xI (fun hfk => ?_) (fun hfk => ?_) <;> ((try (first | replace hfk := oT hfk | replace hfk := oF hfk | simp only [oD, ne_eq, reduceCtorEq] at hfk)); (try exact oX))) | (refine And.intro ?ob ?_; (case ob => (exact oZ))) | exact True.intro | (show _ = _; first | exact oY | exact rfl) | exact oW | (apply And.intro)))
    refine ⟨(y / 32768, out ++ [y % 32768]), [some 0, some 3], ?_, ?mu, ?_⟩
    case mu => (show (y / 32768).toNat < y.toNat; omega)
    · refine ⟨by show 0 ≤ y / 32768; omega, by show y / 32768 ≤ x; omega, ?_⟩
      show (out ++ [_]) ++ dgs (y / 32768).toNat = _
      rw [← g2, st, List.append_assoc]; rfl
    have qa : out ++ List.take 1 (List.drop 0 [Int.tmod y 32768]) = out ++ [y % 32768] := by rw [hm]; rfl
    have ql : out.length + (List.take 1 (List.drop 0 [Int.tmod y 32768])).length = (out ++ [y % 32768]).length := by rw [List.length_append]; rfl
    (repeat' (first | (refine And.intro ?_ ?_) | exact True.intro | (show _ = _; with_reducible rfl) | exact Chk.mk (by kernel_rfl)))
    all_goals first | exact hw | exact qa | exact ql
  · have hy : y = 0 := by omega
    have e2 : List.take out.length (List.drop 0 out) = dgs x.natAbs := by
      rw [hy] at g2
      rw [show x.natAbs = x.toNat from by omega, ← g2, List.drop_zero, List.take_length]
      show out = out ++ dgs 0
      rw [dgs_0, List.append_nil]
    have e1 : false = decide (x < 0) := (decide_eq_false (by omega)).symm
    (repeat' (first | (refine xI (fun hfk => ?_) (fun hfk => ?_) <;> ((try (first | replace hfk := oT hfk | replace hfk := oF hfk | simp only [oD, ne_eq, reduceCtorEq] at hfk)); (try exact oX))) | (refine And.intro ?ob ?_; (case ob => (exact oZ))) | exact True.intro | (show _ = _; first | exact oY | (first | exact e1 | exact e2 | exact ⟨e1, e2⟩; done) | exact rfl) | exact oW | (apply And.intro)))
end Go.Proofs.YtblloaajiaoblaaDoor
namespace Go.Proofs.YtblloaajiaoblaaDoor
open Go Go.RowKit
theorem u64_id {n : Int} (h0 : 0 ≤ n) (h1 : n < 18446744073709551616) : IntKind.u64.wrap n = n :=
  wrap_rng ⟨by show (0 : Int) ≤ _; exact h0, by show _ ≤ (18446744073709551615 : Int); omega⟩
abbrev ofS : PSpec := fun l => match l with | [.int .i64 x] => some ([-9223372036854775808 ≤ x, x < 9223372036854775808], bigA x) | _ => none
theorem of_s : SOK Tryd.prog 34 ofS := by
  refine sok_of (C := mkC 0 [(54, unsS)] noG) (mkC_ok (pok_cons uns_s pok_nil) noG_ok) rfl mixed ⟨Tryd.func34, by kernel_rfl, by kernel_rfl, by kernel_rfl⟩ fun l obs v h ho => ?_
  (unfold ofS at h; split at h; rotate_left; (focus (cases h)); rename_i x; simp only [Option.some.injEq, Prod.mk.injEq] at h; obtain ⟨rfl, rfl⟩ := h; simp only [List.mem_cons, List.not_mem_nil, or_false, forall_eq_or_imp, forall_eq, false_implies, implies_true] at ho)
  obtain ⟨h0, h1⟩ := ho
  refine ⟨Nat.le_of_ble_eq_true rfl, ?_⟩
  by_cases hx : x < 0
  · have w1 : IntKind.u64.wrap (0 - (x + 1)) = 0 - (x + 1) := u64_id (by omega) (by omega)
    have w2 : IntKind.u64.wrap (IntKind.u64.wrap (0 - (x + 1)) + 1) = -x := by rw [w1, u64_id (by omega) (by omega)]; omega
    have k0 : 0 ≤ IntKind.u64.wrap (IntKind.u64.wrap (0 - (x + 1)) + 1) := by rw [w2]; omega
    have k1 : IntKind.u64.wrap (IntKind.u64.wrap (0 - (x + 1)) + 1) < 18446744073709551616 := by rw [w2]; omega
    have e1 : true = decide (x < 0) := (decide_eq_true hx).symm
    have e2 : dgs (IntKind.u64.wrap (IntKind.u64.wrap (0 - (x + 1)) + 1)).natAbs = dgs x.natAbs := by rw [w2, Int.natAbs_neg]
    have r1 : rngI .i64 (x + 1) := rng64 (by omega) (by omega)
    have r2 : rngI .i64 (0 - (x + 1)) := rng64 (by omega) (by omega)
    (repeat' (first | (refine xI (fun hfk => ?_) (fun hfk => ?_) <;> ((try (first | replace hfk := oT hfk | replace hfk := oF hfk | simp only [oD, ne_eq, reduceCtorEq] at hfk)); (try exact oX))) | (refine And.intro ?ob ?_; (case ob => (exact oZ))) | exact True.intro | (show _ = _; first | exact oY | (first | exact e1 | exact e2 | exact ⟨e1, e2⟩; done) | exact rfl) | exact oW | (apply And.intro)))
  · have w1 : IntKind.u64.wrap x = x := u64_id (by omega) (by omega)
    have k0 : 0 ≤ IntKind.u64.wrap x := by rw [w1]; omega
    have k1 : IntKind.u64.wrap x < 18446744073709551616 := by rw [w1]; omega
    have e1 : decide (IntKind.u64.wrap x < 0) = decide (x < 0) := by rw [w1]
    have e2 : dgs (IntKind.u64.wrap x).natAbs = dgs x.natAbs := by rw [w1]
    (repeat' (first | (refine xI (fun hfk => ?_) (fun hfk => ?_) <;> ((try (first | replace hfk := oT hfk | replace hfk := oF hfk | simp only [oD, ne_eq, reduceCtorEq] at hfk)); (try exact oX))) | (refine And.intro ?ob ?_; (case ob => (exact oZ))) | exact True.intro | (show _ = _; first | exact oY | (first | exact e1 | exact e2 | exact ⟨e1, e2⟩; done) | exact rfl) | exact oW | (apply And.intro)))
theorem valD_drop_le : ∀ {l : List Int} (k : Nat), Dig l → valD (l.drop k) ≤ valD l
  | [], k, h => by simp
  | d :: l, 0, h => by simp
  | d :: l, k + 1, h => by
    have := valD_drop_le (l := l) k h.tail
    have := valD_nn h.tail
    have := h.head.lo
    simp only [List.drop_succ_cons, valD]
    omega
abbrev unsignedS : PSpec := gB1 (fun s d => [Bg s d, valD d < 18446744073709551616]) fun s d => .int .u64 (valD d)
theorem unsigned_s : SOK Tryd.prog 63 unsignedS := by
  refine sok_of (C := mkC 0 [] noG) (mkC_ok pok_nil noG_ok) rfl mixed ⟨Tryd.func63, by kernel_rfl, by kernel_rfl, by kernel_rfl⟩ fun l obs v h ho => ?_
  unfold unsignedS at h
  (unfold gB1 at h; split at h; rotate_left; (focus (cases h)); rename_i s d; simp only [Option.some.injEq, Prod.mk.injEq] at h; obtain ⟨rfl, rfl⟩ := h; simp only [List.mem_cons, List.not_mem_nil, or_false, forall_eq_or_imp, forall_eq, false_implies, implies_true] at ho)
  obtain ⟨hd, hv⟩ := ho
  have dd := hd.dig
  have hl := hd.sh.le
  refine ⟨Nat.le_of_ble_eq_true rfl, ?_⟩
  have r0 : rngI .i64 ((d.length : Int) - 1) := rng64 (by omega) (by omega)
  (repeat' (first | (refine xI (fun hfk => ?_) (fun hfk => ?_) <;> ((try (first | replace hfk := oT hfk | replace hfk := oF hfk | simp only [oD, ne_eq, reduceCtorEq] at hfk)); (try exact oX))) | (refine And.intro ?ob ?_; (case ob => (exact oZ))) | exact True.intro | (show _ = _; first | exact oY | exact rfl) | exact oW | (apply And.intro)))
  refine ⟨Nat, fun k => [(1, .ptr 0 0), (3, .int .u64 (valD (d.drop k))), (4, .int .i64 ((k : Int) - 1))], fun k => ⟨1, [(0, some (.cells 69 [.bool s, .roi .i64 d]))]⟩, fun k => k ≤ d.length, fun k => k, ⟨d.length, [some 0], Nat.le_refl _, ?_⟩, fun k hk => ?_⟩
  · have e : (0 : Int) = valD (d.drop d.length) := by rw [List.drop_length]; rfl
    (repeat' (first | (refine And.intro ?_ ?_) | exact True.intro | (show _ = _; with_reducible rfl) | exact Chk.mk (by kernel_rfl)))
    all_goals first | rfl | exact e
  have hk : k ≤ d.length := hk
  cases k with
  | zero =>
    have e : valD (d.drop 0) = valD d := by rw [List.drop_zero]
    (repeat' (first | (refine xI (fun hfk => ?_) (fun hfk => ?_) <;> ((try (first | replace hfk := oT hfk | replace hfk := oF hfk | simp only [oD, ne_eq, reduceCtorEq] at hfk)); (try exact oX))) | (refine And.intro ?ob ?_; (case ob => (exact oZ))) | exact True.intro | (show _ = _; first | exact oY | (exact e; done) | exact rfl) | exact oW | (apply And.intro)))
  | succ j =>
    have ej : (((j + 1 : Nat) : Int) - 1) = (j : Int) := by omega
    have et : (((j + 1 : Nat) : Int) - 1).toNat = j := by omega
    have va := valD_drop d j
    have vle := valD_drop_le j dd
    have vn := valD_nn (dd.drop (j + 1))
    obtain ⟨b0, b1⟩ := dgAt_bd dd (j : Int)
    have eg : dgAt d j = d.getD j 0 := dgAt_in hk
    have w1 : IntKind.u64.wrap (valD (d.drop (j + 1)) * 32768) = valD (d.drop (j + 1)) * 32768 := u64_id (by omega) (by omega)
    have w2 : IntKind.u64.wrap (d.getD (((j + 1 : Nat) : Int) - 1).toNat 0) = d.getD j 0 := by rw [et]; exact u64_id (by omega) (by omega)
    have w3 : IntKind.u64.wrap (IntKind.u64.wrap (valD (d.drop (j + 1)) * 32768) + IntKind.u64.wrap (d.getD (((j + 1 : Nat) : Int) - 1).toNat 0)) = valD (d.drop j) := by
      rw [w1, w2, u64_id (by omega) (by omega), va]; omega
    have rj : rngI .i64 (((j + 1 : Nat) : Int) - 1 - 1) := rng64 (by omega) (by omega)
    (repeat' (first | (refine xI (fun hfk => ?_) (fun hfk => ?_) <;> ((try (first | replace hfk := oT hfk | replace hfk := oF hfk | simp only [oD, ne_eq, reduceCtorEq] at hfk)); (try exact oX))) | (refine And.intro ?ob ?_; (case ob => (exact oZ))) | exact True.intro | (show _ = _; first | exact oY | exact rfl) | exact oW | (apply And.intro)))
    refine ⟨j, [some 0], by omega, ?mu, ?_⟩
    case mu => (show j < j + 1; omega)
    (repeat' (first | (refine And.intro ?_ ?_) | exact True.intro | (show _ = _; with_reducible rfl) | exact Chk.mk (by kernel_rfl)))
    all_goals first | rfl | exact w3 | (show (_ : Int) = _; omega)
abbrev smallS : PSpec := gB1 (fun s d => [Bg s d, valD d < 9223372036854775808]) fun s d => .int .i64 (bzv s d)
theorem small_s : SOK Tryd.prog 40 smallS := by
  refine sok_of (C := mkC 0 [(63, unsignedS)] noG) (mkC_ok (pok_cons unsigned_s pok_nil) noG_ok) rfl mixed ⟨Tryd.func40, by kernel_rfl, by kernel_rfl, by kernel_rfl⟩ fun l obs v h ho => ?_
  unfold smallS at h
  (unfold gB1 at h; split at h; rotate_left; (focus (cases h)); rename_i s d; simp only [Option.some.injEq, Prod.mk.injEq] at h; obtain ⟨rfl, rfl⟩ := h; simp only [List.mem_cons, List.not_mem_nil, or_false, forall_eq_or_imp, forall_eq, false_implies, implies_true] at ho)
  obtain ⟨hd, hv⟩ := ho
  have hn := valD_nn hd.dig
  have hv' : valD d < 18446744073709551616 := by omega
  refine ⟨Nat.le_of_ble_eq_true rfl, ?_⟩
  have r0 : rngI .i64 (valD d) := rng64 (by omega) (by omega)
  have r1 : rngI .i64 (-(valD d)) := rng64 (by omega) (by omega)
  cases s with
  | true =>
    have e : -(valD d) = bzv true d := rfl
    (repeat' (first | (refine xI (fun hfk => ?_) (fun hfk => ?_) <;> ((try (first | replace hfk := oT hfk | replace hfk := oF hfk | simp only [oD, ne_eq, reduceCtorEq] at hfk)); (try exact oX))) | (refine And.intro ?ob ?_; (case ob => (exact oZ))) | exact True.intro | (show _ = _; first | exact oY | (exact e; done) | exact rfl) | exact oW | (apply And.intro)))
  | false =>
    have e : valD d = bzv false d := rfl
    (repeat' (first | (refine xI (fun hfk => ?_) (fun hfk => ?_) <;> ((try (first | replace hfk := oT hfk | replace hfk := oF hfk | simp only [oD, ne_eq, reduceCtorEq] at hfk)); (try exact oX))) | (refine And.intro ?ob ?_; (case ob => (exact oZ))) | exact True.intro | (show _ = _; first | exact oY | (exact e; done) | exact rfl) | exact oW | (apply And.intro)))
end Go.Proofs.YtblloaajiaoblaaDoor
namespace Go.Proofs.YtblloaajiaoblaaDoor
open Go Go.RowKit
theorem set_take {o : List Int} {p : Nat} (h : p < o.length) (v : Int) : (o.set p v).take (p + 1) = o.take p ++ [v] := by
  rw [List.set_eq_take_append_cons_drop, if_pos h, List.take_append, List.length_take, List.take_of_length_le (by rw [List.length_take]; omega)]
  congr 1
  rw [show p + 1 - min p o.length = 1 from by omega]; rfl
theorem set_drop {o : List Int} {p : Nat} (h : p < o.length) (v : Int) : (o.set p v).drop (p + 1) = o.drop (p + 1) := by
  rw [List.set_eq_take_append_cons_drop, if_pos h, List.drop_append, List.length_take, List.drop_of_length_le (by rw [List.length_take]; omega)]
  rw [show p + 1 - min p o.length = 1 from by omega]; rfl
theorem Dig.set {o : List Int} (h : Dig o) (p : Nat) {v : Int} (hv : Dg v) : Dig (o.set p v) := fun x hx => (List.mem_or_eq_of_mem_set hx).elim (h x) fun e => e ▸ hv
theorem am_next {o b : List Int} {x c : Int} {p k : Nat} (hp : p < o.length) (hk : k < b.length) :
    (o.set p ((o.getD p 0 + x * b.getD k 0 + c) % 32768)).take (p + 1) ++ amR ((o.set p ((o.getD p 0 + x * b.getD k 0 + c) % 32768)).drop (p + 1)) x (b.drop (k + 1)) ((o.getD p 0 + x * b.getD k 0 + c) / 32768) = o.take p ++ amR (o.drop p) x (b.drop k) c := by
  rw [set_take hp, set_drop hp, drop_dg hp, drop_dg hk, amR, dgAt_in hp, dgAt_in hk, List.append_assoc]
  rfl
theorem am_end {o : List Int} {x c : Int} {p : Nat} (hp : p < o.length) : o.set p (o.getD p 0 + c) = o.take p ++ amR (o.drop p) x [] c := by
  rw [drop_dg hp, amR, dgAt_in hp, List.set_eq_take_append_cons_drop, if_pos hp]
theorem mul_next {a b o q : List Int} {i : Nat} (hi : i < a.length) (ho : i < o.length) (e : q = o.take i ++ amR (o.drop i) (dgAt a i) b 0) :
    q.take (i + 1) ++ mulR (q.drop (i + 1)) (a.drop (i + 1)) b = o.take i ++ mulR (o.drop i) (a.drop i) b := by
  have hl := amR_len (o.drop i) (dgAt a i) b 0
  rw [drop_dg hi, mulR]
  cases hA : amR (o.drop i) (dgAt a i) b 0 with
  | nil => rw [hA, List.length_drop] at hl; simp at hl; omega
  | cons y A =>
    rw [hA] at e
    have hm : min i o.length = i := by omega
    have e1 : q.take (i + 1) = o.take i ++ [y] := by
      rw [e, List.take_append, List.length_take, hm, List.take_of_length_le (by rw [List.length_take]; omega), show i + 1 - i = 1 from by omega]; rfl
    have e2 : q.drop (i + 1) = A := by
      rw [e, List.drop_append, List.length_take, hm, List.drop_of_length_le (by rw [List.length_take]; omega), show i + 1 - i = 1 from by omega]; rfl
    rw [e1, e2, List.append_assoc]; rfl
theorem mul_dig {a b o q : List Int} {i : Nat} (da : Dig a) (db : Dig b) (dO : Dig o) (hz : ∀ j, i + b.length ≤ j → o.getD j 0 = 0) (hi : i < a.length) (e : q = o.take i ++ amR (o.drop i) (dgAt a i) b 0) : Dig q := by
  rw [e]
  refine (dO.take i).app (amR_dig (dO.drop i) ⟨(dgAt_bd da i).1, (dgAt_bd da i).2⟩ db (by decide) (by decide) fun j hj => ?_)
  have := hz (i + j) (by omega)
  simpa [List.getD, List.getElem?_drop] using this
theorem mul_zero {a b o q : List Int} {i : Nat} (hz : ∀ j, i + b.length ≤ j → o.getD j 0 = 0) (ho : i < o.length) (e : q = o.take i ++ amR (o.drop i) (dgAt a i) b 0) : ∀ j, i + 1 + b.length ≤ j → q.getD j 0 = 0 := by
  intro j hj
  have h1 := amR_zero (o.drop i) (dgAt a i) b 0 (j - i) (by omega)
  have h2 := hz j (by omega)
  have h3 : (o.drop i).getD (j - i) 0 = o.getD j 0 := by
    simp only [List.getD, List.getElem?_drop]
    rw [show i + (j - i) = j from by omega]
  have hm : min i o.length = i := by omega
  have h4 : q.getD j 0 = (amR (o.drop i) (dgAt a i) b 0).getD (j - i) 0 := by
    rw [e]
    simp only [List.getD]
    rw [List.getElem?_append_right (by rw [List.length_take]; omega), List.length_take, hm]
  rw [h4, h1, h3, h2]
theorem valD_zero : ∀ n : Nat, valD (List.replicate n 0) = 0
  | 0 => rfl
  | n + 1 => by rw [List.replicate_succ, valD, valD_zero n]; rfl
abbrev mulS : PSpec := gB2 (fun s d t e => [Bg s d, Bg t e]) fun s d t e => bigA (bzv s d * bzv t e)
theorem mul_s : SOK Tryd.prog 36 mulS := by
  refine sok_of (C := mkK 0 [(55, madeS), (59, trimS)] noG [1000003]) (mkK_ok (pok_cons made_s (pok_cons trim_s pok_nil)) noG_ok) rfl mixed ⟨Tryd.func36, by kernel_rfl, by kernel_rfl, by kernel_rfl⟩ fun l obs v h ho => ?_
  unfold mulS at h
  (unfold gB2 at h; split at h; rotate_left; (focus (cases h)); rename_i s a t b; simp only [Option.some.injEq, Prod.mk.injEq] at h; obtain ⟨rfl, rfl⟩ := h; simp only [List.mem_cons, List.not_mem_nil, or_false, forall_eq_or_imp, forall_eq, false_implies, implies_true] at ho)
  obtain ⟨ha, hb⟩ := ho
  have da := ha.dig
  have db := hb.dig
  have la := ha.sh.le
  have lb := hb.sh.le
  refine ⟨Nat.le_of_ble_eq_true rfl, ?_⟩
  obtain ⟨N, hN⟩ : ∃ N : Nat, a.length + b.length + 1 = N := ⟨_, rfl⟩
  have hNt : ((a.length : Int) + b.length + 1).toNat = N := by omega
  have r0 : rngI .i64 ((a.length : Int) + b.length) := rng64 (by omega) (by omega)
  have r1 : rngI .i64 ((a.length : Int) + b.length + 1) := rng64 (by omega) (by omega)
  (repeat' (first | (refine xI (fun hfk => ?_) (fun hfk => ?_) <;> ((try (first | replace hfk := oT hfk | replace hfk := oF hfk | simp only [oD, ne_eq, reduceCtorEq] at hfk)); (try exact oX))) | (refine And.intro ?ob ?_; (case ob => (exact oZ))) | exact True.intro | (show _ = _; first | exact oY | exact rfl) | exact oW | (apply And.intro)))
  refine ⟨Nat × List Int, fun g => [(2, .ptr 0 0), (3, .ptr 1 0), (4, .ptr 2 0), (5, .sl 3 1 0 N), (6, .int .i64 (g.1 : Int))],
    fun g => ⟨4, [(0, some (.cells 69 [.bool s, .roi .i64 a])), (1, some (.cells 69 [.bool t, .roi .i64 b])), (2, some (.cells 69 [.fls, .nils])), (3, some (.ints 3 .i64 g.2))]⟩,
    fun g => g.1 ≤ a.length ∧ g.2.length = N ∧ Dig g.2 ∧ (∀ j, g.1 + b.length ≤ j → g.2.getD j 0 = 0) ∧ g.2.take g.1 ++ mulR (g.2.drop g.1) (a.drop g.1) b = mulR (List.replicate N 0) a b, fun g => a.length - g.1,
    ⟨(0, List.replicate N 0), [some 0, some 1, some 2, some 3], ⟨Nat.zero_le _, List.length_replicate, fun x hx => by rw [List.eq_of_mem_replicate hx]; exact ⟨by decide, by decide⟩, fun j _ => by simp [List.getD, List.getElem?_replicate]; split <;> rfl, rfl⟩, ?_⟩, fun g hg => ?_⟩
  · have q1 : List.replicate ((a.length : Int) + b.length + 1).toNat (0 : Int) = List.replicate N 0 := by rw [hNt]
    (repeat' (first | (refine And.intro ?_ ?_) | exact True.intro | (show _ = _; with_reducible rfl) | exact Chk.mk (by kernel_rfl)))
    all_goals first | rfl | exact hNt | exact q1
  obtain ⟨i, o⟩ := g
  obtain ⟨g1, g2, g3, g4, g5⟩ := hg
  have g1 : i ≤ a.length := g1
  have g2 : o.length = N := g2
  have g3 : Dig o := g3
  have g4 : ∀ j, i + b.length ≤ j → o.getD j 0 = 0 := g4
  have g5 : o.take i ++ mulR (o.drop i) (a.drop i) b = mulR (List.replicate N 0) a b := g5
  by_cases hlt : i < a.length
  · have hlt' : (i : Int) < (a.length : Int) := by omega
    (repeat' (first | (refine xI (fun hfk => ?_) (fun hfk => ?_) <;> ((try (first | replace hfk := oT hfk | replace hfk := oF hfk | simp only [oD, ne_eq, reduceCtorEq] at hfk)); (try exact oX))) | (refine And.intro ?ob ?_; (case ob => (exact oZ))) | exact True.intro | (show _ = _; first | exact oY | exact rfl) | exact oW | (apply And.intro)))
    refine ⟨[], ?_⟩
    refine ⟨[(2, .ptr 0 0), (3, .ptr 1 0), (4, .ptr 2 0), (5, .sl 3 1 0 N), (6, .int .i64 (i : Int)), (23, .bool (decide ((i : Int) < (a.length : Int))))],
      ⟨4, [(0, some (.cells 69 [.bool s, .roi .i64 a])), (1, some (.cells 69 [.bool t, .roi .i64 b])), (2, some (.cells 69 [.fls, .nils])), (3, some (.ints 3 .i64 o))]⟩, [some 0, some 1, some 2, some 3], ?_, ?_⟩
    · (repeat' (first | (refine And.intro ?_ ?_) | exact True.intro | (show _ = _; with_reducible rfl) | exact Chk.mk (by kernel_rfl)))
      all_goals rfl
    (repeat' (first | (refine xI (fun hfk => ?_) (fun hfk => ?_) <;> ((try (first | replace hfk := oT hfk | replace hfk := oF hfk | simp only [oD, ne_eq, reduceCtorEq] at hfk)); (try exact oX))) | (refine And.intro ?ob ?_; (case ob => (exact oZ))) | exact True.intro | (show _ = _; first | exact oY | exact rfl) | exact oW | (apply And.intro)))
    refine ⟨Nat × List Int × Int, fun g => [(2, .ptr 0 0), (3, .ptr 1 0), (4, .ptr 2 0), (5, .sl 3 1 0 N), (6, .int .i64 (i : Int)), (7, .int .i64 g.2.2), (8, .int .i64 (g.1 : Int))],
      fun g => ⟨4, [(0, some (.cells 69 [.bool s, .roi .i64 a])), (1, some (.cells 69 [.bool t, .roi .i64 b])), (2, some (.cells 69 [.fls, .nils])), (3, some (.ints 3 .i64 g.2.1))]⟩,
      fun g => g.1 ≤ b.length ∧ g.2.1.length = N ∧ Dig g.2.1 ∧ 0 ≤ g.2.2 ∧ g.2.2 < 32768 ∧ g.2.1.take (i + g.1) ++ amR (g.2.1.drop (i + g.1)) (dgAt a i) (b.drop g.1) g.2.2 = o.take i ++ amR (o.drop i) (dgAt a i) b 0, fun g => b.length - g.1,
      ⟨(0, o, 0), [some 0, some 1, some 2, some 3], ⟨Nat.zero_le _, g2, g3, by show (0 : Int) ≤ 0; decide, by show (0 : Int) < 32768; decide, rfl⟩, ?_⟩, fun g hg => ?_⟩
    · (repeat' (first | (refine And.intro ?_ ?_) | exact True.intro | (show _ = _; with_reducible rfl) | exact Chk.mk (by kernel_rfl)))
      all_goals rfl
    obtain ⟨k, q, c⟩ := g
    obtain ⟨k1, k2, k3, k4, k5, k6⟩ := hg
    have k1 : k ≤ b.length := k1
    have k2 : q.length = N := k2
    have k3 : Dig q := k3
    have k4 : 0 ≤ c := k4
    have k5 : c < 32768 := k5
    have k6 : q.take (i + k) ++ amR (q.drop (i + k)) (dgAt a i) (b.drop k) c = o.take i ++ amR (o.drop i) (dgAt a i) b 0 := k6
    have hp : i + k < q.length := by omega
    have et : ((i : Int) + (k : Int)).toNat = i + k := by omega
    obtain ⟨q0, q1⟩ := dgAt_bd k3 ((i + k : Nat) : Int)
    rw [dgAt_in hp] at q0 q1
    obtain ⟨x0, x1⟩ := dgAt_bd da (i : Int)
    have ex := dgAt_in hlt
    have r2 : rngI .i64 ((i : Int) + (k : Int)) := rng64 (by omega) (by omega)
    by_cases hk : k < b.length
    · have hk' : (k : Int) < (b.length : Int) := by omega
      obtain ⟨y0, y1⟩ := dgAt_bd db (k : Int)
      have ey := dgAt_in hk
      rw [ex] at x0 x1
      rw [ey] at y0 y1
      have p0 : 0 ≤ a.getD i 0 * b.getD k 0 := Int.mul_nonneg x0 y0
      have p1 : a.getD i 0 * b.getD k 0 ≤ 32767 * 32767 := Int.mul_le_mul (by omega) (by omega) y0 (by omega)
      have r3 : rngI .i64 (a.getD i 0 * b.getD k 0) := rng64 (by omega) (by omega)
      have r4 : rngI .i64 (q.getD (i + k) 0 + a.getD i 0 * b.getD k 0) := rng64 (by omega) (by omega)
      have r5 : rngI .i64 (q.getD (i + k) 0 + a.getD i 0 * b.getD k 0 + c) := rng64 (by omega) (by omega)
      have ea : a.getD (i : Int).toNat 0 = a.getD i 0 := rfl
      have eb : b.getD (k : Int).toNat 0 = b.getD k 0 := rfl
      have eq : q.getD (0 + ((i : Int) + (k : Int)).toNat) 0 = q.getD (i + k) 0 := by rw [et, Nat.zero_add]
      have r4' : rngI .i64 (q.getD (0 + ((i : Int) + (k : Int)).toNat) 0 + a.getD (i : Int).toNat 0 * b.getD (k : Int).toNat 0) := by rw [eq]; exact r4
      have r5' : rngI .i64 (q.getD (0 + ((i : Int) + (k : Int)).toNat) 0 + a.getD (i : Int).toNat 0 * b.getD (k : Int).toNat 0 + c) := by rw [eq]; exact r5
      have hd : Int.tdiv (q.getD (i + k) 0 + a.getD i 0 * b.getD k 0 + c) 32768 = (q.getD (i + k) 0 + a.getD i 0 * b.getD k 0 + c) / 32768 := Int.tdiv_eq_ediv_of_nonneg (by omega)
      have hm : Int.tmod (q.getD (i + k) 0 + a.getD i 0 * b.getD k 0 + c) 32768 = (q.getD (i + k) 0 + a.getD i 0 * b.getD k 0 + c) % 32768 := Int.tmod_eq_emod_of_nonneg (by omega)
      have hd' : Int.tdiv (q.getD (0 + ((i : Int) + (k : Int)).toNat) 0 + a.getD (i : Int).toNat 0 * b.getD (k : Int).toNat 0 + c) 32768 = (q.getD (i + k) 0 + a.getD i 0 * b.getD k 0 + c) / 32768 := by rw [eq]; exact hd
      have r6 : rngI .i64 (Int.tdiv (q.getD (0 + ((i : Int) + (k : Int)).toNat) 0 + a.getD (i : Int).toNat 0 * b.getD (k : Int).toNat 0 + c) 32768) := by rw [hd']; exact rng64 (by omega) (by omega)
      have r3' : rngI .i64 (a.getD (i : Int).toNat 0 * b.getD (k : Int).toNat 0) := r3
      have nx := am_next (o := q) (b := b) (x := a.getD i 0) (c := c) hp hk
      (repeat' (first | (refine xI (fun hfk => ?_) (fun hfk => ?_) <;> ((try (first | replace hfk := oT hfk | replace hfk := oF hfk | simp only [oD, ne_eq, reduceCtorEq] at hfk)); (try exact oX))) | (refine And.intro ?ob ?_; (case ob => (exact oZ))) | exact True.intro | (show _ = _; first | exact oY | (first | exact r3' | exact r4' | exact r5' | exact r6; done) | exact rfl) | exact oW | (apply And.intro)))
      refine ⟨(k + 1, q.set (i + k) ((q.getD (i + k) 0 + a.getD i 0 * b.getD k 0 + c) % 32768), (q.getD (i + k) 0 + a.getD i 0 * b.getD k 0 + c) / 32768), [some 0, some 1, some 2, some 3], ?_, ?mu, ?_⟩
      case mu => (show b.length - (k + 1) < b.length - k; omega)
      · refine ⟨hk, ?_, k3.set _ ⟨by omega, by omega⟩, ?_, ?_, ?_⟩
        · show (q.set _ _).length = N
          rw [List.length_set]; exact k2
        · show 0 ≤ (q.getD (i + k) 0 + a.getD i 0 * b.getD k 0 + c) / 32768
          omega
        · show (q.getD (i + k) 0 + a.getD i 0 * b.getD k 0 + c) / 32768 < 32768
          omega
        · rw [ex] at k6 ⊢
          rw [← k6, ← nx]
          rfl
      have qa : q.set (0 + ((i : Int) + (k : Int)).toNat) (Int.tmod (q.getD (0 + ((i : Int) + (k : Int)).toNat) 0 + a.getD (i : Int).toNat 0 * b.getD (k : Int).toNat 0 + c) 32768) = q.set (i + k) ((q.getD (i + k) 0 + a.getD i 0 * b.getD k 0 + c) % 32768) := by
        rw [eq, et, Nat.zero_add]
        exact congrArg (q.set (i + k)) hm
      (repeat' (first | (refine And.intro ?_ ?_) | exact True.intro | (show _ = _; with_reducible rfl) | exact Chk.mk (by kernel_rfl)))
      all_goals first | rfl | exact hd' | exact qa | (show (_ : Int) = _; omega)
    · have hk' : ¬ (k : Int) < (b.length : Int) := by omega
      have hkb : k = b.length := by omega
      subst hkb
      rw [List.drop_length] at k6
      have eq : q.getD (0 + ((i : Int) + (b.length : Int)).toNat) 0 = q.getD (i + b.length) 0 := by rw [et, Nat.zero_add]
      have r7 : rngI .i64 (q.getD (0 + ((i : Int) + (b.length : Int)).toNat) 0 + c) := by rw [eq]; exact rng64 (by omega) (by omega)
      have ri : rngI .i64 ((i : Int) + 1) := rng64 (by omega) (by omega)
      have nq : q.set (i + b.length) (q.getD (i + b.length) 0 + c) = o.take i ++ amR (o.drop i) (dgAt a i) b 0 := by rw [am_end hp]; exact k6
      (repeat' (first | (refine xI (fun hfk => ?_) (fun hfk => ?_) <;> ((try (first | replace hfk := oT hfk | replace hfk := oF hfk | simp only [oD, ne_eq, reduceCtorEq] at hfk)); (try exact oX))) | (refine And.intro ?ob ?_; (case ob => (exact oZ))) | exact True.intro | (show _ = _; first | exact oY | (exact r7; done) | exact rfl) | exact oW | (apply And.intro)))
      refine ⟨(i + 1, q.set (i + b.length) (q.getD (i + b.length) 0 + c)), [some 0, some 1, some 2, some 3], ?_, ?mu, ?_⟩
      case mu => (show a.length - (i + 1) < a.length - i; omega)
      · refine ⟨hlt, ?_, mul_dig da db g3 g4 hlt nq, mul_zero g4 (by omega) nq, ?_⟩
        · show (q.set _ _).length = N
          rw [List.length_set]; exact k2
        · rw [← g5, ← mul_next hlt (by omega) nq]
      have qa : q.set (0 + ((i : Int) + (b.length : Int)).toNat) (q.getD (0 + ((i : Int) + (b.length : Int)).toNat) 0 + c) = q.set (i + b.length) (q.getD (i + b.length) 0 + c) := by
        rw [eq, et, Nat.zero_add]
      (repeat' (first | (refine And.intro ?_ ?_) | exact True.intro | (show _ = _; with_reducible rfl) | exact Chk.mk (by kernel_rfl)))
      all_goals first | rfl | exact qa | (show (_ : Int) = _; omega)
  · have hlt' : ¬ (i : Int) < (a.length : Int) := by omega
    have hi : i = a.length := by omega
    have hM : o = mulR (List.replicate N 0) a b := by
      rw [← g5, hi, List.drop_length, mulR, List.take_append_drop]
    have hv : valD o = valD a * valD b := by
      rw [hM, mulR_val _ _ _ (by rw [List.length_replicate]; omega), valD_zero, Int.zero_add]
    (repeat' (first | (refine xI (fun hfk => ?_) (fun hfk => ?_) <;> ((try (first | replace hfk := oT hfk | replace hfk := oF hfk | simp only [oD, ne_eq, reduceCtorEq] at hfk)); (try exact oX))) | (refine And.intro ?ob ?_; (case ob => (exact oZ))) | exact True.intro | (show _ = _; first | exact oY | exact rfl) | exact oW | (apply And.intro)))
    refine ⟨[5], ?_⟩
    (repeat' (first | (refine xI (fun hfk => ?_) (fun hfk => ?_) <;> ((try (first | replace hfk := oT hfk | replace hfk := oF hfk | simp only [oD, ne_eq, reduceCtorEq] at hfk)); (try exact oX))) | (refine And.intro ?ob ?_; (case ob => (exact oZ))) | exact True.intro | (show _ = _; first | exact oY | exact rfl) | exact oW | (apply And.intro)))
    refine ⟨[(2, .ptr 0 0), (3, .ptr 1 0), (4, .ptr 2 0), (5, .roi .i64 o), (23, .bool (decide ((i : Int) < (a.length : Int))))],
      ⟨3, [(0, some (.cells 69 [.bool s, .roi .i64 a])), (1, some (.cells 69 [.bool t, .roi .i64 b])), (2, some (.cells 69 [.fls, .nils]))]⟩, [some 0, some 1, some 2], ?_, ?_⟩
    · have qo : List.take N (List.drop 0 o) = o := by rw [List.drop_zero, List.take_of_length_le (by omega)]
      (repeat' (first | (refine And.intro ?_ ?_) | exact True.intro | (show _ = _; with_reducible rfl) | exact Chk.mk (by kernel_rfl)))
      all_goals first | rfl | exact qo
    have qs : ShT o := ⟨by omega⟩
    have ha0 := valD_nn da
    have hb0 := valD_nn db
    have hp0 : 0 ≤ valD a * valD b := Int.mul_nonneg ha0 hb0
    have tr : trimL o = dgs (valD a * valD b).toNat := by rw [trim_dgs g3, hv]
    have hz : (if (!(s == t)) = true then -((valD a * valD b).toNat : Int) else ((valD a * valD b).toNat : Int)) = bzv s a * bzv t b := by
      unfold bzv
      rw [Int.toNat_of_nonneg hp0]
      cases s <;> cases t <;> simp [Int.neg_mul, Int.mul_neg]
    obtain ⟨e1, e2⟩ := made_z hz
    rw [← tr] at e1 e2
    (repeat' (first | (refine xI (fun hfk => ?_) (fun hfk => ?_) <;> ((try (first | replace hfk := oT hfk | replace hfk := oF hfk | simp only [oD, ne_eq, reduceCtorEq] at hfk)); (try exact oX))) | (refine And.intro ?ob ?_; (case ob => (exact oZ))) | exact True.intro | (show _ = _; first | exact oY | (first | exact e1 | exact e2 | exact ⟨e1, e2⟩; done) | exact rfl) | exact oW | (apply And.intro)))
end Go.Proofs.YtblloaajiaoblaaDoor
namespace Go.Proofs.YtblloaajiaoblaaDoor
open Go Go.RowKit
theorem Bg_i64 {z : Int} (h0 : -9223372036854775808 ≤ z) (h1 : z < 9223372036854775808) : Bg (decide (z < 0)) (dgs z.natAbs) :=
  Bg_big (Nat.le_trans (dgs_len (k := 5) (by rw [show (32768 : Nat) ^ 5 = 37778931862957161709568 from by decide]; omega)) (by decide))
end Go.Proofs.YtblloaajiaoblaaDoor
namespace Go.Proofs.YtblloaajiaoblaaDoor
open Go Go.RowKit
theorem two_pow_lt (n : Nat) : (2 : Int) ^ n < ((32768 ^ (n + 1) : Nat) : Int) := by
  induction n with
  | zero => decide
  | succ k ih =>
    rw [Int.pow_succ, Nat.pow_succ, Int.natCast_mul]
    have : (0 : Int) < ((32768 ^ (k + 1) : Nat) : Int) := by have : 0 < 32768 ^ (k + 1) := Nat.pow_pos (by decide); omega
    have e : ((32768 : Nat) : Int) = 32768 := rfl
    rw [e]
    omega
theorem Bg_two {i : Nat} (h : i ≤ 1000) : Bg (decide ((2 : Int) ^ i < 0)) (dgs ((2 : Int) ^ i).natAbs) := by
  refine Bg_big ?_
  have h1 := two_pow_lt i
  have h2 : (0 : Int) < 2 ^ i := Int.pow_pos (by decide)
  have := dgs_len (k := i + 1) (n := ((2 : Int) ^ i).natAbs) (by omega)
  omega
abbrev powS : PSpec := fun l => match l with | [.int .i64 n] => some ([0 ≤ n, n ≤ 900], bigA (2 ^ n.toNat)) | _ => none
theorem pow_s : SOK Tryd.prog 61 powS := by
  refine sok_of (C := mkC 0 [(34, ofS), (35, addS)] noG) (mkC_ok (pok_cons of_s (pok_cons add_s pok_nil)) noG_ok) rfl mixed ⟨Tryd.func61, by kernel_rfl, by kernel_rfl, by kernel_rfl⟩ fun l obs v h ho => ?_
  (unfold powS at h; split at h; rotate_left; (focus (cases h)); rename_i n; simp only [Option.some.injEq, Prod.mk.injEq] at h; obtain ⟨rfl, rfl⟩ := h; simp only [List.mem_cons, List.not_mem_nil, or_false, forall_eq_or_imp, forall_eq, false_implies, implies_true] at ho)
  obtain ⟨h0, h1⟩ := ho
  obtain ⟨N, rfl⟩ := Int.eq_ofNat_of_zero_le h0
  refine ⟨Nat.le_of_ble_eq_true rfl, ?_⟩
  rw [Int.toNat_natCast]
  (repeat' (first | (refine xI (fun hfk => ?_) (fun hfk => ?_) <;> ((try (first | replace hfk := oT hfk | replace hfk := oF hfk | simp only [oD, ne_eq, reduceCtorEq] at hfk)); (try exact oX))) | (refine And.intro ?ob ?_; (case ob => (exact oZ))) | exact True.intro | (show _ = _; first | exact oY | exact rfl) | exact oW | (apply And.intro)))
  refine ⟨Nat, fun i => [(0, .int .i64 (N : Int)), (2, .ptr 0 0), (3, .ptr 1 0), (4, .int .i64 (i : Int))], fun i => ⟨2, [(0, some (.cells 69 [.fls, .nils])), (1, some (.cells 69 [.bool (decide ((2 : Int) ^ i < 0)), .roi .i64 (dgs ((2 : Int) ^ i).natAbs)]))]⟩,
    fun i => i ≤ N, fun i => N - i, ⟨0, [some 0, some 1], Nat.zero_le _, ?_⟩, fun i hi => ?_⟩
  · (repeat' (first | (refine And.intro ?_ ?_) | exact True.intro | (show _ = _; with_reducible rfl) | exact Chk.mk (by kernel_rfl)))
    all_goals rfl
  have hi : i ≤ N := hi
  have B := Bg_two (i := i) (by omega)
  by_cases hlt : i < N
  · have ri : rngI .i64 ((i : Int) + 1) := rng64 (by omega) (by omega)
    have e : bzv (decide ((2 : Int) ^ i < 0)) (dgs ((2 : Int) ^ i).natAbs) + bzv (decide ((2 : Int) ^ i < 0)) (dgs ((2 : Int) ^ i).natAbs) = (2 : Int) ^ (i + 1) := by
      rw [bzv_big, Int.pow_succ]; omega
    have e1 : decide (bzv (decide ((2 : Int) ^ i < 0)) (dgs ((2 : Int) ^ i).natAbs) + bzv (decide ((2 : Int) ^ i < 0)) (dgs ((2 : Int) ^ i).natAbs) < 0) = decide ((2 : Int) ^ (i + 1) < 0) := by rw [e]
    have e2 : dgs (bzv (decide ((2 : Int) ^ i < 0)) (dgs ((2 : Int) ^ i).natAbs) + bzv (decide ((2 : Int) ^ i < 0)) (dgs ((2 : Int) ^ i).natAbs)).natAbs = dgs ((2 : Int) ^ (i + 1)).natAbs := by rw [e]
    (repeat' (first | (refine xI (fun hfk => ?_) (fun hfk => ?_) <;> ((try (first | replace hfk := oT hfk | replace hfk := oF hfk | simp only [oD, ne_eq, reduceCtorEq] at hfk)); (try exact oX))) | (refine And.intro ?ob ?_; (case ob => (exact oZ))) | exact True.intro | (show _ = _; first | exact oY | (exact B; done) | exact rfl) | exact oW | (apply And.intro)))
    refine ⟨i + 1, [some 0, some 1], hlt, ?mu, ?_⟩
    case mu => (show N - (i + 1) < N - i; omega)
    (repeat' (first | (refine And.intro ?_ ?_) | exact True.intro | (show _ = _; with_reducible rfl) | exact Chk.mk (by kernel_rfl)))
    all_goals first | rfl | exact e1 | exact e2 | (show (_ : Int) = _; omega)
  · obtain rfl : i = N := by omega
    (repeat' (first | (refine xI (fun hfk => ?_) (fun hfk => ?_) <;> ((try (first | replace hfk := oT hfk | replace hfk := oF hfk | simp only [oD, ne_eq, reduceCtorEq] at hfk)); (try exact oX))) | (refine And.intro ?ob ?_; (case ob => (exact oZ))) | exact True.intro | (show _ = _; first | exact oY | exact rfl) | exact oW | (apply And.intro)))
theorem dgs_top : ∀ {n : Nat}, n ≠ 0 → 1 ≤ dgAt (dgs n) ((dgs n).length - 1 : Int) := by
  intro n
  induction n using Nat.strongRecOn with
  | ind n ih =>
    intro hn
    rw [dgs_pos hn]
    by_cases hq : n / 32768 = 0
    · rw [hq, dgs_0]
      show 1 ≤ dgAt [((n % 32768 : Nat) : Int)] (((1 : Nat) : Int) - 1)
      have : ((1 : Nat) : Int) - 1 = ((0 : Nat) : Int) := rfl
      rw [this, dgAt_in (show 0 < ([((n % 32768 : Nat) : Int)] : List Int).length from Nat.zero_lt_one)]
      show (1 : Int) ≤ ((n % 32768 : Nat) : Int)
      omega
    · have h1 := ih (n / 32768) (by omega) hq
      have hl : 1 ≤ (dgs (n / 32768)).length := by
        rw [dgs_pos hq, List.length_cons]; omega
      have e1 : (((((n % 32768 : Nat) : Int) :: dgs (n / 32768)).length : Int) - 1) = (((dgs (n / 32768)).length - 1 + 1 : Nat) : Int) := by rw [List.length_cons]; omega
      have e2 : ((dgs (n / 32768)).length : Int) - 1 = (((dgs (n / 32768)).length - 1 : Nat) : Int) := by omega
      rw [e2, dgAt_in (by omega)] at h1
      rw [e1, dgAt_in (by rw [List.length_cons]; omega)]
      exact h1
abbrev shortS : PSpec := gB2 (fun s d t e => [Bg s d, Bg t e, s = false, t = false, valD d < 18446744073709551616, valD e < 18446744073709551616, 0 < valD e]) fun s d t e => bigA (valD d / valD e)
theorem short_s : SOK Tryd.prog 82 shortS := by
  refine sok_of (C := mkC 0 [(63, unsignedS), (54, unsS), (55, madeS)] noG) (mkC_ok (pok_cons unsigned_s (pok_cons uns_s (pok_cons made_s pok_nil))) noG_ok) rfl mixed ⟨Tryd.func82, by kernel_rfl, by kernel_rfl, by kernel_rfl⟩ fun l obs v h ho => ?_
  unfold shortS at h
  (unfold gB2 at h; split at h; rotate_left; (focus (cases h)); rename_i s d t e; simp only [Option.some.injEq, Prod.mk.injEq] at h; obtain ⟨rfl, rfl⟩ := h; simp only [List.mem_cons, List.not_mem_nil, or_false, forall_eq_or_imp, forall_eq, false_implies, implies_true] at ho)
  obtain ⟨b1, b2, rfl, rfl, h3, h4, h5⟩ := ho
  have n1 := valD_nn b1.dig
  have q0 : 0 ≤ valD d / valD e := Int.ediv_nonneg n1 (by omega)
  have q1 : valD d / valD e ≤ valD d := Int.ediv_le_self _ n1
  have e0 : (valD d).tdiv (valD e) = valD d / valD e := Int.tdiv_eq_ediv_of_nonneg n1
  have z1 : (false && decide (0 < ((dgs (valD d / valD e).natAbs).length : Int))) = decide (valD d / valD e < 0) := by rw [Bool.false_and]; exact (decide_eq_false (by omega)).symm
  have ew : IntKind.u64.wrap ((valD d).tdiv (valD e)) = valD d / valD e := by rw [e0]; exact u64_id q0 (by omega)
  have z2 : dgs (IntKind.u64.wrap ((valD d).tdiv (valD e))).natAbs = dgs (valD d / valD e).natAbs := by rw [ew]
  have z3 : 0 ≤ IntKind.u64.wrap ((valD d).tdiv (valD e)) := by omega
  have z4 : IntKind.u64.wrap ((valD d).tdiv (valD e)) < 18446744073709551616 := by omega
  have z5 : (false && decide (0 < ((dgs (IntKind.u64.wrap ((valD d).tdiv (valD e))).natAbs).length : Int))) = decide (valD d / valD e < 0) := by rw [ew]; exact z1
  refine ⟨Nat.le_of_ble_eq_true rfl, ?_⟩
  (repeat' (first | (refine xI (fun hfk => ?_) (fun hfk => ?_) <;> ((try (first | replace hfk := oT hfk | replace hfk := oF hfk | simp only [oD, ne_eq, reduceCtorEq] at hfk)); (try exact oX))) | (refine And.intro ?ob ?_; (case ob => (exact oZ))) | exact True.intro | (show _ = _; first | exact oY | (first | exact b1 | exact b2 | exact z1 | exact z5 | exact z2 | rfl; done) | exact rfl) | exact oW | (apply And.intro)))
def fz0 : AV → AV | .fls => .bool false | .tru => .bool true | x => x
def fzA : AV → AV | .agg l => .agg (l.map fz0) | x => fz0 x
theorem fz0_rep {R : PN} {w : World} {O : Nat → Prop} {x : AV} {v : Value} (h : Rep R w O x v) : Rep R w O (fz0 x) v := by
  unfold fz0
  split
  · cases h; exact .bool _
  · cases h; exact .bool _
  · exact h
theorem fzA_rep {R : PN} {w : World} {O : Nat → Prop} {x : AV} {v : Value} (h : Rep R w O x v) : Rep R w O (fzA x) v := by
  unfold fzA
  split
  · cases h with
    | agg l vs hl h =>
      refine .agg _ _ (by simpa using hl) fun j x v hx hv => ?_
      simp only [List.getElem?_map, Option.map_eq_some_iff] at hx
      obtain ⟨y, hy, rfl⟩ := hx
      exact fz0_rep (h j y v hy hv)
  · exact fz0_rep h
theorem sok_fz {P : Program} {g : FuncId} {s : PSpec} (h : SOK P g s) : SOK P g (fun l => s (l.map fzA)) :=
  ⟨h.1, fun l obs v h1 h2 w O cl h3 h4 => h.2 _ obs v h1 h2 w O cl h3 ⟨by simpa using h4.1, fun j x v hx hv => by
    simp only [List.getElem?_map, Option.map_eq_some_iff] at hx
    obtain ⟨y, hy, rfl⟩ := hx
    exact fzA_rep (h4.2 j y v hy hv)⟩⟩
abbrev floorS : PSpec := gB2 (fun s d t e => [Bg s d, Bg t e, s = false, t = false, valD d < 1152921504606846976, 0 < valD e, valD e < 18446744073709551616]) fun s d t e => bigA (valD d / valD e)
theorem Bg.dg {s : Bool} {l : List Int} (h : Bg s l) : l = dgs (valD l).toNat := h.can.symm
theorem len4 {d : List Int} {s : Bool} (h : Bg s d) (k : valD d < 1152921504606846976) : d.length ≤ 4 := by
  have n1 := valD_nn h.dig
  rw [h.dg]
  exact dgs_len (k := 4) (by have : (32768 : Nat) ^ 4 = 1152921504606846976 := rfl
                             omega)
theorem len5 {d : List Int} {s : Bool} (h : Bg s d) (k : 4 < d.length) : 1152921504606846976 ≤ valD d := by
  have n1 := valD_nn h.dig
  by_cases z : 1152921504606846976 ≤ valD d
  · exact z
  · have := len4 h (by omega); omega
theorem floor_s : SOK Tryd.prog 62 floorS := by
  refine sok_of (C := mkE 0 [(82, shortS), (81, digitS), (59, trimS), (34, ofS), (36, fun l => mulS (l.map fzA)), (57, lessS), (58, restS01), (55, madeS)] (glook [(59, frzP trimS)]) [] [] [10, 11, 14, 1000019])
    (mkE_ok (pok_cons short_s (pok_cons digit_s (pok_cons trim_s (pok_cons of_s (pok_cons (sok_fz mul_s) (pok_cons less_s (pok_cons rest01_s (pok_cons made_s pok_nil)))))))) (gl_cons (gfrzP trim_s) gl_nil) dl_nil) rfl mixed ⟨Tryd.func62, by kernel_rfl, by kernel_rfl, by kernel_rfl⟩ fun l obs v h ho => ?_
  unfold floorS at h
  (unfold gB2 at h; split at h; rotate_left; (focus (cases h)); rename_i s d t e; simp only [Option.some.injEq, Prod.mk.injEq] at h; obtain ⟨rfl, rfl⟩ := h; simp only [List.mem_cons, List.not_mem_nil, or_false, forall_eq_or_imp, forall_eq, false_implies, implies_true] at ho)
  obtain ⟨b1, b2, rfl, rfl, h3, h4, h5⟩ := ho
  have n1 := valD_nn b1.dig
  have l4 := len4 b1 h3
  refine ⟨Nat.le_of_ble_eq_true rfl, ?_⟩
  by_cases k4 : e.length ≤ 4
  · (repeat' (first | (refine xI (fun hfk => ?_) (fun hfk => ?_) <;> ((try (first | replace hfk := oT hfk | replace hfk := oF hfk | simp only [oD, ne_eq, reduceCtorEq] at hfk)); (try exact oX))) | (refine And.intro ?ob ?_; (case ob => (exact oZ))) | exact True.intro | (show _ = _; first | exact oY | (first | exact b1 | exact b2 | rfl; done) | exact rfl) | exact oW | (apply And.intro)))
  have hbig := len5 b2 (by omega)
  have q0 : valD d / valD e = 0 := Int.ediv_eq_zero_of_lt n1 (by omega)
  rw [q0]
  have el : 5 ≤ e.length := by omega
  have sh := b2.sh.le
  have te1 := dgAt_bd b2.dig ((e.length : Int) - 1)
  have te2 := dgAt_bd b2.dig ((e.length : Int) - 2)
  have top : 1 ≤ dgAt e ((e.length : Int) - 1) := by
    have := dgs_top (n := (valD e).toNat) (by omega)
    rwa [b2.can] at this
  have rt1 : rngI .i64 (dgAt e ((e.length : Int) - 1) * 32768) := rng64 (by omega) (by omega)
  have rt2 : rngI .i64 (dgAt e ((e.length : Int) - 1) * 32768 + dgAt e ((e.length : Int) - 2)) := rng64 (by omega) (by omega)
  (repeat' (first | (refine xI (fun hfk => ?_) (fun hfk => ?_) <;> ((try (first | replace hfk := oT hfk | replace hfk := oF hfk | simp only [oD, ne_eq, reduceCtorEq] at hfk)); (try exact oX))) | (refine And.intro ?ob ?_; (case ob => (exact oZ))) | exact True.intro | (show _ = _; first | exact oY | (first | exact rt1 | exact rt2; done) | exact rfl) | exact oW | (apply And.intro)))
  obtain ⟨T, hT⟩ : ∃ T, dgAt e ((e.length : Int) - 1) * 32768 + dgAt e ((e.length : Int) - 2) = T := ⟨_, rfl⟩
  have hT0 : 32768 ≤ T ∧ T ≤ 1073741823 := by omega
  have r0 : ([] : List Int) = dgs (valD (d.drop (d.length - 0))).toNat := by
    rw [Nat.sub_zero, List.drop_of_length_le (Nat.le_refl _)]
    exact dgs_0.symm
  refine ⟨Nat × List Int × List Int, fun g => [(2, .ptr 0 0), (3, .ptr 1 0), (4, .ptr 2 0), (5, .roi .i64 g.2.1), (6, .roi .i64 g.2.2), (7, .int .i64 (e.length : Int)), (8, .int .i64 T), (9, .int .i64 ((d.length : Int) - 1 - (g.1 : Int)))],
      fun g => ⟨3, [(0, some (.cells 69 [.bool false, .roi .i64 d])), (1, some (.cells 69 [.bool false, .roi .i64 e])), (2, some (.cells 69 [.fls, .nils]))]⟩,
      fun g => g.1 ≤ d.length ∧ g.2.1 = List.replicate g.1 0 ∧ g.2.2 = dgs (valD (d.drop (d.length - g.1))).toNat, fun g => d.length - g.1, ⟨(0, [], []), [some 0, some 1, some 2], ⟨Nat.zero_le _, rfl, r0⟩, ?_⟩, fun g hg => ?_⟩
  · (repeat' (first | (refine And.intro ?_ ?_) | exact True.intro | (show _ = _; with_reducible rfl) | exact Chk.mk (by kernel_rfl)))
    all_goals first | exact hT | rfl | (show (_ : Int) = _; omega)
  obtain ⟨m, q, r⟩ := g
  obtain ⟨g1, g2, g3⟩ := hg
  have g1 : m ≤ d.length := g1
  have g2 : q = List.replicate m 0 := g2
  have g3 : r = dgs (valD (d.drop (d.length - m))).toNat := g3
  dsimp only
  clear r0 hT te1 te2 top rt1 rt2
  have ql : q.length = m := by rw [g2, List.length_replicate]
  by_cases hlt : m < d.length
  · have rl4 : r.length ≤ 4 := by
      have h1 := valD_drop_le (d.length - m) b1.dig
      have h2 := valD_nn (b1.dig.drop (d.length - m))
      rw [g3]
      exact dgs_len (k := 4) (by have : (32768 : Nat) ^ 4 = 1152921504606846976 := rfl
                                 omega)
    have rr : rngI .i64 ((d.length : Int) - 1 - (m : Int) - 1) := rng64 (by omega) (by omega)
    obtain ⟨R, hR⟩ : ∃ R, dgs (valD (d.drop (d.length - (m + 1)))).toNat = R := ⟨_, rfl⟩
    have ei : ((d.length : Int) - 1 - (m : Int)).toNat = d.length - (m + 1) := by omega
    have hcons : d.getD ((d.length : Int) - 1 - (m : Int)).toNat 0 :: r = d.getD (d.length - (m + 1)) 0 :: dgs (valD (d.drop (d.length - m))).toNat := by rw [ei, g3]
    have hdr : d.drop (d.length - (m + 1)) = d.getD (d.length - (m + 1)) 0 :: d.drop (d.length - m) := by
      rw [drop_dg (by omega), dgAt_in (by omega), show d.length - (m + 1) + 1 = d.length - m by omega]
    have hdg : Dig (d.getD (d.length - (m + 1)) 0 :: dgs (valD (d.drop (d.length - m))).toNat) := by
      refine Dig.cons ?_ (Dig_dgs _)
      have := b1.dig.drop (d.length - (m + 1))
      rw [hdr] at this
      exact this.head
    have nn := valD_nn (b1.dig.drop (d.length - m))
    have hv : valD (d.getD (d.length - (m + 1)) 0 :: dgs (valD (d.drop (d.length - m))).toNat) = valD (d.drop (d.length - (m + 1))) := by
      rw [hdr]
      show _ + 32768 * valD (dgs _) = _ + 32768 * valD _
      rw [valD_dgs, Int.toNat_of_nonneg nn]
    have htr : trimL (List.take (((fun x => d.getD ((d.length : Int) - 1 - (m : Int)).toNat 0 :: x) ([] : List Int)).length + r.length) (List.drop 0 ((fun x => d.getD ((d.length : Int) - 1 - (m : Int)).toNat 0 :: x) ([] : List Int) ++ r))) = R := by
      have e1 : List.take (((fun x => d.getD ((d.length : Int) - 1 - (m : Int)).toNat 0 :: x) ([] : List Int)).length + r.length) (List.drop 0 ((fun x => d.getD ((d.length : Int) - 1 - (m : Int)).toNat 0 :: x) ([] : List Int) ++ r)) = d.getD ((d.length : Int) - 1 - (m : Int)).toNat 0 :: r := by
        show List.take (1 + r.length) (d.getD ((d.length : Int) - 1 - (m : Int)).toNat 0 :: r) = _
        rw [List.take_of_length_le (by rw [List.length_cons]; omega)]
      rw [e1, hcons, trim_dgs hdg, hv, hR]
    have hst : ShT (List.take (((fun x => d.getD ((d.length : Int) - 1 - (m : Int)).toNat 0 :: x) ([] : List Int)).length + r.length) (List.drop 0 ((fun x => d.getD ((d.length : Int) - 1 - (m : Int)).toNat 0 :: x) ([] : List Int) ++ r))) := by
      refine ⟨?_⟩
      show (List.take (1 + r.length) (d.getD ((d.length : Int) - 1 - (m : Int)).toNat 0 :: r)).length ≤ 4000000
      rw [List.length_take, List.length_cons]; omega
    (repeat' (first | (refine xI (fun hfk => ?_) (fun hfk => ?_) <;> ((try (first | replace hfk := oT hfk | replace hfk := oF hfk | simp only [oD, ne_eq, reduceCtorEq] at hfk)); (try exact oX))) | (refine And.intro ?ob ?_; (case ob => (exact oZ))) | exact True.intro | (show _ = _; first | exact oY | (first | exact hst | skip; done) | exact rfl) | exact oW | (apply And.intro)))
    refine ⟨[(2, .ptr 0 0), (3, .ptr 1 0), (4, .ptr 2 0), (5, .roi .i64 q), (6, .roi .i64 R), (7, .int .i64 (e.length : Int)), (8, .int .i64 T), (9, .int .i64 ((d.length : Int) - 1 - (m : Int)))],
      ⟨3, [(0, some (.cells 69 [.bool false, .roi .i64 d])), (1, some (.cells 69 [.bool false, .roi .i64 e])), (2, some (.cells 69 [.fls, .nils]))]⟩, [some 0, some 1, some 2], ?_, ?_⟩
    · (repeat' (first | (refine And.intro ?_ ?_) | exact True.intro | (show _ = _; with_reducible rfl) | exact Chk.mk (by kernel_rfl)))
      all_goals first | exact htr | rfl
    clear htr hst hv hdg hdr hcons g3 ei nn
    have Rn : valD R < 1152921504606846976 ∧ 0 ≤ valD R := by
      have h1 := valD_drop_le (d.length - (m + 1)) b1.dig
      have h2 := valD_nn (b1.dig.drop (d.length - (m + 1)))
      rw [← hR, valD_dgs]
      omega
    have RD : Dig R := by rw [← hR]; exact Dig_dgs _
    have Rl : R.length ≤ 4 := by
      rw [← hR]
      refine dgs_len (k := 4) ?_
      rw [← hR, valD_dgs] at Rn
      have : (32768 : Nat) ^ 4 = 1152921504606846976 := rfl
      omega
    have z1 : dgAt R (e.length : Int) = 0 := dgAt_out (by omega)
    have z2 : dgAt R ((e.length : Int) - 1) = 0 := if_neg (by omega)
    have z3 := dgAt_bd RD ((e.length : Int) - 2)
    obtain ⟨f, hf⟩ : ∃ f, dgAt R ((e.length : Int) - 2) = f := ⟨_, rfl⟩
    rw [hf] at z3
    (repeat' (first | (refine xI (fun hfk => ?_) (fun hfk => ?_) <;> ((try (first | replace hfk := oT hfk | replace hfk := oF hfk | simp only [oD, ne_eq, reduceCtorEq] at hfk)); (try exact oX))) | (refine And.intro ?ob ?_; (case ob => (exact oZ))) | exact True.intro | (show _ = _; first | exact oY | exact rfl) | exact oW | (apply And.intro)))
    refine ⟨[(2, .ptr 0 0), (3, .ptr 1 0), (4, .ptr 2 0), (5, .roi .i64 q), (6, .roi .i64 R), (7, .int .i64 (e.length : Int)), (8, .int .i64 T), (9, .int .i64 ((d.length : Int) - 1 - (m : Int))), (10, .int .i64 f)],
      ⟨3, [(0, some (.cells 69 [.bool false, .roi .i64 d])), (1, some (.cells 69 [.bool false, .roi .i64 e])), (2, some (.cells 69 [.fls, .nils]))]⟩, [some 0, some 1, some 2], ?_, ?_⟩
    · have ef : (dgAt R (e.length : Int) * 32768 + dgAt R ((e.length : Int) - 1)) * 32768 + dgAt R ((e.length : Int) - 2) = f := by rw [z1, z2, hf]; omega
      (repeat' (first | (refine And.intro ?_ ?_) | exact True.intro | (show _ = _; with_reducible rfl) | exact Chk.mk (by kernel_rfl)))
      all_goals first | exact ef | rfl
    clear z1 z2 hf
    have d1 : f.tdiv (T + 1) = 0 := by rw [Int.tdiv_eq_ediv_of_nonneg (by omega)]; exact Int.ediv_eq_zero_of_lt (by omega) (by omega)
    obtain ⟨hi, hhi⟩ : ∃ hi, min 32767 ((f + 1).tdiv T) = hi := ⟨_, rfl⟩
    have hq : (f + 1).tdiv T = 0 ∨ (f + 1).tdiv T = 1 := by
      rw [Int.tdiv_eq_ediv_of_nonneg (by omega)]
      have h1 : 0 ≤ (f + 1) / T := Int.ediv_nonneg (by omega) (by omega)
      have h2 : (f + 1) / T < 2 := Int.ediv_lt_of_lt_mul (by omega) (by omega)
      omega
    have hh : hi = 0 ∨ hi = 1 := by omega
    have dr1 : rngI .i64 (f.tdiv (T + 1)) := by rw [d1]; exact rng64 (by omega) (by omega)
    have dr2 : rngI .i64 ((f + 1).tdiv T) := rng64 (by omega) (by omega)
    (repeat' (first | (refine xI (fun hfk => ?_) (fun hfk => ?_) <;> ((try (first | replace hfk := oT hfk | replace hfk := oF hfk | simp only [oD, ne_eq, reduceCtorEq] at hfk)); (try exact oX))) | (refine And.intro ?ob ?_; (case ob => (exact oZ))) | exact True.intro | (show _ = _; first | exact oY | (first | exact dr1 | exact dr2 | skip; done) | exact rfl) | exact oW | (apply And.intro)))
    have hh0 : min 32767 ((f + 1).tdiv T) = ((hi.toNat : Nat) : Int) := by omega
    refine ⟨Nat, fun h => [(2, .ptr 0 0), (3, .ptr 1 0), (4, .ptr 2 0), (5, .roi .i64 q), (6, .roi .i64 R), (7, .int .i64 (e.length : Int)), (8, .int .i64 T), (9, .int .i64 ((d.length : Int) - 1 - (m : Int))), (11, .int .i64 0), (12, .int .i64 (h : Int))],
      fun h => ⟨3, [(0, some (.cells 69 [.bool false, .roi .i64 d])), (1, some (.cells 69 [.bool false, .roi .i64 e])), (2, some (.cells 69 [.fls, .nils]))]⟩,
      fun h => h ≤ 1, fun h => h, ⟨hi.toNat, [some 0, some 1, some 2], by show hi.toNat ≤ 1; omega, ?_⟩, fun h hh2 => ?_⟩
    · (repeat' (first | (refine And.intro ?_ ?_) | exact True.intro | (show _ = _; with_reducible rfl) | exact Chk.mk (by kernel_rfl)))
      all_goals first | exact d1 | exact hh0 | rfl
    clear dr1 dr2 hq hh hhi hh0 d1 z3
    have hh2 : h ≤ 1 := hh2
    have be : bzv false e = valD e := rfl
    have BgO : ∀ z : Int, z = 0 ∨ z = 1 → Bg (decide (z < 0)) (dgs z.natAbs) := fun z hz => Bg_i64 (by omega) (by omega)
    by_cases h1 : h = 1
    · subst h1
      have m1 : Int.tdiv (0 + ((1 : Nat) : Int) + 1) 2 = 1 := by decide
      have rm : rngI .i64 (Int.tdiv (0 + ((1 : Nat) : Int) + 1) 2) := by rw [m1]; exact rng64 (by omega) (by omega)
      (repeat' (first | (refine xI (fun hfk => ?_) (fun hfk => ?_) <;> ((try (first | replace hfk := oT hfk | replace hfk := oF hfk | simp only [oD, ne_eq, reduceCtorEq] at hfk)); (try exact oX))) | (refine And.intro ?ob ?_; (case ob => (exact oZ))) | exact True.intro | (show _ = _; first | exact oY | (first | exact rm | skip; done) | exact rfl) | exact oW | (apply And.intro)))
      refine ⟨[(2, .ptr 0 0), (3, .ptr 1 0), (4, .ptr 2 0), (5, .roi .i64 q), (6, .roi .i64 R), (7, .int .i64 (e.length : Int)), (8, .int .i64 T), (9, .int .i64 ((d.length : Int) - 1 - (m : Int))), (11, .int .i64 0), (12, .int .i64 ((1 : Nat) : Int)), (13, .int .i64 1)],
        ⟨3, [(0, some (.cells 69 [.bool false, .roi .i64 d])), (1, some (.cells 69 [.bool false, .roi .i64 e])), (2, some (.cells 69 [.fls, .nils]))]⟩, [some 0, some 1, some 2], ?_, ?_⟩
      · (repeat' (first | (refine And.intro ?_ ?_) | exact True.intro | (show _ = _; with_reducible rfl) | exact Chk.mk (by kernel_rfl)))
        all_goals first | exact m1 | rfl
      clear m1 rm
      have B1 := BgO 1 (.inr rfl)
      have ev : bzv (decide ((1 : Int) < 0)) (dgs (Int.natAbs 1)) * bzv false e = valD e := by rw [bzv_big, be, Int.one_mul]
      have hd : dgs (bzv (decide ((1 : Int) < 0)) (dgs (Int.natAbs 1)) * bzv false e).natAbs = e := by
        rw [ev]
        refine Eq.trans ?_ b2.can
        congr 1; omega
      have hc : cmpV (valD (dgs (bzv (decide ((1 : Int) < 0)) (dgs (Int.natAbs 1)) * bzv false e).natAbs)) (valD R) = 1 := by
        rw [hd]; unfold cmpV; rw [if_neg (by omega), if_pos (by omega)]
      have sh1 : Sh (dgs (bzv (decide ((1 : Int) < 0)) (dgs (Int.natAbs 1)) * bzv false e).natAbs) := by rw [hd]; exact b2.sh
      have dg1 : Dig (dgs (bzv (decide ((1 : Int) < 0)) (dgs (Int.natAbs 1)) * bzv false e).natAbs) := Dig_dgs _
      have shR : Sh R := ⟨by omega⟩
      clear ev hd
      (repeat' (first | (refine xI (fun hfk => ?_) (fun hfk => ?_) <;> ((try (first | replace hfk := oT hfk | replace hfk := oF hfk | simp only [oD, ne_eq, reduceCtorEq] at hfk)); (try exact oX))) | (refine And.intro ?ob ?_; (case ob => (exact oZ))) | exact True.intro | (show _ = _; first | exact oY | (first | exact B1 | exact b2 | exact sh1 | exact dg1 | exact shR | exact RD | skip; done) | exact rfl) | exact oW | (apply And.intro)))
      refine ⟨0, [some 0, some 1, some 2], Nat.zero_le _, Nat.zero_lt_one, ?_⟩
      (repeat' (first | (refine And.intro ?_ ?_) | exact True.intro | (show _ = _; with_reducible rfl) | exact Chk.mk (by kernel_rfl)))
      all_goals first | rfl | (show (_ : Int) = _; omega)
    · obtain rfl : h = 0 := by omega
      have B0 := BgO 0 (.inl rfl)
      have ev : bzv (decide ((0 : Int) < 0)) (dgs (Int.natAbs 0)) * bzv false e = 0 := by rw [bzv_big, Int.zero_mul]
      have hd : dgs (bzv (decide ((0 : Int) < 0)) (dgs (Int.natAbs 0)) * bzv false e).natAbs = [] := by rw [ev]; exact dgs_0
      have hr : dgs (valD R - valD (dgs (bzv (decide ((0 : Int) < 0)) (dgs (Int.natAbs 0)) * bzv false e).natAbs)).toNat = R := by
        rw [hd]
        show dgs (valD R - 0).toNat = R
        rw [Int.sub_zero, ← hR, valD_dgs, Int.toNat_natCast]
      have sh1 : Sh (dgs (bzv (decide ((0 : Int) < 0)) (dgs (Int.natAbs 0)) * bzv false e).natAbs) := by rw [hd]; exact ⟨Nat.zero_le _⟩
      have dg1 : Dig (dgs (bzv (decide ((0 : Int) < 0)) (dgs (Int.natAbs 0)) * bzv false e).natAbs) := Dig_dgs _
      have le1 : valD (dgs (bzv (decide ((0 : Int) < 0)) (dgs (Int.natAbs 0)) * bzv false e).natAbs) ≤ valD R := by rw [hd]; exact Rn.2
      have shR : Sh R := ⟨by omega⟩
      clear ev hd
      (repeat' (first | (refine xI (fun hfk => ?_) (fun hfk => ?_) <;> ((try (first | replace hfk := oT hfk | replace hfk := oF hfk | simp only [oD, ne_eq, reduceCtorEq] at hfk)); (try exact oX))) | (refine And.intro ?ob ?_; (case ob => (exact oZ))) | exact True.intro | (show _ = _; first | exact oY | (first | exact B0 | exact b2 | exact sh1 | exact dg1 | exact le1 | exact shR | exact RD | skip; done) | exact rfl) | exact oW | (apply And.intro)))
      refine ⟨[5], ?_⟩
      (repeat' (first | (refine xI (fun hfk => ?_) (fun hfk => ?_) <;> ((try (first | replace hfk := oT hfk | replace hfk := oF hfk | simp only [oD, ne_eq, reduceCtorEq] at hfk)); (try exact oX))) | (refine And.intro ?ob ?_; (case ob => (exact oZ))) | exact True.intro | (show _ = _; first | exact oY | exact rfl) | exact oW | (apply And.intro)))
      have q1 : List.take (((fun x => (0 : Int) :: x) ([] : List Int)).length + q.length) (List.drop 0 ((fun x => (0 : Int) :: x) ([] : List Int) ++ q)) = 0 :: q := by
        show List.take (1 + q.length) ((0 : Int) :: q) = _
        rw [List.take_of_length_le (by rw [List.length_cons]; omega)]
      refine ⟨[(2, .ptr 0 0), (3, .ptr 1 0), (4, .ptr 2 0), (5, .roi .i64 (0 :: q)), (6, .roi .i64 R), (7, .int .i64 (e.length : Int)), (8, .int .i64 T), (9, .int .i64 ((d.length : Int) - 1 - (m : Int)))],
        ⟨3, [(0, some (.cells 69 [.bool false, .roi .i64 d])), (1, some (.cells 69 [.bool false, .roi .i64 e])), (2, some (.cells 69 [.fls, .nils]))]⟩, [some 0, some 1, some 2], ?_, ?_⟩
      · (repeat' (first | (refine And.intro ?_ ?_) | exact True.intro | (show _ = _; with_reducible rfl) | exact Chk.mk (by kernel_rfl)))
        all_goals first | exact q1 | exact hr | rfl
      clear q1 hr B0 sh1 dg1 le1 shR BgO
      (repeat' (first | (refine xI (fun hfk => ?_) (fun hfk => ?_) <;> ((try (first | replace hfk := oT hfk | replace hfk := oF hfk | simp only [oD, ne_eq, reduceCtorEq] at hfk)); (try exact oX))) | (refine And.intro ?ob ?_; (case ob => (exact oZ))) | exact True.intro | (show _ = _; first | exact oY | exact rfl) | exact oW | (apply And.intro)))
      refine ⟨(m + 1, 0 :: q, R), [some 0, some 1, some 2], ⟨hlt, by rw [g2]; rfl, hR.symm⟩, ?mu2, ?_⟩
      case mu2 => (show d.length - (m + 1) < d.length - m; omega)
      (repeat' (first | (refine And.intro ?_ ?_) | exact True.intro | (show _ = _; with_reducible rfl) | exact Chk.mk (by kernel_rfl)))
      all_goals first | rfl | (show (_ : Int) = _; omega)
  · obtain rfl : m = d.length := by omega
    have tz : trimL q = [] := by
      rw [g2]
      have : Dig (List.replicate d.length 0) := fun x hx => by rw [(List.mem_replicate.1 hx).2]; exact ⟨by decide, by decide⟩
      rw [trim_dgs this, valD_zero]; exact dgs_0
    have sq : ShT q := ⟨by omega⟩
    have e0 : dgs (Int.natAbs 0) = [] := dgs_0
    (repeat' (first | (refine xI (fun hfk => ?_) (fun hfk => ?_) <;> ((try (first | replace hfk := oT hfk | replace hfk := oF hfk | simp only [oD, ne_eq, reduceCtorEq] at hfk)); (try exact oX))) | (refine And.intro ?ob ?_; (case ob => (exact oZ))) | exact True.intro | (show _ = _; first | exact oY | (first | exact sq | exact tz | exact tz.trans e0.symm | rfl; done) | exact rfl) | exact oW | (apply And.intro)))
end Go.Proofs.YtblloaajiaoblaaDoor
namespace Go.Proofs.YtblloaajiaoblaaDoor
open Go Go.RowKit
abbrev floor1S : PSpec := gB2 (fun s d t e => [Bg s d, Bg t e, s = false, t = false, 4 < d.length, d.length ≤ 1000, e.length = 1]) fun s d t e => bigA (valD d / valD e)
structure QI (V W : Int) (q : List Int) (x : Int) : Prop where
  dig : Dig q
  eq : valD q * V + x = W
  lo : 0 ≤ x
  hi : x < V
theorem qi_next {V W a x Q : Int} {q : List Int} (h : QI V W q x) (hV : 0 < V) (ha : 0 ≤ a ∧ a < 32768) (hQ : Q = (a + 32768 * x) / V) : QI V (a + 32768 * W) (Q :: q) (a + 32768 * x - Q * V) ∧ 0 ≤ Q ∧ Q < 32768 ∧ Q * V ≤ a + 32768 * x := by
  have x0 := h.lo
  have x1 := h.hi
  have q0 : 0 ≤ Q := by rw [hQ]; exact Int.ediv_nonneg (by omega) (by omega)
  have q1 : Q < 32768 := by rw [hQ]; exact Int.ediv_lt_of_lt_mul hV (by omega)
  have e1 := Int.emod_add_mul_ediv (a + 32768 * x) V
  have e2 := Int.emod_nonneg (a + 32768 * x) (show V ≠ 0 by omega)
  have e3 := Int.emod_lt_of_pos (a + 32768 * x) hV
  rw [← hQ] at e1
  have e4 : Q * V = V * Q := Int.mul_comm _ _
  refine ⟨⟨Dig.cons ⟨q0, q1⟩ h.dig, ?_, by omega, by omega⟩, q0, q1, by omega⟩
  have e5 := h.eq
  show (Q + 32768 * valD q) * V + (a + 32768 * x - Q * V) = a + 32768 * W
  rw [← e5, Int.add_mul, Int.mul_add, Int.mul_assoc]
  omega
theorem qi_end {V W x : Int} {q : List Int} (h : QI V W q x) (hV : 0 < V) : valD q = W / V := by
  have := h.eq
  have x0 := h.lo
  have x1 := h.hi
  have : W = x + valD q * V := by omega
  rw [this, Int.add_mul_ediv_right _ _ (by omega), Int.ediv_eq_zero_of_lt x0 x1, Int.zero_add]
theorem dgAt2 {x : Int} (h0 : 0 ≤ x) (h1 : x < 1073741824) : dgAt (dgs x.toNat) 1 * 32768 + dgAt (dgs x.toNat) 0 = x ∧ (dgs x.toNat).length ≤ 2 := by
  have hl := dgs_len (k := 2) (n := x.toNat) (by have : (32768 : Nat) ^ 2 = 1073741824 := rfl
                                                 omega)
  have hv := valD_dgs x.toNat
  have hd := Dig_dgs x.toNat
  refine ⟨?_, hl⟩
  generalize dgs x.toNat = l at hl hv hd
  match l, hl with
  | [], _ => simp [valD] at hv; show (0 : Int) * 32768 + 0 = x; omega
  | [a], _ => simp [valD] at hv; show (0 : Int) * 32768 + a = x; omega
  | [a, b], _ => simp [valD] at hv; show b * 32768 + a = x; omega
theorem floor1_s : SOK Tryd.prog 62 floor1S := by
  refine sok_of (C := mkE 0 [(82, shortS), (81, digitS), (59, trimS), (34, ofS), (36, fun l => mulS (l.map fzA)), (57, lessS), (58, restS01), (55, madeS)] (glook [(59, frzP trimS)]) [] [] [10, 11, 14, 1000019])
    (mkE_ok (pok_cons short_s (pok_cons digit_s (pok_cons trim_s (pok_cons of_s (pok_cons (sok_fz mul_s) (pok_cons less_s (pok_cons rest01_s (pok_cons made_s pok_nil)))))))) (gl_cons (gfrzP trim_s) gl_nil) dl_nil) rfl mixed ⟨Tryd.func62, by kernel_rfl, by kernel_rfl, by kernel_rfl⟩ fun l obs v h ho => ?_
  unfold floor1S at h
  (unfold gB2 at h; split at h; rotate_left; (focus (cases h)); rename_i s d t e; simp only [Option.some.injEq, Prod.mk.injEq] at h; obtain ⟨rfl, rfl⟩ := h; simp only [List.mem_cons, List.not_mem_nil, or_false, forall_eq_or_imp, forall_eq, false_implies, implies_true] at ho)
  obtain ⟨b1, b2, rfl, rfl, h3, h4, h5⟩ := ho
  have n1 := valD_nn b1.dig
  have te1 := dgAt_bd b2.dig 0
  obtain ⟨V, hV⟩ : ∃ V, dgAt e 0 = V := ⟨_, rfl⟩
  have vE : valD e = V := by
    match e, h5 with
    | [a], _ => simp [valD]; exact hV
  have top : 1 ≤ V := by
    have hz : valD e ≠ 0 := fun k => by have := b2.can; rw [k] at this; rw [show (0 : Int).toNat = 0 from rfl, dgs_0] at this; rw [← this] at h5; simp at h5
    omega
  have V1 : V < 32768 := by omega
  have t1 : dgAt e ((e.length : Int) - 1) = V := by rw [h5]; exact hV
  have t2 : dgAt e ((e.length : Int) - 2) = 0 := if_neg (by omega)
  rw [vE]
  refine ⟨Nat.le_of_ble_eq_true rfl, ?_⟩
  have rt1 : rngI .i64 (dgAt e ((e.length : Int) - 1) * 32768) := rng64 (by omega) (by omega)
  have rt2 : rngI .i64 (dgAt e ((e.length : Int) - 1) * 32768 + dgAt e ((e.length : Int) - 2)) := rng64 (by omega) (by omega)
  obtain ⟨T, hT⟩ : ∃ T, dgAt e ((e.length : Int) - 1) * 32768 + dgAt e ((e.length : Int) - 2) = T := ⟨_, rfl⟩
  have hTV : T = V * 32768 := by omega
  (repeat' (first | (refine xI (fun hfk => ?_) (fun hfk => ?_) <;> ((try (first | replace hfk := oT hfk | replace hfk := oF hfk | simp only [oD, ne_eq, reduceCtorEq] at hfk)); (try exact oX))) | (refine And.intro ?ob ?_; (case ob => (exact oZ))) | exact True.intro | (show _ = _; first | exact oY | (first | exact rt1 | exact rt2; done) | exact rfl) | exact oW | (apply And.intro)))
  have r0 : ([] : List Int) = dgs (0 : Int).toNat := dgs_0.symm
  have w0 : valD (d.drop (d.length - 0)) = 0 := by rw [Nat.sub_zero, List.drop_of_length_le (Nat.le_refl _)]; rfl
  have qi0 : QI V (valD (d.drop (d.length - 0))) [] 0 := ⟨(fun x hx => by cases hx), (by rw [w0]; simp [valD]), Int.le_refl _, by omega⟩
  refine ⟨Nat × List Int × List Int × Int, fun g => [(2, .ptr 0 0), (3, .ptr 1 0), (4, .ptr 2 0), (5, .roi .i64 g.2.1), (6, .roi .i64 g.2.2.1), (7, .int .i64 (e.length : Int)), (8, .int .i64 T), (9, .int .i64 ((d.length : Int) - 1 - (g.1 : Int)))],
      fun g => ⟨3, [(0, some (.cells 69 [.bool false, .roi .i64 d])), (1, some (.cells 69 [.bool false, .roi .i64 e])), (2, some (.cells 69 [.fls, .nils]))]⟩,
      fun g => g.1 ≤ d.length ∧ g.2.1.length = g.1 ∧ QI V (valD (d.drop (d.length - g.1))) g.2.1 g.2.2.2 ∧ g.2.2.1 = dgs g.2.2.2.toNat, fun g => d.length - g.1, ⟨(0, [], [], 0), [some 0, some 1, some 2], ⟨Nat.zero_le _, rfl, qi0, r0⟩, ?_⟩, fun g hg => ?_⟩
  · (repeat' (first | (refine And.intro ?_ ?_) | exact True.intro | (show _ = _; with_reducible rfl) | exact Chk.mk (by kernel_rfl)))
    all_goals first | exact hT | rfl | (show (_ : Int) = _; omega)
  obtain ⟨m, q, r, x0⟩ := g
  obtain ⟨g1, g2, g3, g4⟩ := hg
  have g1 : m ≤ d.length := g1
  have ql : q.length = m := g2
  have g3 : QI V (valD (d.drop (d.length - m))) q x0 := g3
  have g4 : r = dgs x0.toNat := g4
  dsimp only
  clear r0 hT te1 rt1 rt2 qi0 w0
  have xl := g3.lo
  have xh := g3.hi
  by_cases hlt : m < d.length
  · have rl4 : r.length ≤ 1 := by
      rw [g4]
      exact dgs_len (k := 1) (by have : (32768 : Nat) ^ 1 = 32768 := rfl
                                 omega)
    have rr : rngI .i64 ((d.length : Int) - 1 - (m : Int) - 1) := rng64 (by omega) (by omega)
    obtain ⟨a, ha⟩ : ∃ a, d.getD (d.length - (m + 1)) 0 = a := ⟨_, rfl⟩
    obtain ⟨x, hx⟩ : ∃ x, a + 32768 * x0 = x := ⟨_, rfl⟩
    obtain ⟨R, hR⟩ : ∃ R, dgs x.toNat = R := ⟨_, rfl⟩
    have ei : ((d.length : Int) - 1 - (m : Int)).toNat = d.length - (m + 1) := by omega
    have hcons : d.getD ((d.length : Int) - 1 - (m : Int)).toNat 0 :: r = a :: dgs x0.toNat := by rw [ei, g4, ha]
    have hdr : d.drop (d.length - (m + 1)) = a :: d.drop (d.length - m) := by
      rw [drop_dg (by omega), dgAt_in (by omega), ha, show d.length - (m + 1) + 1 = d.length - m by omega]
    have hda : 0 ≤ a ∧ a < 32768 := by
      have := b1.dig.drop (d.length - (m + 1))
      rw [hdr] at this
      exact ⟨this.head.lo, this.head.hi⟩
    have hdg : Dig (a :: dgs x0.toNat) := Dig.cons ⟨hda.1, hda.2⟩ (Dig_dgs _)
    have hv : valD (a :: dgs x0.toNat) = x := by
      show a + 32768 * valD (dgs _) = x
      rw [valD_dgs, Int.toNat_of_nonneg xl, hx]
    have hW : valD (d.drop (d.length - (m + 1))) = a + 32768 * valD (d.drop (d.length - m)) := by rw [hdr]; rfl
    obtain ⟨Q, hQ⟩ : ∃ Q, (a + 32768 * x0) / V = Q := ⟨_, rfl⟩
    obtain ⟨qn, Q0, Q1, Q2⟩ := qi_next g3 (by omega) hda hQ.symm
    rw [← hW] at qn
    rw [hx] at qn hQ Q2
    have x1 : 0 ≤ x ∧ x < 32768 * V := by omega
    have htr : trimL (List.take (((fun x => d.getD ((d.length : Int) - 1 - (m : Int)).toNat 0 :: x) ([] : List Int)).length + r.length) (List.drop 0 ((fun x => d.getD ((d.length : Int) - 1 - (m : Int)).toNat 0 :: x) ([] : List Int) ++ r))) = R := by
      have e1 : List.take (((fun x => d.getD ((d.length : Int) - 1 - (m : Int)).toNat 0 :: x) ([] : List Int)).length + r.length) (List.drop 0 ((fun x => d.getD ((d.length : Int) - 1 - (m : Int)).toNat 0 :: x) ([] : List Int) ++ r)) = d.getD ((d.length : Int) - 1 - (m : Int)).toNat 0 :: r := by
        show List.take (1 + r.length) (d.getD ((d.length : Int) - 1 - (m : Int)).toNat 0 :: r) = _
        rw [List.take_of_length_le (by rw [List.length_cons]; omega)]
      rw [e1, hcons, trim_dgs hdg, hv, hR]
    have hst : ShT (List.take (((fun x => d.getD ((d.length : Int) - 1 - (m : Int)).toNat 0 :: x) ([] : List Int)).length + r.length) (List.drop 0 ((fun x => d.getD ((d.length : Int) - 1 - (m : Int)).toNat 0 :: x) ([] : List Int) ++ r))) := by
      refine ⟨?_⟩
      show (List.take (1 + r.length) (d.getD ((d.length : Int) - 1 - (m : Int)).toNat 0 :: r)).length ≤ 4000000
      rw [List.length_take, List.length_cons]; omega
    (repeat' (first | (refine xI (fun hfk => ?_) (fun hfk => ?_) <;> ((try (first | replace hfk := oT hfk | replace hfk := oF hfk | simp only [oD, ne_eq, reduceCtorEq] at hfk)); (try exact oX))) | (refine And.intro ?ob ?_; (case ob => (exact oZ))) | exact True.intro | (show _ = _; first | exact oY | (first | exact hst | skip; done) | exact rfl) | exact oW | (apply And.intro)))
    refine ⟨[(2, .ptr 0 0), (3, .ptr 1 0), (4, .ptr 2 0), (5, .roi .i64 q), (6, .roi .i64 R), (7, .int .i64 (e.length : Int)), (8, .int .i64 T), (9, .int .i64 ((d.length : Int) - 1 - (m : Int)))],
      ⟨3, [(0, some (.cells 69 [.bool false, .roi .i64 d])), (1, some (.cells 69 [.bool false, .roi .i64 e])), (2, some (.cells 69 [.fls, .nils]))]⟩, [some 0, some 1, some 2], ?_, ?_⟩
    · (repeat' (first | (refine And.intro ?_ ?_) | exact True.intro | (show _ = _; with_reducible rfl) | exact Chk.mk (by kernel_rfl)))
      all_goals first | exact htr | rfl
    clear htr hst hv hdg hdr hcons ei hW
    obtain ⟨d2, Rl⟩ := dgAt2 (x := x) x1.1 (by omega)
    rw [hR] at d2 Rl
    have RD : Dig R := by rw [← hR]; exact Dig_dgs _
    have Rv : valD R = x := by rw [← hR, valD_dgs]; omega
    have z1 : dgAt R (e.length : Int) = dgAt R 1 := by rw [h5]; rfl
    have z2 : dgAt R ((e.length : Int) - 1) = dgAt R 0 := by rw [h5]; rfl
    have z3 : dgAt R ((e.length : Int) - 2) = 0 := if_neg (by omega)
    have zb := dgAt_bd RD (e.length : Int)
    have zc := dgAt_bd RD ((e.length : Int) - 1)
    obtain ⟨f, hf⟩ : ∃ f, x * 32768 = f := ⟨_, rfl⟩
    (repeat' (first | (refine xI (fun hfk => ?_) (fun hfk => ?_) <;> ((try (first | replace hfk := oT hfk | replace hfk := oF hfk | simp only [oD, ne_eq, reduceCtorEq] at hfk)); (try exact oX))) | (refine And.intro ?ob ?_; (case ob => (exact oZ))) | exact True.intro | (show _ = _; first | exact oY | exact rfl) | exact oW | (apply And.intro)))
    refine ⟨[(2, .ptr 0 0), (3, .ptr 1 0), (4, .ptr 2 0), (5, .roi .i64 q), (6, .roi .i64 R), (7, .int .i64 (e.length : Int)), (8, .int .i64 T), (9, .int .i64 ((d.length : Int) - 1 - (m : Int))), (10, .int .i64 f)],
      ⟨3, [(0, some (.cells 69 [.bool false, .roi .i64 d])), (1, some (.cells 69 [.bool false, .roi .i64 e])), (2, some (.cells 69 [.fls, .nils]))]⟩, [some 0, some 1, some 2], ?_, ?_⟩
    · have ef : (dgAt R (e.length : Int) * 32768 + dgAt R ((e.length : Int) - 1)) * 32768 + dgAt R ((e.length : Int) - 2) = f := by rw [z1, z2, z3, d2, hf]; omega
      (repeat' (first | (refine And.intro ?_ ?_) | exact True.intro | (show _ = _; with_reducible rfl) | exact Chk.mk (by kernel_rfl)))
      all_goals first | exact ef | rfl
    clear z1 z2 z3 zb zc d2
    have f0 : 0 ≤ f := by omega
    have l0 : 0 ≤ f.tdiv (T + 1) ∧ f.tdiv (T + 1) ≤ Q := by
      rw [Int.tdiv_eq_ediv_of_nonneg f0]
      refine ⟨Int.ediv_nonneg f0 (by omega), ?_⟩
      have hm : x < (Q + 1) * V := Int.lt_mul_of_ediv_lt (by omega) (by omega)
      have : f / (T + 1) < Q + 1 := Int.ediv_lt_of_lt_mul (by omega) (by
        rw [hTV, Int.mul_add, ← Int.mul_assoc]
        omega)
      omega
    have l1 : Q ≤ min 32767 ((f + 1).tdiv T) := by
      rw [Int.tdiv_eq_ediv_of_nonneg (by omega)]
      have : Q ≤ (f + 1) / T := Int.le_ediv_of_mul_le (by omega) (by
        rw [hTV, ← Int.mul_assoc]
        omega)
      omega
    have l2 : 0 ≤ (f + 1).tdiv T ∧ (f + 1).tdiv T ≤ f + 1 := by
      rw [Int.tdiv_eq_ediv_of_nonneg (by omega)]
      exact ⟨Int.ediv_nonneg (by omega) (by omega), Int.ediv_le_self _ (by omega)⟩
    have dr1 : rngI .i64 (f.tdiv (T + 1)) := rng64 (by omega) (by omega)
    have dr2 : rngI .i64 ((f + 1).tdiv T) := rng64 (by omega) (by omega)
    (repeat' (first | (refine xI (fun hfk => ?_) (fun hfk => ?_) <;> ((try (first | replace hfk := oT hfk | replace hfk := oF hfk | simp only [oD, ne_eq, reduceCtorEq] at hfk)); (try exact oX))) | (refine And.intro ?ob ?_; (case ob => (exact oZ))) | exact True.intro | (show _ = _; first | exact oY | (first | exact dr1 | exact dr2 | skip; done) | exact rfl) | exact oW | (apply And.intro)))
    refine ⟨Int × Int, fun h => [(2, .ptr 0 0), (3, .ptr 1 0), (4, .ptr 2 0), (5, .roi .i64 q), (6, .roi .i64 R), (7, .int .i64 (e.length : Int)), (8, .int .i64 T), (9, .int .i64 ((d.length : Int) - 1 - (m : Int))), (11, .int .i64 h.1), (12, .int .i64 h.2)],
      fun h => ⟨3, [(0, some (.cells 69 [.bool false, .roi .i64 d])), (1, some (.cells 69 [.bool false, .roi .i64 e])), (2, some (.cells 69 [.fls, .nils]))]⟩,
      fun h => 0 ≤ h.1 ∧ h.1 ≤ Q ∧ Q ≤ h.2 ∧ h.2 ≤ 32767, fun h => (h.2 - h.1).toNat, ⟨(f.tdiv (T + 1), min 32767 ((f + 1).tdiv T)), [some 0, some 1, some 2], ⟨l0.1, l0.2, l1, by show min 32767 ((f + 1).tdiv T) ≤ 32767; omega⟩, ?_⟩, fun h hh2 => ?_⟩
    · (repeat' (first | (refine And.intro ?_ ?_) | exact True.intro | (show _ = _; with_reducible rfl) | exact Chk.mk (by kernel_rfl)))
      all_goals rfl
    clear dr1 dr2 l0 l1 l2
    obtain ⟨lo, hi⟩ := h
    obtain ⟨i1, i2, i3, i4⟩ := hh2
    have i1 : 0 ≤ lo := i1
    have i2 : lo ≤ Q := i2
    have i3 : Q ≤ hi := i3
    have i4 : hi ≤ 32767 := i4
    dsimp only
    have be : bzv false e = V := vE
    have shR : Sh R := ⟨by omega⟩
    have hmul : ∀ y : Int, 0 ≤ y → y ≤ 32768 → bzv (decide (y < 0)) (dgs y.natAbs) * bzv false e = y * V ∧ 0 ≤ y * V ∧ y * V ≤ 32768 * V := fun y h0 h1 => by
      rw [bzv_big, be]; exact ⟨rfl, Int.mul_nonneg h0 (by omega), Int.mul_le_mul_of_nonneg_right h1 (by omega)⟩
    have hlen : ∀ z : Int, 0 ≤ z → z ≤ 32768 * V → valD (dgs z.natAbs) = z ∧ Sh (dgs z.natAbs) ∧ Dig (dgs z.natAbs) := fun z h0 h1 => by
      have := dgs_len (k := 3) (n := z.natAbs) (by have : (32768 : Nat) ^ 3 = 35184372088832 := rfl
                                                   omega)
      exact ⟨by rw [valD_dgs]; omega, ⟨by omega⟩, Dig_dgs _⟩
    by_cases hlh : lo < hi
    · obtain ⟨y, hy⟩ : ∃ y, (lo + hi + 1) / 2 = y := ⟨_, rfl⟩
      have m1 : Int.tdiv (lo + hi + 1) 2 = y := by rw [Int.tdiv_eq_ediv_of_nonneg (by omega), hy]
      have y0 : lo < y ∧ y ≤ hi := by omega
      have rm : rngI .i64 (Int.tdiv (lo + hi + 1) 2) := by rw [m1]; exact rng64 (by omega) (by omega)
      (repeat' (first | (refine xI (fun hfk => ?_) (fun hfk => ?_) <;> ((try (first | replace hfk := oT hfk | replace hfk := oF hfk | simp only [oD, ne_eq, reduceCtorEq] at hfk)); (try exact oX))) | (refine And.intro ?ob ?_; (case ob => (exact oZ))) | exact True.intro | (show _ = _; first | exact oY | (first | exact rm | skip; done) | exact rfl) | exact oW | (apply And.intro)))
      refine ⟨[(2, .ptr 0 0), (3, .ptr 1 0), (4, .ptr 2 0), (5, .roi .i64 q), (6, .roi .i64 R), (7, .int .i64 (e.length : Int)), (8, .int .i64 T), (9, .int .i64 ((d.length : Int) - 1 - (m : Int))), (11, .int .i64 lo), (12, .int .i64 hi), (13, .int .i64 y)],
        ⟨3, [(0, some (.cells 69 [.bool false, .roi .i64 d])), (1, some (.cells 69 [.bool false, .roi .i64 e])), (2, some (.cells 69 [.fls, .nils]))]⟩, [some 0, some 1, some 2], ?_, ?_⟩
      · (repeat' (first | (refine And.intro ?_ ?_) | exact True.intro | (show _ = _; with_reducible rfl) | exact Chk.mk (by kernel_rfl)))
        all_goals first | exact m1 | rfl
      clear m1 rm
      obtain ⟨hm1, hm2, hm3⟩ := hmul y (by omega) (by omega)
      obtain ⟨hn1, hn2, hn3⟩ := hlen (y * V) hm2 hm3
      rw [← hm1] at hn1 hn2 hn3
      have B1 : Bg (decide (y < 0)) (dgs y.natAbs) := Bg_i64 (by omega) (by omega)
      by_cases hc : y * V ≤ x
      · have hQy : y ≤ Q := by rw [← hQ]; exact Int.le_ediv_of_mul_le (by omega) hc
        have hcm : cmpV (valD (dgs (bzv (decide (y < 0)) (dgs (Int.natAbs y)) * bzv false e).natAbs)) (valD R) ≤ 0 := by
          rw [hn1, Rv, hm1]; unfold cmpV; split
          · decide
          · rw [if_neg (by omega)]; decide
        clear hmul hlen
        (repeat' (first | (refine xI (fun hfk => ?_) (fun hfk => ?_) <;> ((try (first | replace hfk := oT hfk | replace hfk := oF hfk | simp only [oD, ne_eq, reduceCtorEq] at hfk)); (try exact oX))) | (refine And.intro ?ob ?_; (case ob => (exact oZ))) | exact True.intro | (show _ = _; first | exact oY | (first | exact B1 | exact b2 | exact hn2 | exact hn3 | exact shR | exact RD | skip; done) | exact rfl) | exact oW | (apply And.intro)))
        refine ⟨(y, hi), [some 0, some 1, some 2], ⟨by show 0 ≤ y; omega, hQy, i3, i4⟩, ?mu, ?_⟩
        case mu => (show (hi - y).toNat < (hi - lo).toNat; omega)
        (repeat' (first | (refine And.intro ?_ ?_) | exact True.intro | (show _ = _; with_reducible rfl) | exact Chk.mk (by kernel_rfl)))
        all_goals rfl
      · have hQy : Q < y := by rw [← hQ]; exact Int.ediv_lt_of_lt_mul (by omega) (by omega)
        have hcm : ¬ cmpV (valD (dgs (bzv (decide (y < 0)) (dgs (Int.natAbs y)) * bzv false e).natAbs)) (valD R) ≤ 0 := by
          rw [hn1, Rv, hm1]; unfold cmpV; rw [if_neg (by omega), if_pos (by omega)]; decide
        clear hmul hlen
        (repeat' (first | (refine xI (fun hfk => ?_) (fun hfk => ?_) <;> ((try (first | replace hfk := oT hfk | replace hfk := oF hfk | simp only [oD, ne_eq, reduceCtorEq] at hfk)); (try exact oX))) | (refine And.intro ?ob ?_; (case ob => (exact oZ))) | exact True.intro | (show _ = _; first | exact oY | (first | exact B1 | exact b2 | exact hn2 | exact hn3 | exact shR | exact RD | skip; done) | exact rfl) | exact oW | (apply And.intro)))
        refine ⟨(lo, y - 1), [some 0, some 1, some 2], ⟨i1, i2, by show Q ≤ y - 1; omega, by show y - 1 ≤ 32767; omega⟩, ?mu3, ?_⟩
        case mu3 => (show (y - 1 - lo).toNat < (hi - lo).toNat; omega)
        (repeat' (first | (refine And.intro ?_ ?_) | exact True.intro | (show _ = _; with_reducible rfl) | exact Chk.mk (by kernel_rfl)))
        all_goals rfl
    · have eQ : lo = Q := by omega
      subst eQ
      obtain ⟨hm1, hm2, hm3⟩ := hmul lo (by omega) (by omega)
      obtain ⟨hn1, hn2, hn3⟩ := hlen (lo * V) hm2 hm3
      rw [← hm1] at hn1 hn2 hn3
      have B0 : Bg (decide (lo < 0)) (dgs lo.natAbs) := Bg_i64 (by omega) (by omega)
      have le1 : valD (dgs (bzv (decide (lo < 0)) (dgs (Int.natAbs lo)) * bzv false e).natAbs) ≤ valD R := by rw [hn1, Rv, hm1]; exact Q2
      have hr : dgs (valD R - valD (dgs (bzv (decide (lo < 0)) (dgs (Int.natAbs lo)) * bzv false e).natAbs)).toNat = dgs (x - lo * V).toNat := by rw [hn1, Rv, hm1]
      clear hmul hlen
      (repeat' (first | (refine xI (fun hfk => ?_) (fun hfk => ?_) <;> ((try (first | replace hfk := oT hfk | replace hfk := oF hfk | simp only [oD, ne_eq, reduceCtorEq] at hfk)); (try exact oX))) | (refine And.intro ?ob ?_; (case ob => (exact oZ))) | exact True.intro | (show _ = _; first | exact oY | (first | exact B0 | exact b2 | exact hn2 | exact hn3 | exact le1 | exact shR | exact RD | skip; done) | exact rfl) | exact oW | (apply And.intro)))
      refine ⟨[5], ?_⟩
      (repeat' (first | (refine xI (fun hfk => ?_) (fun hfk => ?_) <;> ((try (first | replace hfk := oT hfk | replace hfk := oF hfk | simp only [oD, ne_eq, reduceCtorEq] at hfk)); (try exact oX))) | (refine And.intro ?ob ?_; (case ob => (exact oZ))) | exact True.intro | (show _ = _; first | exact oY | exact rfl) | exact oW | (apply And.intro)))
      have q1 : List.take (((fun x => lo :: x) ([] : List Int)).length + q.length) (List.drop 0 ((fun x => lo :: x) ([] : List Int) ++ q)) = lo :: q := by
        show List.take (1 + q.length) (lo :: q) = _
        rw [List.take_of_length_le (by rw [List.length_cons]; omega)]
      refine ⟨[(2, .ptr 0 0), (3, .ptr 1 0), (4, .ptr 2 0), (5, .roi .i64 (lo :: q)), (6, .roi .i64 (dgs (x - lo * V).toNat)), (7, .int .i64 (e.length : Int)), (8, .int .i64 T), (9, .int .i64 ((d.length : Int) - 1 - (m : Int)))],
        ⟨3, [(0, some (.cells 69 [.bool false, .roi .i64 d])), (1, some (.cells 69 [.bool false, .roi .i64 e])), (2, some (.cells 69 [.fls, .nils]))]⟩, [some 0, some 1, some 2], ?_, ?_⟩
      · (repeat' (first | (refine And.intro ?_ ?_) | exact True.intro | (show _ = _; with_reducible rfl) | exact Chk.mk (by kernel_rfl)))
        all_goals first | exact q1 | exact hr | rfl
      clear q1 hr B0 le1 shR
      (repeat' (first | (refine xI (fun hfk => ?_) (fun hfk => ?_) <;> ((try (first | replace hfk := oT hfk | replace hfk := oF hfk | simp only [oD, ne_eq, reduceCtorEq] at hfk)); (try exact oX))) | (refine And.intro ?ob ?_; (case ob => (exact oZ))) | exact True.intro | (show _ = _; first | exact oY | exact rfl) | exact oW | (apply And.intro)))
      refine ⟨(m + 1, lo :: q, dgs (x - lo * V).toNat, x - lo * V), [some 0, some 1, some 2], ⟨hlt, by show q.length + 1 = m + 1; rw [ql], qn, rfl⟩, ?mu2, ?_⟩
      case mu2 => (show d.length - (m + 1) < d.length - m; omega)
      (repeat' (first | (refine And.intro ?_ ?_) | exact True.intro | (show _ = _; with_reducible rfl) | exact Chk.mk (by kernel_rfl)))
      all_goals first | rfl | (show (_ : Int) = _; omega)
  · obtain rfl : m = d.length := by omega
    have hq := qi_end g3 (by omega)
    rw [Nat.sub_self, List.drop_zero] at hq
    have tz : trimL q = dgs (valD d / V).natAbs := by
      have nn : 0 ≤ valD d / V := Int.ediv_nonneg n1 (by omega)
      rw [trim_dgs g3.dig, hq]; congr 1; omega
    have sq : ShT q := ⟨by omega⟩
    have nn : ¬ valD d / V < 0 := by have : 0 ≤ valD d / V := Int.ediv_nonneg n1 (by omega)
                                     omega
    have eb : bigA (valD d / V) = .agg [.bool false, .roi .i64 (dgs (valD d / V).natAbs)] := by unfold bigA; rw [decide_eq_false nn]
    rw [eb]
    clear eb nn hq
    (repeat' (first | (refine xI (fun hfk => ?_) (fun hfk => ?_) <;> ((try (first | replace hfk := oT hfk | replace hfk := oF hfk | simp only [oD, ne_eq, reduceCtorEq] at hfk)); (try exact oX))) | (refine And.intro ?ob ?_; (case ob => (exact oZ))) | exact True.intro | (show _ = _; first | exact oY | (first | exact sq | exact tz | rfl; done) | exact rfl) | exact oW | (apply And.intro)))
theorem sok_cases {P : Program} {g : FuncId} {s1 s2 s : PSpec} (h1 : SOK P g s1) (h2 : SOK P g s2) (k : ∀ l obs v, s l = some (obs, v) → (∀ p ∈ obs, p) → (∃ obs', s1 l = some (obs', v) ∧ ∀ p ∈ obs', p) ∨ (∃ obs', s2 l = some (obs', v) ∧ ∀ p ∈ obs', p)) : SOK P g s :=
  ⟨h1.1, fun l obs v e ho w O cl h3 h4 => by
    rcases k l obs v e ho with ⟨obs', k1, k2⟩ | ⟨obs', k1, k2⟩
    · exact h1.2 l obs' v k1 k2 w O cl h3 h4
    · exact h2.2 l obs' v k1 k2 w O cl h3 h4⟩
abbrev floorOneS : PSpec := gB2 (fun s d t e => [Bg s d, Bg t e, s = false, t = false, d.length ≤ 1000, e.length = 1]) fun s d t e => bigA (valD d / valD e)
theorem valD_len : ∀ {k : Nat} {l : List Int}, Dig l → l.length ≤ k → valD l < ((32768 ^ k : Nat) : Int)
  | k, [], _, _ => by have : 0 < 32768 ^ k := Nat.pow_pos (by decide)
                      show (0 : Int) < _; omega
  | 0, d :: l, _, h => by simp at h
  | k + 1, d :: l, hd, h => by
    have ih := valD_len (k := k) (l := l) hd.tail (by simpa using h)
    have h2 := hd.head.hi
    show d + 32768 * valD l < _
    rw [Nat.pow_succ, Int.natCast_mul]
    have : ((32768 : Nat) : Int) = 32768 := rfl
    rw [this]
    omega
theorem floorOne_s : SOK Tryd.prog 62 floorOneS := by
  refine sok_cases floor_s floor1_s fun l obs v h ho => ?_
  unfold floorOneS at h
  (unfold gB2 at h; split at h; rotate_left; (focus (cases h)); rename_i s d t e; simp only [Option.some.injEq, Prod.mk.injEq] at h; obtain ⟨rfl, rfl⟩ := h; simp only [List.mem_cons, List.not_mem_nil, or_false, forall_eq_or_imp, forall_eq, false_implies, implies_true] at ho)
  obtain ⟨b1, b2, h3, h4, h5, h6⟩ := ho
  by_cases k : d.length ≤ 4
  · left
    have v1 := valD_len b1.dig k
    have v2 := valD_len (k := 1) b2.dig (by omega)
    have z : 0 < valD e := by
      have hz : valD e ≠ 0 := fun k => by have := b2.can; rw [k] at this; rw [show (0 : Int).toNat = 0 from rfl, dgs_0] at this; rw [← this] at h6; simp at h6
      have := valD_nn b2.dig
      omega
    rw [show ((32768 ^ 4 : Nat) : Int) = 1152921504606846976 from rfl] at v1
    rw [show ((32768 ^ 1 : Nat) : Int) = 32768 from rfl] at v2
    refine ⟨_, rfl, ?_⟩
    intro p hp
    simp only [List.mem_cons, List.not_mem_nil, or_false] at hp
    rcases hp with rfl | rfl | rfl | rfl | rfl | rfl | rfl
    · exact b1
    · exact b2
    · exact h3
    · exact h4
    · exact v1
    · exact z
    · omega
  · right
    refine ⟨_, rfl, ?_⟩
    intro p hp
    simp only [List.mem_cons, List.not_mem_nil, or_false] at hp
    rcases hp with rfl | rfl | rfl | rfl | rfl | rfl | rfl
    · exact b1
    · exact b2
    · exact h3
    · exact h4
    · omega
    · exact h5
    · exact h6
end Go.Proofs.YtblloaajiaoblaaDoor
namespace Go.Proofs.YtblloaajiaoblaaDoor
open Go Go.RowKit
def dstr (T : TypeId → Option TI) (o : Op) (e : Env) (H : AH) : DR := match o with
  | .convert s d x => (match tdq T s, tdq T d, evA e x with
    | .slice es, .str, some v => (match tdq T es, intsOfA H .u8 v with
      | .int .u8, some (obs, l) => some (obs, .str (l.map fun n => UInt8.ofNat n.toNat), [], H.nx)
      | _, _ => none)
    | .str, .slice el, some (.str z) => (match tdq T el with
      | .int .u8 => some ([z.length ≤ 140737488355328], .sl H.nx 1 0 z.length, [(H.nx, some (.ints el .u8 (z.map fun c => (c.toNat : Int))))], H.nx + 1)
      | _ => none)
    | _, _, _ => none)
  | _ => none
def dX5 (T : TypeId → Option TI) (o : Op) (e : Env) (H : AH) : DR := match dstr T o e H with | some r => some r | none => dX4 T o e H
theorem dstr_congr {T : TypeId → Option TI} {o : Op} {e e' : Env} {H : AH} (h : ∀ x ∈ o.operands.toList, evA e x = evA e' x) : dstr T o e H = dstr T o e' H := by
  unfold dstr
  split
  · rename_i s d x
    rw [h x (by simp [Op.operands])]
  · rfl
theorem copyok5 {C : Ctx} (hC : C.X = xop4 C.T) (hD : C.DX = dX5 C.T) : CopyOK C := by
  have c4 := copyok4 (C := { C with X := xop4 C.T, DX := dX4 C.T }) rfl rfl
  refine ⟨fun o e e' H h => by
    have := c4.congr o e e' H h
    rw [hD]; unfold dX5; rw [dstr_congr h]
    show _ = (match dstr C.T o e' H with | some r => some r | none => dX4 C.T o e' H)
    rw [show dX4 C.T o e H = dX4 C.T o e' H from this], ?_⟩
  intro o e H obs v δ nx K h ho hK
  rw [hC]
  rw [hD] at h
  unfold dX5 at h
  split at h
  · rename_i r hr
    cases h
    unfold dstr at hr
    split at hr
    · rename_i s d x
      split at hr
      · rename_i es u hs hd hx
        split at hr
        · rename_i obs' l he hi
          cases hr
          have hb : rowB C.T (.convert s d x) e H = false := by
            unfold rowB
            simp only [hs, hd, hx]
          show xop4 C.T _ e H K
          unfold xop4
          rw [hb]
          show xop2 C.T _ e H K
          unfold xop2
          simp only [xsB2]
          unfold xop
          simp only [hx]
          unfold aconvX
          simp only [hs, hd, he, hi]
          exact obl_intro ho hK
        · cases hr
      · rename_i el z hs hd hx
        split at hr
        · rename_i he
          cases hr
          have hb : rowB C.T (.convert s d x) e H = true := by
            unfold rowB
            simp only [hs, hd, hx]
          show xop4 C.T _ e H K
          unfold xop4
          rw [hb]
          show rowX C.T _ e H K
          unfold rowX
          simp only [hx]
          unfold convS
          simp only [hs, hd, he]
          exact ⟨ho _ (by simp), hK⟩
        · cases hr
      · cases hr
    · cases hr
  · exact c4.out o e H obs v δ nx K h ho hK
noncomputable def mkT (p : Nat) (S : List (FuncId × PSpec)) (G : FuncId → Option GSpec) (D0 D : List (FuncId × FSpec)) (cuts : List Nat) : Ctx := ⟨p, tlook tt, slook S, dG (D0 ++ D) G, xsE (tlook tt), xop4 (tlook tt), fun i => cuts.any (Nat.beq i), dXD (D0 ++ D), dXN0 D0 D, dX5 (tlook tt)⟩
theorem mkT_ok {p : Nat} {S : List (FuncId × PSpec)} {G : FuncId → Option GSpec} {D0 D : List (FuncId × FSpec)} {cuts : List Nat} (hS : POK Tryd.prog (slook S)) (hG : ∀ g s, G g = some s → GSOK Tryd.prog g s) (hD : ∀ g FS, dlook (D0 ++ D) g = some FS → GSOK Tryd.prog g (fG FS)) : COK Tryd.prog (mkT p S G D0 D cuts) :=
  ⟨ttok, hS, gok_of ttok (xok4 ttok rfl) (fun g s h => by
    simp only [mkT, dG] at h
    split at h
    · rename_i FS hd
      cases h
      exact hD g FS hd
    · exact hG g s h), dok_of (D0 ++ D), copyok5 rfl rfl⟩
end Go.Proofs.YtblloaajiaoblaaDoor
namespace Go.Proofs.YtblloaajiaoblaaDoor
structure R4 where
  x0 : Int
  y0 : Int
  x1 : Int
  y1 : Int
def R4.zero : R4 := ⟨0, 0, 0, 0⟩
@[simp] theorem zero_x0 : R4.zero.x0 = 0 := rfl
@[simp] theorem zero_y0 : R4.zero.y0 = 0 := rfl
@[simp] theorem zero_x1 : R4.zero.x1 = 0 := rfl
@[simp] theorem zero_y1 : R4.zero.y1 = 0 := rfl
def inB (x : Int) : Bool := decide (-2147483648 ≤ x) && decide (x ≤ 2147483648)
def R4.right (r : R4) : Bool := inB r.x0 && inB r.y0 && inB r.x1 && inB r.y1
def R4.empty (r : R4) : Bool := !r.right || decide (r.x1 ≤ r.x0) || decide (r.y1 ≤ r.y0)
def R4.norm (r : R4) : R4 := if r.empty = true then .zero else r
def R4.has (r : R4) (x y : Int) : Bool := !r.empty && decide (r.x0 ≤ x) && decide (x < r.x1) && decide (r.y0 ≤ y) && decide (y < r.y1)
abbrev R4.join (a b : R4) : R4 := ⟨min a.x0 b.x0, min a.y0 b.y0, max a.x1 b.x1, max a.y1 b.y1⟩
def beq8 (a0 a1 a2 a3 b0 b1 b2 b3 : Int) : Bool := a0 == b0 && a1 == b1 && a2 == b2 && a3 == b3
def R4.beq (a b : R4) : Bool := beq8 a.x0 a.y0 a.x1 a.y1 b.x0 b.y0 b.x1 b.y1
def cutI (x : Int) : Int := max (-2147483648) (min x 2147483648)
abbrev R4.fat (r : R4) (k : Int) : R4 := ⟨cutI (r.x0 - k), cutI (r.y0 - k), cutI (r.x1 + k), cutI (r.y1 + k)⟩
def R4.grow (r : R4) (k : Int) : R4 := if r.empty = true then .zero else if inB k = true then (r.fat k).norm else (R4.mk (cutI r.x0) (cutI r.y0) (cutI r.x1) (cutI r.y1)).norm
theorem R4.ext' {a b : R4} (h0 : a.x0 = b.x0) (h1 : a.y0 = b.y0) (h2 : a.x1 = b.x1) (h3 : a.y1 = b.y1) : a = b := by
  cases a; cases b; simp_all
theorem R4.beq_self (r : R4) : r.beq r = true := by simp [R4.beq, beq8]
theorem R4.beq_iff (a b : R4) : a.beq b = true ↔ a = b := by
  constructor
  · intro h
    simp [R4.beq, beq8] at h
    exact R4.ext' h.1.1.1 h.1.1.2 h.1.2 h.2
  · rintro rfl; exact a.beq_self
end Go.Proofs.YtblloaajiaoblaaDoor
namespace Go.Proofs.YtblloaajiaoblaaDoor
open Go Go.RowKit
abbrev R4.av (r : R4) : AV := .agg [.int .i64 r.x0, .int .i64 r.y0, .int .i64 r.x1, .int .i64 r.y1]
section
variable {r0 r1 r2 r3 k : Int}
end
end Go.Proofs.YtblloaajiaoblaaDoor
namespace Go.Proofs.YtblloaajiaoblaaDoor
open Go Go.RowKit
theorem al_E : lsE (ByteArray.mk #[97, 32, 98, 32, 35, 32, 99]).data.toList = 0 := by kernel_rfl
theorem al_A : lsA (ByteArray.mk #[97, 32, 98, 32, 35, 32, 99]).data.toList = 0 := by kernel_rfl
theorem al_L : lsL (ByteArray.mk #[97, 32, 98, 32, 35, 32, 99]).data.toList = [(1, [[97], [98]])] := by kernel_rfl
abbrev alS49 : PSpec := fun l => match l with | [] => some ([], .bool true) | _ => none
theorem alive49_s : SOK Tryd.prog 26 alS49 := by
  refine sok_of (C := mkE 0 [(44, linesS)] noG [] [] [1]) (mkE_ok (pok_cons lines_s pok_nil) noG_ok dl_nil) rfl mixed ⟨Tryd.func26, by kernel_rfl, by kernel_rfl, by kernel_rfl⟩ fun l obs v h ho => ?_
  unfold alS49 at h; split at h; rotate_left; (focus (cases h)); simp only [Option.some.injEq, Prod.mk.injEq] at h; obtain ⟨rfl, rfl⟩ := h
  refine ⟨Nat.le_of_ble_eq_true rfl, ?_⟩
  (repeat' (first | (refine xI (fun hfk => ?_) (fun hfk => ?_) <;> ((try (first | replace hfk := oT hfk | replace hfk := oF hfk | simp only [oD, ne_eq, reduceCtorEq] at hfk)); (try exact oX))) | (refine And.intro ?ob ?_; (case ob => (exact oZ))) | exact True.intro | (show _ = _; first | exact oY | exact rfl) | exact oW | (apply And.intro)))
  refine ⟨[(1, .ro 2 1 (fun j => (([(1, [[97], [98]])] : List Ln).getD j Ln.z).av)), (2, .int .i64 0), (3, .int .i64 0)], ⟨0, []⟩, [], ?_, ?_⟩
  · have eL : lnsA (lsL (ByteArray.mk #[97, 32, 98, 32, 35, 32, 99]).data.toList) = .ro 2 1 (fun j => (([(1, [[97], [98]])] : List Ln).getD j Ln.z).av) := by rw [al_L]; rfl
    have eLl : (lsL (ByteArray.mk #[97, 32, 98, 32, 35, 32, 99]).data.toList).length = 1 := by rw [al_L]; rfl
    (repeat' (first | (refine And.intro ?_ ?_) | exact True.intro | (show _ = _; with_reducible rfl) | exact Chk.mk (by kernel_rfl)))
    all_goals first | exact eL | exact eLl | exact al_A | exact al_E | rfl | (intro j hj; exact congrArg (fun L : List Ln => (L.getD j Ln.z).av) al_L)
  (repeat' (first | (refine xI (fun hfk => ?_) (fun hfk => ?_) <;> ((try (first | replace hfk := oT hfk | replace hfk := oF hfk | simp only [oD, ne_eq, reduceCtorEq] at hfk)); (try exact oX))) | (refine And.intro ?ob ?_; (case ob => (exact oZ))) | exact True.intro | (show _ = _; first | exact oY | exact rfl) | exact oW | (apply And.intro)))
end Go.Proofs.YtblloaajiaoblaaDoor
namespace Go.Proofs.YtblloaajiaoblaaDoor
open Go.ChangeShapes Go.WideShapes Go.ChangeAt Go.RowKit Go.Deep
def totW (w : List (List UInt8)) : Nat := (w.map List.length).sum
def totL (L : List Ln) : Nat := (L.map fun x => totW x.2).sum
theorem bulk_sum {H : Type} : ∀ (xs : List Nat) (ds : List (DataW H)), xs.length = ds.length → (∀ (i x : Nat) (d : DataW H), xs[i]? = some x → ds[i]? = some d → x ≤ Rows.uptoBulk d) → xs.sum ≤ Rows.uptoBulkAll ds
  | [], [], _, _ => Nat.zero_le _
  | [], _ :: _, h, _ => by simp at h
  | _ :: _, [], h, _ => by simp at h
  | x :: xs, d :: ds, h, k => by
    have h1 := k 0 x d rfl rfl
    have h2 := bulk_sum xs ds (by simpa using h) fun i y e hy he => k (i + 1) y e (by simpa using hy) (by simpa using he)
    simp only [List.sum_cons, Rows.uptoBulkAll]
    omega
theorem bulk_part {H : Type} : ∀ (ds : List (DataW H)) (i : Nat) (d : DataW H), ds[i]? = some d → Rows.uptoBulk d ≤ Rows.uptoBulkAll ds
  | [], i, d, h => by simp at h
  | e :: ds, 0, d, h => by
    simp at h
    subst h
    simp only [Rows.uptoBulkAll]
    omega
  | e :: ds, i + 1, d, h => by
    have := bulk_part ds i d (by simpa using h)
    simp only [Rows.uptoBulkAll]
    omega
section
variable {H : Type} {enc : TypeId × Value → H} {w : World} {base : Nat} {held : Bool}
theorem open_strsB {fuel : Nat} {t : TypeId} {v : Value} {y : DataW H × List MemPlace} (ht : Tryd.prog.underlying t = some (.slice 9)) (h : DataW.trod enc Tryd.prog w base (fun _ => true) held fuel t [v] = some y) :
    ∃ (A : Option Addr) (n c : Nat) (L : List (List UInt8)), v = .slice A n c ∧ Rep noN w NoO (wA L) (.slice A n c) ∧ totW L ≤ Rows.uptoBulk y.1 := by
  rcases DataW.trod_slice ht h with ⟨hcs, _⟩ | ⟨a, len, cap, elems, rest, n0, _, hcs, hyy, hb, hl, hm, hlen, hel, _, _⟩
  · simp at hcs
    subst hcs
    exact ⟨none, 0, 0, [], rfl, .ronil _ _, Nat.zero_le _⟩
  · simp at hcs
    subst hcs
    have e1 : Tryd.prog.cellsOf 9 = 1 := by kernel_rfl
    have each : ∀ i, ∃ s : List UInt8, i < len → w.cell? (a.add i) = some (.string ⟨s.toArray⟩) ∧ ∃ d, elems[i]? = some d ∧ s.length ≤ Rows.uptoBulk d.1 := by
      intro i
      by_cases hi : i < len
      · have h1 := hel i hi
        rw [e1] at h1
        have hlt : i < elems.length := by omega
        rw [List.getElem?_eq_getElem hlt] at h1
        obtain ⟨cs, hcs, htr⟩ := Option.bind_eq_some_iff.1 h1
        obtain ⟨hlen1, hcell⟩ := cells?_inv hcs
        match cs, hlen1 with
        | [c0], _ =>
          obtain ⟨u, f3, f4, _⟩ := DataW.trod_string Tryd.underlying9 htr
          simp only [List.cons.injEq, and_true] at f3
          subst f3
          have hc := hcell 0 (by decide)
          refine ⟨u.data.toList, fun _ => ⟨?_, _, List.getElem?_eq_getElem hlt, ?_⟩⟩
          · rw [Nat.mul_one] at hc
            rw [Array.toArray_toList]
            exact hc
          · rw [f4]
            simp only [Rows.uptoBulk]
            omega
      · exact ⟨[], fun h => absurd h hi⟩
    have ⟨fm, hfm⟩ := Classical.axiomOfChoice each
    have hll : ((List.range len).map fm).length = len := by simp
    refine ⟨some a, len, cap, (List.range len).map fm, rfl, ?_, ?_⟩
    · unfold wA
      rw [hll]
      rcases Nat.eq_zero_or_pos len with h0 | h0
      · subst h0
        exact .roz _ _ _ _ hm
      · obtain ⟨b, o, sp⟩ := a
        have hc0 := (hfm 0 h0).1
        have hsp : sp = none := by simpa [Addr.add] using World.cell?_spot hc0
        subst hsp
        have hbk : b < w.heap.size := World.block_lt_of_cell? w _ hc0
        exact Rep.ro (R := noN) (w := w) (O := NoO) 1 len (fun j => .str (((List.range len).map fm).getD j [])) b o cap (fun j => .string ⟨(fm j).toArray⟩) hl hm (fun h => h) hbk
          (fun j hj f hf => by
            obtain ⟨k1, _⟩ := hfm j hj
            have hf0 : f = 0 := by omega
            subst hf0
            rw [Addr.add_mid] at k1
            rw [Nat.mul_one, Nat.add_zero]
            exact k1) (fun j hj => rfl)
          (fun j hj => by
            have : ((List.range len).map fm).getD j [] = fm j := by simp [List.getD, hj]
            rw [this]; exact .str _)
    · rw [hyy]
      have := bulk_sum (((List.range len).map fm).map List.length) (elems.map (·.1)) (by simp [hlen]) fun i x d hx hd => by
        rw [List.getElem?_map] at hx hd
        obtain ⟨q, hq, rfl⟩ := Option.map_eq_some_iff.1 hx
        obtain ⟨e, he, rfl⟩ := Option.map_eq_some_iff.1 hd
        have hi : i < len := by have := (List.getElem?_eq_some_iff.1 he).1; omega
        obtain ⟨_, d', k1, k2⟩ := hfm i hi
        rw [he] at k1
        cases k1
        rw [List.getElem?_map, List.getElem?_range hi] at hq
        cases hq
        exact k2
      unfold totW
      simp only [Rows.uptoBulk]
      omega
theorem open_lines {fuel : Nat} {t : TypeId} {v : Value} {y : DataW H × List MemPlace} (ht : Tryd.prog.underlying t = some (.slice 46)) (h : DataW.trod enc Tryd.prog w base (fun _ => true) held fuel t [v] = some y) :
    ∃ (A : Option Addr) (n c : Nat) (L : List Ln), v = .slice A n c ∧ Rep noN w NoO (lnsA L) (.slice A n c) ∧ totL L ≤ Rows.uptoBulk y.1 := by
  rcases DataW.trod_slice ht h with ⟨hcs, _⟩ | ⟨a, len, cap, elems, rest, n0, _, hcs, hyy, hb, hl, hm, hlen, hel, _, _⟩
  · simp at hcs
    subst hcs
    exact ⟨none, 0, 0, [], rfl, .ronil _ _, Nat.zero_le _⟩
  · simp at hcs
    subst hcs
    have e2 : Tryd.prog.cellsOf 46 = 2 := by kernel_rfl
    have each : ∀ i, ∃ p : Ln × Value, i < len → (∃ A n c, (∀ f, f < 2 → w.cell? ((a.add (i * 2)).add f) = [Value.int .i64 p.1.1, .slice A n c][f]?) ∧ p.2 = .agg #[.int .i64 p.1.1, .slice A n c] ∧ Rep noN w NoO (wA p.1.2) (.slice A n c)) ∧ ∃ d, elems[i]? = some d ∧ totW p.1.2 ≤ Rows.uptoBulk d.1 := by
      intro i
      by_cases hi : i < len
      · have h1 := hel i hi
        rw [e2] at h1
        have hlt : i < elems.length := by omega
        rw [List.getElem?_eq_getElem hlt] at h1
        obtain ⟨cs, hcs, htr⟩ := Option.bind_eq_some_iff.1 h1
        obtain ⟨hlen1, hcell⟩ := cells?_inv hcs
        obtain ⟨xs, n, _, hx, hlen2, hxl, hg⟩ := DataW.trod_struct Tryd.underlying46 htr
        match cs, hlen1 with
        | [c0, c1], _ =>
          have hxl : xs.length = 2 := hxl
          match xs, hxl with
          | [x0, x1], _ =>
            have k0 : DataW.trod enc Tryd.prog w base (fun _ => true) held n 3 [c0] = some x0 := by have := hg 0 _ rfl; simpa [show Tryd.prog.cellsOf 3 = 1 by kernel_rfl] using this
            have k1 : DataW.trod enc Tryd.prog w base (fun _ => true) held n 44 [c1] = some x1 := by have := hg 1 _ rfl; simpa [show Tryd.prog.cellsOf 44 = 1 by kernel_rfl] using this
            obtain ⟨N, f0, _, _⟩ := DataW.trod_int Tryd.underlying3 k0
            simp only [List.cons.injEq, and_true] at f0
            subst f0
            obtain ⟨A, m, c, W, rfl, hr, ht⟩ := open_strsB Tryd.underlying44 k1
            refine ⟨((N, W), .agg #[.int .i64 N, .slice A m c]), fun _ => ⟨⟨A, m, c, hcell, rfl, hr⟩, _, List.getElem?_eq_getElem hlt, ?_⟩⟩
            have hd : (elems[i]).1 = .agg ([x0, x1].map (·.1)) := congrArg Prod.fst hx
            rw [hd]
            have := bulk_part ([x0, x1].map (·.1)) 1 x1.1 rfl
            have ht' : totW W ≤ Rows.uptoBulk x1.1 := ht
            show totW W ≤ Rows.uptoBulk (DataW.agg ([x0, x1].map (·.1)))
            simp only [Rows.uptoBulk]
            omega
      · exact ⟨((0, []), undef), fun h => absurd h hi⟩
    have ⟨fm, hfm⟩ := Classical.axiomOfChoice each
    have hll : ((List.range len).map fun i => (fm i).1).length = len := by simp
    refine ⟨some a, len, cap, (List.range len).map fun i => (fm i).1, rfl, ?_, ?_⟩
    · unfold lnsA
      rw [hll]
      rcases Nat.eq_zero_or_pos len with h0 | h0
      · subst h0
        exact .roz _ _ _ _ hm
      · obtain ⟨b, o, sp⟩ := a
        obtain ⟨⟨A0, n0, c0, hc0, _, _⟩, _⟩ := hfm 0 h0
        have hc0 := hc0 0 (by decide)
        have hsp : sp = none := by simpa [Addr.add] using World.cell?_spot hc0
        subst hsp
        have hbk : b < w.heap.size := World.block_lt_of_cell? w _ hc0
        refine Rep.ro (R := noN) (w := w) (O := NoO) 2 len (fun j => (((List.range len).map fun i => (fm i).1).getD j Ln.z).av) b o cap (fun j => (fm j).2) hl hm (fun h => h) hbk
          (fun j hj f hf => ?_) (fun j hj => ?_) (fun j hj => ?_)
        · obtain ⟨⟨A, n, c, k1, k2, k3⟩, _⟩ := hfm j hj
          have k := k1 f hf
          rw [Addr.add_mid, Addr.add_mid] at k
          rw [k, k2]
          simp [Value.cells]
        · obtain ⟨⟨A, n, c, k1, k2, k3⟩, _⟩ := hfm j hj
          rw [k2]; rfl
        · obtain ⟨⟨A, n, c, k1, k2, k3⟩, _⟩ := hfm j hj
          have : ((List.range len).map fun i => (fm i).1).getD j Ln.z = (fm j).1 := by simp [List.getD, hj]
          rw [this, k2]
          exact rep_fields (crel_cons (.int _ _) (crel_cons k3 crel_nil))
    · rw [hyy]
      have := bulk_sum (((List.range len).map fun i => (fm i).1).map fun x => totW x.2) (elems.map (·.1)) (by simp [hlen]) fun i x d hx hd => by
        rw [List.getElem?_map] at hx hd
        obtain ⟨q, hq, rfl⟩ := Option.map_eq_some_iff.1 hx
        obtain ⟨e, he, rfl⟩ := Option.map_eq_some_iff.1 hd
        have hi : i < len := by have := (List.getElem?_eq_some_iff.1 he).1; omega
        obtain ⟨_, d', k1, k2⟩ := hfm i hi
        rw [he] at k1
        cases k1
        rw [List.getElem?_map, List.getElem?_range hi] at hq
        cases hq
        exact k2
      unfold totL
      simp only [Rows.uptoBulk]
      omega
end
end Go.Proofs.YtblloaajiaoblaaDoor

