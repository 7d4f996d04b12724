
/- Round and round, walked: straight on as long as one may, else to the right: the same order. No condition. -/
import Derived.Test.YtpgikaeddhaiiaaK10o
namespace Go.Proofs.Ytpgikaeddhaiiaa
open Go Go.RowKit
set_option linter.unusedVariables false
set_option linter.unusedSimpArgs false

structure WS where
  o : List Int
  x : Int
  y : Int
  dx : Int
  dy : Int
def freeV (c r : Int) (sb : Nat → Bool) (u v : Int) : Bool := decide (0 ≤ u) && decide (u < c) && decide (0 ≤ v) && decide (v < r) && !sb (v * c + u).toNat
def inW (o : List Int) (j : Nat) : Bool := o.any fun x => decide (x = (j : Int))
def wstep (c r : Int) (s : WS) : WS := bif freeV c r (inW (s.o ++ [s.y * c + s.x])) (s.x + s.dx) (s.y + s.dy) then ⟨s.o ++ [s.y * c + s.x], s.x + s.dx, s.y + s.dy, s.dx, s.dy⟩ else ⟨s.o ++ [s.y * c + s.x], s.x + (0 - s.dy), s.y + s.dx, 0 - s.dy, s.dx⟩
def wsn (c r : Int) : Nat → WS
  | 0 => ⟨[], 0, 0, 1, 0⟩
  | i + 1 => wstep c r (wsn c r i)
theorem wstep_o (c r : Int) (s : WS) : (wstep c r s).o = s.o ++ [s.y * c + s.x] := by unfold wstep; cases freeV c r (inW (s.o ++ [s.y * c + s.x])) (s.x + s.dx) (s.y + s.dy) <;> rfl
theorem wsn_len (c r : Int) : ∀ i, (wsn c r i).o.length = i
  | 0 => rfl
  | i + 1 => by show (wstep c r (wsn c r i)).o.length = i + 1; rw [wstep_o, List.length_append, wsn_len c r i]; rfl
def fA (c : Int) (k : Nat) (x : Int) : Int := (k : Int) * c + x
def fB (c : Int) (k : Nat) (y : Int) : Int := y * c + (c - 1 - k)
def fC (c r : Int) (k : Nat) (x : Int) : Int := (r - 1 - k) * c + x
def fD (c : Int) (k : Nat) (y : Int) : Int := y * c + k
def sA (c r : Int) (k j : Nat) : WS := ⟨outK c r k ++ upN (k : Int) (fA c k) j, k + j, k, 1, 0⟩
def sB (c r : Int) (k j : Nat) : WS := ⟨outA c r k (outK c r k) ++ upN ((k : Int) + 1) (fB c k) j, c - 1 - k, k + 1 + j, 0, 1⟩
def sC (c r : Int) (k j : Nat) : WS := ⟨outB c r k (outK c r k) ++ dnN (c - 1 - k - 1) (fC c r k) j, c - 1 - k - 1 - j, r - 1 - k, -1, 0⟩
def sD (c r : Int) (k j : Nat) : WS := ⟨outC c r k (outK c r k) ++ dnN (r - 1 - k - 1) (fD c k) j, k, r - 1 - k - 1 - j, 0, -1⟩
inductive WG (c r : Int) : WS → Prop
  | a (k j : Nat) (h1 : 2 * (k : Int) < c) (h2 : 2 * (k : Int) < r) (hj : j < r1n c k) : WG c r (sA c r k j)
  | b (k j : Nat) (h1 : 2 * (k : Int) < c) (h2 : 2 * (k : Int) < r) (hj : j < r2n r k) : WG c r (sB c r k j)
  | c (k j : Nat) (h1 : 2 * (k : Int) < c) (h2 : 2 * (k : Int) < r) (hj : j < r3n c r k) : WG c r (sC c r k j)
  | d (k j : Nat) (h1 : 2 * (k : Int) < c) (h2 : 2 * (k : Int) < r) (hj : j < r4n c r k) : WG c r (sD c r k j)
theorem up_pre {a : Int} {f : Int → Int} {i n : Nat} (h : i ≤ n) : upN a f i <+: upN a f n := by
  obtain ⟨d, rfl⟩ : ∃ d, n = i + d := ⟨n - i, by omega⟩
  clear h
  induction d with
  | zero => exact List.prefix_refl _
  | succ d ih => rw [← Nat.add_assoc, upN_succ]; exact ih.trans (List.prefix_append _ _)
theorem dn_pre {a : Int} {f : Int → Int} {i n : Nat} (h : i ≤ n) : dnN a f i <+: dnN a f n := by
  obtain ⟨d, rfl⟩ : ∃ d, n = i + d := ⟨n - i, by omega⟩
  clear h
  induction d with
  | zero => exact List.prefix_refl _
  | succ d ih => rw [← Nat.add_assoc, dnN_succ]; exact ih.trans (List.prefix_append _ _)
theorem app_pre {a b c : List Int} (h : b <+: c) : a ++ b <+: a ++ c := (List.prefix_append_right_inj a).2 h
theorem outA_pre (c r : Int) (k : Nat) (L : List Int) : outA c r k L <+: outB c r k L := List.prefix_append _ _
theorem outB_pre (c r : Int) (k : Nat) (L : List Int) : outB c r k L <+: outC c r k L := List.prefix_append _ _
theorem outC_pre (c r : Int) (k : Nat) (L : List Int) : outC c r k L <+: outD c r k L := List.prefix_append _ _
theorem outK_pre (c r : Int) (k : Nat) : outK c r k <+: outA c r k (outK c r k) := List.prefix_append _ _
theorem outK_pre1 (c r : Int) (k : Nat) : outK c r k <+: outK c r (k + 1) := (outK_pre c r k).trans ((outA_pre c r k _).trans ((outB_pre c r k _).trans (outC_pre c r k _)))
theorem outK_preN (c r : Int) (k : Nat) : ∀ j, outK c r k <+: outK c r (k + j)
  | 0 => List.prefix_refl _
  | j + 1 => (outK_preN c r k j).trans (outK_pre1 c r (k + j))
theorem ring_pre {c r : Int} {k : Nat} (h1 : 2 * (k : Int) < c) (h2 : 2 * (k : Int) < r) : outK c r (k + 1) <+: spirL c r := by
  have h : k + 1 ≤ rings c r := by unfold rings; omega
  have := outK_preN c r (k + 1) (rings c r - (k + 1))
  rw [show k + 1 + (rings c r - (k + 1)) = rings c r by omega] at this
  exact this
/-- What has been walked, and the next place, begin the order. -/
theorem WG.pre {c r : Int} {s : WS} (h : WG c r s) : s.o ++ [s.y * c + s.x] <+: spirL c r := by
  cases h with
  | a k j h1 h2 hj =>
    have e : (sA c r k j).o ++ [(sA c r k j).y * c + (sA c r k j).x] = outK c r k ++ upN (k : Int) (fA c k) (j + 1) := by
      show (outK c r k ++ upN (k : Int) (fA c k) j) ++ [_] = _
      rw [upN_succ, List.append_assoc]; rfl
    rw [e]
    exact (app_pre (up_pre hj)).trans ((outA_pre c r k _).trans ((outB_pre c r k _).trans ((outC_pre c r k _).trans (ring_pre h1 h2))))
  | b k j h1 h2 hj =>
    have e : (sB c r k j).o ++ [(sB c r k j).y * c + (sB c r k j).x] = outA c r k (outK c r k) ++ upN ((k : Int) + 1) (fB c k) (j + 1) := by
      show (outA c r k (outK c r k) ++ upN ((k : Int) + 1) (fB c k) j) ++ [_] = _
      rw [upN_succ, List.append_assoc]; rfl
    rw [e]
    exact (app_pre (up_pre hj)).trans ((outB_pre c r k _).trans ((outC_pre c r k _).trans (ring_pre h1 h2)))
  | c k j h1 h2 hj =>
    have e : (sC c r k j).o ++ [(sC c r k j).y * c + (sC c r k j).x] = outB c r k (outK c r k) ++ dnN (c - 1 - k - 1) (fC c r k) (j + 1) := by
      show (outB c r k (outK c r k) ++ dnN (c - 1 - k - 1) (fC c r k) j) ++ [_] = _
      rw [dnN_succ, List.append_assoc]; rfl
    rw [e]
    exact (app_pre (dn_pre hj)).trans ((outC_pre c r k _).trans (ring_pre h1 h2))
  | d k j h1 h2 hj =>
    have e : (sD c r k j).o ++ [(sD c r k j).y * c + (sD c r k j).x] = outC c r k (outK c r k) ++ dnN (r - 1 - k - 1) (fD c k) (j + 1) := by
      show (outC c r k (outK c r k) ++ dnN (r - 1 - k - 1) (fD c k) j) ++ [_] = _
      rw [dnN_succ, List.append_assoc]; rfl
    rw [e]
    exact (app_pre (dn_pre hj)).trans (ring_pre h1 h2)
theorem WG.bounds {c r : Int} {s : WS} (h : WG c r s) : 0 ≤ s.x ∧ s.x < c ∧ 0 ≤ s.y ∧ s.y < r := by
  cases h with
  | a k j h1 h2 hj =>
    unfold r1n at hj
    show 0 ≤ (k : Int) + j ∧ (k : Int) + j < c ∧ 0 ≤ (k : Int) ∧ (k : Int) < r
    omega
  | b k j h1 h2 hj =>
    unfold r2n at hj
    show 0 ≤ c - 1 - (k : Int) ∧ c - 1 - (k : Int) < c ∧ 0 ≤ (k : Int) + 1 + j ∧ (k : Int) + 1 + j < r
    omega
  | c k j h1 h2 hj =>
    unfold r3n at hj
    show 0 ≤ c - 1 - (k : Int) - 1 - j ∧ c - 1 - (k : Int) - 1 - j < c ∧ 0 ≤ r - 1 - (k : Int) ∧ r - 1 - (k : Int) < r
    split at hj <;> omega
  | d k j h1 h2 hj =>
    unfold r4n at hj
    show 0 ≤ (k : Int) ∧ (k : Int) < c ∧ 0 ≤ r - 1 - (k : Int) - 1 - j ∧ r - 1 - (k : Int) - 1 - j < r
    split at hj <;> omega
theorem WG.dirs {c r : Int} {s : WS} (h : WG c r s) : (-1 ≤ s.dx ∧ s.dx ≤ 1) ∧ (-1 ≤ s.dy ∧ s.dy ≤ 1) := by
  cases h <;> (dsimp only [sA, sB, sC, sD]; omega)
theorem inW_iff {o : List Int} {v : Int} (h : 0 ≤ v) : inW o v.toNat = true ↔ v ∈ o := by
  unfold inW
  rw [List.any_eq_true]
  constructor
  · rintro ⟨x, hx, he⟩
    have := of_decide_eq_true he
    rw [show v = x by omega]; exact hx
  · intro hm; exact ⟨v, hm, decide_eq_true (by omega)⟩
theorem pos_nn {c x y : Int} (hx : 0 ≤ x) (hy : 0 ≤ y) (hc : 0 ≤ c) : 0 ≤ y * c + x := Int.add_nonneg (Int.mul_nonneg hy hc) hx
/-- A next place that is one of the order's is free. -/
theorem free_yes {c r : Int} (hc : 0 ≤ c) (hr : 0 ≤ r) {o : List Int} {s : WS} (h : WG c r s) (ho : s.o = o) : freeV c r (inW o) s.x s.y = true := by
  obtain ⟨h1, h2, h3, h4⟩ := h.bounds
  have hp := h.pre
  obtain ⟨C, rfl⟩ := Int.eq_ofNat_of_zero_le hc
  obtain ⟨R, rfl⟩ := Int.eq_ofNat_of_zero_le hr
  have hO := ord_spir C R
  obtain ⟨t, ht⟩ := hp
  have hno : ¬ s.y * (C : Int) + s.x ∈ o := by
    intro hm
    rw [← ho] at hm
    obtain ⟨i, hi, he⟩ := List.getElem_of_mem hm
    have hn : s.o.length < C * R := by rw [← hO.len, ← ht]; simp
    have g1 : (spirL (C : Int) R).getD i 0 = s.y * (C : Int) + s.x := by
      rw [← ht, List.getD_eq_getElem?_getD, List.getElem?_append_left (by rw [List.length_append]; omega), List.getElem?_append_left hi, List.getElem?_eq_getElem hi, he]; rfl
    have g2 : (spirL (C : Int) R).getD s.o.length 0 = s.y * (C : Int) + s.x := by
      rw [← ht, List.getD_eq_getElem?_getD, List.append_assoc, List.getElem?_append_right (Nat.le_refl _), Nat.sub_self]; rfl
    have := hO.inj i s.o.length (by omega) hn (by rw [g1, g2])
    omega
  unfold freeV
  have : inW o (s.y * (C : Int) + s.x).toNat = false := by
    cases hb : inW o (s.y * (C : Int) + s.x).toNat with
    | false => rfl
    | true => exact absurd ((inW_iff (pos_nn h1 h3 hc)).1 hb) hno
  rw [this, decide_eq_true h1, decide_eq_true h2, decide_eq_true h3, decide_eq_true h4]; rfl
theorem free_no {c r u v : Int} {o : List Int} (h : (0 ≤ u ∧ u < c ∧ 0 ≤ v ∧ v < r) → v * c + u ∈ o) : freeV c r (inW o) u v = false := by
  unfold freeV
  by_cases h1 : 0 ≤ u
  · by_cases h2 : u < c
    · by_cases h3 : 0 ≤ v
      · by_cases h4 : v < r
        · have := (inW_iff (pos_nn h1 h3 (by omega))).2 (h ⟨h1, h2, h3, h4⟩)
          rw [this]; simp
        · rw [decide_eq_false h4]; simp
      · rw [decide_eq_false h3]; simp
    · rw [decide_eq_false h2]; simp
  · rw [decide_eq_false h1]; simp
theorem wstep_go {c r : Int} (hc : 0 ≤ c) (hr : 0 ≤ r) {s s' : WS} (h : WG c r s') (h0 : s'.o = s.o ++ [s.y * c + s.x]) (h1 : s'.x = s.x + s.dx) (h2 : s'.y = s.y + s.dy) (h3 : s'.dx = s.dx) (h4 : s'.dy = s.dy) : wstep c r s = s' := by
  unfold wstep
  have := free_yes hc hr h h0
  rw [h1, h2] at this
  rw [this]
  cases s'
  simp only at h0 h1 h2 h3 h4
  subst h0 h1 h2 h3 h4
  rfl
theorem wstep_turn {c r : Int} {s s' : WS} (hn : (0 ≤ s.x + s.dx ∧ s.x + s.dx < c ∧ 0 ≤ s.y + s.dy ∧ s.y + s.dy < r) → (s.y + s.dy) * c + (s.x + s.dx) ∈ s.o ++ [s.y * c + s.x])
    (h0 : s'.o = s.o ++ [s.y * c + s.x]) (h1 : s'.x = s.x + (0 - s.dy)) (h2 : s'.y = s.y + s.dx) (h3 : s'.dx = 0 - s.dy) (h4 : s'.dy = s.dx) : wstep c r s = s' := by
  unfold wstep
  rw [free_no hn]
  cases s'
  simp only at h0 h1 h2 h3 h4
  subst h0 h1 h2 h3 h4
  rfl
theorem mem_pre {a b : List Int} {v : Int} (h : a <+: b) (hv : v ∈ a) : v ∈ b := h.subset hv
theorem pre_app' {a b : List Int} (x : List Int) (h : a <+: b) : a <+: b ++ x := h.trans (List.prefix_append _ _)
theorem mem_before {c r x y : Int} {k : Nat} (hk : 1 ≤ k) (hx0 : (k : Int) - 1 ≤ x) (hx1 : x ≤ c - k) (hy0 : (k : Int) - 1 ≤ y) (hy1 : y ≤ r - k) (h : y = k - 1 ∨ x = c - k ∨ y = r - k ∨ x = k - 1) : y * c + x ∈ outK c r k := by
  obtain ⟨k, rfl⟩ : ∃ k', k = k' + 1 := ⟨k - 1, by omega⟩
  exact mem_ring (by omega) (by omega) (by omega) (by omega) (by omega)
/-- Each step leads to the next place. -/
theorem WG.step {c r : Int} {s : WS} (h : WG c r s) (hl : (s.o.length : Int) + 1 < c.toNat * r.toNat) : WG c r (wstep c r s) := by
  have hlen := fun (k : Nat) (h1 : 2 * (k : Int) < c) (h2 : 2 * (k : Int) < r) => outK_size (c := c) (r := r) (by omega) (by omega) k (by unfold rings; omega)
  have hsum := fun (k : Nat) (h1 : 2 * (k : Int) < c) (h2 : 2 * (k : Int) < r) => ring_sum h1 h2
  cases h with
  | a k j h1 h2 hj =>
    have hL := hlen k h1 h2
    by_cases hj2 : j + 1 < r1n c k
    · have hg := WG.a (r := r) k (j + 1) h1 h2 hj2
      rw [wstep_go (by omega) (by omega) (s := sA c r k j) hg ?_ ?_ ?_ rfl rfl]
      · exact hg
      · show outK c r k ++ upN (k : Int) (fA c k) (j + 1) = (outK c r k ++ upN (k : Int) (fA c k) j) ++ [_]
        rw [upN_succ, List.append_assoc]; rfl
      · show (k : Int) + ((j + 1 : Nat) : Int) = (k : Int) + j + 1; omega
      · show (k : Int) = (k : Int) + 0; omega
    · have ej : j + 1 = r1n c k := by omega
      have ejc : (j : Int) + 1 = c - 2 * k := by unfold r1n at ej; omega
      have hB : 0 < r2n r k := by
        have e : (sA c r k j).o.length = (outK c r k).length + j := by show (outK c r k ++ upN (k : Int) (fA c k) j).length = _; rw [List.length_append, upN_len]
        rw [e] at hl
        apply Classical.byContradiction
        intro hz
        have er : (r - 2 * k).toNat = 1 := by unfold r2n at hz; omega
        have ec : (c - 2 * k).toNat = j + 1 := by omega
        rw [er, ec] at hL
        omega
      have hg := WG.b (c := c) k 0 h1 h2 hB
      rw [wstep_turn (s := sA c r k j) (s' := sB c r k 0) ?_ ?_ ?_ ?_ rfl rfl]
      · exact hg
      · rintro ⟨g1, g2, g3, g4⟩
        have g1 : 0 ≤ (k : Int) + j + 1 := g1
        have g2 : (k : Int) + j + 1 < c := g2
        show ((k : Int) + 0) * c + ((k : Int) + j + 1) ∈ (outK c r k ++ upN (k : Int) (fA c k) j) ++ [_]
        refine mem_pre (pre_app' _ (List.prefix_append _ _)) (mem_before (by omega) (by omega) (by omega) (by omega) (by omega) (by omega))
      · show outA c r k (outK c r k) ++ [] = (outK c r k ++ upN (k : Int) (fA c k) j) ++ [_]
        rw [List.append_nil]
        show outK c r k ++ upN (k : Int) (fA c k) (r1n c k) = _
        rw [← ej, upN_succ, List.append_assoc]; rfl
      · show c - 1 - (k : Int) = (k : Int) + j + (0 - 0); omega
      · show (k : Int) + 1 + ((0 : Nat) : Int) = (k : Int) + 1; omega
  | b k j h1 h2 hj =>
    have hL := hlen k h1 h2
    by_cases hj2 : j + 1 < r2n r k
    · have hg := WG.b (c := c) k (j + 1) h1 h2 hj2
      rw [wstep_go (by omega) (by omega) (s := sB c r k j) hg ?_ ?_ ?_ rfl rfl]
      · exact hg
      · show outA c r k (outK c r k) ++ upN ((k : Int) + 1) (fB c k) (j + 1) = (outA c r k (outK c r k) ++ upN ((k : Int) + 1) (fB c k) j) ++ [_]
        rw [upN_succ, List.append_assoc]; rfl
      · show c - 1 - (k : Int) = c - 1 - (k : Int) + 0; omega
      · show (k : Int) + 1 + ((j + 1 : Nat) : Int) = (k : Int) + 1 + j + 1; omega
    · have ej : j + 1 = r2n r k := by omega
      have ejc : (j : Int) + 1 = r - 2 * k - 1 := by unfold r2n at ej; omega
      have hC : 0 < r3n c r k := by
        have e : (sB c r k j).o.length = (outK c r k).length + r1n c k + j := by show (outA c r k (outK c r k) ++ upN ((k : Int) + 1) (fB c k) j).length = _; rw [List.length_append, upN_len, outA_len]
        rw [e] at hl
        apply Classical.byContradiction
        intro hz
        have ec : (c - 2 * k).toNat = 1 := by unfold r3n at hz; split at hz <;> omega
        have er : (r - 2 * k).toNat = j + 2 := by omega
        have e1 : r1n c k = 1 := by unfold r1n; omega
        rw [er, ec] at hL
        omega
      have hg := WG.c k 0 h1 h2 hC
      rw [wstep_turn (s := sB c r k j) (s' := sC c r k 0) ?_ ?_ ?_ ?_ rfl rfl]
      · exact hg
      · rintro ⟨g1, g2, g3, g4⟩
        have g4 : (k : Int) + 1 + j + 1 < r := g4
        show ((k : Int) + 1 + j + 1) * c + (c - 1 - (k : Int) + 0) ∈ (outA c r k (outK c r k) ++ upN ((k : Int) + 1) (fB c k) j) ++ [_]
        refine mem_pre (pre_app' _ (pre_app' _ (outK_pre c r k))) (mem_before (by omega) (by omega) (by omega) (by omega) (by omega) (by omega))
      · show outB c r k (outK c r k) ++ [] = (outA c r k (outK c r k) ++ upN ((k : Int) + 1) (fB c k) j) ++ [_]
        rw [List.append_nil]
        show outA c r k (outK c r k) ++ upN ((k : Int) + 1) (fB c k) (r2n r k) = _
        rw [← ej, upN_succ, List.append_assoc]; rfl
      · show c - 1 - (k : Int) - 1 - ((0 : Nat) : Int) = c - 1 - (k : Int) + (0 - 1); omega
      · show r - 1 - (k : Int) = (k : Int) + 1 + j + 0; omega
  | c k j h1 h2 hj =>
    have hL := hlen k h1 h2
    have hk : (k : Int) < r - 1 - k := by unfold r3n at hj; split at hj <;> omega
    have er3 : r3n c r k = (c - 2 * k - 1).toNat := if_pos hk
    by_cases hj2 : j + 1 < r3n c r k
    · have hg := WG.c k (j + 1) h1 h2 hj2
      rw [wstep_go (by omega) (by omega) (s := sC c r k j) hg ?_ ?_ ?_ rfl rfl]
      · exact hg
      · show outB c r k (outK c r k) ++ dnN (c - 1 - k - 1) (fC c r k) (j + 1) = (outB c r k (outK c r k) ++ dnN (c - 1 - k - 1) (fC c r k) j) ++ [_]
        rw [dnN_succ, List.append_assoc]; rfl
      · show c - 1 - (k : Int) - 1 - ((j + 1 : Nat) : Int) = c - 1 - (k : Int) - 1 - j + -1; omega
      · show r - 1 - (k : Int) = r - 1 - (k : Int) + 0; omega
    · have ej : j + 1 = r3n c r k := by omega
      have ejc : (j : Int) + 1 = c - 2 * k - 1 := by omega
      have hD : 0 < r4n c r k := by
        have e : (sC c r k j).o.length = (outK c r k).length + r1n c k + r2n r k + j := by show (outB c r k (outK c r k) ++ dnN (c - 1 - k - 1) (fC c r k) j).length = _; rw [List.length_append, dnN_len, outB_len]
        rw [e] at hl
        apply Classical.byContradiction
        intro hz
        have e4 : r4n c r k = 0 := by omega
        have er : (r - 2 * k - 2).toNat = 0 := by
          unfold r4n at e4
          rw [if_pos (by omega)] at e4
          exact e4
        have hs := hsum k h1 h2
        rw [e4, er] at hs
        omega
      have hg := WG.d k 0 h1 h2 hD
      rw [wstep_turn (s := sC c r k j) (s' := sD c r k 0) ?_ ?_ ?_ ?_ rfl rfl]
      · exact hg
      · rintro ⟨g1, g2, g3, g4⟩
        have g1 : 0 ≤ c - 1 - (k : Int) - 1 - j + -1 := g1
        show (r - 1 - (k : Int) + 0) * c + (c - 1 - (k : Int) - 1 - j + -1) ∈ (outB c r k (outK c r k) ++ dnN (c - 1 - k - 1) (fC c r k) j) ++ [_]
        refine mem_pre (pre_app' _ (pre_app' _ ((outK_pre c r k).trans (outA_pre c r k _)))) (mem_before (by omega) (by omega) (by omega) (by omega) (by omega) (by omega))
      · show outC c r k (outK c r k) ++ [] = (outB c r k (outK c r k) ++ dnN (c - 1 - k - 1) (fC c r k) j) ++ [_]
        rw [List.append_nil]
        show outB c r k (outK c r k) ++ dnN (c - 1 - k - 1) (fC c r k) (r3n c r k) = _
        rw [← ej, dnN_succ, List.append_assoc]; rfl
      · show (k : Int) = c - 1 - (k : Int) - 1 - j + (0 - 0); omega
      · show r - 1 - (k : Int) - 1 - ((0 : Nat) : Int) = r - 1 - (k : Int) + -1; omega
  | d k j h1 h2 hj =>
    have hL := hlen k h1 h2
    have hk : (k : Int) < c - 1 - k := by unfold r4n at hj; split at hj <;> omega
    have er4 : r4n c r k = (r - 2 * k - 2).toNat := if_pos hk
    by_cases hj2 : j + 1 < r4n c r k
    · have hg := WG.d k (j + 1) h1 h2 hj2
      rw [wstep_go (by omega) (by omega) (s := sD c r k j) hg ?_ ?_ ?_ rfl rfl]
      · exact hg
      · show outC c r k (outK c r k) ++ dnN (r - 1 - k - 1) (fD c k) (j + 1) = (outC c r k (outK c r k) ++ dnN (r - 1 - k - 1) (fD c k) j) ++ [_]
        rw [dnN_succ, List.append_assoc]; rfl
      · show (k : Int) = (k : Int) + 0; omega
      · show r - 1 - (k : Int) - 1 - ((j + 1 : Nat) : Int) = r - 1 - (k : Int) - 1 - j + -1; omega
    · have ej : j + 1 = r4n c r k := by omega
      have ejc : (j : Int) + 1 = r - 2 * k - 2 := by omega
      have hc2 : 2 * ((k + 1 : Nat) : Int) < c := by
        have e : (sD c r k j).o.length = (outK c r k).length + r1n c k + r2n r k + r3n c r k + j := by show (outC c r k (outK c r k) ++ dnN (r - 1 - k - 1) (fD c k) j).length = _; rw [List.length_append, dnN_len, outC_len]
        rw [e] at hl
        apply Classical.byContradiction
        intro hz
        have ec : (c - 2 * k - 2).toNat = 0 := by omega
        have hs := hsum k h1 h2
        rw [ec] at hs
        omega
      have hg := WG.a (c := c) (r := r) (k + 1) 0 hc2 (by omega) (by unfold r1n; omega)
      rw [wstep_turn (s := sD c r k j) (s' := sA c r (k + 1) 0) ?_ ?_ ?_ ?_ rfl rfl]
      · exact hg
      · rintro ⟨g1, g2, g3, g4⟩
        show (r - 1 - (k : Int) - 1 - j + -1) * c + ((k : Int) + 0) ∈ (outC c r k (outK c r k) ++ dnN (r - 1 - k - 1) (fD c k) j) ++ [_]
        refine mem_pre (pre_app' _ (pre_app' _ ((outA_pre c r k _).trans (outB_pre c r k _)))) ?_
        refine List.mem_append_right _ (mem_upN 0 (by unfold r1n; omega) ?_)
        show (k : Int) * c + ((k : Int) + ((0 : Nat) : Int)) = _
        rw [show r - 1 - (k : Int) - 1 - j + -1 = k by omega]
        omega
      · show outK c r (k + 1) ++ [] = (outC c r k (outK c r k) ++ dnN (r - 1 - k - 1) (fD c k) j) ++ [_]
        rw [List.append_nil]
        show outC c r k (outK c r k) ++ dnN (r - 1 - k - 1) (fD c k) (r4n c r k) = _
        rw [← ej, dnN_succ, List.append_assoc]; rfl
      · show ((k + 1 : Nat) : Int) + ((0 : Nat) : Int) = (k : Int) + (0 - -1); omega
      · show ((k + 1 : Nat) : Int) = r - 1 - (k : Int) - 1 - j + 0; omega
theorem wsn_good {c r : Int} (hc : 1 ≤ c) (hr : 1 ≤ r) : ∀ i, i < c.toNat * r.toNat → WG c r (wsn c r i)
  | 0, _ => WG.a (c := c) (r := r) 0 0 (by omega) (by omega) (by unfold r1n; omega)
  | i + 1, h => (wsn_good hc hr i (by omega)).step (by rw [wsn_len]; exact_mod_cast h)
/-- All of the walk is the order. -/
theorem wsn_all {c r : Int} (hc : 1 ≤ c) (hr : 1 ≤ r) : (wsn c r (c.toNat * r.toNat)).o = spirL c r := by
  have hp : 0 < c.toNat * r.toNat := Nat.mul_pos (by omega) (by omega)
  obtain ⟨n, hn⟩ : ∃ n, c.toNat * r.toNat = n + 1 := ⟨c.toNat * r.toNat - 1, by omega⟩
  rw [hn]
  have hpre := (wsn_good hc hr n (by omega)).pre
  show (wstep c r (wsn c r n)).o = _
  rw [wstep_o]
  refine hpre.eq_of_length ?_
  rw [spirL_len (by omega) (by omega), hn, List.length_append, wsn_len]; rfl
end Go.Proofs.Ytpgikaeddhaiiaa
