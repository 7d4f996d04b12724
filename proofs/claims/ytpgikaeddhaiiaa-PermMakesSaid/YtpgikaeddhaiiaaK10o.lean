
/- Orders, plainly: each number once, of all kinds of orders. No condition. -/
import Derived.Test.YtpgikaeddhaiiaaK10p
namespace Go.Proofs.Ytpgikaeddhaiiaa
open Go Go.RowKit
set_option linter.unusedVariables false
set_option linter.unusedSimpArgs false

/-- Each number once. -/
structure Ordr (l : List Int) (n : Nat) : Prop where
  len : l.length = n
  rng : ∀ i, i < n → 0 ≤ l.getD i 0 ∧ l.getD i 0 < n
  inj : ∀ i j, i < n → j < n → l.getD i 0 = l.getD j 0 → i = j
theorem Ordr.isP {l : List Int} {n : Nat} (h : Ordr l n) : isP l n = true := by
  have key : ∀ k, k ≤ n → goodP l n k = true := by
    intro k
    induction k with
    | zero => intro _; rfl
    | succ k ih =>
      intro hk
      obtain ⟨h1, h2⟩ := h.rng k hk
      have h3 : seenB l k (l.getD k 0).toNat = false := (seen_iff (by rw [h.len]; omega)).2 fun m hm he => by
        have := h.inj m k (by omega) hk (by rw [he]; omega)
        omega
      show (goodP l n k && (decide (0 ≤ l.getD k 0) && decide (l.getD k 0 < (n : Int)) && !seenB l k (l.getD k 0).toNat)) = true
      rw [ih (by omega), decide_eq_true h1, decide_eq_true h2, h3]; rfl
  unfold Go.Proofs.Ytpgikaeddhaiiaa.isP
  rw [h.len, key n (Nat.le_refl n), decide_eq_true rfl]; rfl
theorem ord_onto {l : List Int} {n : Nat} (hl : l.length = n) (h : ∀ m, m < n → ∃ i, i < n ∧ l.getD i 0 = (m : Int)) : Ordr l n := by
  have hg : ∀ m, ∃ i, m < n → i < n ∧ l.getD i 0 = (m : Int) := fun m => by
    by_cases hm : m < n
    · obtain ⟨i, hi⟩ := h m hm; exact ⟨i, fun _ => hi⟩
    · exact ⟨0, fun k => absurd k hm⟩
  let g : Nat → Nat := fun m => Classical.choose (hg m)
  have hgs : ∀ m, m < n → g m < n ∧ l.getD (g m) 0 = (m : Int) := fun m => Classical.choose_spec (hg m)
  have onto : ∀ i, i < n → ∃ m, m < n ∧ g m = i := fun i hi => onto_of (f := g) (fun m hm => (hgs m hm).1) (fun a b ha hb e => by
    have h1 := (hgs a ha).2
    have h2 := (hgs b hb).2
    rw [e, h2] at h1
    omega) hi
  refine ⟨hl, fun i hi => ?_, fun i j hi hj e => ?_⟩
  · obtain ⟨m, hm, rfl⟩ := onto i hi
    rw [(hgs m hm).2]; omega
  · obtain ⟨m, hm, rfl⟩ := onto i hi
    obtain ⟨m', hm', rfl⟩ := onto j hj
    rw [(hgs m hm).2, (hgs m' hm').2] at e
    have : m = m' := by omega
    rw [this]
theorem mapf_getD {f : Nat → Int} {n i : Nat} (h : i < n) : ((List.range n).map f).getD i 0 = f i := by simp [List.getD, h]
theorem ord_fun {n : Nat} (f g : Nat → Nat) (h1 : ∀ i, i < n → f i < n) (h2 : ∀ i, i < n → g (f i) = i) : Ordr ((List.range n).map fun i => (f i : Int)) n := by
  refine ⟨by simp, fun i hi => ?_, fun i j hi hj e => ?_⟩
  · rw [mapf_getD hi]; have := h1 i hi; omega
  · rw [mapf_getD hi, mapf_getD hj] at e
    rw [← h2 i hi, ← h2 j hj, Int.ofNat.inj e]
/-- Two numbers in each other's place. -/
def swapL (l : List Int) (i k : Nat) : List Int := (l.set i (l.getD k 0)).set k (l.getD i 0)
theorem swapL_len (l : List Int) (i k : Nat) : (swapL l i k).length = l.length := by simp [swapL]
theorem ord_swap {l : List Int} {n i k : Nat} (h : Ordr l n) (hi : i < n) (hk : k < n) : Ordr (swapL l i k) n := by
  let s : Nat → Nat := fun p => if p = k then i else if p = i then k else p
  have hs : ∀ p, (swapL l i k).getD p 0 = l.getD (s p) 0 := fun p => by
    unfold swapL
    rw [set_getD (by rw [List.length_set, h.len]; exact hk), set_getD (by rw [h.len]; exact hi)]
    show _ = l.getD (if p = k then i else if p = i then k else p) 0
    split
    · rfl
    · split <;> rfl
  have hlt : ∀ p, p < n → s p < n := fun p hp => by
    show (if p = k then i else if p = i then k else p) < n
    split
    · exact hi
    · split <;> assumption
  refine ⟨by rw [swapL_len, h.len], fun p hp => ?_, fun p q hp hq e => ?_⟩
  · rw [hs]; exact h.rng _ (hlt p hp)
  · rw [hs, hs] at e
    have e := h.inj _ _ (hlt p hp) (hlt q hq) e
    have e : (if p = k then i else if p = i then k else p) = (if q = k then i else if q = i then k else q) := e
    split at e <;> split at e <;> (try split at e) <;> (try split at e) <;> omega

/-! ### The kinds -/
def strL (n : Nat) : List Int := (List.range n).map fun (i : Nat) => (i : Int)
def bakL (n : Nat) : List Int := (List.range n).map fun i => ((n - 1 - i : Nat) : Int)
def colF (c r i : Nat) : Nat := i % r * c + i / r
def colL (c r m : Nat) : List Int := (List.range m).map fun i => ((colF c r i : Nat) : Int)
def snkF (c i : Nat) : Nat := if i / c % 2 = 1 then i / c * c + (c - 1 - i % c) else i
def snkL (c r : Nat) : List Int := (List.range (c * r)).map fun i => ((snkF c i : Nat) : Int)
theorem ord_str (n : Nat) : Ordr (strL n) n := ord_fun (fun i => i) (fun i => i) (fun _ h => h) (fun _ _ => rfl)
theorem ord_bak (n : Nat) : Ordr (bakL n) n := ord_fun (fun i => n - 1 - i) (fun i => n - 1 - i) (fun i h => by show n - 1 - i < n; omega) (fun i h => by show n - 1 - (n - 1 - i) = i; omega)
theorem ord_col {c r : Nat} : Ordr (colL c r (c * r)) (c * r) := by
  refine ord_fun (colF c r) (fun m => m % c * r + m / c) (fun i hi => ?_) (fun i hi => ?_)
  all_goals
    have hr : 0 < r := Nat.pos_of_ne_zero fun e => by subst e; simp at hi
    have hc : 0 < c := Nat.pos_of_ne_zero fun e => by subst e; simp at hi
    have h1 : i / r < c := (Nat.div_lt_iff_lt_mul hr).2 hi
    have h2 : i % r < r := Nat.mod_lt _ hr
  · show i % r * c + i / r < c * r
    have : (i % r + 1) * c ≤ r * c := Nat.mul_le_mul_right c h2
    rw [Nat.add_mul, Nat.one_mul] at this
    rw [Nat.mul_comm c r]
    omega
  · show (i % r * c + i / r) % c * r + (i % r * c + i / r) / c = i
    rw [Nat.add_comm (i % r * c), Nat.add_mul_mod_self_right, Nat.mod_eq_of_lt h1, Nat.add_mul_div_right _ _ hc, Nat.div_eq_of_lt h1, Nat.zero_add]
    have := Nat.div_add_mod i r
    rw [Nat.mul_comm] at this
    exact this
theorem ord_snk {c r : Nat} : Ordr (snkL c r) (c * r) := by
  refine ord_fun (snkF c) (snkF c) (fun i hi => ?_) (fun i hi => ?_)
  all_goals
    have hr : 0 < r := Nat.pos_of_ne_zero fun e => by subst e; simp at hi
    have hc : 0 < c := Nat.pos_of_ne_zero fun e => by subst e; simp at hi
    have h1 : i / c < r := (Nat.div_lt_iff_lt_mul hc).2 (by rw [Nat.mul_comm]; exact hi)
    have h2 : i % c < c := Nat.mod_lt _ hc
    have h3 := Nat.div_add_mod i c
    rw [Nat.mul_comm] at h3
  · show (if i / c % 2 = 1 then i / c * c + (c - 1 - i % c) else i) < c * r
    split
    · have : (i / c + 1) * c ≤ r * c := Nat.mul_le_mul_right c h1
      rw [Nat.add_mul, Nat.one_mul] at this
      rw [Nat.mul_comm c r]
      omega
    · exact hi
  · by_cases ho : i / c % 2 = 1
    · have e1 : snkF c i = i / c * c + (c - 1 - i % c) := if_pos ho
      have e2 : (i / c * c + (c - 1 - i % c)) / c = i / c := by
        rw [Nat.add_comm, Nat.add_mul_div_right _ _ hc, Nat.div_eq_of_lt (by omega), Nat.zero_add]
      have e3 : (i / c * c + (c - 1 - i % c)) % c = c - 1 - i % c := by
        rw [Nat.add_comm, Nat.add_mul_mod_self_right, Nat.mod_eq_of_lt (by omega)]
      rw [e1]
      unfold snkF
      rw [e2, if_pos ho, e3]
      omega
    · have e1 : snkF c i = i := if_neg ho
      rw [e1, e1]

/-! ### Round and round -/
theorem ring_sum {c r : Int} {k : Nat} (h1 : 2 * (k : Int) < c) (h2 : 2 * (k : Int) < r) :
    (r1n c k + r2n r k + r3n c r k + r4n c r k) + (c - 2 * k - 2).toNat * (r - 2 * k - 2).toNat = (c - 2 * k).toNat * (r - 2 * k).toNat := by
  obtain ⟨p, hp⟩ : ∃ p : Nat, c = 2 * k + 1 + p := ⟨(c - 2 * k - 1).toNat, by omega⟩
  obtain ⟨q, hq⟩ : ∃ q : Nat, r = 2 * k + 1 + q := ⟨(r - 2 * k - 1).toNat, by omega⟩
  have a1 : r1n c k = p + 1 := by unfold r1n; omega
  have a2 : r2n r k = q := by unfold r2n; omega
  have a5 : (c - 2 * k).toNat = p + 1 := by omega
  have a6 : (r - 2 * k).toNat = q + 1 := by omega
  have a7 : (c - 2 * k - 2).toNat = p - 1 := by omega
  have a8 : (r - 2 * k - 2).toNat = q - 1 := by omega
  rw [a1, a2, a5, a6, a7, a8]
  unfold r3n r4n
  cases p with
  | zero =>
    rw [if_neg (show ¬ (k : Int) < c - 1 - k by omega)]
    have : (if (k : Int) < r - 1 - k then (c - 2 * k - 1).toNat else 0) = 0 := by split <;> omega
    rw [this]; simp; omega
  | succ p => cases q with
    | zero =>
      rw [if_neg (show ¬ (k : Int) < r - 1 - k by omega), if_pos (by omega)]
      have : (r - 2 * k - 2).toNat = 0 := by omega
      rw [this]; simp
    | succ q =>
      rw [if_pos (show (k : Int) < r - 1 - k by omega), if_pos (by omega), show (c - 2 * k - 1).toNat = p + 1 by omega, show (r - 2 * k - 2).toNat = q by omega]
      simp only [Nat.add_sub_cancel, Nat.add_mul, Nat.mul_add, Nat.one_mul, Nat.mul_one]
      omega
theorem outK_size {c r : Int} (hc : 0 ≤ c) (hr : 0 ≤ r) : ∀ k, k ≤ rings c r → (outK c r k).length + (c - 2 * k).toNat * (r - 2 * k).toNat = c.toNat * r.toNat
  | 0, _ => by simp [outK]
  | k + 1, h => by
    have h1 : 2 * (k : Int) < c ∧ 2 * (k : Int) < r := by unfold rings at h; omega
    have ih := outK_size hc hr k (by omega)
    have hs := ring_sum h1.1 h1.2
    show (outD c r k (outK c r k)).length + _ = _
    rw [outD_len, show (c - 2 * ((k + 1 : Nat) : Int)) = c - 2 * k - 2 by omega, show (r - 2 * ((k + 1 : Nat) : Int)) = r - 2 * k - 2 by omega]
    omega
theorem spirL_len {c r : Int} (hc : 0 ≤ c) (hr : 0 ≤ r) : (spirL c r).length = c.toNat * r.toNat := by
  have := outK_size hc hr (rings c r) (Nat.le_refl _)
  have h0 : (c - 2 * (rings c r : Int)).toNat = 0 ∨ (r - 2 * (rings c r : Int)).toNat = 0 := by unfold rings; omega
  unfold spirL
  rcases h0 with h | h <;> rw [h] at this <;> simp at this <;> exact this
theorem mem_upN {a v : Int} {f : Int → Int} {n : Nat} (i : Nat) (hi : i < n) (e : f (a + (i : Int)) = v) : v ∈ upN a f n := List.mem_map.2 ⟨i, by simpa using hi, e⟩
theorem mem_dnN {a v : Int} {f : Int → Int} {n : Nat} (i : Nat) (hi : i < n) (e : f (a - (i : Int)) = v) : v ∈ dnN a f n := List.mem_map.2 ⟨i, by simpa using hi, e⟩
theorem outK_mono {c r v : Int} {k : Nat} (h : v ∈ outK c r k) : ∀ j, v ∈ outK c r (k + j)
  | 0 => h
  | j + 1 => by
    have := outK_mono h j
    show v ∈ outD c r (k + j) (outK c r (k + j))
    simp only [outD, outC, outB, outA, List.mem_append]
    exact .inl (.inl (.inl (.inl this)))
theorem mem_ring {c r x y : Int} {k : Nat} (hx0 : (k : Int) ≤ x) (hx1 : x ≤ c - 1 - k) (hy0 : (k : Int) ≤ y) (hy1 : y ≤ r - 1 - k) (h : y = k ∨ x = c - 1 - k ∨ y = r - 1 - k ∨ x = k) : y * c + x ∈ outK c r (k + 1) := by
  show y * c + x ∈ outD c r k (outK c r k)
  simp only [outD, outC, outB, outA, List.mem_append]
  by_cases hA : y = k
  · refine .inl (.inl (.inl (.inr (mem_upN (x - k).toNat (by unfold r1n; omega) ?_))))
    show (k : Int) * c + ((k : Int) + ((x - k).toNat : Int)) = y * c + x
    rw [hA, show (k : Int) + ((x - k).toNat : Int) = x by omega]
  by_cases hB : x = c - 1 - k
  · refine .inl (.inl (.inr (mem_upN (y - k - 1).toNat (by unfold r2n; omega) ?_)))
    show ((k : Int) + 1 + ((y - k - 1).toNat : Int)) * c + (c - 1 - k) = y * c + x
    rw [hB, show (k : Int) + 1 + ((y - k - 1).toNat : Int) = y by omega]
  by_cases hC : y = r - 1 - k
  · refine .inl (.inr (mem_dnN (c - 1 - k - 1 - x).toNat (by unfold r3n; rw [if_pos (by omega)]; omega) ?_))
    show (r - 1 - k) * c + (c - 1 - (k : Int) - 1 - ((c - 1 - k - 1 - x).toNat : Int)) = y * c + x
    rw [hC, show c - 1 - (k : Int) - 1 - ((c - 1 - k - 1 - x).toNat : Int) = x by omega]
  · have hD : x = k := by omega
    refine .inr (mem_dnN (r - 1 - k - 1 - y).toNat (by unfold r4n; rw [if_pos (by omega)]; omega) ?_)
    show (r - 1 - (k : Int) - 1 - ((r - 1 - k - 1 - y).toNat : Int)) * c + (k : Int) = y * c + x
    rw [hD, show r - 1 - (k : Int) - 1 - ((r - 1 - k - 1 - y).toNat : Int) = y by omega]
theorem mem_spir {c r x y : Int} (hx0 : 0 ≤ x) (hx1 : x ≤ c - 1) (hy0 : 0 ≤ y) (hy1 : y ≤ r - 1) : y * c + x ∈ spirL c r := by
  obtain ⟨k, hk⟩ : ∃ k : Nat, (k : Int) = min (min x y) (min (c - 1 - x) (r - 1 - y)) := ⟨(min (min x y) (min (c - 1 - x) (r - 1 - y))).toNat, by omega⟩
  have h1 := mem_ring (c := c) (r := r) (x := x) (y := y) (k := k) (by omega) (by omega) (by omega) (by omega) (by omega)
  have h2 : k + 1 ≤ rings c r := by unfold rings; omega
  have := outK_mono h1 (rings c r - (k + 1))
  rw [show k + 1 + (rings c r - (k + 1)) = rings c r by omega] at this
  exact this
theorem ord_spir (c r : Nat) : Ordr (spirL c r) (c * r) := by
  have hl : (spirL c r).length = c * r := by rw [spirL_len (by omega) (by omega)]; simp
  refine ord_onto hl fun m hm => ?_
  have hc : 0 < c := Nat.pos_of_ne_zero fun e => by subst e; simp at hm
  have h1 : m / c < r := (Nat.div_lt_iff_lt_mul hc).2 (by rw [Nat.mul_comm]; exact hm)
  have h2 : m % c < c := Nat.mod_lt _ hc
  have h3 := Nat.div_add_mod m c
  have h4 := mem_spir (c := c) (r := r) (x := ((m % c : Nat) : Int)) (y := ((m / c : Nat) : Int)) (Int.natCast_nonneg _) (by generalize m % c = z at *; omega) (Int.natCast_nonneg _) (by generalize m / c = z at *; omega)
  obtain ⟨i, hi, he⟩ := List.getElem_of_mem h4
  refine ⟨i, by omega, ?_⟩
  rw [List.getD_eq_getElem?_getD, List.getElem?_eq_getElem hi, Option.getD_some, he, ← Int.natCast_mul, ← Int.natCast_add, Nat.mul_comm, h3]
end Go.Proofs.Ytpgikaeddhaiiaa
