
/- The tiles of a rectangle, plainly: row by row, and one by one. No condition. -/
import Derived.Test.YtpgikaeddhaiiaaG9d
import Derived.Test.YtpgikaeddhaiiaaR6b
namespace Go.Proofs.Ytpgikaeddhaiiaa
open Go Go.RowKit
set_option linter.unusedVariables false
set_option linter.unusedSimpArgs false

theorem sorted_ext : ∀ (l m : List Int), l.Pairwise (· < ·) → m.Pairwise (· < ·) → (∀ x, x ∈ l ↔ x ∈ m) → l = m
  | [], [], _, _, _ => rfl
  | [], y :: m, _, _, h => by have := (h y).2 (by simp); simp at this
  | x :: l, [], _, _, h => by have := (h x).1 (by simp); simp at this
  | x :: l, y :: m, hl, hm, h => by
    rw [List.pairwise_cons] at hl hm
    have exy : x = y := by
      have h1 := (h x).1 (by simp)
      have h2 := (h y).2 (by simp)
      rcases List.mem_cons.1 h1 with e | e
      · exact e
      · rcases List.mem_cons.1 h2 with e2 | e2
        · exact e2.symm
        · have a := hm.1 x e
          have b := hl.1 y e2
          omega
    subst exy
    congr 1
    refine sorted_ext l m hl.2 hm.2 fun z => ⟨fun hz => ?_, fun hz => ?_⟩
    · rcases List.mem_cons.1 ((h z).1 (List.mem_cons_of_mem _ hz)) with e | e
      · have := hl.1 z hz; omega
      · exact e
    · rcases List.mem_cons.1 ((h z).2 (List.mem_cons_of_mem _ hz)) with e | e
      · have := hm.1 z hz; omega
      · exact e
/-- Row by row: k rows from row a on, and c of the next one, from column b on, w of each row; n in a row. -/
def blkR (n a b w : Nat) : Nat → List Int
  | 0 => []
  | k + 1 => blkR n a b w k ++ (List.range w).map fun i => (((a + k) * n + (b + i) : Nat) : Int)
def blkP (n a b w k c : Nat) : List Int := blkR n a b w k ++ (List.range c).map fun i => (((a + k) * n + (b + i) : Nat) : Int)
theorem blkP_zero (n a b w k : Nat) : blkP n a b w k 0 = blkR n a b w k := by simp [blkP]
theorem blkP_end (n a b w k : Nat) : blkP n a b w k w = blkR n a b w (k + 1) := rfl
theorem blkP_succ (n a b w k c : Nat) : blkP n a b w k (c + 1) = blkP n a b w k c ++ [(((a + k) * n + (b + c) : Nat) : Int)] := by simp [blkP, List.range_succ]
theorem blkR_len (n a b w : Nat) : ∀ k, (blkR n a b w k).length = k * w
  | 0 => by simp [blkR]
  | k + 1 => by rw [blkR, List.length_append, blkR_len n a b w k, Nat.succ_mul]; simp
theorem blkP_len (n a b w k c : Nat) : (blkP n a b w k c).length = k * w + c := by simp [blkP, blkR_len]
theorem mem_blkR {n a b w : Nat} (hb : b + w ≤ n) {m : Nat} : ∀ k, (m : Int) ∈ blkR n a b w k ↔ (a ≤ m / n ∧ m / n < a + k) ∧ b ≤ m % n ∧ m % n < b + w
  | 0 => by
    constructor
    · intro h; simp [blkR] at h
    · rintro ⟨⟨h1, h2⟩, _⟩; omega
  | k + 1 => by
    rw [blkR, List.mem_append, mem_blkR hb k]
    have key : (m : Int) ∈ (List.range w).map (fun i => (((a + k) * n + (b + i) : Nat) : Int)) ↔ m / n = a + k ∧ b ≤ m % n ∧ m % n < b + w := by
      rw [List.mem_map]
      constructor
      · rintro ⟨i, hi, he⟩
        have hi : i < w := by simpa using hi
        have e : m = (a + k) * n + (b + i) := (Int.ofNat.inj he).symm
        have h1 : m % n = b + i := by rw [e, Nat.add_comm, Nat.add_mul_mod_self_right, Nat.mod_eq_of_lt (by omega)]
        have h2 : m / n = a + k := by rw [e, Nat.add_comm, Nat.add_mul_div_right _ _ (by omega), Nat.div_eq_of_lt (by omega), Nat.zero_add]
        exact ⟨h2, by omega, by omega⟩
      · rintro ⟨h1, h2, h3⟩
        refine ⟨m % n - b, by simp; omega, ?_⟩
        have h4 := Nat.div_add_mod m n
        rw [h1, Nat.mul_comm] at h4
        congr 1
        omega
    rw [key]
    omega
theorem blkR_lt {n a b w : Nat} (hb : b + w ≤ n) : ∀ k x, x ∈ blkR n a b w k → x < (((a + k) * n : Nat) : Int)
  | 0, x, h => by simp [blkR] at h
  | k + 1, x, h => by
    rw [blkR, List.mem_append] at h
    have e : (a + (k + 1)) * n = (a + k) * n + n := by rw [← Nat.add_assoc, Nat.succ_mul]
    rcases h with h | h
    · have := blkR_lt hb k x h; omega
    · obtain ⟨i, hi, rfl⟩ := List.mem_map.1 h
      have hi : i < w := by simpa using hi
      omega
theorem blkR_sorted {n a b w : Nat} (hb : b + w ≤ n) : ∀ k, (blkR n a b w k).Pairwise (· < ·)
  | 0 => List.Pairwise.nil
  | k + 1 => by
    rw [blkR, List.pairwise_append]
    refine ⟨blkR_sorted hb k, ?_, fun x hx y hy => ?_⟩
    · rw [List.pairwise_map]
      exact List.Pairwise.imp (fun {i j} h => by omega) List.pairwise_lt_range
    · have := blkR_lt hb k x hx
      obtain ⟨i, hi, rfl⟩ := List.mem_map.1 hy
      omega
/-- One by one. -/
def selL (f : Nat → Bool) : Nat → List Int
  | 0 => []
  | k + 1 => selL f k ++ (if f k = true then [(k : Int)] else [])
theorem mem_sel (f : Nat → Bool) : ∀ k (x : Int), x ∈ selL f k ↔ ∃ m : Nat, m < k ∧ x = (m : Int) ∧ f m = true
  | 0, x => by simp [selL]
  | k + 1, x => by
    rw [selL, List.mem_append, mem_sel f k x]
    constructor
    · rintro (⟨m, h1, h2, h3⟩ | h)
      · exact ⟨m, by omega, h2, h3⟩
      · split at h
        · rename_i hf; exact ⟨k, by omega, by simpa using h, hf⟩
        · simp at h
    · rintro ⟨m, h1, h2, h3⟩
      by_cases e : m = k
      · subst e; right; rw [if_pos h3]; simpa using h2
      · left; exact ⟨m, by omega, h2, h3⟩
theorem sel_sorted (f : Nat → Bool) : ∀ k, (selL f k).Pairwise (· < ·)
  | 0 => List.Pairwise.nil
  | k + 1 => by
    rw [selL, List.pairwise_append]
    refine ⟨sel_sorted f k, by split <;> simp, fun x hx y hy => ?_⟩
    obtain ⟨m, h1, rfl, _⟩ := (mem_sel f k x).1 hx
    split at hy
    · have : y = (k : Int) := by simpa using hy
      omega
    · simp at hy
theorem sel_len (f : Nat → Bool) : ∀ k, (selL f k).length ≤ k
  | 0 => Nat.le_refl _
  | k + 1 => by
    rw [selL, List.length_append]
    have := sel_len f k
    split <;> simp <;> omega
/-- Row by row is one by one. -/
theorem blk_sel {n N a b w k : Nat} {f : Nat → Bool} (hb : b + w ≤ n) (hN : (a + k) * n ≤ N) (hf : ∀ m, m < N → (f m = true ↔ (a ≤ m / n ∧ m / n < a + k) ∧ b ≤ m % n ∧ m % n < b + w)) : blkR n a b w k = selL f N := by
  refine sorted_ext _ _ (blkR_sorted hb k) (sel_sorted f N) fun x => ?_
  rw [mem_sel]
  constructor
  · intro h
    have h1 := blkR_lt hb k x h
    have h0 : 0 ≤ x := by
      have key : ∀ k x, x ∈ blkR n a b w k → 0 ≤ x := by
        intro k
        induction k with
        | zero => intro x h; simp [blkR] at h
        | succ k ih =>
          intro x h
          rw [blkR, List.mem_append] at h
          rcases h with h | h
          · exact ih x h
          · obtain ⟨i, hi, rfl⟩ := List.mem_map.1 h; omega
      exact key k x h
    obtain ⟨m, rfl⟩ := Int.eq_ofNat_of_zero_le h0
    exact ⟨m, by omega, rfl, (hf m (by omega)).2 ((mem_blkR hb k).1 h)⟩
  · rintro ⟨m, h1, rfl, h3⟩
    exact (mem_blkR hb k).2 ((hf m h1).1 h3)
end Go.Proofs.Ytpgikaeddhaiiaa
