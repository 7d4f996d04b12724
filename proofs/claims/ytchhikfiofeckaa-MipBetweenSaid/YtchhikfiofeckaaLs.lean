
/- Lists in pieces, put in each other's place. No condition. -/
import Derived.Test.YtchhikfiofeckaaI8b
import Derived.Test.YtchhikfiofeckaaU
namespace Go.Proofs.Ytchhikfiofeckaa
open Go Go.RowKit
set_option linter.unusedVariables false
set_option linter.unusedSimpArgs false
set_option maxRecDepth 100000

/-- A piece of a list, in another one's place. -/
def spl (L : List Int) (o : Nat) (q : List Int) : List Int := L.take o ++ (q ++ L.drop (o + q.length))
theorem spl_len {L q : List Int} {o : Nat} (h : o + q.length ≤ L.length) : (spl L o q).length = L.length := by
  simp only [spl, List.length_append, List.length_take, List.length_drop]; omega
theorem spl_nil (L : List Int) (o : Nat) : spl L o [] = L := by simp [spl]
theorem spl_set {L q : List Int} {o i : Nat} {v : Int} (hi : i < q.length) (ho : o ≤ L.length) : (spl L o q).set (o + i) v = spl L o (q.set i v) := by
  have hl : (L.take o).length = o := by rw [List.length_take]; omega
  unfold spl
  rw [List.set_append_right _ _ (by omega), hl, Nat.add_sub_cancel_left, List.set_append_left _ _ hi, List.length_set]
theorem spl_get {L q : List Int} {o i : Nat} (hi : i < q.length) (ho : o ≤ L.length) : (spl L o q).getD (o + i) 0 = q.getD i 0 := by
  have hl : (L.take o).length = o := by rw [List.length_take]; omega
  unfold spl
  rw [List.getD_eq_getElem?_getD, List.getD_eq_getElem?_getD, List.getElem?_append_right (by omega), hl, Nat.add_sub_cancel_left, List.getElem?_append_left hi]
theorem spl_push {L q : List Int} {o : Nat} {v : Int} (h : o + q.length < L.length) : (spl L o q).set (o + q.length) v = spl L o (q ++ [v]) := by
  have hl : (L.take o).length = o := by rw [List.length_take]; omega
  unfold spl
  rw [List.set_append_right _ _ (by omega), hl, Nat.add_sub_cancel_left, List.set_append_right _ _ (Nat.le_refl _), Nat.sub_self]
  have : L.drop (o + q.length) = L.getD (o + q.length) 0 :: L.drop (o + (q ++ [v]).length) := by
    rw [List.length_append]
    show _ = _ :: L.drop (o + (q.length + 1))
    rw [← Nat.add_assoc, List.drop_eq_getElem_cons h]
    simp [List.getD, h]
  rw [this, List.set_cons_zero, List.append_assoc]
  rfl
theorem take_len {p : List Int} {n : Nat} (h : n ≤ p.length) : (p.take n).length = n := by rw [List.length_take]; omega

/-! ### Pieces -/
def piece (p : List Int) (c k : Nat) : List Int := (p.drop (k * c)).take c
def flatK (p : List Int) (c : Nat) (f : List Int → List Int) : Nat → List Int
  | 0 => []
  | k + 1 => flatK p c f k ++ f (piece p c k)
theorem flatK_len {p : List Int} {c : Nat} {f : List Int → List Int} {d Q : Nat} (hf : ∀ k, k < Q → (f (piece p c k)).length = d) : ∀ k, k ≤ Q → (flatK p c f k).length = k * d
  | 0, _ => by simp [flatK]
  | k + 1, h => by rw [flatK, List.length_append, flatK_len hf k (by omega), hf k h, Nat.succ_mul]
theorem piece_len {p : List Int} {c k : Nat} (h : k * c + c ≤ p.length) : (piece p c k).length = c := by simp [piece]; omega
theorem piece_mem {p : List Int} {c k : Nat} {x : Int} (h : x ∈ piece p c k) : x ∈ p := List.mem_of_mem_drop (List.mem_of_mem_take h)
theorem spl_next {A : List Int} {q : List Int} {r d : Nat} (hq : q.length = d) : spl (A ++ List.replicate ((r + 1) * d) 0) A.length q = (A ++ q) ++ List.replicate (r * d) 0 := by
  unfold spl
  rw [List.take_left, hq, Nat.succ_mul, List.append_assoc]
  congr 2
  rw [List.drop_append, List.drop_of_length_le (by omega), List.nil_append, Nat.add_sub_cancel_left, List.drop_replicate]
  congr 1
  omega
theorem prod_of {a b n : Nat} (h : a < b) : a * n + n ≤ b * n := by
  have := Nat.mul_le_mul_right n (Nat.succ_le_of_lt h)
  rwa [Nat.succ_mul] at this
theorem flatK_congr {p : List Int} {c : Nat} {f g : List Int → List Int} {Q : Nat} (h : ∀ k, k < Q → f (piece p c k) = g (piece p c k)) : ∀ k, k ≤ Q → flatK p c f k = flatK p c g k
  | 0, _ => rfl
  | k + 1, hk => by rw [flatK, flatK, flatK_congr h k (by omega), h k hk]
theorem flatK_get {p : List Int} {c : Nat} {f : List Int → List Int} {d Q : Nat} (hf : ∀ k, k < Q → (f (piece p c k)).length = d) : ∀ m, m ≤ Q → ∀ k j, k < m → j < d → (flatK p c f m).getD (k * d + j) 0 = (f (piece p c k)).getD j 0
  | 0, _, k, j, hk, _ => by omega
  | m + 1, hm, k, j, hk, hj => by
    have hl := flatK_len hf m (by omega)
    have hq := hf m hm
    show (flatK p c f m ++ f (piece p c m)).getD (k * d + j) 0 = _
    rw [List.getD_eq_getElem?_getD]
    by_cases he : k = m
    · subst he
      rw [List.getElem?_append_right (by omega), hl, Nat.add_sub_cancel_left, ← List.getD_eq_getElem?_getD]
    · have h1 := prod_of (n := d) (show k < m by omega)
      rw [List.getElem?_append_left (by omega), ← List.getD_eq_getElem?_getD]
      exact flatK_get hf m (by omega) k j (by omega) hj
/-- A list that is told place by place. -/
theorem flatK_is {p : List Int} {c : Nat} {f : List Int → List Int} {d Q : Nat} (hd : 0 < d) (hf : ∀ k, k < Q → (f (piece p c k)).length = d) (g : Nat → Int) (h : ∀ k j, k < Q → j < d → g (k * d + j) = (f (piece p c k)).getD j 0) : (List.range (Q * d)).map g = flatK p c f Q := by
  refine list_getD (by simp [flatK_len hf Q (Nat.le_refl _)]) fun i hi => ?_
  simp only [List.length_map, List.length_range] at hi
  have h1 : i / d < Q := (Nat.div_lt_iff_lt_mul hd).2 hi
  have h2 : i % d < d := Nat.mod_lt _ hd
  have h3 : i / d * d + i % d = i := by rw [Nat.mul_comm]; exact Nat.div_add_mod i d
  have h4 := flatK_get hf Q (Nat.le_refl _) (i / d) (i % d) h1 h2
  rw [← h _ _ h1 h2, h3] at h4
  rw [h4]
  simp [List.getD, hi]
theorem piece_get {p : List Int} {c k j : Nat} (hj : j < c) : (piece p c k).getD j 0 = p.getD (k * c + j) 0 := by
  unfold piece
  rw [List.getD_eq_getElem?_getD, List.getD_eq_getElem?_getD, List.getElem?_take_of_lt hj, List.getElem?_drop]
theorem mod_of {k c j : Nat} (h : j < c) : (k * c + j) % c = j := by rw [Nat.add_comm, Nat.add_mul_mod_self_right, Nat.mod_eq_of_lt h]
def mapL (g : Nat → Int) (m : Nat) : List Int := (List.range m).map g
theorem mapL_len (g : Nat → Int) (m : Nat) : (mapL g m).length = m := by simp [mapL]
theorem mapL_succ (g : Nat → Int) (m : Nat) : mapL g (m + 1) = mapL g m ++ [g m] := by simp [mapL, List.range_succ]
end Go.Proofs.Ytchhikfiofeckaa
