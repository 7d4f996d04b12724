
/- One image in another, plainly: byte by byte, and row by row. No program in sight. -/
import Derived.Test.YtchhikfiofeckaaI7c
namespace Go.Proofs.Ytchhikfiofeckaa
set_option linter.unusedVariables false
set_option linter.unusedSimpArgs false

def stepL (m a : List Int) (n : Nat) (b : Nat → Nat) : Nat → List Int
  | 0 => m
  | i + 1 => (stepL m a n b i).set (b (i / n) + i % n) (a.getD i 0)
def rowsL (m a : List Int) (n : Nat) (b : Nat → Nat) : Nat → List Int
  | 0 => m
  | r + 1 => (rowsL m a n b r).take (b r) ++ ((a.drop (r * n)).take n ++ (rowsL m a n b r).drop (b r + n))
theorem stepL_len (m a : List Int) (n : Nat) (b : Nat → Nat) (i : Nat) : (stepL m a n b i).length = m.length := by
  induction i with
  | zero => rfl
  | succ i ih => simp [stepL, ih]
theorem get_splice {l v : List Int} {o t : Nat} (ho : o + t ≤ l.length) (hv : v.length = t) (j : Nat) : (l.take o ++ (v ++ l.drop (o + t)))[j]? = if j < o then l[j]? else if j < o + t then v[j - o]? else l[j]? := by
  have e1 : (l.take o).length = o := by simp; omega
  rw [List.getElem?_append, e1]
  by_cases h1 : j < o
  · rw [if_pos h1, if_pos h1, List.getElem?_take_of_lt h1]
  · rw [if_neg h1, if_neg h1, List.getElem?_append, hv]
    by_cases h2 : j < o + t
    · rw [if_pos (by omega), if_pos h2]
    · rw [if_neg (by omega), if_neg h2, List.getElem?_drop]
      congr 1; omega
theorem step_in {m a : List Int} {n : Nat} {b : Nat → Nat} {R r : Nat} (hb : ∀ r, r < R → b r + n ≤ m.length) (ha : a.length = R * n) (hr : r < R) :
    ∀ t, t ≤ n → stepL m a n b (r * n + t) = (stepL m a n b (r * n)).take (b r) ++ ((a.drop (r * n)).take t ++ (stepL m a n b (r * n)).drop (b r + t)) := by
  intro t
  have hl := stepL_len m a n b (r * n)
  have hbr := hb r hr
  have har : r * n + n ≤ a.length := by rw [ha, ← Nat.succ_mul]; exact Nat.mul_le_mul_right _ hr
  induction t with
  | zero => intro _; simp
  | succ t ih =>
    intro ht
    have ih := ih (by omega)
    have e1 : (r * n + t) / n = r := by rw [Nat.mul_comm, Nat.mul_add_div (by omega), Nat.div_eq_of_lt (by omega)]; omega
    have e2 : (r * n + t) % n = t := by rw [Nat.mul_comm, Nat.mul_add_mod, Nat.mod_eq_of_lt (by omega)]
    show (stepL m a n b (r * n + t)).set (b ((r * n + t) / n) + (r * n + t) % n) (a.getD (r * n + t) 0) = _
    rw [e1, e2, ih]
    generalize hL : stepL m a n b (r * n) = L at *
    have v1 : ((a.drop (r * n)).take t).length = t := by simp; omega
    have v2 : ((a.drop (r * n)).take (t + 1)).length = t + 1 := by simp; omega
    refine List.ext_getElem? fun j => ?_
    rw [get_splice (by omega) v2, List.getElem?_set, get_splice (by omega) v1]
    have hlen : (L.take (b r) ++ ((a.drop (r * n)).take t ++ L.drop (b r + t))).length = L.length := by simp; omega
    rw [hlen]
    by_cases h1 : b r + t = j
    · rw [if_pos h1, if_pos (by omega), if_neg (by omega), if_pos (by omega)]
      have h2 : j - b r = t := by omega
      rw [h2, List.getElem?_take_of_lt (by omega), List.getElem?_drop]
      simp [List.getD, show r * n + t < a.length by omega]
    · rw [if_neg h1]
      by_cases h2 : j < b r
      · rw [if_pos h2, if_pos h2]
      · rw [if_neg h2, if_neg h2]
        by_cases h3 : j < b r + t
        · rw [if_pos h3, if_pos (by omega), List.getElem?_take_of_lt (by omega), List.getElem?_take_of_lt (by omega)]
        · rw [if_neg h3, if_neg (by omega)]
theorem step_rows {m a : List Int} {n : Nat} {b : Nat → Nat} {R : Nat} (hb : ∀ r, r < R → b r + n ≤ m.length) (ha : a.length = R * n) : ∀ r, r ≤ R → stepL m a n b (r * n) = rowsL m a n b r := by
  intro r
  induction r with
  | zero => intro _; simp [stepL, rowsL]
  | succ r ih =>
    intro hr
    rw [Nat.succ_mul, step_in hb ha (by omega) n (Nat.le_refl _), ih (by omega)]
    rfl
theorem rowsL_len {m a : List Int} {n : Nat} {b : Nat → Nat} {R : Nat} (hb : ∀ r, r < R → b r + n ≤ m.length) (ha : a.length = R * n) {r : Nat} (hr : r ≤ R) : (rowsL m a n b r).length = m.length := by
  rw [← step_rows hb ha r hr, stepL_len]

/-- The code of a paste. -/
def pasteC (w h c n v g d k x y : Int) : Int := if imCheck w h c n ≠ 0 then imCheck w h c n else if imCheck v g d k ≠ 0 then imCheck v g d k else if c ≠ d then 10 else if x < 0 ∨ y < 0 ∨ w - v < x ∨ h - g < y then 11 else 0
/-- Where row r begins. -/
def baseR (w c x y : Int) (r : Nat) : Nat := (((y + r) * w + x) * c).toNat
def pasteL (w h c : Int) (m : List Int) (v g d : Int) (a : List Int) (x y : Int) : List Int := if pasteC w h c m.length v g d a.length x y = 0 then stepL m a (v * d).toNat (baseR w c x y) a.length else m
structure POKI (w h c : Int) (m : List Int) (v g d : Int) (a : List Int) (x y : Int) : Prop where
  f1 : fitsI w h c = 0
  f2 : fitsI v g d = 0
  l1 : (m.length : Int) = w * h * c
  l2 : (a.length : Int) = v * g * d
  cd : c = d
  x0 : 0 ≤ x
  y0 : 0 ≤ y
  x1 : x + v ≤ w
  y1 : y + g ≤ h
theorem paste_inv {w h c : Int} {m : List Int} {v g d : Int} {a : List Int} {x y : Int} (hp : pasteC w h c m.length v g d a.length x y = 0) : POKI w h c m v g d a x y := by
  unfold pasteC at hp
  split at hp
  · rename_i h1; exact absurd hp h1
  · rename_i h1
    split at hp
    · rename_i h2; exact absurd hp h2
    · rename_i h2
      split at hp
      · cases hp
      · rename_i h3
        split at hp
        · cases hp
        · rename_i h4
          have c1 := check_inv (show imCheck w h c m.length = 0 by omega)
          have c2 := check_inv (show imCheck v g d a.length = 0 by omega)
          exact ⟨c1.1, c2.1, c1.2, c2.2, by omega, by omega, by omega, by omega, by omega⟩
theorem paste_row {w h c : Int} {m : List Int} {v g d : Int} {a : List Int} {x y : Int} (hp : POKI w h c m v g d a x y) : a.length = g.toNat * (v * d).toNat ∧ (∀ r, r < g.toNat → ((baseR w c x y r : Nat) : Int) = ((y + r) * w + x) * c ∧ baseR w c x y r + (v * d).toNat ≤ m.length) ∧ 0 ≤ v * d ∧ v * d ≤ 131072 ∧ 0 < v * d := by
  have b1 := fits_inv hp.f1
  have b2 := fits_inv hp.f2
  have f1 := hp.f1
  obtain ⟨_, _, l1, l2, cd, x0, y0, x1, y1⟩ := hp
  have h0 : 0 < v * d := Int.mul_pos (by omega) (by omega)
  have h1 : v * d ≤ 32768 * 4 := Int.mul_le_mul (by omega) (by omega) (by omega) (by omega)
  refine ⟨?_, fun r hr => ?_, by omega, by omega, h0⟩
  · have : ((g.toNat * (v * d).toNat : Nat) : Int) = a.length := by
      rw [Int.natCast_mul, Int.toNat_of_nonneg (by omega), Int.toNat_of_nonneg (by omega), l2, Int.mul_comm v g, Int.mul_assoc]
    omega
  · have hin : inI w h c x (y + r) 0 = true := in_of (by omega)
    have hpb := pl_bd f1 hin
    have hin2 : inI w h c (x + v - 1) (y + r) (c - 1) = true := in_of (by omega)
    have hpb2 := pl_bd f1 hin2
    unfold plI at hpb hpb2
    have e1 : ((baseR w c x y r : Nat) : Int) = ((y + r) * w + x) * c := by
      unfold baseR; omega
    refine ⟨e1, ?_⟩
    have e2 : ((y + r) * w + (x + v - 1)) * c + (c - 1) + 1 = ((y + r) * w + x) * c + v * d := by
      subst cd
      have : (y + r) * w + (x + v - 1) = ((y + r) * w + x) + (v - 1) := by omega
      rw [this, Int.add_mul _ (v - 1) c, Int.sub_mul]
      omega
    omega
theorem paste_idx {w h c : Int} {m : List Int} {v g d : Int} {a : List Int} {x y : Int} (hp : POKI w h c m v g d a x y) {i : Nat} (hi : i < a.length) :
    ∃ col row k : Nat, ((i : Int).tdiv d).tmod v = col ∧ ((i : Int).tdiv d).tdiv v = row ∧ (i : Int).tmod d = k ∧ inI w h c (x + col) (y + row) k = true ∧ plI w c (x + col) (y + row) k = ((baseR w c x y (i / (v * d).toNat) + i % (v * d).toNat : Nat) : Int) ∧ (col : Int) < v ∧ (row : Int) < g ∧ (k : Int) < d := by
  have b1 := fits_inv hp.f1
  have b2 := fits_inv hp.f2
  obtain ⟨r1, r2, r3, r4, r5⟩ := paste_row hp
  obtain ⟨_, _, l1, l2, cd, x0, y0, x1, y1⟩ := hp
  obtain ⟨V, rfl⟩ := Int.eq_ofNat_of_zero_le (show 0 ≤ v by omega)
  obtain ⟨D, rfl⟩ := Int.eq_ofNat_of_zero_le (show 0 ≤ d by omega)
  obtain ⟨G, rfl⟩ := Int.eq_ofNat_of_zero_le (show 0 ≤ g by omega)
  have hV : 0 < V := by omega
  have hD : 0 < D := by omega
  have en : (((V : Nat) : Int) * ((D : Nat) : Int)).toNat = V * D := by rw [← Int.natCast_mul]; rfl
  rw [en] at r1 r2 ⊢
  have eG : ((G : Nat) : Int).toNat = G := rfl
  rw [eG] at r1 r2
  have e1 : (i : Int).tdiv (D : Nat) = ((i / D : Nat) : Int) := by rw [Int.tdiv_eq_ediv_of_nonneg (Int.natCast_nonneg _)]; rfl
  have e2 : (i : Int).tmod (D : Nat) = ((i % D : Nat) : Int) := by rw [Int.tmod_eq_emod_of_nonneg (Int.natCast_nonneg _)]; rfl
  have e3 : ((i / D : Nat) : Int).tmod (V : Nat) = ((i / D % V : Nat) : Int) := by rw [Int.tmod_eq_emod_of_nonneg (Int.natCast_nonneg _)]; rfl
  have e4 : ((i / D : Nat) : Int).tdiv (V : Nat) = ((i / D / V : Nat) : Int) := by rw [Int.tdiv_eq_ediv_of_nonneg (Int.natCast_nonneg _)]; rfl
  have m1 : i / D % V < V := Nat.mod_lt _ hV
  have m2 : i % D < D := Nat.mod_lt _ hD
  have d1 : i / D / V = i / (V * D) := by rw [Nat.div_div_eq_div_mul, Nat.mul_comm]
  have m3 : i / (V * D) < G := by rw [Nat.div_lt_iff_lt_mul (Nat.mul_pos hV hD)]; omega
  have n1 : ((i / D % V : Nat) : Int) < V := Int.ofNat_lt.2 m1
  have n2 : ((i % D : Nat) : Int) < D := Int.ofNat_lt.2 m2
  have n3 : ((i / D / V : Nat) : Int) < G := Int.ofNat_lt.2 (by rw [d1]; exact m3)
  have z1 : (0 : Int) ≤ ((i / D % V : Nat) : Int) := Int.natCast_nonneg _
  have z2 : (0 : Int) ≤ ((i % D : Nat) : Int) := Int.natCast_nonneg _
  have z3 : (0 : Int) ≤ ((i / D / V : Nat) : Int) := Int.natCast_nonneg _
  refine ⟨i / D % V, i / D / V, i % D, by rw [e1, e3], by rw [e1, e4], e2, ?_, ?_, n1, n3, n2⟩
  · generalize ((i / D % V : Nat) : Int) = A at *
    generalize ((i / D / V : Nat) : Int) = B at *
    generalize ((i % D : Nat) : Int) = E at *
    exact in_of (by omega)
  have q := (r2 (i / (V * D)) m3).1
  rw [Int.natCast_add, q, ← d1]
  unfold plI
  have e5 : i % (V * D) = i / D % V * D + i % D := by
    rw [Nat.mul_comm V D, Nat.mod_mul, Nat.mul_comm D (i / D % V)]; omega
  rw [e5, Int.natCast_add, Int.natCast_mul]
  subst cd
  have : (y + ((i / D / V : Nat) : Int)) * w + (x + ((i / D % V : Nat) : Int)) = ((y + ((i / D / V : Nat) : Int)) * w + x) + ((i / D % V : Nat) : Int) := by omega
  rw [this, Int.add_mul]
  omega
end Go.Proofs.Ytchhikfiofeckaa
