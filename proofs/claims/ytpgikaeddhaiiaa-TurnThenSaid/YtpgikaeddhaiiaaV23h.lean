
/- Quarters of a turn: one behind the other; the law TurnThen. No condition. -/
import Derived.Test.YtpgikaeddhaiiaaV23g
namespace Go.Proofs.Ytpgikaeddhaiiaa
open Go Go.RowKit
set_option linter.unusedVariables false
set_option linter.unusedSimpArgs false
set_option maxRecDepth 100000
set_option maxHeartbeats 4000000

theorem q8 {q : Int} (h : 0 ≤ q ∧ q ≤ 7) : q = 0 ∨ q = 1 ∨ q = 2 ∨ q = 3 ∨ q = 4 ∨ q = 5 ∨ q = 6 ∨ q = 7 := by omega
theorem from_comp {a b : Int} (ha : 0 ≤ a ∧ a ≤ 7) (hb : 0 ≤ b ∧ b ≤ 7) (w h x y : Int) :
    fromU a w h (fromU b (swV a w h) (swV a h w) x y 1) (fromV b (swV a w h) (swV a h w) x y 1) 1 = fromU (thenV a b) w h x y 1 ∧
    fromV a w h (fromU b (swV a w h) (swV a h w) x y 1) (fromV b (swV a w h) (swV a h w) x y 1) 1 = fromV (thenV a b) w h x y 1 := by
  rcases q8 ha with rfl | rfl | rfl | rfl | rfl | rfl | rfl | rfl <;> rcases q8 hb with rfl | rfl | rfl | rfl | rfl | rfl | rfl | rfl <;>
    (refine ⟨?_, ?_⟩ <;> first | (simp [fromU, fromU0, fromV, swV, thenV, thenM', thenT, isQ7]; done) | (simp [fromU, fromU0, fromV, swV, thenV, thenM', thenT, isQ7]; omega))
theorem then_in {a b : Int} (ha : 0 ≤ a ∧ a ≤ 7) (hb : 0 ≤ b ∧ b ≤ 7) : 0 ≤ thenV a b ∧ thenV a b ≤ 7 := by
  rcases q8 ha with rfl | rfl | rfl | rfl | rfl | rfl | rfl | rfl <;> rcases q8 hb with rfl | rfl | rfl | rfl | rfl | rfl | rfl | rfl <;> decide
theorem then_w {a b : Int} (ha : 0 ≤ a ∧ a ≤ 7) (hb : 0 ≤ b ∧ b ≤ 7) (w h : Nat) : wT b (wT a w h) (hT a w h) = wT (thenV a b) w h ∧ hT b (wT a w h) (hT a w h) = hT (thenV a b) w h := by
  rcases q8 ha with rfl | rfl | rfl | rfl | rfl | rfl | rfl | rfl <;> rcases q8 hb with rfl | rfl | rfl | rfl | rfl | rfl | rfl | rfl <;> exact ⟨rfl, rfl⟩
theorem back_in {a : Int} (ha : 0 ≤ a ∧ a ≤ 7) : (0 ≤ backV a ∧ backV a ≤ 7) ∧ thenV a (backV a) = 0 ∧ thenV (backV a) a = 0 := by
  rcases q8 ha with rfl | rfl | rfl | rfl | rfl | rfl | rfl | rfl <;> decide
theorem divmod_of {u v w : Nat} (hu : u < w) : (v * w + u) % w = u ∧ (v * w + u) / w = v := by
  refine ⟨mod_of hu, ?_⟩
  rw [Nat.add_comm, Nat.add_mul_div_right _ _ (by omega), Nat.div_eq_of_lt hu, Nat.zero_add]
theorem pos_comp {a b : Int} (ha : 0 ≤ a ∧ a ≤ 7) (hb : 0 ≤ b ∧ b ≤ 7) {w h k : Nat} (hk : k < w * h) : posT a w h (posT b (wT a w h) (hT a w h) k) = posT (thenV a b) w h k := by
  obtain ⟨⟨b1, b2⟩, ⟨b3, b4⟩, b5, b6⟩ := pos_in (q := b) (w := wT a w h) (h := hT a w h) (k := k) hb (by rw [area_T]; exact hk)
  obtain ⟨u, hu⟩ := Int.eq_ofNat_of_zero_le b1
  obtain ⟨v, hv⟩ := Int.eq_ofNat_of_zero_le b3
  have e : posT b (wT a w h) (hT a w h) k = v * wT a w h + u := by
    rw [hu, hv, ← Int.natCast_mul] at b6
    omega
  obtain ⟨d1, d2⟩ := divmod_of (u := u) (v := v) (w := wT a w h) (by omega)
  rw [e]
  unfold posT posU posV
  rw [d1, d2, ← hu, ← hv]
  unfold posU posV
  obtain ⟨c1, c2⟩ := from_comp ha hb w h ((k % wT b (wT a w h) (hT a w h) : Nat) : Int) ((k / wT b (wT a w h) (hT a w h) : Nat) : Int)
  rw [sw_w, sw_h] at c1 c2
  rw [c1, c2, (then_w ha hb w h).1]
theorem flatP_get {p : List Int} {c Q : Nat} {pos : Nat → Nat} (h : ∀ k, k < Q → pos k * c + c ≤ p.length) : ∀ m, m ≤ Q → ∀ k, k < m → piece (flatP p c pos m) c k = piece p c (pos k)
  | 0, _, k, hk => by omega
  | m + 1, hm, k, hk => by
    have hl := flatP_len h m (by omega)
    show ((flatP p c pos m ++ piece p c (pos m)).drop (k * c)).take c = _
    by_cases he : k = m
    · subst he
      rw [← hl, List.drop_left, List.take_of_length_le]
      rw [piece_len (h k hm)]; exact Nat.le_refl _
    · have h1 := prod_of (n := c) (show k < m by omega)
      rw [List.drop_append_of_le_length (by omega), List.take_append_of_le_length (by rw [List.length_drop]; omega)]
      exact flatP_get h m (by omega) k (by omega)
theorem flatP_comp {p : List Int} {c Q : Nat} {pos pos2 pos3 : Nat → Nat} (h : ∀ k, k < Q → pos k * c + c ≤ p.length) (h2 : ∀ k, k < Q → pos2 k < Q) (h3 : ∀ k, k < Q → pos (pos2 k) = pos3 k) : ∀ m, m ≤ Q → flatP (flatP p c pos Q) c pos2 m = flatP p c pos3 m
  | 0, _ => rfl
  | m + 1, hm => by
    show flatP (flatP p c pos Q) c pos2 m ++ piece (flatP p c pos Q) c (pos2 m) = flatP p c pos3 m ++ piece p c (pos3 m)
    rw [flatP_comp h h2 h3 m (by omega), flatP_get h Q (Nat.le_refl _) (pos2 m) (h2 m hm), h3 m hm]
theorem flatP_id {p : List Int} {c : Nat} {pos : Nat → Nat} : ∀ m, m * c ≤ p.length → (∀ k, k < m → pos k = k) → flatP p c pos m = p.take (m * c)
  | 0, _, _ => by simp [flatP]
  | m + 1, hm, h => by
    rw [Nat.succ_mul] at hm ⊢
    show flatP p c pos m ++ (p.drop (pos m * c)).take c = _
    rw [flatP_id m (by omega) (fun k hk => h k (by omega)), h m (Nat.lt_succ_self m), List.take_add]
theorem turn_comp {w h c : Int} {p : List Int} {a b : Int} (ht : turnC w h c p a = 0) (hb : 0 ≤ b ∧ b ≤ 7) :
    turnC (turnX w h c p a).w (turnX w h c p a).h (turnX w h c p a).c (turnX w h c p a).p b = 0 ∧ turnC w h c p (thenV a b) = 0 ∧
    turnX (turnX w h c p a).w (turnX w h c p a).h (turnX w h c p a).c (turnX w h c p a).p b = turnX w h c p (thenV a b) := by
  have hl := turnX_len ht
  obtain ⟨hc, hq, W, H, C, rfl, rfl, rfl, hW1, hW2, hH1, hH2, hC, hWH, hpl⟩ := turn_num ht
  have hpos : ∀ k, k < W * H → posT a W H k * C + C ≤ p.length := fun k hk => by
    have := (pos_in (q := a) (w := W) (h := H) (k := k) hq hk).2.2.1
    have := prod_of (n := C) this
    omega
  have eX : turnX W H C p a = ⟨wT a W H, hT a W H, C, flatP p C (posT a W H) (W * H)⟩ := by
    unfold turnX; rw [sw_w, sw_h]; rfl
  have hA := area_T a W H
  have hw1 : 1 ≤ wT a W H ∧ wT a W H ≤ 32768 ∧ 1 ≤ hT a W H ∧ hT a W H ≤ 32768 := by unfold wT hT; split <;> omega
  have g1 : turnC (wT a W H) (hT a W H) C (flatP p C (posT a W H) (W * H)) b = 0 := by
    have h1 : fitsI (wT a W H) (hT a W H) C = 0 := by
      unfold fitsI
      rw [if_neg (by omega), if_neg (by rw [← Int.natCast_mul, hA]; omega), if_neg (by omega)]
    have h2 : imCheck (wT a W H) (hT a W H) C (flatP p C (posT a W H) (W * H)).length = 0 := by
      unfold imCheck
      rw [if_neg (not_not_intro h1), if_neg]
      rw [flatP_len hpos _ (Nat.le_refl _), ← Int.natCast_mul, hA, ← Int.natCast_mul]
      exact fun h => h rfl
    unfold turnC
    rw [if_neg (not_not_intro h2), if_pos hb]
  have g2 : turnC W H C p (thenV a b) = 0 := by
    unfold turnC
    rw [if_neg (not_not_intro hc), if_pos (then_in hq hb)]
  rw [eX]
  refine ⟨g1, g2, ?_⟩
  unfold turnX
  obtain ⟨t1, t2⟩ := then_w hq hb W H
  rw [sw_w, sw_h, sw_w, sw_h, t1, t2]
  simp only [Int.toNat_natCast]
  rw [hA]
  congr 1
  exact flatP_comp hpos (fun k hk => by
    have := (pos_in (q := b) (w := wT a W H) (h := hT a W H) (k := k) hb (by rw [hA]; exact hk)).2.2.1
    rwa [hA] at this) (fun k hk => pos_comp hq hb hk) _ (Nat.le_refl _)
theorem turn_zero {w h c : Int} {p : List Int} (ht : turnC w h c p 0 = 0) : turnX w h c p 0 = ⟨w, h, c, p⟩ := by
  obtain ⟨hc, hq, W, H, C, rfl, rfl, rfl, hW1, hW2, hH1, hH2, hC, hWH, hpl⟩ := turn_num ht
  unfold turnX
  rw [sw_w, sw_h]
  simp only [Int.toNat_natCast]
  show Im.mk (W : Int) (H : Int) C (flatP p C (posT 0 W H) (W * H)) = _
  rw [flatP_id _ (by omega) (fun k hk => ?_), List.take_of_length_le (by omega)]
  show ((((k / W : Nat) : Int)) * (W : Int) + ((k % W : Nat) : Int)).toNat = k
  rw [← Int.natCast_mul, ← Int.natCast_add, Int.toNat_natCast, Nat.mul_comm]
  exact Nat.div_add_mod k W
end Go.Proofs.Ytpgikaeddhaiiaa
