
/- One image put into another: what img.Paste does. No condition. -/
import Derived.Test.YtkenkpbkaeoifaaI8b
namespace Go.Proofs.Ytkenkpbkaeoifaa
open Go Go.RowKit
set_option linter.unusedVariables false
set_option linter.unusedSimpArgs false
set_option maxRecDepth 100000

abbrev pasteNilS : PSpec := fun l => match l with
  | [.nilp, .agg [.int .i64 _, .int .i64 _, .int .i64 _, .roi .u8 _], .int .i64 _, .int .i64 _] => some ([], .int .i64 10) | _ => none
theorem pasteNil_s : SOK Try.prog 50 pasteNilS := by
  refine sok_of (C := mkC 0 [(82, checkS), (102, vplS)] noG) (mkC_ok (pok_cons check_s (pok_cons vplace_s pok_nil)) noG_ok) rfl mixed ⟨Try.func50, by kernel_rfl, by kernel_rfl, by kernel_rfl⟩ fun l obs v h ho => ?_
  unfold pasteNilS at h
  split at h
  · simp only [Option.some.injEq, Prod.mk.injEq] at h
    obtain ⟨rfl, rfl⟩ := h
    refine ⟨Nat.le_of_ble_eq_true rfl, ?_⟩
    refine ⟨fun _ => rfl, fun hh => by cases hh⟩
  · cases h
def pasteI (w h c : Int) (m : List Int) (v g d : Int) (a : List Int) (x y : Int) : List Int := if pasteC w h c m.length v g d a.length x y = 0 then rowsL m a (v * d).toNat (baseR w c x y) g.toNat else m
theorem paste_eq (w h c : Int) (m : List Int) (v g d : Int) (a : List Int) (x y : Int) : pasteI w h c m v g d a x y = pasteL w h c m v g d a x y := by
  unfold pasteI pasteL
  split
  · rename_i hp
    have hq := paste_inv hp
    obtain ⟨r1, r2, _⟩ := paste_row hq
    rw [r1, step_rows (fun r hr => (r2 r hr).2) r1 g.toNat (Nat.le_refl _)]
  · rfl
def pasteF : FSpec := fun l es => match l, es with
  | [.ptr 0 0, .agg [.int .i64 v, .int .i64 g, .int .i64 d, .roi .u8 a], .int .i64 x, .int .i64 y], [.cells 25 [.int .i64 w, .int .i64 h, .int .i64 c, .sl 1 1 0 n], .ints 5 .u8 m] =>
    some ([n = m.length], .int .i64 (pasteC w h c m.length v g d a.length x y), [some (.cells 25 [.int .i64 w, .int .i64 h, .int .i64 c, .sl 1 1 0 n]), some (.ints 5 .u8 (pasteI w h c m v g d a x y))])
  | _, _ => none
theorem paste_g : GSOK Try.prog 50 (fG pasteF) := by
  refine fok (S := [(82, checkS), (102, vplS)]) (G := noG) (pok_cons check_s (pok_cons vplace_s pok_nil)) noG_ok ⟨Try.func50, by kernel_rfl, by kernel_rfl, by kernel_rfl⟩ fun l es obs v es' h ho => ?_
  unfold pasteF at h
  split at h
  · rename_i v g d a x y w hh c n m
    simp only [Option.some.injEq, Prod.mk.injEq] at h
    obtain ⟨rfl, rfl, rfl⟩ := h
    have hn : n = m.length := ho _ (by simp)
    subst hn
    clear ho
    refine ⟨Nat.le_of_ble_eq_true rfl, ?_⟩
    refine ⟨fun hf => (by cases hf), fun _ => ?_⟩
    refine ⟨⟨by kernel_rfl⟩, Nat.le_of_eq (Nat.zero_add _), ?_⟩
    have e1 : imCheck w hh c (List.take m.length (List.drop 0 m)).length = imCheck w hh c m.length := by rw [tdL]
    -- the two checks, one by one
    refine ⟨Nat, fun i => [(0, .ptr 0 0), (2, .int .i64 x), (3, .int .i64 y), (5, .ptr 2 0), (23, .agg [.int .i64 (imCheck w hh c m.length), .int .i64 (imCheck v g d a.length)]), (24, .int .i64 i)],
      fun i => ⟨3, [(0, some (.cells 25 [.int .i64 w, .int .i64 hh, .int .i64 c, .sl 1 1 0 m.length])), (1, some (.ints 5 .u8 m)), (2, some (.cells 25 [.int .i64 v, .int .i64 g, .int .i64 d, .roi .u8 a]))]⟩,
      fun i => i ≤ 2 ∧ (0 < i → imCheck w hh c m.length = 0) ∧ (1 < i → imCheck v g d a.length = 0), fun i => 2 - i, ⟨0, [some 0, some 1, some 2], by omega, ?_⟩, fun i hi => ?_⟩
    · (repeat' (first | apply And.intro | intro h)); (all_goals (try exact Chk.mk (by kernel_rfl)))
      (all_goals (try first | exact True.intro | exact rfl | exact And.intro rfl rfl | exact And.intro rfl (fun _ _ => rfl)))
      exact e1
    refine ⟨fun hy => ?_, fun hy => ?_⟩
    · replace hy : (i : Int) < 2 := of_decide_eq_true hy
      obtain ⟨hi1, hi2, hi3⟩ := hi
      have i01 : i = 0 ∨ i = 1 := by omega
      rcases i01 with rfl | rfl
      · have oq : rngI .i64 (((0 : Nat) : Int) + 1) := rng64 (by decide) (by decide)
        by_cases c1 : imCheck w hh c m.length = 0
        · (repeat (first | (refine ⟨fun hh => absurd hh ?prx, fun _ => ?_⟩; (case prx => (simp [c1]; done))) | (refine ⟨fun _ => ?_, fun hh => absurd hh ?prx⟩; (case prx => (simp [c1]; done))) | (refine ⟨?prx, ?_⟩; (case prx => (first | exact Chk.mk (by kernel_rfl) | exact rfl | (first | decide | exact oq))))))
          refine ⟨1, [some 0, some 1, some 2], ⟨by omega, fun _ => c1, fun h => by omega⟩, (by decide), ?_⟩
          (repeat' (first | apply And.intro | intro h)); (all_goals (try exact Chk.mk (by kernel_rfl)))
          (all_goals (try first | exact True.intro | exact rfl | exact And.intro rfl rfl | exact And.intro rfl (fun _ _ => rfl)))
        · have e2 : pasteC w hh c m.length v g d a.length x y = imCheck w hh c m.length := by simp [pasteC, c1]
          have e3 : pasteI w hh c m v g d a x y = m := if_neg (by rw [e2]; exact c1)
          rw [e2, e3]
          (repeat (first | (refine ⟨fun hh => absurd hh ?prx, fun _ => ?_⟩; (case prx => (simp [c1]; done))) | (refine ⟨fun _ => ?_, fun hh => absurd hh ?prx⟩; (case prx => (simp [c1]; done))) | (refine ⟨?prx, ?_⟩; (case prx => (first | exact Chk.mk (by kernel_rfl) | exact rfl | (first | decide | exact oq))))))
          refine ⟨[some 0, some 1], ?_⟩
          (repeat' (first | apply And.intro | intro h)); (all_goals (try exact Chk.mk (by kernel_rfl)))
          (all_goals (try first | assumption | exact rfl | exact True.intro | contradiction | (exfalso; simp only [decide_eq_true_eq, decide_eq_false_iff_not, Bool.not_eq_true', Bool.not_eq_false', Bool.and_eq_true, Bool.or_eq_true, Bool.and_eq_false_iff, Bool.or_eq_false_iff, Int.not_lt, Int.not_le, ne_eq, Classical.not_not] at *; omega)))
      · have oq : rngI .i64 (((1 : Nat) : Int) + 1) := rng64 (by decide) (by decide)
        have c1 := hi2 (by omega)
        by_cases c2 : imCheck v g d a.length = 0
        · (repeat (first | (refine ⟨fun hh => absurd hh ?prx, fun _ => ?_⟩; (case prx => (simp [c2]; done))) | (refine ⟨fun _ => ?_, fun hh => absurd hh ?prx⟩; (case prx => (simp [c2]; done))) | (refine ⟨?prx, ?_⟩; (case prx => (first | exact Chk.mk (by kernel_rfl) | exact rfl | (first | decide | exact oq))))))
          refine ⟨2, [some 0, some 1, some 2], ⟨by omega, fun _ => c1, fun h => c2⟩, (by decide), ?_⟩
          (repeat' (first | apply And.intro | intro h)); (all_goals (try exact Chk.mk (by kernel_rfl)))
          (all_goals (try first | exact True.intro | exact rfl | exact And.intro rfl rfl | exact And.intro rfl (fun _ _ => rfl)))
        · have e2 : pasteC w hh c m.length v g d a.length x y = imCheck v g d a.length := by simp [pasteC, c1, c2]
          have e3 : pasteI w hh c m v g d a x y = m := if_neg (by rw [e2]; exact c2)
          rw [e2, e3]
          (repeat (first | (refine ⟨fun hh => absurd hh ?prx, fun _ => ?_⟩; (case prx => (simp [c2]; done))) | (refine ⟨fun _ => ?_, fun hh => absurd hh ?prx⟩; (case prx => (simp [c2]; done))) | (refine ⟨?prx, ?_⟩; (case prx => (first | exact Chk.mk (by kernel_rfl) | exact rfl | (first | decide | exact oq))))))
          refine ⟨[some 0, some 1], ?_⟩
          (repeat' (first | apply And.intro | intro h)); (all_goals (try exact Chk.mk (by kernel_rfl)))
          (all_goals (try first | assumption | exact rfl | exact True.intro | contradiction | (exfalso; simp only [decide_eq_true_eq, decide_eq_false_iff_not, Bool.not_eq_true', Bool.not_eq_false', Bool.and_eq_true, Bool.or_eq_true, Bool.and_eq_false_iff, Bool.or_eq_false_iff, Int.not_lt, Int.not_le, ne_eq, Classical.not_not] at *; omega)))
    · replace hy : ¬ (i : Int) < 2 := of_decide_eq_false hy
      have c1 : imCheck w hh c m.length = 0 := hi.2.1 (by omega)
      have c2 : imCheck v g d a.length = 0 := hi.2.2 (by omega)
      have f1 := (check_inv c1).1
      have f2 := (check_inv c2).1
      have b1 := fits_inv f1
      have b2 := fits_inv f2
      clear hi hy e1
      refine ⟨⟨by kernel_rfl⟩, ?_⟩
      by_cases k3 : c = d
      · subst k3
        have q1 : rngI .i64 (w - v) := rng64 (by omega) (by omega)
        have q2 : rngI .i64 (hh - g) := rng64 (by omega) (by omega)
        by_cases k4 : x < 0 ∨ y < 0 ∨ w - v < x ∨ hh - g < y
        · have e2 : pasteC w hh c m.length v g c a.length x y = 11 := by simp [pasteC, c1, c2, k4]
          have e3 : pasteI w hh c m v g c a x y = m := if_neg (by rw [e2]; decide)
          rw [e2, e3]
          (repeat (first | (refine ⟨fun hh => absurd hh ?prx, fun _ => ?_⟩; (case prx => (simp [k4]; done))) | (refine ⟨fun _ => ?_, fun hh => absurd hh ?prx⟩; (case prx => (simp [k4]; done))) | (refine ⟨?prx, ?_⟩; (case prx => (first | exact Chk.mk (by kernel_rfl) | exact rfl | (first | exact q1 | exact q2))))))
          (repeat' (first | apply And.intro | intro h)); (all_goals (try exact Chk.mk (by kernel_rfl)))
          (all_goals (try first | assumption | exact rfl | exact True.intro | contradiction | (exfalso; simp only [decide_eq_true_eq, decide_eq_false_iff_not, Bool.not_eq_true', Bool.not_eq_false', Bool.and_eq_true, Bool.or_eq_true, Bool.and_eq_false_iff, Bool.or_eq_false_iff, Int.not_lt, Int.not_le, ne_eq, Classical.not_not] at *; omega)))
          all_goals (try (refine ⟨[some 0, some 1], ?_⟩))
          (repeat' (first | apply And.intro | intro h)); (all_goals (try exact Chk.mk (by kernel_rfl)))
          (all_goals (try first | assumption | exact rfl | exact True.intro | contradiction | (exfalso; simp only [decide_eq_true_eq, decide_eq_false_iff_not, Bool.not_eq_true', Bool.not_eq_false', Bool.and_eq_true, Bool.or_eq_true, Bool.and_eq_false_iff, Bool.or_eq_false_iff, Int.not_lt, Int.not_le, ne_eq, Classical.not_not] at *; omega)))
        · have e2 : pasteC w hh c m.length v g c a.length x y = 0 := by simp [pasteC, c1, c2, k4]
          have e3 : pasteI w hh c m v g c a x y = rowsL m a (v * c).toNat (baseR w c x y) g.toNat := if_pos e2
          have hq := paste_inv e2
          rw [e2, e3]
          obtain ⟨r1, r2, r3, r4, r5⟩ := paste_row hq
          have x3 : ¬ x < 0 := by omega
          have y3 : ¬ y < 0 := by omega
          have x4 : ¬ w - v < x := by omega
          have y4 : ¬ hh - g < y := by omega
          have q3 : rngI .i64 (v * c) := rng64 (by omega) (by omega)
          (repeat (first | (refine ⟨fun hh => absurd hh ?prx, fun _ => ?_⟩; (case prx => (simp [x3, y3, x4, y4]; done))) | (refine ⟨fun _ => ?_, fun hh => absurd hh ?prx⟩; (case prx => (simp [x3, y3, x4, y4]; done))) | (refine ⟨?prx, ?_⟩; (case prx => (first | exact Chk.mk (by kernel_rfl) | exact rfl | (first | exact q1 | exact q2 | exact q3))))))
          refine ⟨Nat, fun r => [(0, .ptr 0 0), (2, .int .i64 x), (3, .int .i64 y), (5, .ptr 2 0), (11, .int .i64 (v * c)), (74, .int .i64 g), (75, .int .i64 r)],
            fun r => ⟨3, [(0, some (.cells 25 [.int .i64 w, .int .i64 hh, .int .i64 c, .sl 1 1 0 m.length])), (1, some (.ints 5 .u8 (rowsL m a (v * c).toNat (baseR w c x y) r))), (2, some (.cells 25 [.int .i64 v, .int .i64 g, .int .i64 c, .roi .u8 a]))]⟩,
            fun r => r ≤ g.toNat, fun r => g.toNat - r, ⟨0, [some 0, some 1, some 2], Nat.zero_le _, ?_⟩, fun r hr => ?_⟩
          · (repeat' (first | apply And.intro | intro h)); (all_goals (try exact Chk.mk (by kernel_rfl)))
            (all_goals (try first | exact True.intro | exact rfl | exact And.intro rfl rfl | exact And.intro rfl (fun _ _ => rfl)))
          refine ⟨fun hy => ?_, fun hy => ?_⟩
          · replace hy : (r : Int) < g := of_decide_eq_true hy
            have hr : r < g.toNat := by omega
            obtain ⟨p1, p2⟩ := r2 r hr
            have hsl := rowsL_len (fun r hr => (r2 r hr).2) r1 (show r ≤ g.toNat by omega)
            have hin : inI w hh c x (y + r) 0 = true := in_of (by omega)
            have hpl : plI w c x (y + r) 0 = ((baseR w c x y r : Nat) : Int) := by rw [p1]; unfold plI; omega
            have hP : (if inI w hh c x (y + r) 0 = true then plI w c x (y + r) 0 else 0) = ((baseR w c x y r : Nat) : Int) := by rw [if_pos hin, hpl]
            have hra : r * (v * c).toNat + (v * c).toNat ≤ a.length := by rw [r1, ← Nat.succ_mul]; exact Nat.mul_le_mul_right _ hr
            have o1 : rngI .i64 (y + (r : Int)) := rng64 (by omega) (by omega)
            refine ⟨o1, by show 0 + m.length ≤ _; omega, f1, ⟨by kernel_rfl⟩, ?_⟩
            have hN : (((v * c).toNat : Nat) : Int) = v * c := by omega
            have hrn : (r : Int) * (v * c) = ((r * (v * c).toNat : Nat) : Int) := by rw [Int.natCast_mul, hN]
            have ha2 : (a.length : Int) ≤ 16777216 := by have := hq.l2; omega
            have hl1 := hq.l1
            clear hq r1 r2 e2 e3
            refine ⟨by rw [hP]; exact rng64 (by omega) (by omega), ⟨by rw [hP]; omega, by rw [hP]; omega⟩, ⟨by rw [hP]; omega, by rw [hP]; omega⟩, by rw [hrn]; exact rng64 (by omega) (by omega), ⟨by rw [hrn]; omega, by rw [hrn]; omega⟩, ?_, rng64 (by omega) (by omega), ?_⟩
            · show 0 + (if inI w hh c x (y + (r : Int)) 0 = true then plI w c x (y + (r : Int)) 0 else 0).toNat + (((if inI w hh c x (y + (r : Int)) 0 = true then plI w c x (y + (r : Int)) 0 else 0) + v * c).toNat - (if inI w hh c x (y + (r : Int)) 0 = true then plI w c x (y + (r : Int)) 0 else 0).toNat) ≤ (rowsL m a (v * c).toNat (baseR w c x y) r).length
              rw [hP]; omega
            · refine ⟨r + 1, [some 0, some 1, some 2], (by show r + 1 ≤ g.toNat; omega), (by show g.toNat - (r + 1) < g.toNat - r; omega), ?_⟩
              (repeat' (first | apply And.intro | intro h)); (all_goals (try exact Chk.mk (by kernel_rfl)))
              (all_goals (try first | exact True.intro | exact rfl | exact And.intro rfl rfl | exact And.intro rfl (fun _ _ => rfl)))
              all_goals (conv => whnf)
              have t1 : List.drop ((r : Int) * (v * c)).toNat (List.take a.length a) = a.drop (r * (v * c).toNat) := by
                rw [hrn, List.take_length]; rfl
              have t2 : ((((baseR w c x y r : Nat) : Int) + v * c).toNat - (((baseR w c x y r : Nat) : Int)).toNat) = (v * c).toNat := by omega
              have t3 : (a.drop (r * (v * c).toNat)).length.min (v * c).toNat = (v * c).toNat := by
                show min _ _ = _
                simp; omega
              have t4 : 0 + (((baseR w c x y r : Nat) : Int)).toNat = baseR w c x y r := by omega
              rw [hP, t1, t2, t3, t4]
              rfl
          · replace hy : ¬ (r : Int) < g := of_decide_eq_false hy
            have er : r = g.toNat := by have : r ≤ g.toNat := hr; omega
            subst er
            refine ⟨[some 0, some 1], ?_⟩
            (repeat' (first | apply And.intro | intro h)); (all_goals (try exact Chk.mk (by kernel_rfl)))
            (all_goals (try first | assumption | exact rfl | exact True.intro | contradiction | (exfalso; simp only [decide_eq_true_eq, decide_eq_false_iff_not, Bool.not_eq_true', Bool.not_eq_false', Bool.and_eq_true, Bool.or_eq_true, Bool.and_eq_false_iff, Bool.or_eq_false_iff, Int.not_lt, Int.not_le, ne_eq, Classical.not_not] at *; omega)))
      · have e2 : pasteC w hh c m.length v g d a.length x y = 10 := by simp [pasteC, c1, c2, k3]
        have e3 : pasteI w hh c m v g d a x y = m := if_neg (by rw [e2]; decide)
        rw [e2, e3]
        (repeat (first | (refine ⟨fun hh => absurd hh ?prx, fun _ => ?_⟩; (case prx => (simp [k3]; done))) | (refine ⟨fun _ => ?_, fun hh => absurd hh ?prx⟩; (case prx => (simp [k3]; done))) | (refine ⟨?prx, ?_⟩; (case prx => (first | exact Chk.mk (by kernel_rfl) | exact rfl | exact rfl)))))
        refine ⟨[some 0, some 1], ?_⟩
        (repeat' (first | apply And.intro | intro h)); (all_goals (try exact Chk.mk (by kernel_rfl)))
        (all_goals (try first | assumption | exact rfl | exact True.intro | contradiction | (exfalso; simp only [decide_eq_true_eq, decide_eq_false_iff_not, Bool.not_eq_true', Bool.not_eq_false', Bool.and_eq_true, Bool.or_eq_true, Bool.and_eq_false_iff, Bool.or_eq_false_iff, Int.not_lt, Int.not_le, ne_eq, Classical.not_not] at *; omega)))
  · cases h
end Go.Proofs.Ytkenkpbkaeoifaa
