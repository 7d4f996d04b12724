
/- One image in another: what the document's Same, Made and Paste answer. No condition. -/
import Derived.Test.YtchhikfiofeckaaI8
namespace Go.Proofs.Ytchhikfiofeckaa
open Go Go.RowKit
set_option linter.unusedVariables false
set_option linter.unusedSimpArgs false
set_option maxRecDepth 100000

def sMM (f : Int → Int → Int → List Int → Int → Int → Int → List Int → AV) : PSpec := fun l => match l with
  | [.agg [.int .i64 w, .int .i64 h, .int .i64 c, .roi .u8 p], .agg [.int .i64 v, .int .i64 g, .int .i64 d, .roi .u8 q]] => some ([p.length ≤ 1152921504606846975], f w h c p v g d q) | _ => none
theorem sMM_inv {f : Int → Int → Int → List Int → Int → Int → Int → List Int → AV} {l : List AV} {obs : List Prop} {v : AV} (h : sMM f l = some (obs, v)) : ∃ w hh c p w' h' c' q, l = [imA w hh c p, imA w' h' c' q] ∧ obs = [p.length ≤ 1152921504606846975] ∧ v = f w hh c p w' h' c' q := by
  unfold sMM at h
  split at h
  · simp only [Option.some.injEq, Prod.mk.injEq] at h; exact ⟨_, _, _, _, _, _, _, _, rfl, h.1.symm, h.2.symm⟩
  · cases h
def sameM (w h c : Int) (p : List Int) (v g d : Int) (q : List Int) : Bool := decide (w = v ∧ h = g ∧ c = d ∧ p = q)
abbrev sameS : PSpec := sMM fun w h c p v g d q => .bool (sameM w h c p v g d q)
theorem list_getD {p q : List Int} (hl : p.length = q.length) (h : ∀ j, j < p.length → p.getD j 0 = q.getD j 0) : p = q := by
  refine List.ext_getElem hl fun j h1 h2 => ?_
  have := h j h1
  simpa [List.getD, h1, h2] using this
theorem rsame_s : SOK Try.prog 20 sameS := by
  refine sok_of (C := mkC 0 [] noG) (mkC_ok pok_nil noG_ok) rfl mixed ⟨Try.func20, by kernel_rfl, by kernel_rfl, by kernel_rfl⟩ fun l obs v h ho => ?_
  obtain ⟨w, hh, c, p, v, g, d, q, rfl, rfl, rfl⟩ := sMM_inv h
  have fit : p.length ≤ 1152921504606846975 := ho _ (by simp)
  clear h ho
  refine ⟨Nat.le_of_ble_eq_true rfl, ?_⟩
  by_cases hd : w = v ∧ hh = g ∧ c = d ∧ p.length = q.length
  · obtain ⟨rfl, rfl, rfl, hl⟩ := hd
    have hl2 : (p.length : Int) = q.length := by omega
    (repeat (first | (refine ⟨fun hh => absurd hh ?prx, fun _ => ?_⟩; (case prx => (simp [hl, hl2]; done))) | (refine ⟨fun _ => ?_, fun hh => absurd hh ?prx⟩; (case prx => (simp [hl, hl2]; done))) | (refine ⟨?prx, ?_⟩; (case prx => (first | exact Chk.mk (by kernel_rfl) | exact rfl | exact rfl)))))
    refine ⟨Nat, fun i => [(2, .ptr 0 0), (3, .ptr 1 0), (5, .int .i64 i)], fun i => ⟨2, [(0, some (.cells 26 [.int .i64 w, .int .i64 hh, .int .i64 c, .roi .u8 p])), (1, some (.cells 26 [.int .i64 w, .int .i64 hh, .int .i64 c, .roi .u8 q]))]⟩,
      fun i => i ≤ p.length ∧ ∀ j, j < i → p.getD j 0 = q.getD j 0, fun i => p.length - i, ⟨0, [some 0, some 1], ⟨Nat.zero_le _, fun j hj => by omega⟩, ?_⟩, fun i hi => ?_⟩
    · (repeat' (first | apply And.intro | intro h)); (all_goals (try exact Chk.mk (by kernel_rfl)))
      (all_goals (try first | exact True.intro | exact rfl | exact And.intro rfl rfl | exact And.intro rfl (fun _ _ => rfl)))
    refine ⟨fun hy => ?_, fun hy => ?_⟩
    · replace hy : (i : Int) < (p.length : Int) := of_decide_eq_true hy
      have hb := hi.2
      have b1 : 0 ≤ (i : Int) ∧ (i : Int) < (p.length : Int) := ⟨by omega, hy⟩
      have b2 : 0 ≤ (i : Int) ∧ (i : Int) < (q.length : Int) := ⟨by omega, by omega⟩
      have q1 : rngI .i64 ((i : Int) + 1) := rng64 (by omega) (by have := fit; omega)
      refine ⟨⟨by kernel_rfl⟩, b1, b2, fun h5 => ?_, fun h5 => ?_⟩
      · have h5 : ¬ p.getD i 0 = q.getD i 0 := of_decide_eq_true h5
        have e : sameM w hh c p w hh c q = false := by
          simp only [sameM, decide_eq_false_iff_not]
          rintro ⟨_, _, _, h4⟩
          exact h5 (by rw [h4])
        rw [e]
        (repeat' (first | apply And.intro | intro h)); (all_goals (try exact Chk.mk (by kernel_rfl)))
        (all_goals (try first | assumption | exact rfl | exact True.intro | contradiction | (exfalso; simp only [decide_eq_true_eq, decide_eq_false_iff_not, Bool.not_eq_true', Bool.not_eq_false', Bool.and_eq_true, Bool.or_eq_true, Bool.and_eq_false_iff, Bool.or_eq_false_iff, Int.not_lt, Int.not_le, ne_eq, Classical.not_not] at *; omega)))
      · have h5 : p.getD i 0 = q.getD i 0 := by simpa using h5
        refine ⟨q1, i + 1, [some 0, some 1], ⟨by omega, fun j hj => ?_⟩, (by show p.length - (i + 1) < p.length - i; omega), ?_⟩
        · by_cases hji : j = i
          · rw [hji]; exact h5
          · exact hb j (by omega)
        · (repeat' (first | apply And.intro | intro h)); (all_goals (try exact Chk.mk (by kernel_rfl)))
          (all_goals (try first | exact True.intro | exact rfl | exact And.intro rfl rfl | exact And.intro rfl (fun _ _ => rfl)))
    · replace hy : ¬ (i : Int) < (p.length : Int) := of_decide_eq_false hy
      have e : sameM w hh c p w hh c q = true := by
        have := list_getD hl (fun j hj => hi.2 j (by omega))
        simp [sameM, this]
      rw [e]
      (repeat' (first | apply And.intro | intro h)); (all_goals (try exact Chk.mk (by kernel_rfl)))
      (all_goals (try first | assumption | exact rfl | exact True.intro | contradiction | (exfalso; simp only [decide_eq_true_eq, decide_eq_false_iff_not, Bool.not_eq_true', Bool.not_eq_false', Bool.and_eq_true, Bool.or_eq_true, Bool.and_eq_false_iff, Bool.or_eq_false_iff, Int.not_lt, Int.not_le, ne_eq, Classical.not_not] at *; omega)))
  · have e : sameM w hh c p v g d q = false := by
      simp only [sameM, decide_eq_false_iff_not]
      rintro ⟨h1, h2, h3, h4⟩
      exact hd ⟨h1, h2, h3, by rw [h4]⟩
    rw [e]
    (repeat' (first | apply And.intro | intro h)); (all_goals (try exact Chk.mk (by kernel_rfl)))
    (all_goals (try first | assumption | exact rfl | exact True.intro | contradiction | (exfalso; simp only [decide_eq_true_eq, decide_eq_false_iff_not, Bool.not_eq_true', Bool.not_eq_false', Bool.and_eq_true, Bool.or_eq_true, Bool.and_eq_false_iff, Bool.or_eq_false_iff, Int.not_lt, Int.not_le, ne_eq, Classical.not_not] at *; omega)))
def madeF : FSpec := fun l es => match l, es with
  | [.int .i64 w, .int .i64 h, .int .i64 c, .sl 0 1 0 n], [.ints 5 .u8 p] => some ([], .agg [.int .i64 w, .int .i64 h, .int .i64 c, .sl 0 1 0 n], [some (.ints 5 .u8 p)])
  | _, _ => none
theorem made_g : GSOK Try.prog 104 (fG madeF) := by
  refine fok (S := []) (G := noG) pok_nil noG_ok ⟨Try.func104, by kernel_rfl, by kernel_rfl, by kernel_rfl⟩ fun l es obs v es' h ho => ?_
  unfold madeF at h
  split at h
  · rename_i w hh c n p
    simp only [Option.some.injEq, Prod.mk.injEq] at h
    obtain ⟨rfl, rfl, rfl⟩ := h
    refine ⟨Nat.le_of_ble_eq_true rfl, ?_⟩
    refine ⟨[some 0], ?_⟩
    (repeat' (first | apply And.intro | intro h)); (all_goals (try exact Chk.mk (by kernel_rfl)))
    (all_goals (try first | assumption | exact rfl | exact True.intro | contradiction | (exfalso; simp only [decide_eq_true_eq, decide_eq_false_iff_not, Bool.not_eq_true', Bool.not_eq_false', Bool.and_eq_true, Bool.or_eq_true, Bool.and_eq_false_iff, Bool.or_eq_false_iff, Int.not_lt, Int.not_le, ne_eq, Classical.not_not] at *; omega)))
  · cases h
abbrev pasteS : PSpec := fun l => match l with
  | [.agg [.int .i64 w, .int .i64 h, .int .i64 c, .roi .u8 m], .agg [.int .i64 v, .int .i64 g, .int .i64 d, .roi .u8 a], .int .i64 x, .int .i64 y] =>
    some ([], .tup [imA w h c (pasteL w h c m v g d a x y), .int .i64 (pasteC w h c m.length v g d a.length x y)])
  | _ => none
theorem rpaste_s : SOK Try.prog 59 pasteS := by
  refine sok_of (C := mkK 0 [(22, checkS), (108, rplS)] (glook [(104, fG madeF)]) [11]) (mkK_ok (pok_cons rcheck7_s (pok_cons rplace_s pok_nil)) (gl_cons made_g gl_nil)) rfl mixed ⟨Try.func59, by kernel_rfl, by kernel_rfl, by kernel_rfl⟩ fun l obs v h ho => ?_
  unfold pasteS at h
  split at h
  · rename_i w hh c m v g d a x y
    simp only [Option.some.injEq, Prod.mk.injEq] at h
    obtain ⟨rfl, rfl⟩ := h
    clear ho
    refine ⟨Nat.le_of_ble_eq_true rfl, ?_⟩
    by_cases hp : pasteC w hh c m.length v g d a.length x y = 0
    · have hq := paste_inv hp
      have e : pasteL w hh c m v g d a x y = stepL m a (v * d).toNat (baseR w c x y) a.length := if_pos hp
      rw [e, hp]
      have c1 : imCheck w hh c m.length = 0 := by unfold imCheck; rw [if_neg (by rw [hq.f1]; decide), if_neg (by have := hq.l1; omega)]
      have c2 : imCheck v g d a.length = 0 := by unfold imCheck; rw [if_neg (by rw [hq.f2]; decide), if_neg (by have := hq.l2; omega)]
      have cd := hq.cd
      subst cd
      have x0 := hq.x0
      have y0 := hq.y0
      have b1 := fits_inv hq.f1
      have b2 := fits_inv hq.f2
      have l1 := hq.l1
      have x1 := hq.x1
      have y1 := hq.y1
      have q1 : rngI .i64 (w - v) := rng64 (by omega) (by omega)
      have q2 : rngI .i64 (hh - g) := rng64 (by omega) (by omega)
      have x3 : ¬ x < 0 := by omega
      have y3 : ¬ y < 0 := by omega
      have x4 : ¬ w - v < x := by omega
      have y4 : ¬ hh - g < y := by omega
      (repeat (first | (refine ⟨fun hh => absurd hh ?prx, fun _ => ?_⟩; (case prx => (simp [c1, c2, x3, y3, x4, y4]; done))) | (refine ⟨fun _ => ?_, fun hh => absurd hh ?prx⟩; (case prx => (simp [c1, c2, x3, y3, x4, y4]; done))) | (refine ⟨?prx, ?_⟩; (case prx => (first | exact Chk.mk (by kernel_rfl) | exact rfl | (first | exact q1 | exact q2))))))
      refine ⟨?o1, ?o2, ?_⟩
      · show (((0 : Nat) : Int) + (m.length : Int)) * ((1 : Nat) : Int) ≤ 140737488355328; omega
      · show 0 + m.length ≤ 140737488355328; omega
      refine ⟨[(2, .int .i64 x), (3, .int .i64 y), (4, .ptr 0 0), (5, .ptr 1 0), (8, .ptr 2 0), (12, .sl 3 1 0 m.length)],
        ⟨4, [(0, some (.cells 26 [.int .i64 w, .int .i64 hh, .int .i64 c, .roi .u8 m])), (1, some (.cells 26 [.int .i64 v, .int .i64 g, .int .i64 c, .roi .u8 a])), (2, some (.cells 26 [.int .i64 0, .int .i64 0, .int .i64 0, .nils])), (3, some (.ints 5 .u8 m))]⟩, [some 0, some 1, some 2, some 4], ?_, ?_⟩
      · (repeat' (first | apply And.intro | intro h)); (all_goals (try exact Chk.mk (by kernel_rfl)))
        (all_goals (try first | exact True.intro | exact rfl | exact And.intro rfl rfl | exact And.intro rfl (fun _ _ => rfl)))
        exact Nat.zero_add _
      refine ⟨Nat, fun i => [(2, .int .i64 x), (3, .int .i64 y), (4, .ptr 0 0), (5, .ptr 1 0), (8, .ptr 2 0), (12, .sl 3 1 0 m.length), (13, .int .i64 i)],
        fun i => ⟨4, [(0, some (.cells 26 [.int .i64 w, .int .i64 hh, .int .i64 c, .roi .u8 m])), (1, some (.cells 26 [.int .i64 v, .int .i64 g, .int .i64 c, .roi .u8 a])), (2, some (.cells 26 [.int .i64 0, .int .i64 0, .int .i64 0, .nils])), (3, some (.ints 5 .u8 (stepL m a (v * c).toNat (baseR w c x y) i)))]⟩,
        fun i => i ≤ a.length, fun i => a.length - i, ⟨0, [some 0, some 1, some 2, some 3], Nat.zero_le _, ?_⟩, fun i hi => ?_⟩
      · (repeat' (first | apply And.intro | intro h)); (all_goals (try exact Chk.mk (by kernel_rfl)))
        (all_goals (try first | exact True.intro | exact rfl | exact And.intro rfl rfl | exact And.intro rfl (fun _ _ => rfl)))
      refine ⟨fun hy => ?_, fun hy => ?_⟩
      · replace hy : (i : Int) < (a.length : Int) := of_decide_eq_true hy
        have hl2 := hq.l2
        obtain ⟨col, row, k, g1, g2, g3, g4, g5, g6, g7, g8⟩ := paste_idx hq (i := i) (by omega)
        have gi := in_inv g4
        have hpb := pl_bd hq.f1 g4
        have hr : rplI w hh c m.length (x + col) (y + row) k = plI w c (x + col) (y + row) k := if_pos ⟨c1, g4⟩
        have hP : rplI w hh c m.length (x + ((i : Int).tdiv c).tmod v) (y + ((i : Int).tdiv c).tdiv v) ((i : Int).tmod c) = ((baseR w c x y (i / (v * c).toNat) + i % (v * c).toNat : Nat) : Int) := by
          rw [g1, g2, g3, hr, g5]
        have hP2 : baseR w c x y (i / (v * c).toNat) + i % (v * c).toNat < m.length := by omega
        have hsl := stepL_len m a (v * c).toNat (baseR w c x y) i
        have hst : stepL m a (v * c).toNat (baseR w c x y) (i + 1) = (stepL m a (v * c).toNat (baseR w c x y) i).set (baseR w c x y (i / (v * c).toNat) + i % (v * c).toNat) (a.getD i 0) := rfl
        generalize baseR w c x y (i / (v * c).toNat) + i % (v * c).toNat = PP at *
        have o1 : c ≠ 0 := by omega
        have o3 : v ≠ 0 := by omega
        have z1 : 0 ≤ (i : Int).tdiv c ∧ (i : Int).tdiv c ≤ i := by
          rw [Int.tdiv_eq_ediv_of_nonneg (by omega)]
          exact ⟨Int.ediv_nonneg (by omega) (by omega), Int.ediv_le_self _ (by omega)⟩
        have o2 : rngI .i64 ((i : Int).tdiv c) := rng64 (by omega) (by omega)
        have o4 : rngI .i64 (((i : Int).tdiv c).tdiv v) := by rw [g2]; exact rng64 (by omega) (by omega)
        have o5 : rngI .i64 (x + ((i : Int).tdiv c).tmod v) := by rw [g1]; exact rng64 (by omega) (by omega)
        have o6 : rngI .i64 (y + ((i : Int).tdiv c).tdiv v) := by rw [g2]; exact rng64 (by omega) (by omega)
        have o7 : 0 ≤ (i : Int) ∧ (i : Int) < (a.length : Int) := ⟨by omega, hy⟩
        have o8 : 0 ≤ rplI w hh c m.length (x + ((i : Int).tdiv c).tmod v) (y + ((i : Int).tdiv c).tdiv v) ((i : Int).tmod c) ∧ rplI w hh c m.length (x + ((i : Int).tdiv c).tmod v) (y + ((i : Int).tdiv c).tdiv v) ((i : Int).tmod c) < (m.length : Int) := by rw [hP]; omega
        have o9 : 0 + (rplI w hh c m.length (x + ((i : Int).tdiv c).tmod v) (y + ((i : Int).tdiv c).tdiv v) ((i : Int).tmod c)).toNat < (stepL m a (v * c).toNat (baseR w c x y) i).length := by rw [hP, hsl]; omega
        have oq : rngI .i64 ((i : Int) + 1) := rng64 (by omega) (by omega)
        (repeat (first | (refine ⟨fun hh => absurd hh ?prx, fun _ => ?_⟩; (case prx => (simp [o1]; done))) | (refine ⟨fun _ => ?_, fun hh => absurd hh ?prx⟩; (case prx => (simp [o1]; done))) | (refine ⟨?prx, ?_⟩; (case prx => (first | exact Chk.mk (by kernel_rfl) | exact rfl | (first | exact o1 | exact o3 | exact o2 | exact o4 | exact o5 | exact o6 | exact o7 | exact o8 | exact o9 | exact oq))))))
        refine ⟨i + 1, [some 0, some 1, some 2, some 3], (by show i + 1 ≤ a.length; omega), (by show a.length - (i + 1) < a.length - i; omega), ?_⟩
        (repeat' (first | apply And.intro | intro h)); (all_goals (try exact Chk.mk (by kernel_rfl)))
        (all_goals (try first | exact True.intro | exact rfl | exact And.intro rfl rfl | exact And.intro rfl (fun _ _ => rfl)))
        show (stepL m a (v * c).toNat (baseR w c x y) i).set (0 + (rplI w hh c m.length (x + ((i : Int).tdiv c).tmod v) (y + ((i : Int).tdiv c).tdiv v) ((i : Int).tmod c)).toNat) (a.getD i 0) = _
        rw [hP, hst, Nat.zero_add]; rfl
      · replace hy : ¬ (i : Int) < (a.length : Int) := of_decide_eq_false hy
        have ei : i = a.length := by have : i ≤ a.length := hi; omega
        subst ei
        refine ⟨[3], ⟨by kernel_rfl⟩, ?_⟩
        have hsl := stepL_len m a (v * c).toNat (baseR w c x y) a.length
        have hL : List.take m.length (List.drop 0 (stepL m a (v * c).toNat (baseR w c x y) a.length)) = stepL m a (v * c).toNat (baseR w c x y) a.length := by
          rw [← hsl]; simp
        refine ⟨by show 0 + m.length ≤ _; omega, ?_⟩
        exact ⟨⟨rfl, rfl, rfl, hL⟩, rfl⟩
    · have e : pasteL w hh c m v g d a x y = m := if_neg hp
      rw [e]
      by_cases k1 : imCheck w hh c m.length = 0
      · by_cases k2 : imCheck v g d a.length = 0
        · by_cases k3 : c = d
          · subst k3
            have b1 := fits_inv (check_inv k1).1
            have b2 := fits_inv (check_inv k2).1
            have q1 : rngI .i64 (w - v) := rng64 (by omega) (by omega)
            have q2 : rngI .i64 (hh - g) := rng64 (by omega) (by omega)
            have k4 : x < 0 ∨ y < 0 ∨ w - v < x ∨ hh - g < y := by
              refine Classical.byContradiction fun hn => hp ?_
              simp [pasteC, k1, k2]; omega
            have e2 : pasteC w hh c m.length v g c a.length x y = 11 := by simp [pasteC, k1, k2, k4]
            rw [e2]
            (repeat (first | (refine ⟨fun hh => absurd hh ?prx, fun _ => ?_⟩; (case prx => (simp [k1, k2]; done))) | (refine ⟨fun _ => ?_, fun hh => absurd hh ?prx⟩; (case prx => (simp [k1, k2]; done))) | (refine ⟨?prx, ?_⟩; (case prx => (first | exact Chk.mk (by kernel_rfl) | exact rfl | (first | exact q1 | exact q2))))))
            (repeat' (first | apply And.intro | intro h)); (all_goals (try exact Chk.mk (by kernel_rfl)))
            (all_goals (try first | assumption | exact rfl | exact True.intro | contradiction | (exfalso; simp only [decide_eq_true_eq, decide_eq_false_iff_not, Bool.not_eq_true', Bool.not_eq_false', Bool.and_eq_true, Bool.or_eq_true, Bool.and_eq_false_iff, Bool.or_eq_false_iff, Int.not_lt, Int.not_le, ne_eq, Classical.not_not] at *; omega)))
          · have e2 : pasteC w hh c m.length v g d a.length x y = 10 := by simp [pasteC, k1, k2, k3]
            rw [e2]
            (repeat (first | (refine ⟨fun hh => absurd hh ?prx, fun _ => ?_⟩; (case prx => (simp [k1, k2, k3]; done))) | (refine ⟨fun _ => ?_, fun hh => absurd hh ?prx⟩; (case prx => (simp [k1, k2, k3]; done))) | (refine ⟨?prx, ?_⟩; (case prx => (first | exact Chk.mk (by kernel_rfl) | exact rfl | exact rfl)))))
            (repeat' (first | apply And.intro | intro h)); (all_goals (try exact Chk.mk (by kernel_rfl)))
            (all_goals (try first | assumption | exact rfl | exact True.intro | contradiction | (exfalso; simp only [decide_eq_true_eq, decide_eq_false_iff_not, Bool.not_eq_true', Bool.not_eq_false', Bool.and_eq_true, Bool.or_eq_true, Bool.and_eq_false_iff, Bool.or_eq_false_iff, Int.not_lt, Int.not_le, ne_eq, Classical.not_not] at *; omega)))
        · have e2 : pasteC w hh c m.length v g d a.length x y = imCheck v g d a.length := by simp [pasteC, k1, k2]
          rw [e2]
          (repeat (first | (refine ⟨fun hh => absurd hh ?prx, fun _ => ?_⟩; (case prx => (simp [k1, k2]; done))) | (refine ⟨fun _ => ?_, fun hh => absurd hh ?prx⟩; (case prx => (simp [k1, k2]; done))) | (refine ⟨?prx, ?_⟩; (case prx => (first | exact Chk.mk (by kernel_rfl) | exact rfl | exact rfl)))))
          (repeat' (first | apply And.intro | intro h)); (all_goals (try exact Chk.mk (by kernel_rfl)))
          (all_goals (try first | assumption | exact rfl | exact True.intro | contradiction | (exfalso; simp only [decide_eq_true_eq, decide_eq_false_iff_not, Bool.not_eq_true', Bool.not_eq_false', Bool.and_eq_true, Bool.or_eq_true, Bool.and_eq_false_iff, Bool.or_eq_false_iff, Int.not_lt, Int.not_le, ne_eq, Classical.not_not] at *; omega)))
      · have e2 : pasteC w hh c m.length v g d a.length x y = imCheck w hh c m.length := by simp [pasteC, k1]
        rw [e2]
        (repeat (first | (refine ⟨fun hh => absurd hh ?prx, fun _ => ?_⟩; (case prx => (simp [k1]; done))) | (refine ⟨fun _ => ?_, fun hh => absurd hh ?prx⟩; (case prx => (simp [k1]; done))) | (refine ⟨?prx, ?_⟩; (case prx => (first | exact Chk.mk (by kernel_rfl) | exact rfl | exact rfl)))))
        (repeat' (first | apply And.intro | intro h)); (all_goals (try exact Chk.mk (by kernel_rfl)))
        (all_goals (try first | assumption | exact rfl | exact True.intro | contradiction | (exfalso; simp only [decide_eq_true_eq, decide_eq_false_iff_not, Bool.not_eq_true', Bool.not_eq_false', Bool.and_eq_true, Bool.or_eq_true, Bool.and_eq_false_iff, Bool.or_eq_false_iff, Int.not_lt, Int.not_le, ne_eq, Classical.not_not] at *; omega)))
  · cases h
end Go.Proofs.Ytchhikfiofeckaa
