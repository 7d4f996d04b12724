/- Texts laid together. No condition. -/
import Derived.Test.YtocboijpmmlegaaDoorS1
set_option maxRecDepth 100000
set_option linter.unusedVariables false
set_option linter.unusedSimpArgs false
namespace Go.Proofs.YtocboijpmmlegaaDoor
open Go Go.RowKit
set_option maxHeartbeats 4000000
abbrev floor1S : PSpec := gB2 (fun s d t e => [Bg s d, Bg t e, s = false, t = false, 4 < d.length, d.length ≤ 1000, e.length = 1]) fun s d t e => bigA (valD d / valD e)
structure QI (V W : Int) (q : List Int) (x : Int) : Prop where
  dig : Dig q
  eq : valD q * V + x = W
  lo : 0 ≤ x
  hi : x < V
theorem qi_next {V W a x Q : Int} {q : List Int} (h : QI V W q x) (hV : 0 < V) (ha : 0 ≤ a ∧ a < 32768) (hQ : Q = (a + 32768 * x) / V) : QI V (a + 32768 * W) (Q :: q) (a + 32768 * x - Q * V) ∧ 0 ≤ Q ∧ Q < 32768 ∧ Q * V ≤ a + 32768 * x := by
  have x0 := h.lo
  have x1 := h.hi
  have q0 : 0 ≤ Q := by rw [hQ]; exact Int.ediv_nonneg (by omega) (by omega)
  have q1 : Q < 32768 := by rw [hQ]; exact Int.ediv_lt_of_lt_mul hV (by omega)
  have e1 := Int.emod_add_mul_ediv (a + 32768 * x) V
  have e2 := Int.emod_nonneg (a + 32768 * x) (show V ≠ 0 by omega)
  have e3 := Int.emod_lt_of_pos (a + 32768 * x) hV
  rw [← hQ] at e1
  have e4 : Q * V = V * Q := Int.mul_comm _ _
  refine ⟨⟨Dig.cons ⟨q0, q1⟩ h.dig, ?_, by omega, by omega⟩, q0, q1, by omega⟩
  have e5 := h.eq
  show (Q + 32768 * valD q) * V + (a + 32768 * x - Q * V) = a + 32768 * W
  rw [← e5, Int.add_mul, Int.mul_add, Int.mul_assoc]
  omega
theorem qi_end {V W x : Int} {q : List Int} (h : QI V W q x) (hV : 0 < V) : valD q = W / V := by
  have := h.eq
  have x0 := h.lo
  have x1 := h.hi
  have : W = x + valD q * V := by omega
  rw [this, Int.add_mul_ediv_right _ _ (by omega), Int.ediv_eq_zero_of_lt x0 x1, Int.zero_add]
theorem dgAt2 {x : Int} (h0 : 0 ≤ x) (h1 : x < 1073741824) : dgAt (dgs x.toNat) 1 * 32768 + dgAt (dgs x.toNat) 0 = x ∧ (dgs x.toNat).length ≤ 2 := by
  have hl := dgs_len (k := 2) (n := x.toNat) (by have : (32768 : Nat) ^ 2 = 1073741824 := rfl
                                                 omega)
  have hv := valD_dgs x.toNat
  have hd := Dig_dgs x.toNat
  refine ⟨?_, hl⟩
  generalize dgs x.toNat = l at hl hv hd
  match l, hl with
  | [], _ => simp [valD] at hv; show (0 : Int) * 32768 + 0 = x; omega
  | [a], _ => simp [valD] at hv; show (0 : Int) * 32768 + a = x; omega
  | [a, b], _ => simp [valD] at hv; show b * 32768 + a = x; omega
theorem floor1_s : SOK Tryd.prog 39 floor1S := by
  refine sok_of (C := mkE 0 [(64, shortS), (65, digitS), (66, trimS), (25, ofS), (42, fun l => mulS (l.map fzA)), (67, lessS), (68, restS01), (69, madeS)] (glook [(66, frzP trimS)]) [] [] [10, 11, 14, 1000019])
    (mkE_ok (pok_cons short_s (pok_cons digit_s (pok_cons trim_s (pok_cons of_s (pok_cons (sok_fz mul_s) (pok_cons less_s (pok_cons rest01_s (pok_cons made_s pok_nil)))))))) (gl_cons (gfrzP trim_s) gl_nil) dl_nil) rfl mixed ⟨Tryd.func39, by kernel_rfl, by kernel_rfl, by kernel_rfl⟩ fun l obs v h ho => ?_
  unfold floor1S at h
  (unfold gB2 at h; split at h; rotate_left; (focus (cases h)); rename_i s d t e; simp only [Option.some.injEq, Prod.mk.injEq] at h; obtain ⟨rfl, rfl⟩ := h; simp only [List.mem_cons, List.not_mem_nil, or_false, forall_eq_or_imp, forall_eq, false_implies, implies_true] at ho)
  obtain ⟨b1, b2, rfl, rfl, h3, h4, h5⟩ := ho
  have n1 := valD_nn b1.dig
  have te1 := dgAt_bd b2.dig 0
  obtain ⟨V, hV⟩ : ∃ V, dgAt e 0 = V := ⟨_, rfl⟩
  have vE : valD e = V := by
    match e, h5 with
    | [a], _ => simp [valD]; exact hV
  have top : 1 ≤ V := by
    have hz : valD e ≠ 0 := fun k => by have := b2.can; rw [k] at this; rw [show (0 : Int).toNat = 0 from rfl, dgs_0] at this; rw [← this] at h5; simp at h5
    omega
  have V1 : V < 32768 := by omega
  have t1 : dgAt e ((e.length : Int) - 1) = V := by rw [h5]; exact hV
  have t2 : dgAt e ((e.length : Int) - 2) = 0 := if_neg (by omega)
  rw [vE]
  refine ⟨Nat.le_of_ble_eq_true rfl, ?_⟩
  have rt1 : rngI .i64 (dgAt e ((e.length : Int) - 1) * 32768) := rng64 (by omega) (by omega)
  have rt2 : rngI .i64 (dgAt e ((e.length : Int) - 1) * 32768 + dgAt e ((e.length : Int) - 2)) := rng64 (by omega) (by omega)
  obtain ⟨T, hT⟩ : ∃ T, dgAt e ((e.length : Int) - 1) * 32768 + dgAt e ((e.length : Int) - 2) = T := ⟨_, rfl⟩
  have hTV : T = V * 32768 := by omega
  (repeat' (first | (refine xI (fun hfk => ?_) (fun hfk => ?_) <;> ((try (first | replace hfk := oT hfk | replace hfk := oF hfk | simp only [oA, oB, dh1, dh0, ne_eq, reduceCtorEq] at hfk)); (try (exfalso; first | omega | contradiction | exact xF hfk (by with_reducible assumption) | exact xT hfk (by with_reducible assumption))))) | (refine And.intro ?ob ?_; (case ob => (first | exact Chk.mk (by kernel_rfl) | exact True.intro | with_reducible assumption | exact rng64 (by omega) (by omega) | omega | (dsimp only; omega) | (show (_ : Nat) ≤ _; omega) | (simp only [ll1, ll2, ll0]; first | done | omega) | (dsimp only; simp only [ll1, ll2, ll0]; omega)))) | exact True.intro | (show _ = _; first | with_reducible rfl | with_reducible assumption | omega | (simp only [ll1, ll2, ll0]; omega) | (first | exact rt1 | exact rt2; done) | exact rfl) | with_reducible assumption | (apply And.intro) | omega | (intro j hj; exact rfl)))
  have r0 : ([] : List Int) = dgs (0 : Int).toNat := dgs_0.symm
  have w0 : valD (d.drop (d.length - 0)) = 0 := by rw [Nat.sub_zero, List.drop_of_length_le (Nat.le_refl _)]; rfl
  have qi0 : QI V (valD (d.drop (d.length - 0))) [] 0 := ⟨(fun x hx => by cases hx), (by rw [w0]; simp [valD]), Int.le_refl _, by omega⟩
  refine ⟨Nat × List Int × List Int × Int, fun g => [(2, .ptr 0 0), (3, .ptr 1 0), (4, .ptr 2 0), (5, .roi .i64 g.2.1), (6, .roi .i64 g.2.2.1), (7, .int .i64 (e.length : Int)), (8, .int .i64 T), (9, .int .i64 ((d.length : Int) - 1 - (g.1 : Int)))],
      fun g => ⟨3, [(0, some (.cells 49 [.bool false, .roi .i64 d])), (1, some (.cells 49 [.bool false, .roi .i64 e])), (2, some (.cells 49 [.fls, .nils]))]⟩,
      fun g => g.1 ≤ d.length ∧ g.2.1.length = g.1 ∧ QI V (valD (d.drop (d.length - g.1))) g.2.1 g.2.2.2 ∧ g.2.2.1 = dgs g.2.2.2.toNat, fun g => d.length - g.1, ⟨(0, [], [], 0), [some 0, some 1, some 2], ⟨Nat.zero_le _, rfl, qi0, r0⟩, ?_⟩, fun g hg => ?_⟩
  · (repeat' (first | (refine And.intro ?_ ?_) | exact True.intro | (show _ = _; with_reducible rfl) | exact Chk.mk (by kernel_rfl)))
    all_goals first | exact hT | rfl | (show (_ : Int) = _; omega)
  obtain ⟨m, q, r, x0⟩ := g
  obtain ⟨g1, g2, g3, g4⟩ := hg
  have g1 : m ≤ d.length := g1
  have ql : q.length = m := g2
  have g3 : QI V (valD (d.drop (d.length - m))) q x0 := g3
  have g4 : r = dgs x0.toNat := g4
  dsimp only
  clear r0 hT te1 rt1 rt2 qi0 w0
  have xl := g3.lo
  have xh := g3.hi
  by_cases hlt : m < d.length
  · have rl4 : r.length ≤ 1 := by
      rw [g4]
      exact dgs_len (k := 1) (by have : (32768 : Nat) ^ 1 = 32768 := rfl
                                 omega)
    have rr : rngI .i64 ((d.length : Int) - 1 - (m : Int) - 1) := rng64 (by omega) (by omega)
    obtain ⟨a, ha⟩ : ∃ a, d.getD (d.length - (m + 1)) 0 = a := ⟨_, rfl⟩
    obtain ⟨x, hx⟩ : ∃ x, a + 32768 * x0 = x := ⟨_, rfl⟩
    obtain ⟨R, hR⟩ : ∃ R, dgs x.toNat = R := ⟨_, rfl⟩
    have ei : ((d.length : Int) - 1 - (m : Int)).toNat = d.length - (m + 1) := by omega
    have hcons : d.getD ((d.length : Int) - 1 - (m : Int)).toNat 0 :: r = a :: dgs x0.toNat := by rw [ei, g4, ha]
    have hdr : d.drop (d.length - (m + 1)) = a :: d.drop (d.length - m) := by
      rw [drop_dg (by omega), dgAt_in (by omega), ha, show d.length - (m + 1) + 1 = d.length - m by omega]
    have hda : 0 ≤ a ∧ a < 32768 := by
      have := b1.dig.drop (d.length - (m + 1))
      rw [hdr] at this
      exact ⟨this.head.lo, this.head.hi⟩
    have hdg : Dig (a :: dgs x0.toNat) := Dig.cons ⟨hda.1, hda.2⟩ (Dig_dgs _)
    have hv : valD (a :: dgs x0.toNat) = x := by
      show a + 32768 * valD (dgs _) = x
      rw [valD_dgs, Int.toNat_of_nonneg xl, hx]
    have hW : valD (d.drop (d.length - (m + 1))) = a + 32768 * valD (d.drop (d.length - m)) := by rw [hdr]; rfl
    obtain ⟨Q, hQ⟩ : ∃ Q, (a + 32768 * x0) / V = Q := ⟨_, rfl⟩
    obtain ⟨qn, Q0, Q1, Q2⟩ := qi_next g3 (by omega) hda hQ.symm
    rw [← hW] at qn
    rw [hx] at qn hQ Q2
    have x1 : 0 ≤ x ∧ x < 32768 * V := by omega
    have htr : trimL (List.take (((fun x => d.getD ((d.length : Int) - 1 - (m : Int)).toNat 0 :: x) ([] : List Int)).length + r.length) (List.drop 0 ((fun x => d.getD ((d.length : Int) - 1 - (m : Int)).toNat 0 :: x) ([] : List Int) ++ r))) = R := by
      have e1 : List.take (((fun x => d.getD ((d.length : Int) - 1 - (m : Int)).toNat 0 :: x) ([] : List Int)).length + r.length) (List.drop 0 ((fun x => d.getD ((d.length : Int) - 1 - (m : Int)).toNat 0 :: x) ([] : List Int) ++ r)) = d.getD ((d.length : Int) - 1 - (m : Int)).toNat 0 :: r := by
        show List.take (1 + r.length) (d.getD ((d.length : Int) - 1 - (m : Int)).toNat 0 :: r) = _
        rw [List.take_of_length_le (by rw [List.length_cons]; omega)]
      rw [e1, hcons, trim_dgs hdg, hv, hR]
    have hst : ShT (List.take (((fun x => d.getD ((d.length : Int) - 1 - (m : Int)).toNat 0 :: x) ([] : List Int)).length + r.length) (List.drop 0 ((fun x => d.getD ((d.length : Int) - 1 - (m : Int)).toNat 0 :: x) ([] : List Int) ++ r))) := by
      refine ⟨?_⟩
      show (List.take (1 + r.length) (d.getD ((d.length : Int) - 1 - (m : Int)).toNat 0 :: r)).length ≤ 4000000
      rw [List.length_take, List.length_cons]; omega
    (repeat' (first | (refine xI (fun hfk => ?_) (fun hfk => ?_) <;> ((try (first | replace hfk := oT hfk | replace hfk := oF hfk | simp only [oA, oB, dh1, dh0, ne_eq, reduceCtorEq] at hfk)); (try (exfalso; first | omega | contradiction | exact xF hfk (by with_reducible assumption) | exact xT hfk (by with_reducible assumption))))) | (refine And.intro ?ob ?_; (case ob => (first | exact Chk.mk (by kernel_rfl) | exact True.intro | with_reducible assumption | exact rng64 (by omega) (by omega) | omega | (dsimp only; omega) | (show (_ : Nat) ≤ _; omega) | (simp only [ll1, ll2, ll0]; first | done | omega) | (dsimp only; simp only [ll1, ll2, ll0]; omega)))) | exact True.intro | (show _ = _; first | with_reducible rfl | with_reducible assumption | omega | (simp only [ll1, ll2, ll0]; omega) | (first | exact hst | skip; done) | exact rfl) | with_reducible assumption | (apply And.intro) | omega | (intro j hj; exact rfl)))
    refine ⟨[(2, .ptr 0 0), (3, .ptr 1 0), (4, .ptr 2 0), (5, .roi .i64 q), (6, .roi .i64 R), (7, .int .i64 (e.length : Int)), (8, .int .i64 T), (9, .int .i64 ((d.length : Int) - 1 - (m : Int)))],
      ⟨3, [(0, some (.cells 49 [.bool false, .roi .i64 d])), (1, some (.cells 49 [.bool false, .roi .i64 e])), (2, some (.cells 49 [.fls, .nils]))]⟩, [some 0, some 1, some 2], ?_, ?_⟩
    · (repeat' (first | (refine And.intro ?_ ?_) | exact True.intro | (show _ = _; with_reducible rfl) | exact Chk.mk (by kernel_rfl)))
      all_goals first | exact htr | rfl
    clear htr hst hv hdg hdr hcons ei hW
    obtain ⟨d2, Rl⟩ := dgAt2 (x := x) x1.1 (by omega)
    rw [hR] at d2 Rl
    have RD : Dig R := by rw [← hR]; exact Dig_dgs _
    have Rv : valD R = x := by rw [← hR, valD_dgs]; omega
    have z1 : dgAt R (e.length : Int) = dgAt R 1 := by rw [h5]; rfl
    have z2 : dgAt R ((e.length : Int) - 1) = dgAt R 0 := by rw [h5]; rfl
    have z3 : dgAt R ((e.length : Int) - 2) = 0 := if_neg (by omega)
    have zb := dgAt_bd RD (e.length : Int)
    have zc := dgAt_bd RD ((e.length : Int) - 1)
    obtain ⟨f, hf⟩ : ∃ f, x * 32768 = f := ⟨_, rfl⟩
    (repeat' (first | (refine xI (fun hfk => ?_) (fun hfk => ?_) <;> ((try (first | replace hfk := oT hfk | replace hfk := oF hfk | simp only [oA, oB, dh1, dh0, ne_eq, reduceCtorEq] at hfk)); (try (exfalso; first | omega | contradiction | exact xF hfk (by with_reducible assumption) | exact xT hfk (by with_reducible assumption))))) | (refine And.intro ?ob ?_; (case ob => (first | exact Chk.mk (by kernel_rfl) | exact True.intro | with_reducible assumption | exact rng64 (by omega) (by omega) | omega | (dsimp only; omega) | (show (_ : Nat) ≤ _; omega) | (simp only [ll1, ll2, ll0]; first | done | omega) | (dsimp only; simp only [ll1, ll2, ll0]; omega)))) | exact True.intro | (show _ = _; first | with_reducible rfl | with_reducible assumption | omega | (simp only [ll1, ll2, ll0]; omega) | (skip; done) | exact rfl) | with_reducible assumption | (apply And.intro) | omega | (intro j hj; exact rfl)))
    refine ⟨[(2, .ptr 0 0), (3, .ptr 1 0), (4, .ptr 2 0), (5, .roi .i64 q), (6, .roi .i64 R), (7, .int .i64 (e.length : Int)), (8, .int .i64 T), (9, .int .i64 ((d.length : Int) - 1 - (m : Int))), (10, .int .i64 f)],
      ⟨3, [(0, some (.cells 49 [.bool false, .roi .i64 d])), (1, some (.cells 49 [.bool false, .roi .i64 e])), (2, some (.cells 49 [.fls, .nils]))]⟩, [some 0, some 1, some 2], ?_, ?_⟩
    · have ef : (dgAt R (e.length : Int) * 32768 + dgAt R ((e.length : Int) - 1)) * 32768 + dgAt R ((e.length : Int) - 2) = f := by rw [z1, z2, z3, d2, hf]; omega
      (repeat' (first | (refine And.intro ?_ ?_) | exact True.intro | (show _ = _; with_reducible rfl) | exact Chk.mk (by kernel_rfl)))
      all_goals first | exact ef | rfl
    clear z1 z2 z3 zb zc d2
    have f0 : 0 ≤ f := by omega
    have l0 : 0 ≤ f.tdiv (T + 1) ∧ f.tdiv (T + 1) ≤ Q := by
      rw [Int.tdiv_eq_ediv_of_nonneg f0]
      refine ⟨Int.ediv_nonneg f0 (by omega), ?_⟩
      have hm : x < (Q + 1) * V := Int.lt_mul_of_ediv_lt (by omega) (by omega)
      have : f / (T + 1) < Q + 1 := Int.ediv_lt_of_lt_mul (by omega) (by
        rw [hTV, Int.mul_add, ← Int.mul_assoc]
        omega)
      omega
    have l1 : Q ≤ min 32767 ((f + 1).tdiv T) := by
      rw [Int.tdiv_eq_ediv_of_nonneg (by omega)]
      have : Q ≤ (f + 1) / T := Int.le_ediv_of_mul_le (by omega) (by
        rw [hTV, ← Int.mul_assoc]
        omega)
      omega
    have l2 : 0 ≤ (f + 1).tdiv T ∧ (f + 1).tdiv T ≤ f + 1 := by
      rw [Int.tdiv_eq_ediv_of_nonneg (by omega)]
      exact ⟨Int.ediv_nonneg (by omega) (by omega), Int.ediv_le_self _ (by omega)⟩
    have dr1 : rngI .i64 (f.tdiv (T + 1)) := rng64 (by omega) (by omega)
    have dr2 : rngI .i64 ((f + 1).tdiv T) := rng64 (by omega) (by omega)
    (repeat' (first | (refine xI (fun hfk => ?_) (fun hfk => ?_) <;> ((try (first | replace hfk := oT hfk | replace hfk := oF hfk | simp only [oA, oB, dh1, dh0, ne_eq, reduceCtorEq] at hfk)); (try (exfalso; first | omega | contradiction | exact xF hfk (by with_reducible assumption) | exact xT hfk (by with_reducible assumption))))) | (refine And.intro ?ob ?_; (case ob => (first | exact Chk.mk (by kernel_rfl) | exact True.intro | with_reducible assumption | exact rng64 (by omega) (by omega) | omega | (dsimp only; omega) | (show (_ : Nat) ≤ _; omega) | (simp only [ll1, ll2, ll0]; first | done | omega) | (dsimp only; simp only [ll1, ll2, ll0]; omega)))) | exact True.intro | (show _ = _; first | with_reducible rfl | with_reducible assumption | omega | (simp only [ll1, ll2, ll0]; omega) | (first | exact dr1 | exact dr2 | skip; done) | exact rfl) | with_reducible assumption | (apply And.intro) | omega | (intro j hj; exact rfl)))
    refine ⟨Int × Int, fun h => [(2, .ptr 0 0), (3, .ptr 1 0), (4, .ptr 2 0), (5, .roi .i64 q), (6, .roi .i64 R), (7, .int .i64 (e.length : Int)), (8, .int .i64 T), (9, .int .i64 ((d.length : Int) - 1 - (m : Int))), (11, .int .i64 h.1), (12, .int .i64 h.2)],
      fun h => ⟨3, [(0, some (.cells 49 [.bool false, .roi .i64 d])), (1, some (.cells 49 [.bool false, .roi .i64 e])), (2, some (.cells 49 [.fls, .nils]))]⟩,
      fun h => 0 ≤ h.1 ∧ h.1 ≤ Q ∧ Q ≤ h.2 ∧ h.2 ≤ 32767, fun h => (h.2 - h.1).toNat, ⟨(f.tdiv (T + 1), min 32767 ((f + 1).tdiv T)), [some 0, some 1, some 2], ⟨l0.1, l0.2, l1, by show min 32767 ((f + 1).tdiv T) ≤ 32767; omega⟩, ?_⟩, fun h hh2 => ?_⟩
    · (repeat' (first | (refine And.intro ?_ ?_) | exact True.intro | (show _ = _; with_reducible rfl) | exact Chk.mk (by kernel_rfl)))
      all_goals rfl
    clear dr1 dr2 l0 l1 l2
    obtain ⟨lo, hi⟩ := h
    obtain ⟨i1, i2, i3, i4⟩ := hh2
    have i1 : 0 ≤ lo := i1
    have i2 : lo ≤ Q := i2
    have i3 : Q ≤ hi := i3
    have i4 : hi ≤ 32767 := i4
    dsimp only
    have be : bzv false e = V := vE
    have shR : Sh R := ⟨by omega⟩
    have hmul : ∀ y : Int, 0 ≤ y → y ≤ 32768 → bzv (decide (y < 0)) (dgs y.natAbs) * bzv false e = y * V ∧ 0 ≤ y * V ∧ y * V ≤ 32768 * V := fun y h0 h1 => by
      rw [bzv_big, be]; exact ⟨rfl, Int.mul_nonneg h0 (by omega), Int.mul_le_mul_of_nonneg_right h1 (by omega)⟩
    have hlen : ∀ z : Int, 0 ≤ z → z ≤ 32768 * V → valD (dgs z.natAbs) = z ∧ Sh (dgs z.natAbs) ∧ Dig (dgs z.natAbs) := fun z h0 h1 => by
      have := dgs_len (k := 3) (n := z.natAbs) (by have : (32768 : Nat) ^ 3 = 35184372088832 := rfl
                                                   omega)
      exact ⟨by rw [valD_dgs]; omega, ⟨by omega⟩, Dig_dgs _⟩
    by_cases hlh : lo < hi
    · obtain ⟨y, hy⟩ : ∃ y, (lo + hi + 1) / 2 = y := ⟨_, rfl⟩
      have m1 : Int.tdiv (lo + hi + 1) 2 = y := by rw [Int.tdiv_eq_ediv_of_nonneg (by omega), hy]
      have y0 : lo < y ∧ y ≤ hi := by omega
      have rm : rngI .i64 (Int.tdiv (lo + hi + 1) 2) := by rw [m1]; exact rng64 (by omega) (by omega)
      (repeat' (first | (refine xI (fun hfk => ?_) (fun hfk => ?_) <;> ((try (first | replace hfk := oT hfk | replace hfk := oF hfk | simp only [oA, oB, dh1, dh0, ne_eq, reduceCtorEq] at hfk)); (try (exfalso; first | omega | contradiction | exact xF hfk (by with_reducible assumption) | exact xT hfk (by with_reducible assumption))))) | (refine And.intro ?ob ?_; (case ob => (first | exact Chk.mk (by kernel_rfl) | exact True.intro | with_reducible assumption | exact rng64 (by omega) (by omega) | omega | (dsimp only; omega) | (show (_ : Nat) ≤ _; omega) | (simp only [ll1, ll2, ll0]; first | done | omega) | (dsimp only; simp only [ll1, ll2, ll0]; omega)))) | exact True.intro | (show _ = _; first | with_reducible rfl | with_reducible assumption | omega | (simp only [ll1, ll2, ll0]; omega) | (first | exact rm | skip; done) | exact rfl) | with_reducible assumption | (apply And.intro) | omega | (intro j hj; exact rfl)))
      refine ⟨[(2, .ptr 0 0), (3, .ptr 1 0), (4, .ptr 2 0), (5, .roi .i64 q), (6, .roi .i64 R), (7, .int .i64 (e.length : Int)), (8, .int .i64 T), (9, .int .i64 ((d.length : Int) - 1 - (m : Int))), (11, .int .i64 lo), (12, .int .i64 hi), (13, .int .i64 y)],
        ⟨3, [(0, some (.cells 49 [.bool false, .roi .i64 d])), (1, some (.cells 49 [.bool false, .roi .i64 e])), (2, some (.cells 49 [.fls, .nils]))]⟩, [some 0, some 1, some 2], ?_, ?_⟩
      · (repeat' (first | (refine And.intro ?_ ?_) | exact True.intro | (show _ = _; with_reducible rfl) | exact Chk.mk (by kernel_rfl)))
        all_goals first | exact m1 | rfl
      clear m1 rm
      obtain ⟨hm1, hm2, hm3⟩ := hmul y (by omega) (by omega)
      obtain ⟨hn1, hn2, hn3⟩ := hlen (y * V) hm2 hm3
      rw [← hm1] at hn1 hn2 hn3
      have B1 : Bg (decide (y < 0)) (dgs y.natAbs) := Bg_i64 (by omega) (by omega)
      by_cases hc : y * V ≤ x
      · have hQy : y ≤ Q := by rw [← hQ]; exact Int.le_ediv_of_mul_le (by omega) hc
        have hcm : cmpV (valD (dgs (bzv (decide (y < 0)) (dgs (Int.natAbs y)) * bzv false e).natAbs)) (valD R) ≤ 0 := by
          rw [hn1, Rv, hm1]; unfold cmpV; split
          · decide
          · rw [if_neg (by omega)]; decide
        clear hmul hlen
        (repeat' (first | (refine xI (fun hfk => ?_) (fun hfk => ?_) <;> ((try (first | replace hfk := oT hfk | replace hfk := oF hfk | simp only [oA, oB, dh1, dh0, ne_eq, reduceCtorEq] at hfk)); (try (exfalso; first | omega | contradiction | exact xF hfk (by with_reducible assumption) | exact xT hfk (by with_reducible assumption))))) | (refine And.intro ?ob ?_; (case ob => (first | exact Chk.mk (by kernel_rfl) | exact True.intro | with_reducible assumption | exact rng64 (by omega) (by omega) | omega | (dsimp only; omega) | (show (_ : Nat) ≤ _; omega) | (simp only [ll1, ll2, ll0]; first | done | omega) | (dsimp only; simp only [ll1, ll2, ll0]; omega)))) | exact True.intro | (show _ = _; first | with_reducible rfl | with_reducible assumption | omega | (simp only [ll1, ll2, ll0]; omega) | (first | exact B1 | exact b2 | exact hn2 | exact hn3 | exact shR | exact RD | skip; done) | exact rfl) | with_reducible assumption | (apply And.intro) | omega | (intro j hj; exact rfl)))
        refine ⟨(y, hi), [some 0, some 1, some 2], ⟨by show 0 ≤ y; omega, hQy, i3, i4⟩, ?mu, ?_⟩
        case mu => (show (hi - y).toNat < (hi - lo).toNat; omega)
        (repeat' (first | (refine And.intro ?_ ?_) | exact True.intro | (show _ = _; with_reducible rfl) | exact Chk.mk (by kernel_rfl)))
        all_goals rfl
      · have hQy : Q < y := by rw [← hQ]; exact Int.ediv_lt_of_lt_mul (by omega) (by omega)
        have hcm : ¬ cmpV (valD (dgs (bzv (decide (y < 0)) (dgs (Int.natAbs y)) * bzv false e).natAbs)) (valD R) ≤ 0 := by
          rw [hn1, Rv, hm1]; unfold cmpV; rw [if_neg (by omega), if_pos (by omega)]; decide
        clear hmul hlen
        (repeat' (first | (refine xI (fun hfk => ?_) (fun hfk => ?_) <;> ((try (first | replace hfk := oT hfk | replace hfk := oF hfk | simp only [oA, oB, dh1, dh0, ne_eq, reduceCtorEq] at hfk)); (try (exfalso; first | omega | contradiction | exact xF hfk (by with_reducible assumption) | exact xT hfk (by with_reducible assumption))))) | (refine And.intro ?ob ?_; (case ob => (first | exact Chk.mk (by kernel_rfl) | exact True.intro | with_reducible assumption | exact rng64 (by omega) (by omega) | omega | (dsimp only; omega) | (show (_ : Nat) ≤ _; omega) | (simp only [ll1, ll2, ll0]; first | done | omega) | (dsimp only; simp only [ll1, ll2, ll0]; omega)))) | exact True.intro | (show _ = _; first | with_reducible rfl | with_reducible assumption | omega | (simp only [ll1, ll2, ll0]; omega) | (first | exact B1 | exact b2 | exact hn2 | exact hn3 | exact shR | exact RD | skip; done) | exact rfl) | with_reducible assumption | (apply And.intro) | omega | (intro j hj; exact rfl)))
        refine ⟨(lo, y - 1), [some 0, some 1, some 2], ⟨i1, i2, by show Q ≤ y - 1; omega, by show y - 1 ≤ 32767; omega⟩, ?mu3, ?_⟩
        case mu3 => (show (y - 1 - lo).toNat < (hi - lo).toNat; omega)
        (repeat' (first | (refine And.intro ?_ ?_) | exact True.intro | (show _ = _; with_reducible rfl) | exact Chk.mk (by kernel_rfl)))
        all_goals rfl
    · have eQ : lo = Q := by omega
      subst eQ
      obtain ⟨hm1, hm2, hm3⟩ := hmul lo (by omega) (by omega)
      obtain ⟨hn1, hn2, hn3⟩ := hlen (lo * V) hm2 hm3
      rw [← hm1] at hn1 hn2 hn3
      have B0 : Bg (decide (lo < 0)) (dgs lo.natAbs) := Bg_i64 (by omega) (by omega)
      have le1 : valD (dgs (bzv (decide (lo < 0)) (dgs (Int.natAbs lo)) * bzv false e).natAbs) ≤ valD R := by rw [hn1, Rv, hm1]; exact Q2
      have hr : dgs (valD R - valD (dgs (bzv (decide (lo < 0)) (dgs (Int.natAbs lo)) * bzv false e).natAbs)).toNat = dgs (x - lo * V).toNat := by rw [hn1, Rv, hm1]
      clear hmul hlen
      (repeat' (first | (refine xI (fun hfk => ?_) (fun hfk => ?_) <;> ((try (first | replace hfk := oT hfk | replace hfk := oF hfk | simp only [oA, oB, dh1, dh0, ne_eq, reduceCtorEq] at hfk)); (try (exfalso; first | omega | contradiction | exact xF hfk (by with_reducible assumption) | exact xT hfk (by with_reducible assumption))))) | (refine And.intro ?ob ?_; (case ob => (first | exact Chk.mk (by kernel_rfl) | exact True.intro | with_reducible assumption | exact rng64 (by omega) (by omega) | omega | (dsimp only; omega) | (show (_ : Nat) ≤ _; omega) | (simp only [ll1, ll2, ll0]; first | done | omega) | (dsimp only; simp only [ll1, ll2, ll0]; omega)))) | exact True.intro | (show _ = _; first | with_reducible rfl | with_reducible assumption | omega | (simp only [ll1, ll2, ll0]; omega) | (first | exact B0 | exact b2 | exact hn2 | exact hn3 | exact le1 | exact shR | exact RD | skip; done) | exact rfl) | with_reducible assumption | (apply And.intro) | omega | (intro j hj; exact rfl)))
      refine ⟨[5], ?_⟩
      (repeat' (first | (refine xI (fun hfk => ?_) (fun hfk => ?_) <;> ((try (first | replace hfk := oT hfk | replace hfk := oF hfk | simp only [oA, oB, dh1, dh0, ne_eq, reduceCtorEq] at hfk)); (try (exfalso; first | omega | contradiction | exact xF hfk (by with_reducible assumption) | exact xT hfk (by with_reducible assumption))))) | (refine And.intro ?ob ?_; (case ob => (first | exact Chk.mk (by kernel_rfl) | exact True.intro | with_reducible assumption | exact rng64 (by omega) (by omega) | omega | (dsimp only; omega) | (show (_ : Nat) ≤ _; omega) | (simp only [ll1, ll2, ll0]; first | done | omega) | (dsimp only; simp only [ll1, ll2, ll0]; omega)))) | exact True.intro | (show _ = _; first | with_reducible rfl | with_reducible assumption | omega | (simp only [ll1, ll2, ll0]; omega) | (skip; done) | exact rfl) | with_reducible assumption | (apply And.intro) | omega | (intro j hj; exact rfl)))
      have q1 : List.take (((fun x => lo :: x) ([] : List Int)).length + q.length) (List.drop 0 ((fun x => lo :: x) ([] : List Int) ++ q)) = lo :: q := by
        show List.take (1 + q.length) (lo :: q) = _
        rw [List.take_of_length_le (by rw [List.length_cons]; omega)]
      refine ⟨[(2, .ptr 0 0), (3, .ptr 1 0), (4, .ptr 2 0), (5, .roi .i64 (lo :: q)), (6, .roi .i64 (dgs (x - lo * V).toNat)), (7, .int .i64 (e.length : Int)), (8, .int .i64 T), (9, .int .i64 ((d.length : Int) - 1 - (m : Int)))],
        ⟨3, [(0, some (.cells 49 [.bool false, .roi .i64 d])), (1, some (.cells 49 [.bool false, .roi .i64 e])), (2, some (.cells 49 [.fls, .nils]))]⟩, [some 0, some 1, some 2], ?_, ?_⟩
      · (repeat' (first | (refine And.intro ?_ ?_) | exact True.intro | (show _ = _; with_reducible rfl) | exact Chk.mk (by kernel_rfl)))
        all_goals first | exact q1 | exact hr | rfl
      clear q1 hr B0 le1 shR
      (repeat' (first | (refine xI (fun hfk => ?_) (fun hfk => ?_) <;> ((try (first | replace hfk := oT hfk | replace hfk := oF hfk | simp only [oA, oB, dh1, dh0, ne_eq, reduceCtorEq] at hfk)); (try (exfalso; first | omega | contradiction | exact xF hfk (by with_reducible assumption) | exact xT hfk (by with_reducible assumption))))) | (refine And.intro ?ob ?_; (case ob => (first | exact Chk.mk (by kernel_rfl) | exact True.intro | with_reducible assumption | exact rng64 (by omega) (by omega) | omega | (dsimp only; omega) | (show (_ : Nat) ≤ _; omega) | (simp only [ll1, ll2, ll0]; first | done | omega) | (dsimp only; simp only [ll1, ll2, ll0]; omega)))) | exact True.intro | (show _ = _; first | with_reducible rfl | with_reducible assumption | omega | (simp only [ll1, ll2, ll0]; omega) | (skip; done) | exact rfl) | with_reducible assumption | (apply And.intro) | omega | (intro j hj; exact rfl)))
      refine ⟨(m + 1, lo :: q, dgs (x - lo * V).toNat, x - lo * V), [some 0, some 1, some 2], ⟨hlt, by show q.length + 1 = m + 1; rw [ql], qn, rfl⟩, ?mu2, ?_⟩
      case mu2 => (show d.length - (m + 1) < d.length - m; omega)
      (repeat' (first | (refine And.intro ?_ ?_) | exact True.intro | (show _ = _; with_reducible rfl) | exact Chk.mk (by kernel_rfl)))
      all_goals first | rfl | (show (_ : Int) = _; omega)
  · obtain rfl : m = d.length := by omega
    have hq := qi_end g3 (by omega)
    rw [Nat.sub_self, List.drop_zero] at hq
    have tz : trimL q = dgs (valD d / V).natAbs := by
      have nn : 0 ≤ valD d / V := Int.ediv_nonneg n1 (by omega)
      rw [trim_dgs g3.dig, hq]; congr 1; omega
    have sq : ShT q := ⟨by omega⟩
    have nn : ¬ valD d / V < 0 := by have : 0 ≤ valD d / V := Int.ediv_nonneg n1 (by omega)
                                     omega
    have eb : bigA (valD d / V) = .agg [.bool false, .roi .i64 (dgs (valD d / V).natAbs)] := by unfold bigA; rw [decide_eq_false nn]
    rw [eb]
    clear eb nn hq
    (repeat' (first | (refine xI (fun hfk => ?_) (fun hfk => ?_) <;> ((try (first | replace hfk := oT hfk | replace hfk := oF hfk | simp only [oA, oB, dh1, dh0, ne_eq, reduceCtorEq] at hfk)); (try (exfalso; first | omega | contradiction | exact xF hfk (by with_reducible assumption) | exact xT hfk (by with_reducible assumption))))) | (refine And.intro ?ob ?_; (case ob => (first | exact Chk.mk (by kernel_rfl) | exact True.intro | with_reducible assumption | exact rng64 (by omega) (by omega) | omega | (dsimp only; omega) | (show (_ : Nat) ≤ _; omega) | (simp only [ll1, ll2, ll0]; first | done | omega) | (dsimp only; simp only [ll1, ll2, ll0]; omega)))) | exact True.intro | (show _ = _; first | with_reducible rfl | with_reducible assumption | omega | (simp only [ll1, ll2, ll0]; omega) | (first | exact sq | exact tz | rfl; done) | exact rfl) | with_reducible assumption | (apply And.intro) | omega | (intro j hj; exact rfl)))
theorem sok_cases {P : Program} {g : FuncId} {s1 s2 s : PSpec} (h1 : SOK P g s1) (h2 : SOK P g s2) (k : ∀ l obs v, s l = some (obs, v) → (∀ p ∈ obs, p) → (∃ obs', s1 l = some (obs', v) ∧ ∀ p ∈ obs', p) ∨ (∃ obs', s2 l = some (obs', v) ∧ ∀ p ∈ obs', p)) : SOK P g s :=
  ⟨h1.1, fun l obs v e ho w O cl h3 h4 => by
    rcases k l obs v e ho with ⟨obs', k1, k2⟩ | ⟨obs', k1, k2⟩
    · exact h1.2 l obs' v k1 k2 w O cl h3 h4
    · exact h2.2 l obs' v k1 k2 w O cl h3 h4⟩
abbrev floorOneS : PSpec := gB2 (fun s d t e => [Bg s d, Bg t e, s = false, t = false, d.length ≤ 1000, e.length = 1]) fun s d t e => bigA (valD d / valD e)
theorem valD_len : ∀ {k : Nat} {l : List Int}, Dig l → l.length ≤ k → valD l < ((32768 ^ k : Nat) : Int)
  | k, [], _, _ => by have : 0 < 32768 ^ k := Nat.pow_pos (by decide)
                      show (0 : Int) < _; omega
  | 0, d :: l, _, h => by simp at h
  | k + 1, d :: l, hd, h => by
    have ih := valD_len (k := k) (l := l) hd.tail (by simpa using h)
    have h2 := hd.head.hi
    show d + 32768 * valD l < _
    rw [Nat.pow_succ, Int.natCast_mul]
    have : ((32768 : Nat) : Int) = 32768 := rfl
    rw [this]
    omega
theorem floorOne_s : SOK Tryd.prog 39 floorOneS := by
  refine sok_cases floor_s floor1_s fun l obs v h ho => ?_
  unfold floorOneS at h
  (unfold gB2 at h; split at h; rotate_left; (focus (cases h)); rename_i s d t e; simp only [Option.some.injEq, Prod.mk.injEq] at h; obtain ⟨rfl, rfl⟩ := h; simp only [List.mem_cons, List.not_mem_nil, or_false, forall_eq_or_imp, forall_eq, false_implies, implies_true] at ho)
  obtain ⟨b1, b2, h3, h4, h5, h6⟩ := ho
  by_cases k : d.length ≤ 4
  · left
    have v1 := valD_len b1.dig k
    have v2 := valD_len (k := 1) b2.dig (by omega)
    have z : 0 < valD e := by
      have hz : valD e ≠ 0 := fun k => by have := b2.can; rw [k] at this; rw [show (0 : Int).toNat = 0 from rfl, dgs_0] at this; rw [← this] at h6; simp at h6
      have := valD_nn b2.dig
      omega
    rw [show ((32768 ^ 4 : Nat) : Int) = 1152921504606846976 from rfl] at v1
    rw [show ((32768 ^ 1 : Nat) : Int) = 32768 from rfl] at v2
    refine ⟨_, rfl, ?_⟩
    intro p hp
    simp only [List.mem_cons, List.not_mem_nil, or_false] at hp
    rcases hp with rfl | rfl | rfl | rfl | rfl | rfl | rfl
    · exact b1
    · exact b2
    · exact h3
    · exact h4
    · exact v1
    · exact z
    · omega
  · right
    refine ⟨_, rfl, ?_⟩
    intro p hp
    simp only [List.mem_cons, List.not_mem_nil, or_false] at hp
    rcases hp with rfl | rfl | rfl | rfl | rfl | rfl | rfl
    · exact b1
    · exact b2
    · exact h3
    · exact h4
    · omega
    · exact h5
    · exact h6
end Go.Proofs.YtocboijpmmlegaaDoor
namespace Go.Proofs.YtocboijpmmlegaaDoor
open Go Go.RowKit
def dstr (T : TypeId → Option TI) (o : Op) (e : Env) (H : AH) : DR := match o with
  | .convert s d x => (match tdq T s, tdq T d, evA e x with
    | .slice es, .str, some v => (match tdq T es, intsOfA H .u8 v with
      | .int .u8, some (obs, l) => some (obs, .str (l.map fun n => UInt8.ofNat n.toNat), [], H.nx)
      | _, _ => none)
    | .str, .slice el, some (.str z) => (match tdq T el with
      | .int .u8 => some ([z.length ≤ 140737488355328], .sl H.nx 1 0 z.length, [(H.nx, some (.ints el .u8 (z.map fun c => (c.toNat : Int))))], H.nx + 1)
      | _ => none)
    | _, _, _ => none)
  | _ => none
def dX5 (T : TypeId → Option TI) (o : Op) (e : Env) (H : AH) : DR := match dstr T o e H with | some r => some r | none => dX4 T o e H
theorem dstr_congr {T : TypeId → Option TI} {o : Op} {e e' : Env} {H : AH} (h : ∀ x ∈ o.operands.toList, evA e x = evA e' x) : dstr T o e H = dstr T o e' H := by
  unfold dstr
  split
  · rename_i s d x
    rw [h x (by simp [Op.operands])]
  · rfl
theorem copyok5 {C : Ctx} (hC : C.X = xop4 C.T) (hD : C.DX = dX5 C.T) : CopyOK C := by
  have c4 := copyok4 (C := { C with X := xop4 C.T, DX := dX4 C.T }) rfl rfl
  refine ⟨fun o e e' H h => by
    have := c4.congr o e e' H h
    rw [hD]; unfold dX5; rw [dstr_congr h]
    show _ = (match dstr C.T o e' H with | some r => some r | none => dX4 C.T o e' H)
    rw [show dX4 C.T o e H = dX4 C.T o e' H from this], ?_⟩
  intro o e H obs v δ nx K h ho hK
  rw [hC]
  rw [hD] at h
  unfold dX5 at h
  split at h
  · rename_i r hr
    cases h
    unfold dstr at hr
    split at hr
    · rename_i s d x
      split at hr
      · rename_i es u hs hd hx
        split at hr
        · rename_i obs' l he hi
          cases hr
          have hb : rowB C.T (.convert s d x) e H = false := by
            unfold rowB
            simp only [hs, hd, hx]
          show xop4 C.T _ e H K
          unfold xop4
          rw [hb]
          show xop2 C.T _ e H K
          unfold xop2
          simp only [xsB2]
          unfold xop
          simp only [hx]
          unfold aconvX
          simp only [hs, hd, he, hi]
          exact obl_intro ho hK
        · cases hr
      · rename_i el z hs hd hx
        split at hr
        · rename_i he
          cases hr
          have hb : rowB C.T (.convert s d x) e H = true := by
            unfold rowB
            simp only [hs, hd, hx]
          show xop4 C.T _ e H K
          unfold xop4
          rw [hb]
          show rowX C.T _ e H K
          unfold rowX
          simp only [hx]
          unfold convS
          simp only [hs, hd, he]
          exact ⟨ho _ (by simp), hK⟩
        · cases hr
      · cases hr
    · cases hr
  · exact c4.out o e H obs v δ nx K h ho hK
noncomputable def mkT (p : Nat) (S : List (FuncId × PSpec)) (G : FuncId → Option GSpec) (D0 D : List (FuncId × FSpec)) (cuts : List Nat) : Ctx := ⟨p, tlook tt, slook S, dG (D0 ++ D) G, xsE (tlook tt), xop4 (tlook tt), fun i => cuts.any (Nat.beq i), dXD (D0 ++ D), dXN0 D0 D, dX5 (tlook tt)⟩
theorem mkT_ok {p : Nat} {S : List (FuncId × PSpec)} {G : FuncId → Option GSpec} {D0 D : List (FuncId × FSpec)} {cuts : List Nat} (hS : POK Tryd.prog (slook S)) (hG : ∀ g s, G g = some s → GSOK Tryd.prog g s) (hD : ∀ g FS, dlook (D0 ++ D) g = some FS → GSOK Tryd.prog g (fG FS)) : COK Tryd.prog (mkT p S G D0 D cuts) :=
  ⟨ttok, hS, gok_of ttok (xok4 ttok rfl) (fun g s h => by
    simp only [mkT, dG] at h
    split at h
    · rename_i FS hd
      cases h
      exact hD g FS hd
    · exact hG g s h), dok_of (D0 ++ D), copyok5 rfl rfl⟩
end Go.Proofs.YtocboijpmmlegaaDoor
namespace Go.Proofs.YtocboijpmmlegaaDoor
open Go Go.RowKit
set_option maxHeartbeats 4000000
theorem dec_step {n : Nat} (h : 0 < n) (s : List UInt8) : (if n < 10 then [] else Lib.decDigits (n / 10)) ++ (UInt8.ofNat (48 + n % 10) :: s) = Lib.decDigits n ++ s := by
  by_cases k : n < 10
  · rw [if_pos k, Lib.decDigits_one k, Nat.mod_eq_of_lt k]; rfl
  · rw [if_neg k]
    conv => rhs; rw [Lib.decDigits, dif_neg k]
    simp
structure TxI (N n : Nat) (s : List UInt8) : Prop where
  le : n ≤ N
  pos : 0 < n → Lib.decDigits n ++ s = Lib.decDigits N
  nil : n = 0 → s = if N = 0 then [] else Lib.decDigits N
theorem tx_0 (N : Nat) : TxI N N [] := ⟨Nat.le_refl _, fun _ => List.append_nil _, fun h => by rw [h]; rfl⟩
theorem tx_next {N n : Nat} {s : List UInt8} (h : TxI N n s) (hn : 0 < n) : TxI N (n / 10) (UInt8.ofNat (48 + n % 10) :: s) := by
  have hN := h.le
  have hp := h.pos hn
  rw [← dec_step hn] at hp
  refine ⟨by omega, fun k => ?_, fun k => ?_⟩
  · rw [if_neg (by omega)] at hp; exact hp
  · rw [if_pos (by omega)] at hp; rw [if_neg (by omega)]; exact hp
theorem tx_len {N n : Nat} {s : List UInt8} (h : TxI N n s) (hN : N < 10 ^ 20) : s.length ≤ 20 := by
  have hl : (Lib.decDigits N).length ≤ 20 := by rw [Lib.decDigits_length]; exact nD_le 19 N hN
  by_cases k : n = 0
  · rw [h.nil k]; split
    · exact Nat.zero_le _
    · exact hl
  · rw [← h.pos (by omega), List.length_append] at hl; omega
structure TxOK (d : List Int) : Prop where
  lt : valD d < 18446744073709551616
theorem len_i64' {n : Nat} (h : n ≤ 1000) : ((n : Nat) : Int) ≤ IntKind.i64.max := by
  show (n : Int) ≤ 9223372036854775807
  omega
theorem Bg_nat {n : Nat} (h : n < 37778931862957161709568) : Bg false (dgs n) :=
  ⟨Dig_dgs _, by rw [valD_dgs, Int.toNat_natCast], ⟨by
    have := dgs_len (k := 5) (n := n) (by have : (32768 : Nat) ^ 5 = 37778931862957161709568 := rfl
                                          omega)
    omega⟩, fun k => by cases k⟩
theorem Bg10 : Bg (decide ((10 : Int) < 0)) (dgs (Int.natAbs 10)) := Bg_i64 (by omega) (by omega)
theorem val10 : valD (dgs (Int.natAbs 10)) = 10 := by rw [valD_dgs]; rfl
theorem bzv10 : bzv (decide ((10 : Int) < 0)) (dgs (Int.natAbs 10)) = 10 := bzv_big 10
def txV (s : Bool) (d : List Int) : List UInt8 := Lib.itoa (bzv s d)
abbrev textS : PSpec := gB1 (fun s d => [Bg s d, TxOK d]) fun s d => .str (txV s d)
theorem text_s : SOK Tryd.prog 24 textS := by
  refine sok_of (C := mkT 0 [(25, ofS), (39, fun l => floorOneS (l.map fzA)), (42, fun l => mulS (l.map fzA)), (41, fun l => subS (l.map fzA)), (40, unsignedS)] noG [] [] [2, 4, 5])
    (mkT_ok (pok_cons of_s (pok_cons (sok_fz floorOne_s) (pok_cons (sok_fz mul_s) (pok_cons (sok_fz sub_s) (pok_cons unsigned_s pok_nil))))) noG_ok dl_nil) rfl mixed ⟨Tryd.func24, by kernel_rfl, by kernel_rfl, by kernel_rfl⟩ fun l obs v h ho => ?_
  unfold textS at h
  (unfold gB1 at h; split at h; rotate_left; (focus (cases h)); rename_i sg d; simp only [Option.some.injEq, Prod.mk.injEq] at h; obtain ⟨rfl, rfl⟩ := h; simp only [List.mem_cons, List.not_mem_nil, or_false, forall_eq_or_imp, forall_eq, false_implies, implies_true] at ho)
  obtain ⟨b1, hok⟩ := ho
  have hlt := hok.lt
  have n1 := valD_nn b1.dig
  obtain ⟨N, hN⟩ : ∃ N : Nat, valD d = N := ⟨(valD d).toNat, by omega⟩
  have hd : d = dgs N := by rw [b1.dg, hN, Int.toNat_natCast]
  refine ⟨Nat.le_of_ble_eq_true rfl, ?_⟩
  (repeat' (first | (refine xI (fun hfk => ?_) (fun hfk => ?_) <;> ((try (first | replace hfk := oT hfk | replace hfk := oF hfk | simp only [oA, oB, dh1, dh0, ne_eq, reduceCtorEq] at hfk)); (try (exfalso; first | omega | contradiction | exact xF hfk (by with_reducible assumption) | exact xT hfk (by with_reducible assumption))))) | (refine And.intro ?ob ?_; (case ob => (first | exact Chk.mk (by kernel_rfl) | exact True.intro | with_reducible assumption | exact rng64 (by omega) (by omega) | omega | (dsimp only; omega) | (show (_ : Nat) ≤ _; omega) | (simp only [ll1, ll2, ll0]; first | done | omega) | (dsimp only; simp only [ll1, ll2, ll0]; omega)))) | exact True.intro | (show _ = _; first | with_reducible rfl | with_reducible assumption | omega | (simp only [ll1, ll2, ll0]; omega) | (skip; done) | exact rfl) | with_reducible assumption | (apply And.intro) | omega | (intro j hj; exact rfl)))
  refine ⟨[(1, .ptr 0 0), (2, .str []), (3, .str []), (4, .ptr 1 0)],
    ⟨2, [(0, some (.cells 49 [.bool sg, .roi .i64 d])), (1, some (.cells 49 [.bool false, .roi .i64 (dgs N)]))]⟩, [some 0, some 1], ?_, ?_⟩
  · (repeat' (first | (refine And.intro ?_ ?_) | exact True.intro | (show _ = _; with_reducible rfl) | exact Chk.mk (by kernel_rfl)))
    all_goals first | exact hd | rfl
  (repeat' (first | (refine xI (fun hfk => ?_) (fun hfk => ?_) <;> ((try (first | replace hfk := oT hfk | replace hfk := oF hfk | simp only [oA, oB, dh1, dh0, ne_eq, reduceCtorEq] at hfk)); (try (exfalso; first | omega | contradiction | exact xF hfk (by with_reducible assumption) | exact xT hfk (by with_reducible assumption))))) | (refine And.intro ?ob ?_; (case ob => (first | exact Chk.mk (by kernel_rfl) | exact True.intro | with_reducible assumption | exact rng64 (by omega) (by omega) | omega | (dsimp only; omega) | (show (_ : Nat) ≤ _; omega) | (simp only [ll1, ll2, ll0]; first | done | omega) | (dsimp only; simp only [ll1, ll2, ll0]; omega)))) | exact True.intro | (show _ = _; first | with_reducible rfl | with_reducible assumption | omega | (simp only [ll1, ll2, ll0]; omega) | (skip; done) | exact rfl) | with_reducible assumption | (apply And.intro) | omega | (intro j hj; exact rfl)))
  refine ⟨Nat × List UInt8, fun g => [(1, .ptr 0 0), (2, .str []), (3, .str g.2), (4, .ptr 1 0)], fun g => ⟨2, [(0, some (.cells 49 [.bool sg, .roi .i64 d])), (1, some (.cells 49 [.bool false, .roi .i64 (dgs g.1)]))]⟩,
    fun g => TxI N g.1 g.2, fun g => g.1, ⟨(N, []), [some 0, some 1], tx_0 N, ?_⟩, fun g hg => ?_⟩
  · (repeat' (first | (refine And.intro ?_ ?_) | exact True.intro | (show _ = _; with_reducible rfl) | exact Chk.mk (by kernel_rfl)))
    all_goals rfl
  obtain ⟨n, s⟩ := g
  have hg : TxI N n s := hg
  dsimp only
  have hle := hg.le
  by_cases hn : n = 0
  · have hs := hg.nil hn
    subst hn
    have l0 : (dgs 0).length = 0 := by rw [dgs_0]; rfl
    by_cases hN0 : N = 0
    · rw [if_pos hN0] at hs
      subst hs
      have e : txV sg d = [48] := by
        unfold txV bzv
        rw [hN, hN0]
        have : (if sg = true then -((0 : Nat) : Int) else ((0 : Nat) : Int)) = ((0 : Nat) : Int) := by split <;> rfl
        rw [this, Lib.itoa_nonneg, Lib.decDigits_one (by decide)]; rfl
      (repeat' (first | (refine xI (fun hfk => ?_) (fun hfk => ?_) <;> ((try (first | replace hfk := oT hfk | replace hfk := oF hfk | simp only [oA, oB, dh1, dh0, ne_eq, reduceCtorEq] at hfk)); (try (exfalso; first | omega | contradiction | exact xF hfk (by with_reducible assumption) | exact xT hfk (by with_reducible assumption))))) | (refine And.intro ?ob ?_; (case ob => (first | exact Chk.mk (by kernel_rfl) | exact True.intro | with_reducible assumption | exact rng64 (by omega) (by omega) | omega | (dsimp only; omega) | (show (_ : Nat) ≤ _; omega) | (simp only [ll1, ll2, ll0]; first | done | omega) | (dsimp only; simp only [ll1, ll2, ll0]; omega)))) | exact True.intro | (show _ = _; first | with_reducible rfl | with_reducible assumption | omega | (simp only [ll1, ll2, ll0]; omega) | (exact e.symm; done) | exact rfl) | with_reducible assumption | (apply And.intro) | omega | (intro j hj; exact rfl)))
    · rw [if_neg hN0] at hs
      subst hs
      have hp := nD_pos N
      have hl := Lib.decDigits_length N
      have ne : ¬ Lib.decDigits N = [] := fun k => by rw [k] at hl; simp at hl; omega
      have l20 : (Lib.decDigits N).length ≤ 20 := by rw [hl]; exact nD_le 19 N (by omega)
      cases sg with
      | true =>
        have e : txV true d = 45 :: Lib.decDigits N := by
          unfold txV bzv
          rw [if_pos rfl, hN, Lib.itoa_neg N (by omega)]
        have q1 : (ByteArray.mk #[45]).data.toList.length = 1 := rfl
        have q2 : ((((ByteArray.mk #[45]).data.toList.length + (Lib.decDigits N).length : Nat)) : Int) ≤ IntKind.i64.max := len_i64' (by omega)
        (repeat' (first | (refine xI (fun hfk => ?_) (fun hfk => ?_) <;> ((try (first | replace hfk := oT hfk | replace hfk := oF hfk | simp only [oA, oB, dh1, dh0, ne_eq, reduceCtorEq] at hfk)); (try (exfalso; first | omega | contradiction | exact xF hfk (by with_reducible assumption) | exact xT hfk (by with_reducible assumption))))) | (refine And.intro ?ob ?_; (case ob => (first | exact Chk.mk (by kernel_rfl) | exact True.intro | with_reducible assumption | exact rng64 (by omega) (by omega) | omega | (dsimp only; omega) | (show (_ : Nat) ≤ _; omega) | (simp only [ll1, ll2, ll0]; first | done | omega) | (dsimp only; simp only [ll1, ll2, ll0]; omega)))) | exact True.intro | (show _ = _; first | with_reducible rfl | with_reducible assumption | omega | (simp only [ll1, ll2, ll0]; omega) | (first | exact e.symm | exact q2; done) | exact rfl) | with_reducible assumption | (apply And.intro) | omega | (intro j hj; exact rfl)))
      | false =>
        have e : txV false d = Lib.decDigits N := by
          unfold txV bzv
          rw [if_neg (by decide), hN, Lib.itoa_nonneg]
        (repeat' (first | (refine xI (fun hfk => ?_) (fun hfk => ?_) <;> ((try (first | replace hfk := oT hfk | replace hfk := oF hfk | simp only [oA, oB, dh1, dh0, ne_eq, reduceCtorEq] at hfk)); (try (exfalso; first | omega | contradiction | exact xF hfk (by with_reducible assumption) | exact xT hfk (by with_reducible assumption))))) | (refine And.intro ?ob ?_; (case ob => (first | exact Chk.mk (by kernel_rfl) | exact True.intro | with_reducible assumption | exact rng64 (by omega) (by omega) | omega | (dsimp only; omega) | (show (_ : Nat) ≤ _; omega) | (simp only [ll1, ll2, ll0]; first | done | omega) | (dsimp only; simp only [ll1, ll2, ll0]; omega)))) | exact True.intro | (show _ = _; first | with_reducible rfl | with_reducible assumption | omega | (simp only [ll1, ll2, ll0]; omega) | (exact e.symm; done) | exact rfl) | with_reducible assumption | (apply And.intro) | omega | (intro j hj; exact rfl)))
  · have hn0 : 0 < n := by omega
    have hnx := tx_next hg hn0
    have ls := tx_len hg (by omega)
    have l1 : 0 < ((dgs n).length : Int) := dgs_len0.2 hn0
    have vn : valD (dgs n) = n := valD_dgs n
    have BN : Bg false (dgs n) := Bg_nat (by omega)
    have B10 := Bg10
    have v10 := val10
    have f10 : decide ((10 : Int) < 0) = false := rfl
    have l10 : (dgs (Int.natAbs 10)).length = 1 := by rw [show Int.natAbs 10 = 10 from rfl, dgs_pos (by decide), show 10 / 32768 = 0 from rfl, dgs_0]; rfl
    have l5 : (dgs n).length ≤ 1000 := by
      have := dgs_len (k := 5) (n := n) (by have : (32768 : Nat) ^ 5 = 37778931862957161709568 := rfl
                                            omega)
      omega
    (repeat' (first | (refine xI (fun hfk => ?_) (fun hfk => ?_) <;> ((try (first | replace hfk := oT hfk | replace hfk := oF hfk | simp only [oA, oB, dh1, dh0, ne_eq, reduceCtorEq] at hfk)); (try (exfalso; first | omega | contradiction | exact xF hfk (by with_reducible assumption) | exact xT hfk (by with_reducible assumption))))) | (refine And.intro ?ob ?_; (case ob => (first | exact Chk.mk (by kernel_rfl) | exact True.intro | with_reducible assumption | exact rng64 (by omega) (by omega) | omega | (dsimp only; omega) | (show (_ : Nat) ≤ _; omega) | (simp only [ll1, ll2, ll0]; first | done | omega) | (dsimp only; simp only [ll1, ll2, ll0]; omega)))) | exact True.intro | (show _ = _; first | with_reducible rfl | with_reducible assumption | omega | (simp only [ll1, ll2, ll0]; omega) | (first | exact BN | exact B10 | exact f10; done) | exact rfl) | with_reducible assumption | (apply And.intro) | omega | (intro j hj; exact rfl)))
    refine ⟨[(1, .ptr 0 0), (2, .str []), (3, .str s), (4, .ptr 1 0), (5, .ptr 2 0)],
      ⟨3, [(0, some (.cells 49 [.bool sg, .roi .i64 d])), (1, some (.cells 49 [.bool false, .roi .i64 (dgs n)])), (2, some (.cells 49 [.bool false, .roi .i64 (dgs (n / 10))]))]⟩, [some 0, some 1, some 2], ?_, ?_⟩
    · have eq : valD (dgs n) / valD (dgs (Int.natAbs 10)) = ((n / 10 : Nat) : Int) := by rw [vn, v10]; rfl
      have e1 : decide (valD (dgs n) / valD (dgs (Int.natAbs 10)) < 0) = false := by rw [eq]; exact decide_eq_false (by omega)
      have e2 : dgs (valD (dgs n) / valD (dgs (Int.natAbs 10))).natAbs = dgs (n / 10) := by rw [eq, Int.natAbs_natCast]
      (repeat' (first | (refine And.intro ?_ ?_) | exact True.intro | (show _ = _; with_reducible rfl) | exact Chk.mk (by kernel_rfl)))
      all_goals first | exact e1 | exact e2 | rfl
    have BQ : Bg false (dgs (n / 10)) := Bg_nat (by omega)
    have vq : bzv false (dgs (n / 10)) = (n / 10 : Nat) := valD_dgs _
    have vn' : bzv false (dgs n) = n := valD_dgs _
    have v10' := bzv10
    have em : bzv false (dgs (n / 10)) * bzv (decide ((10 : Int) < 0)) (dgs (Int.natAbs 10)) = ((n / 10 * 10 : Nat) : Int) := by rw [vq, v10']; omega
    have BM : Bg (decide (bzv false (dgs (n / 10)) * bzv (decide ((10 : Int) < 0)) (dgs (Int.natAbs 10)) < 0)) (dgs (bzv false (dgs (n / 10)) * bzv (decide ((10 : Int) < 0)) (dgs (Int.natAbs 10))).natAbs) := by
      rw [em, decide_eq_false (by omega), Int.natAbs_natCast]; exact Bg_nat (by omega)
    have es : (bzv false (dgs n) - bzv (decide (bzv false (dgs (n / 10)) * bzv (decide ((10 : Int) < 0)) (dgs (Int.natAbs 10)) < 0)) (dgs (bzv false (dgs (n / 10)) * bzv (decide ((10 : Int) < 0)) (dgs (Int.natAbs 10))).natAbs)) = ((n % 10 : Nat) : Int) := by rw [bzv_big, em, vn']; omega
    have BS : Bg (decide ((bzv false (dgs n) - bzv (decide (bzv false (dgs (n / 10)) * bzv (decide ((10 : Int) < 0)) (dgs (Int.natAbs 10)) < 0)) (dgs (bzv false (dgs (n / 10)) * bzv (decide ((10 : Int) < 0)) (dgs (Int.natAbs 10))).natAbs)) < 0)) (dgs (bzv false (dgs n) - bzv (decide (bzv false (dgs (n / 10)) * bzv (decide ((10 : Int) < 0)) (dgs (Int.natAbs 10)) < 0)) (dgs (bzv false (dgs (n / 10)) * bzv (decide ((10 : Int) < 0)) (dgs (Int.natAbs 10))).natAbs)).natAbs) := by
      rw [es, decide_eq_false (by omega), Int.natAbs_natCast]; exact Bg_nat (by omega)
    have vs : valD (dgs (bzv false (dgs n) - bzv (decide (bzv false (dgs (n / 10)) * bzv (decide ((10 : Int) < 0)) (dgs (Int.natAbs 10)) < 0)) (dgs (bzv false (dgs (n / 10)) * bzv (decide ((10 : Int) < 0)) (dgs (Int.natAbs 10))).natAbs)).natAbs) = ((n % 10 : Nat) : Int) := by rw [es, Int.natAbs_natCast, valD_dgs]
    have vs2 : valD (dgs (bzv false (dgs n) - bzv (decide (bzv false (dgs (n / 10)) * bzv (decide ((10 : Int) < 0)) (dgs (Int.natAbs 10)) < 0)) (dgs (bzv false (dgs (n / 10)) * bzv (decide ((10 : Int) < 0)) (dgs (Int.natAbs 10))).natAbs)).natAbs) < 18446744073709551616 := by omega
    have hL : (List.map (fun n : Int => UInt8.ofNat n.toNat) (List.take 1 (List.drop 0 ((fun x => (IntKind.u8.wrap (IntKind.u64.wrap (48 + valD (dgs (bzv false (dgs n) - bzv (decide (bzv false (dgs (n / 10)) * bzv (decide ((10 : Int) < 0)) (dgs (Int.natAbs 10)) < 0)) (dgs (bzv false (dgs (n / 10)) * bzv (decide ((10 : Int) < 0)) (dgs (Int.natAbs 10))).natAbs)).natAbs)))) :: x) ([] : List Int))))) = [UInt8.ofNat (48 + n % 10)] := by
      rw [vs]
      have w1 : IntKind.u64.wrap (48 + ((n % 10 : Nat) : Int)) = ((48 + n % 10 : Nat) : Int) := by rw [u64_id (by omega) (by omega)]; omega
      have w2 : IntKind.u8.wrap ((48 + n % 10 : Nat) : Int) = ((48 + n % 10 : Nat) : Int) := wrap_rng ⟨by show (0 : Int) ≤ _; omega, by show _ ≤ (255 : Int); omega⟩
      rw [w1, w2]; rfl
    have hl2 : ((((List.map (fun n : Int => UInt8.ofNat n.toNat) (List.take 1 (List.drop 0 ((fun x => (IntKind.u8.wrap (IntKind.u64.wrap (48 + valD (dgs (bzv false (dgs n) - bzv (decide (bzv false (dgs (n / 10)) * bzv (decide ((10 : Int) < 0)) (dgs (Int.natAbs 10)) < 0)) (dgs (bzv false (dgs (n / 10)) * bzv (decide ((10 : Int) < 0)) (dgs (Int.natAbs 10))).natAbs)).natAbs)))) :: x) ([] : List Int))))).length + s.length : Nat)) : Int) ≤ IntKind.i64.max := by
      rw [hL]; exact len_i64' (by show 1 + s.length ≤ 1000; omega)
    (repeat' (first | (refine xI (fun hfk => ?_) (fun hfk => ?_) <;> ((try (first | replace hfk := oT hfk | replace hfk := oF hfk | simp only [oA, oB, dh1, dh0, ne_eq, reduceCtorEq] at hfk)); (try (exfalso; first | omega | contradiction | exact xF hfk (by with_reducible assumption) | exact xT hfk (by with_reducible assumption))))) | (refine And.intro ?ob ?_; (case ob => (first | exact Chk.mk (by kernel_rfl) | exact True.intro | with_reducible assumption | exact rng64 (by omega) (by omega) | omega | (dsimp only; omega) | (show (_ : Nat) ≤ _; omega) | (simp only [ll1, ll2, ll0]; first | done | omega) | (dsimp only; simp only [ll1, ll2, ll0]; omega)))) | exact True.intro | (show _ = _; first | with_reducible rfl | with_reducible assumption | omega | (simp only [ll1, ll2, ll0]; omega) | (first | exact BN | exact B10 | exact BQ | exact BM | exact BS | exact vs2 | exact hl2; done) | exact rfl) | with_reducible assumption | (apply And.intro) | omega | (intro j hj; exact rfl)))
    refine ⟨[(1, .ptr 0 0), (2, .str []), (3, .str (UInt8.ofNat (48 + n % 10) :: s)), (4, .ptr 1 0), (5, .ptr 2 0)],
      ⟨3, [(0, some (.cells 49 [.bool sg, .roi .i64 d])), (1, some (.cells 49 [.bool false, .roi .i64 (dgs n)])), (2, some (.cells 49 [.bool false, .roi .i64 (dgs (n / 10))]))]⟩, [some 0, some 1, some 2], ?_, ?_⟩
    · have e3 : (List.map (fun n : Int => UInt8.ofNat n.toNat) (List.take 1 (List.drop 0 ((fun x => (IntKind.u8.wrap (IntKind.u64.wrap (48 + valD (dgs (bzv false (dgs n) - bzv (decide (bzv false (dgs (n / 10)) * bzv (decide ((10 : Int) < 0)) (dgs (Int.natAbs 10)) < 0)) (dgs (bzv false (dgs (n / 10)) * bzv (decide ((10 : Int) < 0)) (dgs (Int.natAbs 10))).natAbs)).natAbs)))) :: x) ([] : List Int))))) ++ s = UInt8.ofNat (48 + n % 10) :: s := by rw [hL]; rfl
      (repeat' (first | (refine And.intro ?_ ?_) | exact True.intro | (show _ = _; with_reducible rfl) | exact Chk.mk (by kernel_rfl)))
      all_goals first | exact e3 | rfl
    clear hL hl2 vs2 vs BS es BM em
    (repeat' (first | (refine xI (fun hfk => ?_) (fun hfk => ?_) <;> ((try (first | replace hfk := oT hfk | replace hfk := oF hfk | simp only [oA, oB, dh1, dh0, ne_eq, reduceCtorEq] at hfk)); (try (exfalso; first | omega | contradiction | exact xF hfk (by with_reducible assumption) | exact xT hfk (by with_reducible assumption))))) | (refine And.intro ?ob ?_; (case ob => (first | exact Chk.mk (by kernel_rfl) | exact True.intro | with_reducible assumption | exact rng64 (by omega) (by omega) | omega | (dsimp only; omega) | (show (_ : Nat) ≤ _; omega) | (simp only [ll1, ll2, ll0]; first | done | omega) | (dsimp only; simp only [ll1, ll2, ll0]; omega)))) | exact True.intro | (show _ = _; first | with_reducible rfl | with_reducible assumption | omega | (simp only [ll1, ll2, ll0]; omega) | (skip; done) | exact rfl) | with_reducible assumption | (apply And.intro) | omega | (intro j hj; exact rfl)))
    refine ⟨(n / 10, UInt8.ofNat (48 + n % 10) :: s), [some 0, some 1], hnx, ?mu, ?_⟩
    case mu => (show n / 10 < n; omega)
    (repeat' (first | (refine And.intro ?_ ?_) | exact True.intro | (show _ = _; with_reducible rfl) | exact Chk.mk (by kernel_rfl)))
    all_goals rfl
end Go.Proofs.YtocboijpmmlegaaDoor
namespace Go.Proofs.YtocboijpmmlegaaDoor
open Go Go.RowKit
set_option maxHeartbeats 4000000
theorem txV_big (z : Int) : txV (decide (z < 0)) (dgs z.natAbs) = Lib.itoa z := by unfold txV; rw [bzv_big]
structure TxZ (z : Int) : Prop where
  lo : -9223372036854775808 ≤ z
  hi : z ≤ 9223372036854775807
theorem TxZ.ok {z : Int} (h : TxZ z) : TxOK (dgs z.natAbs) := ⟨by have := h.lo; have := h.hi; rw [valD_dgs]; omega⟩
theorem TxZ.bg {z : Int} (h : TxZ z) : Bg (decide (z < 0)) (dgs z.natAbs) := by have := h.lo; have := h.hi; exact Bg_i64 (by omega) (by omega)
abbrev rheadS : PSpec := fun l => match l with | [.int .i64 w, .int .i64 h, .int .i64 c] => some ([TxZ w, TxZ h], .str (hdS w h c)) | _ => none
theorem rhead15_s : SOK Tryd.prog 11 rheadS := by
  refine sok_of (C := mkC 0 [(25, ofS), (24, textS)] noG) (mkC_ok (pok_cons of_s (pok_cons text_s pok_nil)) noG_ok) rfl mixed ⟨Tryd.func11, by kernel_rfl, by kernel_rfl, by kernel_rfl⟩ fun l obs v h ho => ?_
  (unfold rheadS at h; split at h; rotate_left; (focus (cases h)); rename_i w hh c; simp only [Option.some.injEq, Prod.mk.injEq] at h; obtain ⟨rfl, rfl⟩ := h; simp only [List.mem_cons, List.not_mem_nil, or_false, forall_eq_or_imp, forall_eq, false_implies, implies_true] at ho)
  obtain ⟨tw, th⟩ := ho
  refine ⟨Nat.le_of_ble_eq_true rfl, ?_⟩
  have w0 := tw.lo
  have w1 := tw.hi
  have h0 := th.lo
  have h1 := th.hi
  have bw := tw.bg
  have bh := th.bg
  have ow := tw.ok
  have oh := th.ok
  have vw := txV_big w
  have vh := txV_big hh
  have lw := itoa_len (x := w) (by omega) (by omega)
  have lh := itoa_len (x := hh) (by omega) (by omega)
  rw [← vw] at lw
  rw [← vh] at lh
  unfold hdS
  rw [← vw, ← vh]
  clear vw vh
  have q0 : (ByteArray.mk #[80, 53]).data.toList.length = 2 := rfl
  have q1 : (ByteArray.mk #[80, 54]).data.toList.length = 2 := rfl
  have q2 : (ByteArray.mk #[10]).data.toList.length = 1 := rfl
  have q3 : (ByteArray.mk #[32]).data.toList.length = 1 := rfl
  have q4 : (ByteArray.mk #[10, 50, 53, 53, 10]).data.toList.length = 5 := rfl
  by_cases c1 : c = 1
  · subst c1
    rw [if_pos rfl]
    (repeat' (first | (refine xI (fun hfk => ?_) (fun hfk => ?_) <;> ((try (first | replace hfk := oT hfk | replace hfk := oF hfk | simp only [oA, oB, dh1, dh0, ne_eq, reduceCtorEq] at hfk)); (try (exfalso; first | omega | contradiction | exact xF hfk (by with_reducible assumption) | exact xT hfk (by with_reducible assumption))))) | (refine And.intro ?ob ?_; (case ob => (first | exact Chk.mk (by kernel_rfl) | exact True.intro | with_reducible assumption | exact rng64 (by omega) (by omega) | omega | (dsimp only; omega) | (show (_ : Nat) ≤ _; omega) | (simp only [ll1, ll2, ll0]; first | done | omega) | (dsimp only; simp only [ll1, ll2, ll0]; omega)))) | exact True.intro | (show _ = _; first | with_reducible rfl | with_reducible assumption | omega | (simp only [ll1, ll2, ll0]; omega) | (first | exact bw | exact bh | exact ow | exact oh | rfl; done) | exact rfl) | with_reducible assumption | (apply And.intro) | omega | (intro j hj; exact rfl)))
    all_goals first | (refine len_i64 ?_; (repeat rw [List.length_append]); omega) | skip
  · by_cases c3 : c = 3
    · subst c3
      rw [if_neg (by decide), if_pos rfl]
      (repeat' (first | (refine xI (fun hfk => ?_) (fun hfk => ?_) <;> ((try (first | replace hfk := oT hfk | replace hfk := oF hfk | simp only [oA, oB, dh1, dh0, ne_eq, reduceCtorEq] at hfk)); (try (exfalso; first | omega | contradiction | exact xF hfk (by with_reducible assumption) | exact xT hfk (by with_reducible assumption))))) | (refine And.intro ?ob ?_; (case ob => (first | exact Chk.mk (by kernel_rfl) | exact True.intro | with_reducible assumption | exact rng64 (by omega) (by omega) | omega | (dsimp only; omega) | (show (_ : Nat) ≤ _; omega) | (simp only [ll1, ll2, ll0]; first | done | omega) | (dsimp only; simp only [ll1, ll2, ll0]; omega)))) | exact True.intro | (show _ = _; first | with_reducible rfl | with_reducible assumption | omega | (simp only [ll1, ll2, ll0]; omega) | (first | exact bw | exact bh | exact ow | exact oh | rfl; done) | exact rfl) | with_reducible assumption | (apply And.intro) | omega | (intro j hj; exact rfl)))
      all_goals first | (refine len_i64 ?_; (repeat rw [List.length_append]); omega) | skip
    · rw [if_neg c1, if_neg c3]
      (repeat' (first | (refine xI (fun hfk => ?_) (fun hfk => ?_) <;> ((try (first | replace hfk := oT hfk | replace hfk := oF hfk | simp only [oA, oB, dh1, dh0, ne_eq, reduceCtorEq] at hfk)); (try (exfalso; first | omega | contradiction | exact xF hfk (by with_reducible assumption) | exact xT hfk (by with_reducible assumption))))) | (refine And.intro ?ob ?_; (case ob => (first | exact Chk.mk (by kernel_rfl) | exact True.intro | with_reducible assumption | exact rng64 (by omega) (by omega) | omega | (dsimp only; omega) | (show (_ : Nat) ≤ _; omega) | (simp only [ll1, ll2, ll0]; first | done | omega) | (dsimp only; simp only [ll1, ll2, ll0]; omega)))) | exact True.intro | (show _ = _; first | with_reducible rfl | with_reducible assumption | omega | (simp only [ll1, ll2, ll0]; omega) | (rfl; done) | exact rfl) | with_reducible assumption | (apply And.intro) | omega | (intro j hj; exact rfl)))
theorem rpwrite_s : SOK Tryd.prog 9 pwS := by
  refine sok_of (C := mkT 0 [(23, checkS), (11, rheadS)] noG [] [] []) (mkT_ok (pok_cons rcheck7_s (pok_cons rhead15_s pok_nil)) noG_ok dl_nil) rfl mixed ⟨Tryd.func9, by kernel_rfl, by kernel_rfl, by kernel_rfl⟩ fun l obs v h ho => ?_
  (unfold pwS at h; split at h; rotate_left; (focus (cases h)); rename_i w hh c p; simp only [Option.some.injEq, Prod.mk.injEq] at h; obtain ⟨rfl, rfl⟩ := h; simp only [List.mem_cons, List.not_mem_nil, or_false, forall_eq_or_imp, forall_eq, false_implies, implies_true] at ho)
  refine ⟨Nat.le_of_ble_eq_true rfl, ?_⟩
  by_cases e : imCheck w hh c p.length = 0
  · obtain ⟨c1, w1, w2, h1, h2, wh, _⟩ := fits_inv (check_inv e).1
    have lh := hdS_len (w := w) (h := hh) (c := c) (by omega) (by omega) (by omega) (by omega)
    have tw : TxZ w := ⟨by omega, by omega⟩
    have th : TxZ hh := ⟨by omega, by omega⟩
    by_cases c4 : c = 4
    · have e1 : pwE w hh c p.length = 10 := by unfold pwE; rw [if_neg (fun k => k e), if_pos c4]
      have e2 : pwL w hh c p = [] := if_neg (by rw [e1]; decide)
      rw [e1, e2]
      (repeat' (first | (refine xI (fun hfk => ?_) (fun hfk => ?_) <;> ((try (first | replace hfk := oT hfk | replace hfk := oF hfk | simp only [oA, oB, dh1, dh0, ne_eq, reduceCtorEq] at hfk)); (try (exfalso; first | omega | contradiction | exact xF hfk (by with_reducible assumption) | exact xT hfk (by with_reducible assumption))))) | (refine And.intro ?ob ?_; (case ob => (first | exact Chk.mk (by kernel_rfl) | exact True.intro | with_reducible assumption | exact rng64 (by omega) (by omega) | omega | (dsimp only; omega) | (show (_ : Nat) ≤ _; omega) | (simp only [ll1, ll2, ll0]; first | done | omega) | (dsimp only; simp only [ll1, ll2, ll0]; omega)))) | exact True.intro | (show _ = _; first | with_reducible rfl | with_reducible assumption | omega | (simp only [ll1, ll2, ll0]; omega) | (first | exact tw | exact th | rfl; done) | exact rfl) | with_reducible assumption | (apply And.intro) | omega | (intro j hj; exact rfl)))
    · have e1 : pwE w hh c p.length = 0 := by unfold pwE; rw [if_neg (fun k => k e), if_neg c4]
      have e2 : pwL w hh c p = strI (hdS w hh c) ++ p := if_pos e1
      have e3 : ¬ hdS w hh c = (ByteArray.mk #[]).data.toList := by
        unfold hdS
        rcases c1 with k | k | k
        · rw [if_pos k]; exact fun q => by cases q
        · rw [if_neg (by omega), if_pos k]; exact fun q => by cases q
        · exact absurd k c4
      have l1 : 0 < (hdS w hh c).length := List.length_pos_iff.2 e3
      rw [e1, e2]
      have z1 : List.take ((List.map (fun c : UInt8 => (c.toNat : Int)) (hdS w hh c)).length + p.length) (List.drop 0 (List.map (fun c : UInt8 => (c.toNat : Int)) (hdS w hh c) ++ p)) = strI (hdS w hh c) ++ p := by
        rw [List.drop_zero, List.take_of_length_le (by rw [List.length_append]; exact Nat.le_refl _)]
      (repeat' (first | (refine xI (fun hfk => ?_) (fun hfk => ?_) <;> ((try (first | replace hfk := oT hfk | replace hfk := oF hfk | simp only [oA, oB, dh1, dh0, ne_eq, reduceCtorEq] at hfk)); (try (exfalso; first | omega | contradiction | exact xF hfk (by with_reducible assumption) | exact xT hfk (by with_reducible assumption))))) | (refine And.intro ?ob ?_; (case ob => (first | exact Chk.mk (by kernel_rfl) | exact True.intro | with_reducible assumption | exact rng64 (by omega) (by omega) | omega | (dsimp only; omega) | (show (_ : Nat) ≤ _; omega) | (simp only [ll1, ll2, ll0]; first | done | omega) | (dsimp only; simp only [ll1, ll2, ll0]; omega)))) | exact True.intro | (show _ = _; first | with_reducible rfl | with_reducible assumption | omega | (simp only [ll1, ll2, ll0]; omega) | (first | exact tw | exact th | exact z1 | rfl; done) | exact rfl) | with_reducible assumption | (apply And.intro) | omega | (intro j hj; exact rfl)))
  · have e1 : pwE w hh c p.length = imCheck w hh c p.length := if_pos e
    have e2 : pwL w hh c p = [] := if_neg (by rw [e1]; exact e)
    rw [e1, e2]
    (repeat' (first | (refine xI (fun hfk => ?_) (fun hfk => ?_) <;> ((try (first | replace hfk := oT hfk | replace hfk := oF hfk | simp only [oA, oB, dh1, dh0, ne_eq, reduceCtorEq] at hfk)); (try (exfalso; first | omega | contradiction | exact xF hfk (by with_reducible assumption) | exact xT hfk (by with_reducible assumption))))) | (refine And.intro ?ob ?_; (case ob => (first | exact Chk.mk (by kernel_rfl) | exact True.intro | with_reducible assumption | exact rng64 (by omega) (by omega) | omega | (dsimp only; omega) | (show (_ : Nat) ≤ _; omega) | (simp only [ll1, ll2, ll0]; first | done | omega) | (dsimp only; simp only [ll1, ll2, ll0]; omega)))) | exact True.intro | (show _ = _; first | with_reducible rfl | with_reducible assumption | omega | (simp only [ll1, ll2, ll0]; omega) | (rfl; done) | exact rfl) | with_reducible assumption | (apply And.intro) | omega | (intro j hj; exact rfl)))
end Go.Proofs.YtocboijpmmlegaaDoor
namespace Go.Proofs.YtocboijpmmlegaaDoor
open Go Go.RowKit
set_option maxHeartbeats 4000000
theorem strI_app (a b : List UInt8) : strI (a ++ b) = strI a ++ strI b := List.map_append
theorem strI_itoa (u : Nat) : strI (Lib.itoa (u : Int)) = decI u := by rw [Lib.itoa_nonneg]; rfl
theorem strI_hd {k w h : Nat} (hk : k = 1 ∨ k = 3) : strI (hdS w h k) = hdI k w h := by
  rcases hk with rfl | rfl
  · have e : hdS w h ((1 : Nat) : Int) = (ByteArray.mk #[80, 53, 10]).data.toList ++ Lib.itoa w ++ (ByteArray.mk #[32]).data.toList ++ Lib.itoa h ++ (ByteArray.mk #[10, 50, 53, 53, 10]).data.toList := if_pos rfl
    rw [e, strI_app, strI_app, strI_app, strI_app, strI_itoa, strI_itoa]
    unfold hdI
    rw [if_pos rfl]
    simp [strI]
  · have e : hdS w h ((3 : Nat) : Int) = (ByteArray.mk #[80, 54, 10]).data.toList ++ Lib.itoa w ++ (ByteArray.mk #[32]).data.toList ++ Lib.itoa h ++ (ByteArray.mk #[10, 50, 53, 53, 10]).data.toList := by
      unfold hdS; rw [if_neg (by decide), if_pos (by decide)]
    rw [e, strI_app, strI_app, strI_app, strI_app, strI_itoa, strI_itoa]
    unfold hdI
    rw [if_neg (by decide)]
    simp [strI]
theorem hdI_bytes (k w h : Nat) : Bytes (hdI k w h) := by
  have d : ∀ u, Bytes (decI u) := fun u x hx => by have := decI_dg u x hx; omega
  intro x hx
  unfold hdI at hx
  rcases List.mem_cons.1 hx with e | hx
  · omega
  rcases List.mem_cons.1 hx with e | hx
  · split at e <;> omega
  rcases List.mem_cons.1 hx with e | hx
  · omega
  rcases List.mem_append.1 hx with hx | hx
  · exact d w x hx
  rcases List.mem_cons.1 hx with e | hx
  · omega
  rcases List.mem_append.1 hx with hx | hx
  · exact d h x hx
  · simp only [List.mem_cons, List.not_mem_nil, or_false] at hx
    omega
structure PwOK (w h c : Int) (p q : List Int) (K W H : Nat) : Prop where
  hk : K = 1 ∨ K = 3
  w1 : 1 ≤ W
  w2 : W ≤ 32768
  h1 : 1 ≤ H
  h2 : H ≤ 32768
  hm : W * H ≤ 4194304
  hp : p.length = W * H * K
  ew : w = W
  eh : h = H
  ec : c = K
  eq : q = hdI K W H ++ p
theorem pw_im {w h c : Int} {p : List Int} (e : pwE w h c p.length = 0) : ∃ K W H : Nat, PwOK w h c p (pwL w h c p) K W H := by
  have e0 : imCheck w h c p.length = 0 := by
    unfold pwE at e
    split at e
    · rename_i k; exact absurd e k
    · rename_i k; exact Classical.not_not.1 k
  have e4 : c ≠ 4 := fun k => by unfold pwE at e; rw [if_neg (fun q => q e0), if_pos k] at e; cases e
  obtain ⟨hf, hn⟩ := check_inv e0
  obtain ⟨c1, w1, w2, h1, h2, wh, _⟩ := fits_inv hf
  obtain ⟨W, rfl⟩ : ∃ W : Nat, w = W := ⟨w.toNat, by omega⟩
  obtain ⟨H, rfl⟩ : ∃ H : Nat, h = H := ⟨h.toNat, by omega⟩
  obtain ⟨K, rfl⟩ : ∃ K : Nat, c = K := ⟨c.toNat, by omega⟩
  have hk : K = 1 ∨ K = 3 := by omega
  have cm : ((W * H : Nat) : Int) = (W : Int) * (H : Int) := Int.natCast_mul W H
  have hp : p.length = W * H * K := by
    have : ((W * H * K : Nat) : Int) = (W : Int) * (H : Int) * (K : Int) := by rw [Int.natCast_mul, cm]
    omega
  refine ⟨K, W, H, hk, by omega, by omega, by omega, by omega, by rw [← cm] at wh; omega, hp, rfl, rfl, rfl, ?_⟩
  unfold pwL
  rw [if_pos e, strI_hd hk]
theorem hd321 : hdS 3 2 1 = (ByteArray.mk #[80, 53, 10, 51, 32, 50, 10, 50, 53, 53, 10]).data.toList := by
  have e : hdS 3 2 1 = (ByteArray.mk #[80, 53, 10]).data.toList ++ Lib.itoa ((3 : Nat) : Int) ++ (ByteArray.mk #[32]).data.toList ++ Lib.itoa ((2 : Nat) : Int) ++ (ByteArray.mk #[10, 50, 53, 53, 10]).data.toList := if_pos rfl
  rw [e, Lib.itoa_nonneg, Lib.itoa_nonneg, Lib.decDigits_one (by decide), Lib.decDigits_one (by decide)]
  rfl
end Go.Proofs.YtocboijpmmlegaaDoor
namespace Go.Proofs.YtocboijpmmlegaaDoor
open Go Go.RowKit
set_option maxHeartbeats 4000000
theorem alive15c_s : SOK Tryd.prog 15 (sN (.bool true)) := by
  refine sok_of (C := mkC 0 [(13, headS)] noG) (mkC_ok (pok_cons head_s pok_nil) noG_ok) rfl mixed ⟨Tryd.func15, by kernel_rfl, by kernel_rfl, by kernel_rfl⟩ fun l obs v h ho => ?_
  obtain ⟨rfl, rfl, rfl⟩ := sN_inv h
  refine ⟨Nat.le_of_ble_eq_true rfl, ?_⟩
  have e : decide (hdS 3 2 1 = (ByteArray.mk #[80, 53, 10, 51, 32, 50, 10, 50, 53, 53, 10]).data.toList) = true := decide_eq_true hd321
  (repeat' (first | (refine xI (fun hfk => ?_) (fun hfk => ?_) <;> ((try (first | replace hfk := oT hfk | replace hfk := oF hfk | simp only [oA, oB, dh1, dh0, ne_eq, reduceCtorEq] at hfk)); (try (exfalso; first | omega | contradiction | exact xF hfk (by with_reducible assumption) | exact xT hfk (by with_reducible assumption))))) | (refine And.intro ?ob ?_; (case ob => (first | exact Chk.mk (by kernel_rfl) | exact True.intro | with_reducible assumption | exact rng64 (by omega) (by omega) | omega | (dsimp only; omega) | (show (_ : Nat) ≤ _; omega) | (simp only [ll1, ll2, ll0]; first | done | omega) | (dsimp only; simp only [ll1, ll2, ll0]; omega)))) | exact True.intro | (show _ = _; first | with_reducible rfl | with_reducible assumption | omega | (simp only [ll1, ll2, ll0]; omega) | (first | exact e | exact e.symm; done) | exact rfl) | with_reducible assumption | (apply And.intro) | omega | (intro j hj; exact rfl)))
theorem i64_of {x : Int} (h : (Lit.int .i64 x).wf = true) : -9223372036854775808 ≤ x ∧ x ≤ 9223372036854775807 := by
  simp [Lit.wf, IntKind.min, IntKind.max, IntKind.signed, IntKind.bits] at h
  omega
theorem pwL_b {w h c : Int} {p : List Int} (hB : Bytes p) : Bytes (pwL w h c p) := by
  by_cases e : pwE w h c p.length = 0
  · obtain ⟨K, W, H, o⟩ := pw_im e
    rw [o.eq]
    exact fun x hx => (List.mem_append.1 hx).elim (hdI_bytes K W H x) (hB x)
  · rw [show pwL w h c p = [] from if_neg e]
    exact fun x hx => by cases hx
theorem psz_fit {w h c : Int} (hf : fitsI w h c = 0) (h4 : c ≠ 4) : pszV w h c = ((hdS w h c).length : Int) + w * h * c := by
  obtain ⟨c1, w1, w2, h1, h2, wh, _⟩ := fits_inv hf
  unfold pszV
  rw [if_pos ⟨by omega, w1, w2, h1, h2, wh⟩]
theorem psz_unfit {w h c : Int} (hf : fitsI w h c ≠ 0 ∨ c = 4) : pszV w h c = 0 := by
  unfold pszV
  rw [if_neg]
  rintro ⟨c1, w1, w2, h1, h2, wh⟩
  have : fitsI w h c = 0 := by
    unfold fitsI
    rw [if_neg (by omega), if_neg (by omega), if_neg (by omega)]
  omega
attribute [local irreducible] pwE pwL hdS pszV fitsI
theorem walk_PnmWrites' (w h c : Int) (p : List Int) (x y z : Int) (hx : (Lit.int .i64 x).wf = true) (hy : (Lit.int .i64 y).wf = true) (hB : Bytes p) (W : World) (hgl : GL W NoO) {cl : List Value} (hcl : CRel noN W NoO [imA w h c p, .agg [.int .i64 x, .int .i64 y, .int .i64 z]] cl) :
    Calls Tryd.prog 3 cl.toArray W fun e W' => e = .returned (.bool true) ∧ Below W.heap.size W W' := by
  refine law_of (C := mkC 0 [(7, fewS), (8, pwS), (9, pwS), (10, fitsS), (11, rheadS), (13, headS), (12, same14S), (14, psizS), (15, sN (.bool true))] noG)
    (mkC_ok (pok_cons few_s (pok_cons pwrite_s (pok_cons rpwrite_s (pok_cons rfits_s (pok_cons rhead15_s (pok_cons head_s (pok_cons same14_s (pok_cons psiz_s (pok_cons alive15c_s pok_nil))))))))) noG_ok) rfl ⟨Tryd.func3, by kernel_rfl, by kernel_rfl, by kernel_rfl⟩ (by exact Nat.le_of_ble_eq_true rfl) ?_ hcl (hg := hgl)
  by_cases hl : 20000 < p.length
  · (repeat' (first | (refine xI (fun hfk => ?_) (fun hfk => ?_) <;> ((try (first | replace hfk := oT hfk | replace hfk := oF hfk | simp only [oA, oB, dh1, dh0, ne_eq, reduceCtorEq] at hfk)); (try (exfalso; first | omega | contradiction | exact xF hfk (by with_reducible assumption) | exact xT hfk (by with_reducible assumption))))) | (refine And.intro ?ob ?_; (case ob => (first | exact Chk.mk (by kernel_rfl) | exact True.intro | with_reducible assumption | exact rng64 (by omega) (by omega) | omega | (dsimp only; omega) | (show (_ : Nat) ≤ _; omega) | (simp only [ll1, ll2, ll0]; first | done | omega) | (dsimp only; simp only [ll1, ll2, ll0]; omega)))) | exact True.intro | (show _ = _; first | with_reducible rfl | with_reducible assumption | omega | (simp only [ll1, ll2, ll0]; omega) | (rfl; done) | exact rfl) | with_reducible assumption | (apply And.intro) | omega | (intro j hj; exact rfl)))
  have hp : p.length ≤ 20000 := by omega
  have pb := pwL_b (w := w) (h := h) (c := c) hB
  obtain ⟨x1, x2⟩ := i64_of hx
  obtain ⟨y1, y2⟩ := i64_of hy
  have tx : TxZ x := ⟨x1, x2⟩
  have ty : TxZ y := ⟨y1, y2⟩
  have lh := hdS_len (w := x) (h := y) (c := z) x1 x2 y1 y2
  by_cases e : fitsI x y z = 0
  · obtain ⟨c1, w1, w2, h1, h2, wh, wh0, q1, q2⟩ := fits_inv e
    have r1 : rngI .i64 (x * y) := rng64 (by omega) (by omega)
    have r2 : rngI .i64 (x * y * z) := rng64 (by omega) (by omega)
    have r3 : rngI .i64 (((hdS x y z).length : Int) + x * y * z) := rng64 (by omega) (by omega)
    by_cases h4 : z = 4
    · have ez := psz_unfit (w := x) (h := y) (c := z) (.inr h4)
      (repeat' (first | (refine xI (fun hfk => ?_) (fun hfk => ?_) <;> ((try (first | replace hfk := oT hfk | replace hfk := oF hfk | simp only [oA, oB, dh1, dh0, ne_eq, reduceCtorEq] at hfk)); (try (exfalso; first | omega | contradiction | exact xF hfk (by with_reducible assumption) | exact xT hfk (by with_reducible assumption))))) | (refine And.intro ?ob ?_; (case ob => (first | exact Chk.mk (by kernel_rfl) | exact True.intro | with_reducible assumption | exact rng64 (by omega) (by omega) | omega | (dsimp only; omega) | (show (_ : Nat) ≤ _; omega) | (simp only [ll1, ll2, ll0]; first | done | omega) | (dsimp only; simp only [ll1, ll2, ll0]; omega)))) | exact True.intro | (show _ = _; first | with_reducible rfl | with_reducible assumption | omega | (simp only [ll1, ll2, ll0]; omega) | (first | exact pb | exact tx | exact ty | exact r1 | exact r2 | exact r3 | exact ez | rfl; done) | exact rfl) | with_reducible assumption | (apply And.intro) | omega | (intro j hj; exact rfl)))
    · have ez := psz_fit e h4
      (repeat' (first | (refine xI (fun hfk => ?_) (fun hfk => ?_) <;> ((try (first | replace hfk := oT hfk | replace hfk := oF hfk | simp only [oA, oB, dh1, dh0, ne_eq, reduceCtorEq] at hfk)); (try (exfalso; first | omega | contradiction | exact xF hfk (by with_reducible assumption) | exact xT hfk (by with_reducible assumption))))) | (refine And.intro ?ob ?_; (case ob => (first | exact Chk.mk (by kernel_rfl) | exact True.intro | with_reducible assumption | exact rng64 (by omega) (by omega) | omega | (dsimp only; omega) | (show (_ : Nat) ≤ _; omega) | (simp only [ll1, ll2, ll0]; first | done | omega) | (dsimp only; simp only [ll1, ll2, ll0]; omega)))) | exact True.intro | (show _ = _; first | with_reducible rfl | with_reducible assumption | omega | (simp only [ll1, ll2, ll0]; omega) | (first | exact pb | exact tx | exact ty | exact r1 | exact r2 | exact r3 | exact ez | rfl; done) | exact rfl) | with_reducible assumption | (apply And.intro) | omega | (intro j hj; exact rfl)))
  · have ez := psz_unfit (w := x) (h := y) (c := z) (.inl e)
    (repeat' (first | (refine xI (fun hfk => ?_) (fun hfk => ?_) <;> ((try (first | replace hfk := oT hfk | replace hfk := oF hfk | simp only [oA, oB, dh1, dh0, ne_eq, reduceCtorEq] at hfk)); (try (exfalso; first | omega | contradiction | exact xF hfk (by with_reducible assumption) | exact xT hfk (by with_reducible assumption))))) | (refine And.intro ?ob ?_; (case ob => (first | exact Chk.mk (by kernel_rfl) | exact True.intro | with_reducible assumption | exact rng64 (by omega) (by omega) | omega | (dsimp only; omega) | (show (_ : Nat) ≤ _; omega) | (simp only [ll1, ll2, ll0]; first | done | omega) | (dsimp only; simp only [ll1, ll2, ll0]; omega)))) | exact True.intro | (show _ = _; first | with_reducible rfl | with_reducible assumption | omega | (simp only [ll1, ll2, ll0]; omega) | (first | exact pb | exact tx | exact ty | exact ez | rfl; done) | exact rfl) | with_reducible assumption | (apply And.intro) | omega | (intro j hj; exact rfl)))
end Go.Proofs.YtocboijpmmlegaaDoor

