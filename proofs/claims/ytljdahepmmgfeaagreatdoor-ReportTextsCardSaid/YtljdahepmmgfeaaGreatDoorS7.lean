/- Texts. No condition. -/
import Derived.Test.YtljdahepmmgfeaaGreatDoorS6
set_option maxRecDepth 100000
set_option maxHeartbeats 4000000
set_option linter.unusedVariables false
set_option linter.unusedSimpArgs false
namespace Go.Proofs.YtljdahepmmgfeaaGreatDoor
open Go Go.RowKit
theorem dgs_top : ∀ {n : Nat}, n ≠ 0 → 1 ≤ dgAt (dgs n) ((dgs n).length - 1 : Int) := by
  intro n
  induction n using Nat.strongRecOn with
  | ind n ih =>
    intro hn
    rw [dgs_pos hn]
    by_cases hq : n / 32768 = 0
    · rw [hq, dgs_0]
      show 1 ≤ dgAt [((n % 32768 : Nat) : Int)] (((1 : Nat) : Int) - 1)
      have : ((1 : Nat) : Int) - 1 = ((0 : Nat) : Int) := rfl
      rw [this, dgAt_in (show 0 < ([((n % 32768 : Nat) : Int)] : List Int).length from Nat.zero_lt_one)]
      show (1 : Int) ≤ ((n % 32768 : Nat) : Int)
      omega
    · have h1 := ih (n / 32768) (by omega) hq
      have hl : 1 ≤ (dgs (n / 32768)).length := by
        rw [dgs_pos hq, List.length_cons]; omega
      have e1 : (((((n % 32768 : Nat) : Int) :: dgs (n / 32768)).length : Int) - 1) = (((dgs (n / 32768)).length - 1 + 1 : Nat) : Int) := by rw [List.length_cons]; omega
      have e2 : ((dgs (n / 32768)).length : Int) - 1 = (((dgs (n / 32768)).length - 1 : Nat) : Int) := by omega
      rw [e2, dgAt_in (by omega)] at h1
      rw [e1, dgAt_in (by rw [List.length_cons]; omega)]
      exact h1
abbrev shortS : PSpec := gB2 (fun s d t e => [Bg s d, Bg t e, s = false, t = false, valD d < 18446744073709551616, valD e < 18446744073709551616, 0 < valD e]) fun s d t e => bigA (valD d / valD e)
theorem short_s : SOK Tryz.prog 102 shortS := by
  refine sok_of (C := mkC 0 [(74, unsignedS), (77, unsS), (107, madeS)] noG) (mkC_ok (pok_cons unsigned_s (pok_cons uns_s (pok_cons made_s pok_nil))) noG_ok) rfl mixed ⟨Tryz.func102, by kernel_rfl, by kernel_rfl, by kernel_rfl⟩ fun l obs v h ho => ?_
  unfold shortS at h
  (unfold gB2 at h; split at h; rotate_left; (focus (cases h)); rename_i s d t e; simp only [Option.some.injEq, Prod.mk.injEq] at h; obtain ⟨rfl, rfl⟩ := h; simp only [List.mem_cons, List.not_mem_nil, or_false, forall_eq_or_imp, forall_eq, false_implies, implies_true] at ho)
  obtain ⟨b1, b2, rfl, rfl, h3, h4, h5⟩ := ho
  have n1 := valD_nn b1.dig
  have q0 : 0 ≤ valD d / valD e := Int.ediv_nonneg n1 (by omega)
  have q1 : valD d / valD e ≤ valD d := Int.ediv_le_self _ n1
  have e0 : (valD d).tdiv (valD e) = valD d / valD e := Int.tdiv_eq_ediv_of_nonneg n1
  have z1 : (false && decide (0 < ((dgs (valD d / valD e).natAbs).length : Int))) = decide (valD d / valD e < 0) := by rw [Bool.false_and]; exact (decide_eq_false (by omega)).symm
  have ew : IntKind.u64.wrap ((valD d).tdiv (valD e)) = valD d / valD e := by rw [e0]; exact u64_id q0 (by omega)
  have z2 : dgs (IntKind.u64.wrap ((valD d).tdiv (valD e))).natAbs = dgs (valD d / valD e).natAbs := by rw [ew]
  have z3 : 0 ≤ IntKind.u64.wrap ((valD d).tdiv (valD e)) := by omega
  have z4 : IntKind.u64.wrap ((valD d).tdiv (valD e)) < 18446744073709551616 := by omega
  have z5 : (false && decide (0 < ((dgs (IntKind.u64.wrap ((valD d).tdiv (valD e))).natAbs).length : Int))) = decide (valD d / valD e < 0) := by rw [ew]; exact z1
  refine ⟨Nat.le_of_ble_eq_true rfl, ?_⟩
  (repeat' (first | (refine xI (fun hfk => ?_) (fun hfk => ?_) <;> ((try (first | replace hfk := oT hfk | replace hfk := oF hfk | simp only [oD, ne_eq, reduceCtorEq] at hfk)); (try exact oX))) | refine And.intro oZ ?_ | exact True.intro | (show _ = _; first | exact oY | (first | exact b1 | exact b2 | exact z1 | exact z5 | exact z2 | rfl; done) | exact rfl) | exact oW | (apply And.intro)))
def fz0 : AV → AV | .fls => .bool false | .tru => .bool true | x => x
def fzA : AV → AV | .agg l => .agg (l.map fz0) | x => fz0 x
theorem fz0_rep {R : PN} {w : World} {O : Nat → Prop} {x : AV} {v : Value} (h : Rep R w O x v) : Rep R w O (fz0 x) v := by
  unfold fz0
  split
  · cases h; exact .bool _
  · cases h; exact .bool _
  · exact h
theorem fzA_rep {R : PN} {w : World} {O : Nat → Prop} {x : AV} {v : Value} (h : Rep R w O x v) : Rep R w O (fzA x) v := by
  unfold fzA
  split
  · cases h with
    | agg l vs hl h =>
      refine .agg _ _ (by simpa using hl) fun j x v hx hv => ?_
      simp only [List.getElem?_map, Option.map_eq_some_iff] at hx
      obtain ⟨y, hy, rfl⟩ := hx
      exact fz0_rep (h j y v hy hv)
  · exact fz0_rep h
theorem sok_fz {P : Program} {g : FuncId} {s : PSpec} (h : SOK P g s) : SOK P g (fun l => s (l.map fzA)) :=
  ⟨h.1, fun l obs v h1 h2 w O cl h3 h4 => h.2 _ obs v h1 h2 w O cl h3 ⟨by simpa using h4.1, fun j x v hx hv => by
    simp only [List.getElem?_map, Option.map_eq_some_iff] at hx
    obtain ⟨y, hy, rfl⟩ := hx
    exact fzA_rep (h4.2 j y v hy hv)⟩⟩
abbrev floorS : PSpec := gB2 (fun s d t e => [Bg s d, Bg t e, s = false, t = false, valD d < 1152921504606846976, 0 < valD e, valD e < 18446744073709551616]) fun s d t e => bigA (valD d / valD e)
theorem Bg.dg {s : Bool} {l : List Int} (h : Bg s l) : l = dgs (valD l).toNat := h.can.symm
theorem len4 {d : List Int} {s : Bool} (h : Bg s d) (k : valD d < 1152921504606846976) : d.length ≤ 4 := by
  have n1 := valD_nn h.dig
  rw [h.dg]
  exact dgs_len (k := 4) (by have : (32768 : Nat) ^ 4 = 1152921504606846976 := rfl
                             omega)
theorem len5 {d : List Int} {s : Bool} (h : Bg s d) (k : 4 < d.length) : 1152921504606846976 ≤ valD d := by
  have n1 := valD_nn h.dig
  by_cases z : 1152921504606846976 ≤ valD d
  · exact z
  · have := len4 h (by omega); omega
theorem floor_s : SOK Tryz.prog 73 floorS := by
  refine sok_of (C := mkE 0 [(102, shortS), (103, digitS), (104, trimS), (46, ofS), (76, fun l => mulS (l.map fzA)), (105, lessS), (106, restS01), (107, madeS)] (glook [(104, frzP trimS)]) [] [] [10, 11, 14, 1000019])
    (mkE_ok (pok_cons short_s (pok_cons digit_s (pok_cons trim_s (pok_cons of_s (pok_cons (sok_fz mul_s) (pok_cons less_s (pok_cons rest01_s (pok_cons made_s pok_nil)))))))) (gl_cons (gfrzP trim_s) gl_nil) dl_nil) rfl mixed ⟨Tryz.func73, by kernel_rfl, by kernel_rfl, by kernel_rfl⟩ fun l obs v h ho => ?_
  unfold floorS at h
  (unfold gB2 at h; split at h; rotate_left; (focus (cases h)); rename_i s d t e; simp only [Option.some.injEq, Prod.mk.injEq] at h; obtain ⟨rfl, rfl⟩ := h; simp only [List.mem_cons, List.not_mem_nil, or_false, forall_eq_or_imp, forall_eq, false_implies, implies_true] at ho)
  obtain ⟨b1, b2, rfl, rfl, h3, h4, h5⟩ := ho
  have n1 := valD_nn b1.dig
  have l4 := len4 b1 h3
  refine ⟨Nat.le_of_ble_eq_true rfl, ?_⟩
  by_cases k4 : e.length ≤ 4
  · (repeat' (first | (refine xI (fun hfk => ?_) (fun hfk => ?_) <;> ((try (first | replace hfk := oT hfk | replace hfk := oF hfk | simp only [oD, ne_eq, reduceCtorEq] at hfk)); (try exact oX))) | refine And.intro oZ ?_ | exact True.intro | (show _ = _; first | exact oY | (first | exact b1 | exact b2 | rfl; done) | exact rfl) | exact oW | (apply And.intro)))
  have hbig := len5 b2 (by omega)
  have q0 : valD d / valD e = 0 := Int.ediv_eq_zero_of_lt n1 (by omega)
  rw [q0]
  have el : 5 ≤ e.length := by omega
  have sh := b2.sh.le
  have te1 := dgAt_bd b2.dig ((e.length : Int) - 1)
  have te2 := dgAt_bd b2.dig ((e.length : Int) - 2)
  have top : 1 ≤ dgAt e ((e.length : Int) - 1) := by
    have := dgs_top (n := (valD e).toNat) (by omega)
    rwa [b2.can] at this
  have rt1 : rngI .i64 (dgAt e ((e.length : Int) - 1) * 32768) := rng64 (by omega) (by omega)
  have rt2 : rngI .i64 (dgAt e ((e.length : Int) - 1) * 32768 + dgAt e ((e.length : Int) - 2)) := rng64 (by omega) (by omega)
  (repeat' (first | (refine xI (fun hfk => ?_) (fun hfk => ?_) <;> ((try (first | replace hfk := oT hfk | replace hfk := oF hfk | simp only [oD, ne_eq, reduceCtorEq] at hfk)); (try exact oX))) | refine And.intro oZ ?_ | exact True.intro | (show _ = _; first | exact oY | (first | exact rt1 | exact rt2; done) | exact rfl) | exact oW | (apply And.intro)))
  obtain ⟨T, hT⟩ : ∃ T, dgAt e ((e.length : Int) - 1) * 32768 + dgAt e ((e.length : Int) - 2) = T := ⟨_, rfl⟩
  have hT0 : 32768 ≤ T ∧ T ≤ 1073741823 := by omega
  have r0 : ([] : List Int) = dgs (valD (d.drop (d.length - 0))).toNat := by
    rw [Nat.sub_zero, List.drop_of_length_le (Nat.le_refl _)]
    exact dgs_0.symm
  refine ⟨Nat × List Int × List Int, fun g => [(2, .ptr 0 0), (3, .ptr 1 0), (4, .ptr 2 0), (5, .roi .i64 g.2.1), (6, .roi .i64 g.2.2), (7, .int .i64 (e.length : Int)), (8, .int .i64 T), (9, .int .i64 ((d.length : Int) - 1 - (g.1 : Int)))],
      fun g => ⟨3, [(0, some (.cells 76 [.bool false, .roi .i64 d])), (1, some (.cells 76 [.bool false, .roi .i64 e])), (2, some (.cells 76 [.fls, .nils]))]⟩,
      fun g => g.1 ≤ d.length ∧ g.2.1 = List.replicate g.1 0 ∧ g.2.2 = dgs (valD (d.drop (d.length - g.1))).toNat, fun g => d.length - g.1, ⟨(0, [], []), [some 0, some 1, some 2], ⟨Nat.zero_le _, rfl, r0⟩, ?_⟩, fun g hg => ?_⟩
  · (repeat' (first | (refine And.intro ?_ ?_) | exact True.intro | (show _ = _; with_reducible rfl) | exact Chk.mk (by kernel_rfl)))
    all_goals first | exact hT | rfl | (show (_ : Int) = _; omega)
  obtain ⟨m, q, r⟩ := g
  obtain ⟨g1, g2, g3⟩ := hg
  have g1 : m ≤ d.length := g1
  have g2 : q = List.replicate m 0 := g2
  have g3 : r = dgs (valD (d.drop (d.length - m))).toNat := g3
  dsimp only
  clear r0 hT te1 te2 top rt1 rt2
  have ql : q.length = m := by rw [g2, List.length_replicate]
  by_cases hlt : m < d.length
  · have rl4 : r.length ≤ 4 := by
      have h1 := valD_drop_le (d.length - m) b1.dig
      have h2 := valD_nn (b1.dig.drop (d.length - m))
      rw [g3]
      exact dgs_len (k := 4) (by have : (32768 : Nat) ^ 4 = 1152921504606846976 := rfl
                                 omega)
    have rr : rngI .i64 ((d.length : Int) - 1 - (m : Int) - 1) := rng64 (by omega) (by omega)
    obtain ⟨R, hR⟩ : ∃ R, dgs (valD (d.drop (d.length - (m + 1)))).toNat = R := ⟨_, rfl⟩
    have ei : ((d.length : Int) - 1 - (m : Int)).toNat = d.length - (m + 1) := by omega
    have hcons : d.getD ((d.length : Int) - 1 - (m : Int)).toNat 0 :: r = d.getD (d.length - (m + 1)) 0 :: dgs (valD (d.drop (d.length - m))).toNat := by rw [ei, g3]
    have hdr : d.drop (d.length - (m + 1)) = d.getD (d.length - (m + 1)) 0 :: d.drop (d.length - m) := by
      rw [drop_dg (by omega), dgAt_in (by omega), show d.length - (m + 1) + 1 = d.length - m by omega]
    have hdg : Dig (d.getD (d.length - (m + 1)) 0 :: dgs (valD (d.drop (d.length - m))).toNat) := by
      refine Dig.cons ?_ (Dig_dgs _)
      have := b1.dig.drop (d.length - (m + 1))
      rw [hdr] at this
      exact this.head
    have nn := valD_nn (b1.dig.drop (d.length - m))
    have hv : valD (d.getD (d.length - (m + 1)) 0 :: dgs (valD (d.drop (d.length - m))).toNat) = valD (d.drop (d.length - (m + 1))) := by
      rw [hdr]
      show _ + 32768 * valD (dgs _) = _ + 32768 * valD _
      rw [valD_dgs, Int.toNat_of_nonneg nn]
    have htr : trimL (List.take (((fun x => d.getD ((d.length : Int) - 1 - (m : Int)).toNat 0 :: x) ([] : List Int)).length + r.length) (List.drop 0 ((fun x => d.getD ((d.length : Int) - 1 - (m : Int)).toNat 0 :: x) ([] : List Int) ++ r))) = R := by
      have e1 : List.take (((fun x => d.getD ((d.length : Int) - 1 - (m : Int)).toNat 0 :: x) ([] : List Int)).length + r.length) (List.drop 0 ((fun x => d.getD ((d.length : Int) - 1 - (m : Int)).toNat 0 :: x) ([] : List Int) ++ r)) = d.getD ((d.length : Int) - 1 - (m : Int)).toNat 0 :: r := by
        show List.take (1 + r.length) (d.getD ((d.length : Int) - 1 - (m : Int)).toNat 0 :: r) = _
        rw [List.take_of_length_le (by rw [List.length_cons]; omega)]
      rw [e1, hcons, trim_dgs hdg, hv, hR]
    have hst : ShT (List.take (((fun x => d.getD ((d.length : Int) - 1 - (m : Int)).toNat 0 :: x) ([] : List Int)).length + r.length) (List.drop 0 ((fun x => d.getD ((d.length : Int) - 1 - (m : Int)).toNat 0 :: x) ([] : List Int) ++ r))) := by
      refine ⟨?_⟩
      show (List.take (1 + r.length) (d.getD ((d.length : Int) - 1 - (m : Int)).toNat 0 :: r)).length ≤ 4000000
      rw [List.length_take, List.length_cons]; omega
    (repeat' (first | (refine xI (fun hfk => ?_) (fun hfk => ?_) <;> ((try (first | replace hfk := oT hfk | replace hfk := oF hfk | simp only [oD, ne_eq, reduceCtorEq] at hfk)); (try exact oX))) | refine And.intro oZ ?_ | exact True.intro | (show _ = _; first | exact oY | (first | exact hst | skip; done) | exact rfl) | exact oW | (apply And.intro)))
    refine ⟨[(2, .ptr 0 0), (3, .ptr 1 0), (4, .ptr 2 0), (5, .roi .i64 q), (6, .roi .i64 R), (7, .int .i64 (e.length : Int)), (8, .int .i64 T), (9, .int .i64 ((d.length : Int) - 1 - (m : Int)))],
      ⟨3, [(0, some (.cells 76 [.bool false, .roi .i64 d])), (1, some (.cells 76 [.bool false, .roi .i64 e])), (2, some (.cells 76 [.fls, .nils]))]⟩, [some 0, some 1, some 2], ?_, ?_⟩
    · (repeat' (first | (refine And.intro ?_ ?_) | exact True.intro | (show _ = _; with_reducible rfl) | exact Chk.mk (by kernel_rfl)))
      all_goals first | exact htr | rfl
    clear htr hst hv hdg hdr hcons g3 ei nn
    have Rn : valD R < 1152921504606846976 ∧ 0 ≤ valD R := by
      have h1 := valD_drop_le (d.length - (m + 1)) b1.dig
      have h2 := valD_nn (b1.dig.drop (d.length - (m + 1)))
      rw [← hR, valD_dgs]
      omega
    have RD : Dig R := by rw [← hR]; exact Dig_dgs _
    have Rl : R.length ≤ 4 := by
      rw [← hR]
      refine dgs_len (k := 4) ?_
      rw [← hR, valD_dgs] at Rn
      have : (32768 : Nat) ^ 4 = 1152921504606846976 := rfl
      omega
    have z1 : dgAt R (e.length : Int) = 0 := dgAt_out (by omega)
    have z2 : dgAt R ((e.length : Int) - 1) = 0 := if_neg (by omega)
    have z3 := dgAt_bd RD ((e.length : Int) - 2)
    obtain ⟨f, hf⟩ : ∃ f, dgAt R ((e.length : Int) - 2) = f := ⟨_, rfl⟩
    rw [hf] at z3
    (repeat' (first | (refine xI (fun hfk => ?_) (fun hfk => ?_) <;> ((try (first | replace hfk := oT hfk | replace hfk := oF hfk | simp only [oD, ne_eq, reduceCtorEq] at hfk)); (try exact oX))) | refine And.intro oZ ?_ | exact True.intro | (show _ = _; first | exact oY | exact rfl) | exact oW | (apply And.intro)))
    refine ⟨[(2, .ptr 0 0), (3, .ptr 1 0), (4, .ptr 2 0), (5, .roi .i64 q), (6, .roi .i64 R), (7, .int .i64 (e.length : Int)), (8, .int .i64 T), (9, .int .i64 ((d.length : Int) - 1 - (m : Int))), (10, .int .i64 f)],
      ⟨3, [(0, some (.cells 76 [.bool false, .roi .i64 d])), (1, some (.cells 76 [.bool false, .roi .i64 e])), (2, some (.cells 76 [.fls, .nils]))]⟩, [some 0, some 1, some 2], ?_, ?_⟩
    · have ef : (dgAt R (e.length : Int) * 32768 + dgAt R ((e.length : Int) - 1)) * 32768 + dgAt R ((e.length : Int) - 2) = f := by rw [z1, z2, hf]; omega
      (repeat' (first | (refine And.intro ?_ ?_) | exact True.intro | (show _ = _; with_reducible rfl) | exact Chk.mk (by kernel_rfl)))
      all_goals first | exact ef | rfl
    clear z1 z2 hf
    have d1 : f.tdiv (T + 1) = 0 := by rw [Int.tdiv_eq_ediv_of_nonneg (by omega)]; exact Int.ediv_eq_zero_of_lt (by omega) (by omega)
    obtain ⟨hi, hhi⟩ : ∃ hi, min 32767 ((f + 1).tdiv T) = hi := ⟨_, rfl⟩
    have hq : (f + 1).tdiv T = 0 ∨ (f + 1).tdiv T = 1 := by
      rw [Int.tdiv_eq_ediv_of_nonneg (by omega)]
      have h1 : 0 ≤ (f + 1) / T := Int.ediv_nonneg (by omega) (by omega)
      have h2 : (f + 1) / T < 2 := Int.ediv_lt_of_lt_mul (by omega) (by omega)
      omega
    have hh : hi = 0 ∨ hi = 1 := by omega
    have dr1 : rngI .i64 (f.tdiv (T + 1)) := by rw [d1]; exact rng64 (by omega) (by omega)
    have dr2 : rngI .i64 ((f + 1).tdiv T) := rng64 (by omega) (by omega)
    (repeat' (first | (refine xI (fun hfk => ?_) (fun hfk => ?_) <;> ((try (first | replace hfk := oT hfk | replace hfk := oF hfk | simp only [oD, ne_eq, reduceCtorEq] at hfk)); (try exact oX))) | refine And.intro oZ ?_ | exact True.intro | (show _ = _; first | exact oY | (first | exact dr1 | exact dr2 | skip; done) | exact rfl) | exact oW | (apply And.intro)))
    have hh0 : min 32767 ((f + 1).tdiv T) = ((hi.toNat : Nat) : Int) := by omega
    refine ⟨Nat, fun h => [(2, .ptr 0 0), (3, .ptr 1 0), (4, .ptr 2 0), (5, .roi .i64 q), (6, .roi .i64 R), (7, .int .i64 (e.length : Int)), (8, .int .i64 T), (9, .int .i64 ((d.length : Int) - 1 - (m : Int))), (11, .int .i64 0), (12, .int .i64 (h : Int))],
      fun h => ⟨3, [(0, some (.cells 76 [.bool false, .roi .i64 d])), (1, some (.cells 76 [.bool false, .roi .i64 e])), (2, some (.cells 76 [.fls, .nils]))]⟩,
      fun h => h ≤ 1, fun h => h, ⟨hi.toNat, [some 0, some 1, some 2], by show hi.toNat ≤ 1; omega, ?_⟩, fun h hh2 => ?_⟩
    · (repeat' (first | (refine And.intro ?_ ?_) | exact True.intro | (show _ = _; with_reducible rfl) | exact Chk.mk (by kernel_rfl)))
      all_goals first | exact d1 | exact hh0 | rfl
    clear dr1 dr2 hq hh hhi hh0 d1 z3
    have hh2 : h ≤ 1 := hh2
    have be : bzv false e = valD e := rfl
    have BgO : ∀ z : Int, z = 0 ∨ z = 1 → Bg (decide (z < 0)) (dgs z.natAbs) := fun z hz => Bg_i64 (by omega) (by omega)
    by_cases h1 : h = 1
    · subst h1
      have m1 : Int.tdiv (0 + ((1 : Nat) : Int) + 1) 2 = 1 := by decide
      have rm : rngI .i64 (Int.tdiv (0 + ((1 : Nat) : Int) + 1) 2) := by rw [m1]; exact rng64 (by omega) (by omega)
      (repeat' (first | (refine xI (fun hfk => ?_) (fun hfk => ?_) <;> ((try (first | replace hfk := oT hfk | replace hfk := oF hfk | simp only [oD, ne_eq, reduceCtorEq] at hfk)); (try exact oX))) | refine And.intro oZ ?_ | exact True.intro | (show _ = _; first | exact oY | (first | exact rm | skip; done) | exact rfl) | exact oW | (apply And.intro)))
      refine ⟨[(2, .ptr 0 0), (3, .ptr 1 0), (4, .ptr 2 0), (5, .roi .i64 q), (6, .roi .i64 R), (7, .int .i64 (e.length : Int)), (8, .int .i64 T), (9, .int .i64 ((d.length : Int) - 1 - (m : Int))), (11, .int .i64 0), (12, .int .i64 ((1 : Nat) : Int)), (13, .int .i64 1)],
        ⟨3, [(0, some (.cells 76 [.bool false, .roi .i64 d])), (1, some (.cells 76 [.bool false, .roi .i64 e])), (2, some (.cells 76 [.fls, .nils]))]⟩, [some 0, some 1, some 2], ?_, ?_⟩
      · (repeat' (first | (refine And.intro ?_ ?_) | exact True.intro | (show _ = _; with_reducible rfl) | exact Chk.mk (by kernel_rfl)))
        all_goals first | exact m1 | rfl
      clear m1 rm
      have B1 := BgO 1 (.inr rfl)
      have ev : bzv (decide ((1 : Int) < 0)) (dgs (Int.natAbs 1)) * bzv false e = valD e := by rw [bzv_big, be, Int.one_mul]
      have hd : dgs (bzv (decide ((1 : Int) < 0)) (dgs (Int.natAbs 1)) * bzv false e).natAbs = e := by
        rw [ev]
        refine Eq.trans ?_ b2.can
        congr 1; omega
      have hc : cmpV (valD (dgs (bzv (decide ((1 : Int) < 0)) (dgs (Int.natAbs 1)) * bzv false e).natAbs)) (valD R) = 1 := by
        rw [hd]; unfold cmpV; rw [if_neg (by omega), if_pos (by omega)]
      have sh1 : Sh (dgs (bzv (decide ((1 : Int) < 0)) (dgs (Int.natAbs 1)) * bzv false e).natAbs) := by rw [hd]; exact b2.sh
      have dg1 : Dig (dgs (bzv (decide ((1 : Int) < 0)) (dgs (Int.natAbs 1)) * bzv false e).natAbs) := Dig_dgs _
      have shR : Sh R := ⟨by omega⟩
      clear ev hd
      (repeat' (first | (refine xI (fun hfk => ?_) (fun hfk => ?_) <;> ((try (first | replace hfk := oT hfk | replace hfk := oF hfk | simp only [oD, ne_eq, reduceCtorEq] at hfk)); (try exact oX))) | refine And.intro oZ ?_ | exact True.intro | (show _ = _; first | exact oY | (first | exact B1 | exact b2 | exact sh1 | exact dg1 | exact shR | exact RD | skip; done) | exact rfl) | exact oW | (apply And.intro)))
      refine ⟨0, [some 0, some 1, some 2], Nat.zero_le _, Nat.zero_lt_one, ?_⟩
      (repeat' (first | (refine And.intro ?_ ?_) | exact True.intro | (show _ = _; with_reducible rfl) | exact Chk.mk (by kernel_rfl)))
      all_goals first | rfl | (show (_ : Int) = _; omega)
    · obtain rfl : h = 0 := by omega
      have B0 := BgO 0 (.inl rfl)
      have ev : bzv (decide ((0 : Int) < 0)) (dgs (Int.natAbs 0)) * bzv false e = 0 := by rw [bzv_big, Int.zero_mul]
      have hd : dgs (bzv (decide ((0 : Int) < 0)) (dgs (Int.natAbs 0)) * bzv false e).natAbs = [] := by rw [ev]; exact dgs_0
      have hr : dgs (valD R - valD (dgs (bzv (decide ((0 : Int) < 0)) (dgs (Int.natAbs 0)) * bzv false e).natAbs)).toNat = R := by
        rw [hd]
        show dgs (valD R - 0).toNat = R
        rw [Int.sub_zero, ← hR, valD_dgs, Int.toNat_natCast]
      have sh1 : Sh (dgs (bzv (decide ((0 : Int) < 0)) (dgs (Int.natAbs 0)) * bzv false e).natAbs) := by rw [hd]; exact ⟨Nat.zero_le _⟩
      have dg1 : Dig (dgs (bzv (decide ((0 : Int) < 0)) (dgs (Int.natAbs 0)) * bzv false e).natAbs) := Dig_dgs _
      have le1 : valD (dgs (bzv (decide ((0 : Int) < 0)) (dgs (Int.natAbs 0)) * bzv false e).natAbs) ≤ valD R := by rw [hd]; exact Rn.2
      have shR : Sh R := ⟨by omega⟩
      clear ev hd
      (repeat' (first | (refine xI (fun hfk => ?_) (fun hfk => ?_) <;> ((try (first | replace hfk := oT hfk | replace hfk := oF hfk | simp only [oD, ne_eq, reduceCtorEq] at hfk)); (try exact oX))) | refine And.intro oZ ?_ | exact True.intro | (show _ = _; first | exact oY | (first | exact B0 | exact b2 | exact sh1 | exact dg1 | exact le1 | exact shR | exact RD | skip; done) | exact rfl) | exact oW | (apply And.intro)))
      refine ⟨[5], ?_⟩
      (repeat' (first | (refine xI (fun hfk => ?_) (fun hfk => ?_) <;> ((try (first | replace hfk := oT hfk | replace hfk := oF hfk | simp only [oD, ne_eq, reduceCtorEq] at hfk)); (try exact oX))) | refine And.intro oZ ?_ | exact True.intro | (show _ = _; first | exact oY | exact rfl) | exact oW | (apply And.intro)))
      have q1 : List.take (((fun x => (0 : Int) :: x) ([] : List Int)).length + q.length) (List.drop 0 ((fun x => (0 : Int) :: x) ([] : List Int) ++ q)) = 0 :: q := by
        show List.take (1 + q.length) ((0 : Int) :: q) = _
        rw [List.take_of_length_le (by rw [List.length_cons]; omega)]
      refine ⟨[(2, .ptr 0 0), (3, .ptr 1 0), (4, .ptr 2 0), (5, .roi .i64 (0 :: q)), (6, .roi .i64 R), (7, .int .i64 (e.length : Int)), (8, .int .i64 T), (9, .int .i64 ((d.length : Int) - 1 - (m : Int)))],
        ⟨3, [(0, some (.cells 76 [.bool false, .roi .i64 d])), (1, some (.cells 76 [.bool false, .roi .i64 e])), (2, some (.cells 76 [.fls, .nils]))]⟩, [some 0, some 1, some 2], ?_, ?_⟩
      · (repeat' (first | (refine And.intro ?_ ?_) | exact True.intro | (show _ = _; with_reducible rfl) | exact Chk.mk (by kernel_rfl)))
        all_goals first | exact q1 | exact hr | rfl
      clear q1 hr B0 sh1 dg1 le1 shR BgO
      (repeat' (first | (refine xI (fun hfk => ?_) (fun hfk => ?_) <;> ((try (first | replace hfk := oT hfk | replace hfk := oF hfk | simp only [oD, ne_eq, reduceCtorEq] at hfk)); (try exact oX))) | refine And.intro oZ ?_ | exact True.intro | (show _ = _; first | exact oY | exact rfl) | exact oW | (apply And.intro)))
      refine ⟨(m + 1, 0 :: q, R), [some 0, some 1, some 2], ⟨hlt, by rw [g2]; rfl, hR.symm⟩, ?mu2, ?_⟩
      case mu2 => (show d.length - (m + 1) < d.length - m; omega)
      (repeat' (first | (refine And.intro ?_ ?_) | exact True.intro | (show _ = _; with_reducible rfl) | exact Chk.mk (by kernel_rfl)))
      all_goals first | rfl | (show (_ : Int) = _; omega)
  · obtain rfl : m = d.length := by omega
    have tz : trimL q = [] := by
      rw [g2]
      have : Dig (List.replicate d.length 0) := fun x hx => by rw [(List.mem_replicate.1 hx).2]; exact ⟨by decide, by decide⟩
      rw [trim_dgs this, valD_zero]; exact dgs_0
    have sq : ShT q := ⟨by omega⟩
    have e0 : dgs (Int.natAbs 0) = [] := dgs_0
    (repeat' (first | (refine xI (fun hfk => ?_) (fun hfk => ?_) <;> ((try (first | replace hfk := oT hfk | replace hfk := oF hfk | simp only [oD, ne_eq, reduceCtorEq] at hfk)); (try exact oX))) | refine And.intro oZ ?_ | exact True.intro | (show _ = _; first | exact oY | (first | exact sq | exact tz | exact tz.trans e0.symm | rfl; done) | exact rfl) | exact oW | (apply And.intro)))
end Go.Proofs.YtljdahepmmgfeaaGreatDoor
namespace Go.Proofs.YtljdahepmmgfeaaGreatDoor
open Go Go.RowKit
abbrev floor1S : PSpec := gB2 (fun s d t e => [Bg s d, Bg t e, s = false, t = false, 4 < d.length, d.length ≤ 1000, e.length = 1]) fun s d t e => bigA (valD d / valD e)
structure QI (V W : Int) (q : List Int) (x : Int) : Prop where
  dig : Dig q
  eq : valD q * V + x = W
  lo : 0 ≤ x
  hi : x < V
theorem qi_next {V W a x Q : Int} {q : List Int} (h : QI V W q x) (hV : 0 < V) (ha : 0 ≤ a ∧ a < 32768) (hQ : Q = (a + 32768 * x) / V) : QI V (a + 32768 * W) (Q :: q) (a + 32768 * x - Q * V) ∧ 0 ≤ Q ∧ Q < 32768 ∧ Q * V ≤ a + 32768 * x := by
  have x0 := h.lo
  have x1 := h.hi
  have q0 : 0 ≤ Q := by rw [hQ]; exact Int.ediv_nonneg (by omega) (by omega)
  have q1 : Q < 32768 := by rw [hQ]; exact Int.ediv_lt_of_lt_mul hV (by omega)
  have e1 := Int.emod_add_mul_ediv (a + 32768 * x) V
  have e2 := Int.emod_nonneg (a + 32768 * x) (show V ≠ 0 by omega)
  have e3 := Int.emod_lt_of_pos (a + 32768 * x) hV
  rw [← hQ] at e1
  have e4 : Q * V = V * Q := Int.mul_comm _ _
  refine ⟨⟨Dig.cons ⟨q0, q1⟩ h.dig, ?_, by omega, by omega⟩, q0, q1, by omega⟩
  have e5 := h.eq
  show (Q + 32768 * valD q) * V + (a + 32768 * x - Q * V) = a + 32768 * W
  rw [← e5, Int.add_mul, Int.mul_add, Int.mul_assoc]
  omega
theorem qi_end {V W x : Int} {q : List Int} (h : QI V W q x) (hV : 0 < V) : valD q = W / V := by
  have := h.eq
  have x0 := h.lo
  have x1 := h.hi
  have : W = x + valD q * V := by omega
  rw [this, Int.add_mul_ediv_right _ _ (by omega), Int.ediv_eq_zero_of_lt x0 x1, Int.zero_add]
theorem dgAt2 {x : Int} (h0 : 0 ≤ x) (h1 : x < 1073741824) : dgAt (dgs x.toNat) 1 * 32768 + dgAt (dgs x.toNat) 0 = x ∧ (dgs x.toNat).length ≤ 2 := by
  have hl := dgs_len (k := 2) (n := x.toNat) (by have : (32768 : Nat) ^ 2 = 1073741824 := rfl
                                                 omega)
  have hv := valD_dgs x.toNat
  have hd := Dig_dgs x.toNat
  refine ⟨?_, hl⟩
  generalize dgs x.toNat = l at hl hv hd
  match l, hl with
  | [], _ => simp [valD] at hv; show (0 : Int) * 32768 + 0 = x; omega
  | [a], _ => simp [valD] at hv; show (0 : Int) * 32768 + a = x; omega
  | [a, b], _ => simp [valD] at hv; show b * 32768 + a = x; omega
theorem floor1_s : SOK Tryz.prog 73 floor1S := by
  refine sok_of (C := mkE 0 [(102, shortS), (103, digitS), (104, trimS), (46, ofS), (76, fun l => mulS (l.map fzA)), (105, lessS), (106, restS01), (107, madeS)] (glook [(104, frzP trimS)]) [] [] [10, 11, 14, 1000019])
    (mkE_ok (pok_cons short_s (pok_cons digit_s (pok_cons trim_s (pok_cons of_s (pok_cons (sok_fz mul_s) (pok_cons less_s (pok_cons rest01_s (pok_cons made_s pok_nil)))))))) (gl_cons (gfrzP trim_s) gl_nil) dl_nil) rfl mixed ⟨Tryz.func73, by kernel_rfl, by kernel_rfl, by kernel_rfl⟩ fun l obs v h ho => ?_
  unfold floor1S at h
  (unfold gB2 at h; split at h; rotate_left; (focus (cases h)); rename_i s d t e; simp only [Option.some.injEq, Prod.mk.injEq] at h; obtain ⟨rfl, rfl⟩ := h; simp only [List.mem_cons, List.not_mem_nil, or_false, forall_eq_or_imp, forall_eq, false_implies, implies_true] at ho)
  obtain ⟨b1, b2, rfl, rfl, h3, h4, h5⟩ := ho
  have n1 := valD_nn b1.dig
  have te1 := dgAt_bd b2.dig 0
  obtain ⟨V, hV⟩ : ∃ V, dgAt e 0 = V := ⟨_, rfl⟩
  have vE : valD e = V := by
    match e, h5 with
    | [a], _ => simp [valD]; exact hV
  have top : 1 ≤ V := by
    have hz : valD e ≠ 0 := fun k => by have := b2.can; rw [k] at this; rw [show (0 : Int).toNat = 0 from rfl, dgs_0] at this; rw [← this] at h5; simp at h5
    omega
  have V1 : V < 32768 := by omega
  have t1 : dgAt e ((e.length : Int) - 1) = V := by rw [h5]; exact hV
  have t2 : dgAt e ((e.length : Int) - 2) = 0 := if_neg (by omega)
  rw [vE]
  refine ⟨Nat.le_of_ble_eq_true rfl, ?_⟩
  have rt1 : rngI .i64 (dgAt e ((e.length : Int) - 1) * 32768) := rng64 (by omega) (by omega)
  have rt2 : rngI .i64 (dgAt e ((e.length : Int) - 1) * 32768 + dgAt e ((e.length : Int) - 2)) := rng64 (by omega) (by omega)
  obtain ⟨T, hT⟩ : ∃ T, dgAt e ((e.length : Int) - 1) * 32768 + dgAt e ((e.length : Int) - 2) = T := ⟨_, rfl⟩
  have hTV : T = V * 32768 := by omega
  (repeat' (first | (refine xI (fun hfk => ?_) (fun hfk => ?_) <;> ((try (first | replace hfk := oT hfk | replace hfk := oF hfk | simp only [oD, ne_eq, reduceCtorEq] at hfk)); (try exact oX))) | refine And.intro oZ ?_ | exact True.intro | (show _ = _; first | exact oY | (first | exact rt1 | exact rt2; done) | exact rfl) | exact oW | (apply And.intro)))
  have r0 : ([] : List Int) = dgs (0 : Int).toNat := dgs_0.symm
  have w0 : valD (d.drop (d.length - 0)) = 0 := by rw [Nat.sub_zero, List.drop_of_length_le (Nat.le_refl _)]; rfl
  have qi0 : QI V (valD (d.drop (d.length - 0))) [] 0 := ⟨(fun x hx => by cases hx), (by rw [w0]; simp [valD]), Int.le_refl _, by omega⟩
  refine ⟨Nat × List Int × List Int × Int, fun g => [(2, .ptr 0 0), (3, .ptr 1 0), (4, .ptr 2 0), (5, .roi .i64 g.2.1), (6, .roi .i64 g.2.2.1), (7, .int .i64 (e.length : Int)), (8, .int .i64 T), (9, .int .i64 ((d.length : Int) - 1 - (g.1 : Int)))],
      fun g => ⟨3, [(0, some (.cells 76 [.bool false, .roi .i64 d])), (1, some (.cells 76 [.bool false, .roi .i64 e])), (2, some (.cells 76 [.fls, .nils]))]⟩,
      fun g => g.1 ≤ d.length ∧ g.2.1.length = g.1 ∧ QI V (valD (d.drop (d.length - g.1))) g.2.1 g.2.2.2 ∧ g.2.2.1 = dgs g.2.2.2.toNat, fun g => d.length - g.1, ⟨(0, [], [], 0), [some 0, some 1, some 2], ⟨Nat.zero_le _, rfl, qi0, r0⟩, ?_⟩, fun g hg => ?_⟩
  · (repeat' (first | (refine And.intro ?_ ?_) | exact True.intro | (show _ = _; with_reducible rfl) | exact Chk.mk (by kernel_rfl)))
    all_goals first | exact hT | rfl | (show (_ : Int) = _; omega)
  obtain ⟨m, q, r, x0⟩ := g
  obtain ⟨g1, g2, g3, g4⟩ := hg
  have g1 : m ≤ d.length := g1
  have ql : q.length = m := g2
  have g3 : QI V (valD (d.drop (d.length - m))) q x0 := g3
  have g4 : r = dgs x0.toNat := g4
  dsimp only
  clear r0 hT te1 rt1 rt2 qi0 w0
  have xl := g3.lo
  have xh := g3.hi
  by_cases hlt : m < d.length
  · have rl4 : r.length ≤ 1 := by
      rw [g4]
      exact dgs_len (k := 1) (by have : (32768 : Nat) ^ 1 = 32768 := rfl
                                 omega)
    have rr : rngI .i64 ((d.length : Int) - 1 - (m : Int) - 1) := rng64 (by omega) (by omega)
    obtain ⟨a, ha⟩ : ∃ a, d.getD (d.length - (m + 1)) 0 = a := ⟨_, rfl⟩
    obtain ⟨x, hx⟩ : ∃ x, a + 32768 * x0 = x := ⟨_, rfl⟩
    obtain ⟨R, hR⟩ : ∃ R, dgs x.toNat = R := ⟨_, rfl⟩
    have ei : ((d.length : Int) - 1 - (m : Int)).toNat = d.length - (m + 1) := by omega
    have hcons : d.getD ((d.length : Int) - 1 - (m : Int)).toNat 0 :: r = a :: dgs x0.toNat := by rw [ei, g4, ha]
    have hdr : d.drop (d.length - (m + 1)) = a :: d.drop (d.length - m) := by
      rw [drop_dg (by omega), dgAt_in (by omega), ha, show d.length - (m + 1) + 1 = d.length - m by omega]
    have hda : 0 ≤ a ∧ a < 32768 := by
      have := b1.dig.drop (d.length - (m + 1))
      rw [hdr] at this
      exact ⟨this.head.lo, this.head.hi⟩
    have hdg : Dig (a :: dgs x0.toNat) := Dig.cons ⟨hda.1, hda.2⟩ (Dig_dgs _)
    have hv : valD (a :: dgs x0.toNat) = x := by
      show a + 32768 * valD (dgs _) = x
      rw [valD_dgs, Int.toNat_of_nonneg xl, hx]
    have hW : valD (d.drop (d.length - (m + 1))) = a + 32768 * valD (d.drop (d.length - m)) := by rw [hdr]; rfl
    obtain ⟨Q, hQ⟩ : ∃ Q, (a + 32768 * x0) / V = Q := ⟨_, rfl⟩
    obtain ⟨qn, Q0, Q1, Q2⟩ := qi_next g3 (by omega) hda hQ.symm
    rw [← hW] at qn
    rw [hx] at qn hQ Q2
    have x1 : 0 ≤ x ∧ x < 32768 * V := by omega
    have htr : trimL (List.take (((fun x => d.getD ((d.length : Int) - 1 - (m : Int)).toNat 0 :: x) ([] : List Int)).length + r.length) (List.drop 0 ((fun x => d.getD ((d.length : Int) - 1 - (m : Int)).toNat 0 :: x) ([] : List Int) ++ r))) = R := by
      have e1 : List.take (((fun x => d.getD ((d.length : Int) - 1 - (m : Int)).toNat 0 :: x) ([] : List Int)).length + r.length) (List.drop 0 ((fun x => d.getD ((d.length : Int) - 1 - (m : Int)).toNat 0 :: x) ([] : List Int) ++ r)) = d.getD ((d.length : Int) - 1 - (m : Int)).toNat 0 :: r := by
        show List.take (1 + r.length) (d.getD ((d.length : Int) - 1 - (m : Int)).toNat 0 :: r) = _
        rw [List.take_of_length_le (by rw [List.length_cons]; omega)]
      rw [e1, hcons, trim_dgs hdg, hv, hR]
    have hst : ShT (List.take (((fun x => d.getD ((d.length : Int) - 1 - (m : Int)).toNat 0 :: x) ([] : List Int)).length + r.length) (List.drop 0 ((fun x => d.getD ((d.length : Int) - 1 - (m : Int)).toNat 0 :: x) ([] : List Int) ++ r))) := by
      refine ⟨?_⟩
      show (List.take (1 + r.length) (d.getD ((d.length : Int) - 1 - (m : Int)).toNat 0 :: r)).length ≤ 4000000
      rw [List.length_take, List.length_cons]; omega
    (repeat' (first | (refine xI (fun hfk => ?_) (fun hfk => ?_) <;> ((try (first | replace hfk := oT hfk | replace hfk := oF hfk | simp only [oD, ne_eq, reduceCtorEq] at hfk)); (try exact oX))) | refine And.intro oZ ?_ | exact True.intro | (show _ = _; first | exact oY | (first | exact hst | skip; done) | exact rfl) | exact oW | (apply And.intro)))
    refine ⟨[(2, .ptr 0 0), (3, .ptr 1 0), (4, .ptr 2 0), (5, .roi .i64 q), (6, .roi .i64 R), (7, .int .i64 (e.length : Int)), (8, .int .i64 T), (9, .int .i64 ((d.length : Int) - 1 - (m : Int)))],
      ⟨3, [(0, some (.cells 76 [.bool false, .roi .i64 d])), (1, some (.cells 76 [.bool false, .roi .i64 e])), (2, some (.cells 76 [.fls, .nils]))]⟩, [some 0, some 1, some 2], ?_, ?_⟩
    · (repeat' (first | (refine And.intro ?_ ?_) | exact True.intro | (show _ = _; with_reducible rfl) | exact Chk.mk (by kernel_rfl)))
      all_goals first | exact htr | rfl
    clear htr hst hv hdg hdr hcons ei hW
    obtain ⟨d2, Rl⟩ := dgAt2 (x := x) x1.1 (by omega)
    rw [hR] at d2 Rl
    have RD : Dig R := by rw [← hR]; exact Dig_dgs _
    have Rv : valD R = x := by rw [← hR, valD_dgs]; omega
    have z1 : dgAt R (e.length : Int) = dgAt R 1 := by rw [h5]; rfl
    have z2 : dgAt R ((e.length : Int) - 1) = dgAt R 0 := by rw [h5]; rfl
    have z3 : dgAt R ((e.length : Int) - 2) = 0 := if_neg (by omega)
    have zb := dgAt_bd RD (e.length : Int)
    have zc := dgAt_bd RD ((e.length : Int) - 1)
    obtain ⟨f, hf⟩ : ∃ f, x * 32768 = f := ⟨_, rfl⟩
    (repeat' (first | (refine xI (fun hfk => ?_) (fun hfk => ?_) <;> ((try (first | replace hfk := oT hfk | replace hfk := oF hfk | simp only [oD, ne_eq, reduceCtorEq] at hfk)); (try exact oX))) | refine And.intro oZ ?_ | exact True.intro | (show _ = _; first | exact oY | exact rfl) | exact oW | (apply And.intro)))
    refine ⟨[(2, .ptr 0 0), (3, .ptr 1 0), (4, .ptr 2 0), (5, .roi .i64 q), (6, .roi .i64 R), (7, .int .i64 (e.length : Int)), (8, .int .i64 T), (9, .int .i64 ((d.length : Int) - 1 - (m : Int))), (10, .int .i64 f)],
      ⟨3, [(0, some (.cells 76 [.bool false, .roi .i64 d])), (1, some (.cells 76 [.bool false, .roi .i64 e])), (2, some (.cells 76 [.fls, .nils]))]⟩, [some 0, some 1, some 2], ?_, ?_⟩
    · have ef : (dgAt R (e.length : Int) * 32768 + dgAt R ((e.length : Int) - 1)) * 32768 + dgAt R ((e.length : Int) - 2) = f := by rw [z1, z2, z3, d2, hf]; omega
      (repeat' (first | (refine And.intro ?_ ?_) | exact True.intro | (show _ = _; with_reducible rfl) | exact Chk.mk (by kernel_rfl)))
      all_goals first | exact ef | rfl
    clear z1 z2 z3 zb zc d2
    have f0 : 0 ≤ f := by omega
    have l0 : 0 ≤ f.tdiv (T + 1) ∧ f.tdiv (T + 1) ≤ Q := by
      rw [Int.tdiv_eq_ediv_of_nonneg f0]
      refine ⟨Int.ediv_nonneg f0 (by omega), ?_⟩
      have hm : x < (Q + 1) * V := Int.lt_mul_of_ediv_lt (by omega) (by omega)
      have : f / (T + 1) < Q + 1 := Int.ediv_lt_of_lt_mul (by omega) (by
        rw [hTV, Int.mul_add, ← Int.mul_assoc]
        omega)
      omega
    have l1 : Q ≤ min 32767 ((f + 1).tdiv T) := by
      rw [Int.tdiv_eq_ediv_of_nonneg (by omega)]
      have : Q ≤ (f + 1) / T := Int.le_ediv_of_mul_le (by omega) (by
        rw [hTV, ← Int.mul_assoc]
        omega)
      omega
    have l2 : 0 ≤ (f + 1).tdiv T ∧ (f + 1).tdiv T ≤ f + 1 := by
      rw [Int.tdiv_eq_ediv_of_nonneg (by omega)]
      exact ⟨Int.ediv_nonneg (by omega) (by omega), Int.ediv_le_self _ (by omega)⟩
    have dr1 : rngI .i64 (f.tdiv (T + 1)) := rng64 (by omega) (by omega)
    have dr2 : rngI .i64 ((f + 1).tdiv T) := rng64 (by omega) (by omega)
    (repeat' (first | (refine xI (fun hfk => ?_) (fun hfk => ?_) <;> ((try (first | replace hfk := oT hfk | replace hfk := oF hfk | simp only [oD, ne_eq, reduceCtorEq] at hfk)); (try exact oX))) | refine And.intro oZ ?_ | exact True.intro | (show _ = _; first | exact oY | (first | exact dr1 | exact dr2 | skip; done) | exact rfl) | exact oW | (apply And.intro)))
    refine ⟨Int × Int, fun h => [(2, .ptr 0 0), (3, .ptr 1 0), (4, .ptr 2 0), (5, .roi .i64 q), (6, .roi .i64 R), (7, .int .i64 (e.length : Int)), (8, .int .i64 T), (9, .int .i64 ((d.length : Int) - 1 - (m : Int))), (11, .int .i64 h.1), (12, .int .i64 h.2)],
      fun h => ⟨3, [(0, some (.cells 76 [.bool false, .roi .i64 d])), (1, some (.cells 76 [.bool false, .roi .i64 e])), (2, some (.cells 76 [.fls, .nils]))]⟩,
      fun h => 0 ≤ h.1 ∧ h.1 ≤ Q ∧ Q ≤ h.2 ∧ h.2 ≤ 32767, fun h => (h.2 - h.1).toNat, ⟨(f.tdiv (T + 1), min 32767 ((f + 1).tdiv T)), [some 0, some 1, some 2], ⟨l0.1, l0.2, l1, by show min 32767 ((f + 1).tdiv T) ≤ 32767; omega⟩, ?_⟩, fun h hh2 => ?_⟩
    · (repeat' (first | (refine And.intro ?_ ?_) | exact True.intro | (show _ = _; with_reducible rfl) | exact Chk.mk (by kernel_rfl)))
      all_goals rfl
    clear dr1 dr2 l0 l1 l2
    obtain ⟨lo, hi⟩ := h
    obtain ⟨i1, i2, i3, i4⟩ := hh2
    have i1 : 0 ≤ lo := i1
    have i2 : lo ≤ Q := i2
    have i3 : Q ≤ hi := i3
    have i4 : hi ≤ 32767 := i4
    dsimp only
    have be : bzv false e = V := vE
    have shR : Sh R := ⟨by omega⟩
    have hmul : ∀ y : Int, 0 ≤ y → y ≤ 32768 → bzv (decide (y < 0)) (dgs y.natAbs) * bzv false e = y * V ∧ 0 ≤ y * V ∧ y * V ≤ 32768 * V := fun y h0 h1 => by
      rw [bzv_big, be]; exact ⟨rfl, Int.mul_nonneg h0 (by omega), Int.mul_le_mul_of_nonneg_right h1 (by omega)⟩
    have hlen : ∀ z : Int, 0 ≤ z → z ≤ 32768 * V → valD (dgs z.natAbs) = z ∧ Sh (dgs z.natAbs) ∧ Dig (dgs z.natAbs) := fun z h0 h1 => by
      have := dgs_len (k := 3) (n := z.natAbs) (by have : (32768 : Nat) ^ 3 = 35184372088832 := rfl
                                                   omega)
      exact ⟨by rw [valD_dgs]; omega, ⟨by omega⟩, Dig_dgs _⟩
    by_cases hlh : lo < hi
    · obtain ⟨y, hy⟩ : ∃ y, (lo + hi + 1) / 2 = y := ⟨_, rfl⟩
      have m1 : Int.tdiv (lo + hi + 1) 2 = y := by rw [Int.tdiv_eq_ediv_of_nonneg (by omega), hy]
      have y0 : lo < y ∧ y ≤ hi := by omega
      have rm : rngI .i64 (Int.tdiv (lo + hi + 1) 2) := by rw [m1]; exact rng64 (by omega) (by omega)
      (repeat' (first | (refine xI (fun hfk => ?_) (fun hfk => ?_) <;> ((try (first | replace hfk := oT hfk | replace hfk := oF hfk | simp only [oD, ne_eq, reduceCtorEq] at hfk)); (try exact oX))) | refine And.intro oZ ?_ | exact True.intro | (show _ = _; first | exact oY | (first | exact rm | skip; done) | exact rfl) | exact oW | (apply And.intro)))
      refine ⟨[(2, .ptr 0 0), (3, .ptr 1 0), (4, .ptr 2 0), (5, .roi .i64 q), (6, .roi .i64 R), (7, .int .i64 (e.length : Int)), (8, .int .i64 T), (9, .int .i64 ((d.length : Int) - 1 - (m : Int))), (11, .int .i64 lo), (12, .int .i64 hi), (13, .int .i64 y)],
        ⟨3, [(0, some (.cells 76 [.bool false, .roi .i64 d])), (1, some (.cells 76 [.bool false, .roi .i64 e])), (2, some (.cells 76 [.fls, .nils]))]⟩, [some 0, some 1, some 2], ?_, ?_⟩
      · (repeat' (first | (refine And.intro ?_ ?_) | exact True.intro | (show _ = _; with_reducible rfl) | exact Chk.mk (by kernel_rfl)))
        all_goals first | exact m1 | rfl
      clear m1 rm
      obtain ⟨hm1, hm2, hm3⟩ := hmul y (by omega) (by omega)
      obtain ⟨hn1, hn2, hn3⟩ := hlen (y * V) hm2 hm3
      rw [← hm1] at hn1 hn2 hn3
      have B1 : Bg (decide (y < 0)) (dgs y.natAbs) := Bg_i64 (by omega) (by omega)
      by_cases hc : y * V ≤ x
      · have hQy : y ≤ Q := by rw [← hQ]; exact Int.le_ediv_of_mul_le (by omega) hc
        have hcm : cmpV (valD (dgs (bzv (decide (y < 0)) (dgs (Int.natAbs y)) * bzv false e).natAbs)) (valD R) ≤ 0 := by
          rw [hn1, Rv, hm1]; unfold cmpV; split
          · decide
          · rw [if_neg (by omega)]; decide
        clear hmul hlen
        (repeat' (first | (refine xI (fun hfk => ?_) (fun hfk => ?_) <;> ((try (first | replace hfk := oT hfk | replace hfk := oF hfk | simp only [oD, ne_eq, reduceCtorEq] at hfk)); (try exact oX))) | refine And.intro oZ ?_ | exact True.intro | (show _ = _; first | exact oY | (first | exact B1 | exact b2 | exact hn2 | exact hn3 | exact shR | exact RD | skip; done) | exact rfl) | exact oW | (apply And.intro)))
        refine ⟨(y, hi), [some 0, some 1, some 2], ⟨by show 0 ≤ y; omega, hQy, i3, i4⟩, ?mu, ?_⟩
        case mu => (show (hi - y).toNat < (hi - lo).toNat; omega)
        (repeat' (first | (refine And.intro ?_ ?_) | exact True.intro | (show _ = _; with_reducible rfl) | exact Chk.mk (by kernel_rfl)))
        all_goals rfl
      · have hQy : Q < y := by rw [← hQ]; exact Int.ediv_lt_of_lt_mul (by omega) (by omega)
        have hcm : ¬ cmpV (valD (dgs (bzv (decide (y < 0)) (dgs (Int.natAbs y)) * bzv false e).natAbs)) (valD R) ≤ 0 := by
          rw [hn1, Rv, hm1]; unfold cmpV; rw [if_neg (by omega), if_pos (by omega)]; decide
        clear hmul hlen
        (repeat' (first | (refine xI (fun hfk => ?_) (fun hfk => ?_) <;> ((try (first | replace hfk := oT hfk | replace hfk := oF hfk | simp only [oD, ne_eq, reduceCtorEq] at hfk)); (try exact oX))) | refine And.intro oZ ?_ | exact True.intro | (show _ = _; first | exact oY | (first | exact B1 | exact b2 | exact hn2 | exact hn3 | exact shR | exact RD | skip; done) | exact rfl) | exact oW | (apply And.intro)))
        refine ⟨(lo, y - 1), [some 0, some 1, some 2], ⟨i1, i2, by show Q ≤ y - 1; omega, by show y - 1 ≤ 32767; omega⟩, ?mu3, ?_⟩
        case mu3 => (show (y - 1 - lo).toNat < (hi - lo).toNat; omega)
        (repeat' (first | (refine And.intro ?_ ?_) | exact True.intro | (show _ = _; with_reducible rfl) | exact Chk.mk (by kernel_rfl)))
        all_goals rfl
    · have eQ : lo = Q := by omega
      subst eQ
      obtain ⟨hm1, hm2, hm3⟩ := hmul lo (by omega) (by omega)
      obtain ⟨hn1, hn2, hn3⟩ := hlen (lo * V) hm2 hm3
      rw [← hm1] at hn1 hn2 hn3
      have B0 : Bg (decide (lo < 0)) (dgs lo.natAbs) := Bg_i64 (by omega) (by omega)
      have le1 : valD (dgs (bzv (decide (lo < 0)) (dgs (Int.natAbs lo)) * bzv false e).natAbs) ≤ valD R := by rw [hn1, Rv, hm1]; exact Q2
      have hr : dgs (valD R - valD (dgs (bzv (decide (lo < 0)) (dgs (Int.natAbs lo)) * bzv false e).natAbs)).toNat = dgs (x - lo * V).toNat := by rw [hn1, Rv, hm1]
      clear hmul hlen
      (repeat' (first | (refine xI (fun hfk => ?_) (fun hfk => ?_) <;> ((try (first | replace hfk := oT hfk | replace hfk := oF hfk | simp only [oD, ne_eq, reduceCtorEq] at hfk)); (try exact oX))) | refine And.intro oZ ?_ | exact True.intro | (show _ = _; first | exact oY | (first | exact B0 | exact b2 | exact hn2 | exact hn3 | exact le1 | exact shR | exact RD | skip; done) | exact rfl) | exact oW | (apply And.intro)))
      refine ⟨[5], ?_⟩
      (repeat' (first | (refine xI (fun hfk => ?_) (fun hfk => ?_) <;> ((try (first | replace hfk := oT hfk | replace hfk := oF hfk | simp only [oD, ne_eq, reduceCtorEq] at hfk)); (try exact oX))) | refine And.intro oZ ?_ | exact True.intro | (show _ = _; first | exact oY | exact rfl) | exact oW | (apply And.intro)))
      have q1 : List.take (((fun x => lo :: x) ([] : List Int)).length + q.length) (List.drop 0 ((fun x => lo :: x) ([] : List Int) ++ q)) = lo :: q := by
        show List.take (1 + q.length) (lo :: q) = _
        rw [List.take_of_length_le (by rw [List.length_cons]; omega)]
      refine ⟨[(2, .ptr 0 0), (3, .ptr 1 0), (4, .ptr 2 0), (5, .roi .i64 (lo :: q)), (6, .roi .i64 (dgs (x - lo * V).toNat)), (7, .int .i64 (e.length : Int)), (8, .int .i64 T), (9, .int .i64 ((d.length : Int) - 1 - (m : Int)))],
        ⟨3, [(0, some (.cells 76 [.bool false, .roi .i64 d])), (1, some (.cells 76 [.bool false, .roi .i64 e])), (2, some (.cells 76 [.fls, .nils]))]⟩, [some 0, some 1, some 2], ?_, ?_⟩
      · (repeat' (first | (refine And.intro ?_ ?_) | exact True.intro | (show _ = _; with_reducible rfl) | exact Chk.mk (by kernel_rfl)))
        all_goals first | exact q1 | exact hr | rfl
      clear q1 hr B0 le1 shR
      (repeat' (first | (refine xI (fun hfk => ?_) (fun hfk => ?_) <;> ((try (first | replace hfk := oT hfk | replace hfk := oF hfk | simp only [oD, ne_eq, reduceCtorEq] at hfk)); (try exact oX))) | refine And.intro oZ ?_ | exact True.intro | (show _ = _; first | exact oY | exact rfl) | exact oW | (apply And.intro)))
      refine ⟨(m + 1, lo :: q, dgs (x - lo * V).toNat, x - lo * V), [some 0, some 1, some 2], ⟨hlt, by show q.length + 1 = m + 1; rw [ql], qn, rfl⟩, ?mu2, ?_⟩
      case mu2 => (show d.length - (m + 1) < d.length - m; omega)
      (repeat' (first | (refine And.intro ?_ ?_) | exact True.intro | (show _ = _; with_reducible rfl) | exact Chk.mk (by kernel_rfl)))
      all_goals first | rfl | (show (_ : Int) = _; omega)
  · obtain rfl : m = d.length := by omega
    have hq := qi_end g3 (by omega)
    rw [Nat.sub_self, List.drop_zero] at hq
    have tz : trimL q = dgs (valD d / V).natAbs := by
      have nn : 0 ≤ valD d / V := Int.ediv_nonneg n1 (by omega)
      rw [trim_dgs g3.dig, hq]; congr 1; omega
    have sq : ShT q := ⟨by omega⟩
    have nn : ¬ valD d / V < 0 := by have : 0 ≤ valD d / V := Int.ediv_nonneg n1 (by omega)
                                     omega
    have eb : bigA (valD d / V) = .agg [.bool false, .roi .i64 (dgs (valD d / V).natAbs)] := by unfold bigA; rw [decide_eq_false nn]
    rw [eb]
    clear eb nn hq
    (repeat' (first | (refine xI (fun hfk => ?_) (fun hfk => ?_) <;> ((try (first | replace hfk := oT hfk | replace hfk := oF hfk | simp only [oD, ne_eq, reduceCtorEq] at hfk)); (try exact oX))) | refine And.intro oZ ?_ | exact True.intro | (show _ = _; first | exact oY | (first | exact sq | exact tz | rfl; done) | exact rfl) | exact oW | (apply And.intro)))
theorem sok_cases {P : Program} {g : FuncId} {s1 s2 s : PSpec} (h1 : SOK P g s1) (h2 : SOK P g s2) (k : ∀ l obs v, s l = some (obs, v) → (∀ p ∈ obs, p) → (∃ obs', s1 l = some (obs', v) ∧ ∀ p ∈ obs', p) ∨ (∃ obs', s2 l = some (obs', v) ∧ ∀ p ∈ obs', p)) : SOK P g s :=
  ⟨h1.1, fun l obs v e ho w O cl h3 h4 => by
    rcases k l obs v e ho with ⟨obs', k1, k2⟩ | ⟨obs', k1, k2⟩
    · exact h1.2 l obs' v k1 k2 w O cl h3 h4
    · exact h2.2 l obs' v k1 k2 w O cl h3 h4⟩
abbrev floorOneS : PSpec := gB2 (fun s d t e => [Bg s d, Bg t e, s = false, t = false, d.length ≤ 1000, e.length = 1]) fun s d t e => bigA (valD d / valD e)
theorem valD_len : ∀ {k : Nat} {l : List Int}, Dig l → l.length ≤ k → valD l < ((32768 ^ k : Nat) : Int)
  | k, [], _, _ => by have : 0 < 32768 ^ k := Nat.pow_pos (by decide)
                      show (0 : Int) < _; omega
  | 0, d :: l, _, h => by simp at h
  | k + 1, d :: l, hd, h => by
    have ih := valD_len (k := k) (l := l) hd.tail (by simpa using h)
    have h2 := hd.head.hi
    show d + 32768 * valD l < _
    rw [Nat.pow_succ, Int.natCast_mul]
    have : ((32768 : Nat) : Int) = 32768 := rfl
    rw [this]
    omega
theorem floorOne_s : SOK Tryz.prog 73 floorOneS := by
  refine sok_cases floor_s floor1_s fun l obs v h ho => ?_
  unfold floorOneS at h
  (unfold gB2 at h; split at h; rotate_left; (focus (cases h)); rename_i s d t e; simp only [Option.some.injEq, Prod.mk.injEq] at h; obtain ⟨rfl, rfl⟩ := h; simp only [List.mem_cons, List.not_mem_nil, or_false, forall_eq_or_imp, forall_eq, false_implies, implies_true] at ho)
  obtain ⟨b1, b2, h3, h4, h5, h6⟩ := ho
  by_cases k : d.length ≤ 4
  · left
    have v1 := valD_len b1.dig k
    have v2 := valD_len (k := 1) b2.dig (by omega)
    have z : 0 < valD e := by
      have hz : valD e ≠ 0 := fun k => by have := b2.can; rw [k] at this; rw [show (0 : Int).toNat = 0 from rfl, dgs_0] at this; rw [← this] at h6; simp at h6
      have := valD_nn b2.dig
      omega
    rw [show ((32768 ^ 4 : Nat) : Int) = 1152921504606846976 from rfl] at v1
    rw [show ((32768 ^ 1 : Nat) : Int) = 32768 from rfl] at v2
    refine ⟨_, rfl, ?_⟩
    intro p hp
    simp only [List.mem_cons, List.not_mem_nil, or_false] at hp
    rcases hp with rfl | rfl | rfl | rfl | rfl | rfl | rfl
    · exact b1
    · exact b2
    · exact h3
    · exact h4
    · exact v1
    · exact z
    · omega
  · right
    refine ⟨_, rfl, ?_⟩
    intro p hp
    simp only [List.mem_cons, List.not_mem_nil, or_false] at hp
    rcases hp with rfl | rfl | rfl | rfl | rfl | rfl | rfl
    · exact b1
    · exact b2
    · exact h3
    · exact h4
    · omega
    · exact h5
    · exact h6
end Go.Proofs.YtljdahepmmgfeaaGreatDoor
namespace Go.Proofs.YtljdahepmmgfeaaGreatDoor
open Go Go.RowKit
def nilB (o : Op) (e : Env) : Bool := match o with
  | .call { callee := .builtin .append, args, argTypes } => (match args.toList with
    | [d, s] => (match evA e d, evA e s with | some .nils, some (.str _) => true | _, _ => false)
    | _ => false)
  | _ => false
def appN (T : TypeId → Option TI) (H : AH) (t t' : TypeId) (z : List UInt8) (K : AV → AH → Prop) : Prop :=
  match tdq T t, tdq T t' with
  | .slice el, .str => (match T el, tdq T el with
    | some i, .int .u8 => bif Nat.beq i.sz 1 && Nat.beq i.by_ 1 && Nat.beq i.zero.length 1 then
        ((0 < z.length ∧ z.length ≤ 140737488355328) ∧ K (.sl H.nx 1 0 z.length) (H.push (.ints el .u8 (z.map fun c => (c.toNat : Int))))) else False
    | _, _ => False)
  | _, _ => False
noncomputable def appXN (T : TypeId → Option TI) (o : Op) (e : Env) (H : AH) (K : AV → AH → Prop) : Prop := match o with
  | .call { callee := .builtin .append, args, argTypes } => (match args.toList, argTypes.toList with
    | [d, s], [t, t'] => (match evA e d, evA e s with | some .nils, some (.str z) => appN T H t t' z K | _, _ => False)
    | _, _ => False)
  | _ => False
noncomputable def xop6 (T : TypeId → Option TI) (o : Op) (e : Env) (H : AH) (K : AV → AH → Prop) : Prop := match nilB o e with
  | true => appXN T o e H K
  | false => xop5 T o e H K
theorem run_append_nil_string {P : Program} {w : World} (t u ty e : TypeId) (i : TypeInfo) (z : Value) (ht : P.underlying t = some (.slice e)) (hu : P.underlying u = some .string) (hi : P.info? e = some i) (hz : i.zero = some z)
    (s : ByteArray) (hg : 0 < s.size) (h63 : ((s.size : Nat) : Int) ≤ 9223372036854775807) (hfit : Builtin.nextslicecap s.size 0 * i.bytes ≤ 281474976710656) :
    (Builtin.append_ #[t, u] ty #[.slice none 0 0, .string s]).run P w =
      .ok (.slice (some ⟨w.heap.size, 0, none⟩) s.size (grownCap w s.size 0 e))
        (w.drew.alloc (.cells ((Lib.strCells s).toArray ++ Builtin.zeroCells z.cells (grownCap w s.size 0 e - s.size)) e)) := by
  have hn : ¬ (s.size ≤ 0) := by omega
  have hn2 : ¬ s.size = 0 := by omega
  have h63' : ¬ (9223372036854775807 < (s.size : Int)) := by omega
  have h48' : ¬ (281474976710656 < Builtin.nextslicecap s.size 0 * i.bytes) := by omega
  have hf := Lib.run_firstCells_string (P := P) w.drew i.size s
  simp [Builtin.append_, run_underlying ht, run_underlying hu, sizeOf, typeInfo, zeroValue, hi, hz, Builtin.lenOf, hn, hn2, h63', h48', Question.forced, hf, Builtin.firstCells, newRow, grownCap]
  have hx : (Array.map (fun b : UInt8 => Value.int IntKind.u8 (b.toNat : Int)) s.data).extract 0 s.size = (Lib.strCells s).toArray := by
    have e1 : s.size = (Array.map (fun b : UInt8 => Value.int IntKind.u8 (b.toNat : Int)) s.data).size := by rw [Array.size_map]; rfl
    rw [e1, Array.extract_size]
    apply Array.ext'
    simp [Lib.strCells]
  rw [hx]
section
variable {P : Program} {F Ob : Nat → Prop} {W0 : World} {R : PN} {H : AH} {w : World} {T : TypeId → Option TI}
theorem appXN_ok (hT : TOK P T) {o : Oper} {a : Act} {e : Env} {K : AV → AH → Prop} {args : Array Operand} {ts : Array TypeId} (ho : o.op = .call { callee := .builtin .append, args, argTypes := ts }) (h : appXN T o.op e H K) (hH : HRel F Ob W0 R H w) (hE : ERel R w (Wr F R H) e a.tmps) : o.wp P a w (GP F Ob W0 R H o a e K) NoWay := by
  rw [ho] at h
  unfold appXN at h
  simp only at h
  split at h
  rotate_left
  · exact h.elim
  rename_i d s t t' hargs hts
  obtain rfl : args = #[d, s] := by rw [← Array.toArray_toList (xs := args), hargs]
  obtain rfl : ts = #[t, t'] := by rw [← Array.toArray_toList (xs := ts), hts]
  split at h
  rotate_left
  · exact h.elim
  rename_i z hvd hvs
  have hrd := evA_rep hE hvd
  have hrs := evA_rep hE hvs
  unfold appN at h
  split at h
  rotate_left
  · exact h.elim
  rename_i el hd hstr
  have hu := tdq_slice hT hd
  have hus := tdq_str hT hstr
  split at h
  rotate_left
  · exact h.elim
  rename_i i hti hde
  obtain ⟨de, hue, hdeb⟩ := und_td hT hde (by simp)
  obtain ⟨inf, ds, z0, g1i, g2i, g3i, rfl⟩ := probe_inv (hT _ i hti)
  replace h := bif_true h; obtain ⟨hc4, h⟩ := h
  simp only [Bool.and_eq_true] at hc4
  obtain ⟨⟨hz1, hz2⟩, hz3⟩ := hc4
  have hs1 : inf.size = 1 := beq_iff.1 hz1
  have hb1 : inf.bytes = 1 := beq_iff.1 hz2
  have hzl : z0.cells.size = 1 := by have := beq_iff.1 hz3; simpa using this
  obtain ⟨⟨hn0, hle⟩, hK⟩ := h
  generalize hgd : a.eval d = cd at hrd
  generalize hgs : a.eval s = cs at hrs
  cases hrs
  cases hrd
  have hzs : (⟨z.toArray⟩ : ByteArray).size = z.length := by simp [ByteArray.size]
  have hsc : Lib.strCells ⟨z.toArray⟩ = z.map fun (x : UInt8) => Value.int .u8 (x.toNat : Int) := by simp [Lib.strCells]
  have hzb : ∀ q, (Builtin.zeroCells z0.cells q).size = q := fun q => by rw [size_zeroCells, hzl, Nat.mul_one]
  have hrun0 := run_append_nil_string (P := P) (w := w) t t' o.type el inf z0 hu hus g1i g3i ⟨z.toArray⟩ (by rw [hzs]; omega) (by rw [hzs]; omega) (by rw [hzs]; exact growslice_fits (by omega) (by rw [hb1, Nat.mul_one]; omega))
  rw [hzs, hsc] at hrun0
  have hcap := grownCap_ge w z.length 0 el
  have hcm := grownCap_le_maxLen w z.length 0 el (by simp only [maxLen]; omega)
  generalize hcc : grownCap w z.length 0 el = cap at hrun0 hcap hcm
  generalize hus' : (z.map fun (x : UInt8) => Value.int .u8 (x.toNat : Int)) ++ (Builtin.zeroCells z0.cells (cap - z.length)).toList = us
  have hul : us.length = cap := by rw [← hus']; simp only [List.length_append, List.length_map, Array.length_toList, hzb]; omega
  have hbl : (z.map fun (x : UInt8) => Value.int .u8 (x.toNat : Int)).toArray ++ Builtin.zeroCells z0.cells (cap - z.length) = us.toArray := by
    rw [← hus', ← List.append_toArray (l₂ := (Builtin.zeroCells _ _).toList), Array.toArray_toList]
  rw [hbl] at hrun0
  have hrun := run_appendOpS ho (a := a) (by rw [hgd, hgs]; exact hrun0)
  have hp : (w.drew.alloc (.cells us.toArray el)).heap[w.heap.size]? = some (.cells us.toArray el (0, 0)) := heap_push w.drew _
  have hxn : Ext (fun _ => False) w (w.drew.alloc (.cells us.toArray el)) := (Ext.drew _ w).trans (Ext.alloc (fun _ => False) w.drew _) (fun _ _ k => k)
  obtain ⟨p1, p2⟩ := hH.push (b := some w.heap.size) (en := .ints el .u8 (z.map fun c => (c.toNat : Int))) hxn (fun g hg => by cases hg; exact Nat.le_refl _) (fun O' hO' =>
    ⟨us, _, hp, nf0 _, by rw [hul, List.length_map]; omega, fun i y hi => by
      have hlt : i < z.length := by have := (List.getElem?_eq_some_iff.1 hi).1; simpa using this
      rw [← hus', List.getElem?_append_left (by simpa using hlt)]
      rw [List.getElem?_map] at hi ⊢
      obtain ⟨q, hq, rfl⟩ := opt_map hi
      rw [hq]; rfl⟩)
  refine gp_run hrun hE hK hH.len (fun i hi => pre_nx _ i hi) (hxn.weaken fun _ _ k => k.elim) p1 p2 ?_
  exact .sl _ _ _ _ w.heap.size cap 0 (el, us.length) (by exact app_last _ _ _) hcap hcm (fun _ => by simp) (by unfold World.shape?; rw [hp]; simp) (by rw [hul]; simp)
theorem xok6 {C : Ctx} (hT : TOK P C.T) (hC : C.X = xop6 C.T) : XOK P C := by
  intro o a e F Ob W0 R H w K h hH hE
  rw [hC] at h
  unfold xop6 at h
  split at h
  · rename_i hb
    unfold nilB at hb
    split at hb
    · rename_i args ts ho
      exact appXN_ok hT ho h hH hE
    · cases hb
  · exact xok5 (C := { C with X := xop5 C.T }) hT rfl o a e F Ob W0 R H w K h hH hE
end
noncomputable def mkN (p : Nat) (S : List (FuncId × PSpec)) (G : FuncId → Option GSpec) (cuts : List Nat) : Ctx := ⟨p, tlook tt, slook S, G, xsA (tlook tt), xop6 (tlook tt), fun i => cuts.any (Nat.beq i), fun _ _ _ => none, fun _ => 0, fun _ _ _ => none⟩
theorem mkN_ok {p : Nat} {S : List (FuncId × PSpec)} {G : FuncId → Option GSpec} {cuts : List Nat} (hS : POK Tryz.prog (slook S)) (hG : ∀ g s, G g = some s → GSOK Tryz.prog g s) : COK Tryz.prog (mkN p S G cuts) :=
  ⟨ttok, hS, gok_of ttok (xok6 ttok rfl) hG, (fun g l H obs v δ nx K h => by cases h), ⟨fun _ _ _ _ _ => rfl, fun o e H obs v δ nx K h => by cases h⟩⟩
theorem fokN {S : List (FuncId × PSpec)} {G : FuncId → Option GSpec} (cuts : List Nat) (hS : POK Tryz.prog (slook S)) (hG : ∀ g s, G g = some s → GSOK Tryz.prog g s) {g : FuncId} {fn : Func} (hf : FnOK Tryz.prog g fn) {FS : FSpec}
    (h : ∀ l es obs v es', FS l es = some (obs, v, es') → (∀ p ∈ obs, p) → l.length ≤ fn.ntmps ∧ vcFn (mkN es.length S G cuts) fn l ⟨es.length, num 0 (es.map some)⟩ (RetF es.length v es')) : GSOK Tryz.prog g (fG FS) :=
  fok_of (T := tlook tt) (S := slook S) (G := G) (xs := xsA (tlook tt)) (X := xop6 (tlook tt)) (cut := fun i => cuts.any (Nat.beq i)) (XD := fun _ _ _ => none) (XN := fun _ => 0) (DX := fun _ _ _ => none) (fun p => mkN_ok (p := p) (cuts := cuts) hS hG) mixed hf h
end Go.Proofs.YtljdahepmmgfeaaGreatDoor
namespace Go.Proofs.YtljdahepmmgfeaaGreatDoor
open Go Go.RowKit
def sumN (f : Nat → Nat) : Nat → Nat
  | 0 => 0
  | k + 1 => sumN f k + f k
theorem sumN_le (f : Nat → Nat) (h : ∀ j, f j ≤ 140737488355328) : ∀ k, sumN f k ≤ 140737488355328 * k
  | 0 => Nat.le_refl _
  | k + 1 => by
    have := sumN_le f h k
    have := h k
    show sumN f k + f k ≤ _
    omega
theorem rb53 {a b : Bool} (h : a = b) : Ending.returned (.bool a) = .returned (.bool b) := by rw [h]
theorem few53_walk (w : World) (b off n c : Nat) (lens caps : Nat → Nat) (A : Nat → Option Addr) (hn : n ≤ maxLen) (hb : b < w.heap.size) (hl : ∀ j, lens j ≤ 140737488355328)
    (hcell : ∀ j, j < n → w.cell? ⟨b, off + j, none⟩ = some (.slice (A j) (lens j) (caps j))) :
    Calls Tryz.prog 10 #[.slice (some ⟨b, off, none⟩) n c] w fun e w' => e = .returned (.bool (decide (n ≤ 20 ∧ sumN lens n ≤ 20000))) ∧ w' = w := by
  have hmx : maxLen = 9223372036854775807 := rfl
  have hn : n ≤ 9223372036854775807 := by omega
  clear hmx
  go_enter Tryz.func10, Tryz.ntmps10
  go_wp2
  go_loop [3, 4] (fun x i => ∃ (j : Nat) (y : Int), j ≤ n ∧ i = .int .i64 (j : Int) ∧ x = .int .i64 y ∧ (n ≤ 20 → y = (sumN lens j : Int))) (fun _ i => n - (intOf i).toNat)
  case atStart => exact ⟨0, 0, Nat.zero_le _, rfl, rfl, fun _ => rfl⟩
  case round =>
    obtain ⟨j, y, hj, rfl, rfl, hy⟩ := hrel
    by_cases hlt : j < n
    · have q := hcell j hlt
      have hlt' : (j : Int) < (n : Int) := by omega
      have hH : Hid (∀ j, j < n → w.cell? ⟨b, off + j, none⟩ = some (.slice (A j) (lens j) (caps j))) := hcell
      clear hcell
      go_wp2
      go_round
      case rel =>
        refine ⟨j + 1, _, by omega, by go_num, rfl, fun h20 => ?_⟩
        have hy := hy h20
        have h1 := sumN_le lens hl j
        have h2 := hl j
        show wrap64 (y + (lens j : Int)) = ((sumN lens j + lens j : Nat) : Int)
        rw [hy]
        unfold wrap64
        omega
      case measure => simp [intOf]; omega
    · have hlt' : ¬ (j : Int) < (n : Int) := by omega
      have ej : j = n := by omega
      have hH : Hid (∀ j, j < n → w.cell? ⟨b, off + j, none⟩ = some (.slice (A j) (lens j) (caps j))) := hcell
      clear hcell
      have hL : Hid (∀ j, lens j ≤ 140737488355328) := hl
      clear hl
      by_cases h20 : n ≤ 20
      · have h20' : (n : Int) ≤ 20 := by omega
        have hy := hy h20
        subst hy
        go_wp2
        all_goals go_ret
        all_goals refine ⟨rb53 ?_, rfl⟩
        all_goals exact decide_eq_decide.2 (by omega)
      · have h20' : ¬ (n : Int) ≤ 20 := by omega
        have hy : Hid (n ≤ 20 → y = (sumN lens j : Int)) := hy
        go_wp2
        go_ret
        refine ⟨rb53 ?_, rfl⟩
        rfl
theorem few53_nil (w : World) : Calls Tryz.prog 10 #[.slice none 0 0] w fun e w' => e = .returned (.bool true) ∧ w' = w := by
  go_enter Tryz.func10, Tryz.ntmps10
  go_wp2
  go_loop [3, 4] (fun x i => x = .int .i64 0 ∧ i = .int .i64 0) (fun _ i => 0)
  case atStart => exact ⟨rfl, rfl⟩
  case round =>
    obtain ⟨rfl, rfl⟩ := hrel
    go_wp2
    all_goals go_ret
    all_goals exact ⟨rfl, rfl⟩
def lenL (L : List (List Int)) (k : Nat) : Nat := sumN (fun j => (L.getD j []).length) k
def few53V (L : List (List Int)) : Bool := decide (L.length ≤ 20 ∧ lenL L L.length ≤ 20000)
abbrev few53S (L : List (List Int)) : PSpec := fun l => match l with | [.ro 1 n f] => some ([n = L.length, f = (fun j => .roi .u8 (L.getD j [])), ∀ j, (L.getD j []).length ≤ 140737488355328], .bool (few53V L)) | _ => none
theorem roi_val {R : PN} {w : World} {O : Nat → Prop} {k : IntKind} {l : List Int} {v : Value} (h : Rep R w O (.roi k l) v) : ∃ a c, v = .slice a l.length c := by
  cases h with
  | roinil => exact ⟨_, _, rfl⟩
  | roi => exact ⟨_, _, rfl⟩
  | roiz => exact ⟨_, _, rfl⟩
def vA : Value → Option Addr | .slice a _ _ => a | _ => none
def vC : Value → Nat | .slice _ _ c => c | _ => 0
theorem few53_s (L : List (List Int)) : SOK Tryz.prog 10 (few53S L) := by
  refine ⟨⟨_, Tryz.func10, by kernel_rfl, by kernel_rfl⟩, fun l obs v h ho w O cl hf hc => ?_⟩
  unfold few53S at h
  split at h
  rotate_left
  · cases h
  rename_i n f
  simp only [Option.some.injEq, Prod.mk.injEq] at h
  obtain ⟨rfl, rfl⟩ := h
  simp only [List.mem_cons, List.not_mem_nil, or_false, forall_eq_or_imp, forall_eq] at ho
  obtain ⟨rfl, rfl, hll⟩ := ho
  obtain ⟨hl, hr⟩ := hc
  match cl, hl with
  | [c], _ =>
    have hc := hr 0 _ _ rfl rfl
    generalize hn : L.length = n at hc
    cases hc with
    | ronil =>
      refine (few53_nil w).mono fun en w' ⟨he, hw⟩ => ?_
      subst hw
      refine ⟨_, he, Ext.refl _ _, ?_⟩
      have : few53V L = true := by
        unfold few53V
        rw [hn]
        exact decide_eq_true ⟨by omega, by show (0 : Nat) ≤ 20000; omega⟩
      rw [this]
      exact .bool _
    | ro _ _ _ b off cc vals hn2 hcc hO hb hcell hsz hv =>
      have hex : ∃ (A : Nat → Option Addr) (cp : Nat → Nat), ∀ j, j < n → vals j = .slice (A j) (L.getD j []).length (cp j) := by
        refine ⟨fun j => vA (vals j), fun j => vC (vals j), fun j hj => ?_⟩
        obtain ⟨a, c, e⟩ := roi_val (hv j hj)
        show vals j = .slice (vA (vals j)) _ (vC (vals j))
        rw [e]
        rfl
      obtain ⟨A, cp, hA⟩ := hex
      refine (few53_walk w b off n cc (fun j => (L.getD j []).length) cp A (Nat.le_trans hn2 hcc) hb hll fun j hj => ?_).mono fun en w' ⟨he, hw⟩ => ?_
      · have q := hcell j hj 0 (by omega)
        rw [hA j hj, Nat.mul_one] at q
        exact q
      · subst hw
        refine ⟨_, he, Ext.refl _ _, ?_⟩
        unfold few53V lenL
        rw [hn]
        exact .bool _
end Go.Proofs.YtljdahepmmgfeaaGreatDoor

