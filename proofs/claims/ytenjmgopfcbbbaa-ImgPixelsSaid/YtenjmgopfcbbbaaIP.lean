/- The law ImgPixels: its conditions. -/
import Derived.Test.YtenjmgopfcbbbaaI7c
namespace Go.Proofs.Ytenjmgopfcbbbaa
open Go Go.RowKit
set_option linter.unusedVariables false
set_option linter.unusedSimpArgs false
set_option maxRecDepth 100000

set_option maxHeartbeats 1000000 in
theorem walk_ImgPixels' (w h c : Int) (p : List Int) (x y k v : Int) (W : World) {cl : List Value} (hc : CRel noN W NoO [imA w h c p, .agg [.int .i64 x, .int .i64 y, .int .i64 k], .int .u8 v] cl) :
    Calls Try.prog 15 cl.toArray W fun e W' => e = .returned (.bool true) ∧ Below W.heap.size W W' := by
  refine law_of (l := [imA w h c p, .agg [.int .i64 x, .int .i64 y, .int .i64 k], .int .u8 v]) (C := mkK 0 [(17, fewS), (67, rplS), (68, atS), (70, setNilS), (22, aliveS)] (glook [(70, fG setF), (69, fG rowF)]) [5, 7])
    (mkK_ok (pok_cons few_s (pok_cons rplace_s (pok_cons at_s (pok_cons setNil_s (pok_cons alive7_s pok_nil))))) (gl_cons set_g (gl_cons row_g gl_nil))) rfl ⟨Try.func15, by kernel_rfl, by kernel_rfl, by kernel_rfl⟩ (by exact Nat.le_of_ble_eq_true rfl) ?_ hc
  refine ⟨fun h1 => rfl, fun h1 => ?_⟩
  replace h1 : (p.length : Int) ≤ 20000 := by simpa using h1
  iterate 6 refine ⟨by decide, ?_⟩
  repeat (refine ⟨Chk.mk (by kernel_rfl), ?_⟩)
  refine ⟨rfl, ?o2, ?o3, ?_⟩
  · show (((0 : Nat) : Int) + (p.length : Int)) * ((1 : Nat) : Int) ≤ 140737488355328; omega
  · show 0 + p.length ≤ 140737488355328; omega
  repeat (refine ⟨Chk.mk (by kernel_rfl), ?_⟩)
  refine ⟨[(3, .ptr 0 0), (4, .ptr 1 0), (2, .int .u8 v), (7, .int .i64 (rplI w h c p.length x y k)), (8, .int .u8 (if isI w h c p.length x y k = true then p.getD (plI w c x y k).toNat 0 else 0)), (9, .bool (isI w h c p.length x y k)), (10, .ptr 2 0)],
    ⟨4, [(0, some (.cells 24 [.int .i64 w, .int .i64 h, .int .i64 c, .roi .u8 p])), (1, some (.cells 86 [.int .i64 x, .int .i64 y, .int .i64 k])), (2, some (.cells 24 [.int .i64 w, .int .i64 h, .int .i64 c, .sl 3 1 0 p.length])), (3, some (.ints 5 .u8 p))]⟩, [some 0, some 1, some 4, some 3], ?_, ?_⟩
  · (repeat' (first | apply And.intro | intro h)); (all_goals (try exact Chk.mk (by kernel_rfl)))
    (all_goals (try first | exact True.intro | exact rfl | exact And.intro rfl rfl | exact And.intro rfl (fun _ _ => rfl)))
    exact Nat.zero_add _
  refine ⟨by decide, [3], ⟨by kernel_rfl⟩, rfl, ?_⟩
  refine ⟨by decide, by decide, by decide, [2, 3], ⟨by kernel_rfl⟩, rfl, ?_⟩
  cases hi : isI w h c p.length x y k with
  | true =>
    have hj : imCheck w h c p.length = 0 ∧ inI w h c x y k = true := by simpa [isI] using hi
    have hc := check_inv hj.1
    have hb := pl_bd hc.1 hj.2
    have e1 : rplI w h c p.length x y k = plI w c x y k := if_pos hj
    have e2 : setL w h c x y k v p = p.set (plI w c x y k).toNat v := if_pos hi
    generalize hA : plI w c x y k = A at *
    have a1 : 0 ≤ A := by omega
    have a2 : A < (p.length : Int) := by omega
    refine ⟨[(3, .ptr 0 0), (4, .ptr 1 0), (2, .int .u8 v), (7, .int .i64 A), (8, .int .u8 (p.getD A.toNat 0)), (9, .bool true), (10, .ptr 2 0),
        (11, .sl 4 1 0 (imRow w h c y p).length), (12, .bool true)],
      ⟨5, [(0, some (.cells 24 [.int .i64 w, .int .i64 h, .int .i64 c, .roi .u8 p])), (1, some (.cells 86 [.int .i64 x, .int .i64 y, .int .i64 k])), (2, some (.cells 24 [.int .i64 w, .int .i64 h, .int .i64 c, .sl 3 1 0 p.length])), (3, some (.ints 5 .u8 (p.set A.toNat v))), (4, some (.ints 5 .u8 (imRow w h c y p)))]⟩, [some 0, some 1, some 2, some 3, some 4], ?_, ?_⟩
    · (repeat' (first | apply And.intro | intro h)); (all_goals (try exact Chk.mk (by kernel_rfl)))
      (all_goals (try first | exact True.intro | exact rfl | exact And.intro rfl rfl | exact And.intro rfl (fun _ _ => rfl)))
      all_goals first | exact e1 | exact hi | exact e2 | exact if_pos hi
    have a3 : 0 ≤ A ∧ A < (p.length : Int) := ⟨a1, a2⟩
    have a4 : (p.set A.toNat v).length = p.length := List.length_set
    (repeat (first | (refine ⟨fun hh => absurd hh ?prx, fun _ => ?_⟩; (case prx => (simp [a1, a4]; done))) | (refine ⟨fun _ => ?_, fun hh => absurd hh ?prx⟩; (case prx => (simp [a1, a4]; done))) | (refine ⟨?prx, ?_⟩; (case prx => (first | exact Chk.mk (by kernel_rfl) | exact rfl | exact a3)))))
    refine ⟨Nat, fun i => [(3, .ptr 0 0), (4, .ptr 1 0), (2, .int .u8 v), (7, .int .i64 A), (10, .ptr 2 0), (11, .sl 4 1 0 (imRow w h c y p).length), (13, .int .i64 i)],
      fun i => ⟨5, [(0, some (.cells 24 [.int .i64 w, .int .i64 h, .int .i64 c, .roi .u8 p])), (1, some (.cells 86 [.int .i64 x, .int .i64 y, .int .i64 k])), (2, some (.cells 24 [.int .i64 w, .int .i64 h, .int .i64 c, .sl 3 1 0 p.length])), (3, some (.ints 5 .u8 (p.set A.toNat v))), (4, some (.ints 5 .u8 (imRow w h c y p)))]⟩,
      fun i => i ≤ p.length, fun i => p.length - i, ⟨0, [some 0, some 1, some 2, some 3, some 4], Nat.zero_le _, ?_⟩, fun i hi' => ?_⟩
    · (repeat' (first | apply And.intro | intro h)); (all_goals (try exact Chk.mk (by kernel_rfl)))
      (all_goals (try first | exact True.intro | exact rfl | exact And.intro rfl rfl | exact And.intro rfl (fun _ _ => rfl)))
    refine ⟨fun hy => ?_, fun hy => ?_⟩
    · replace hy : (i : Int) < (p.length : Int) := of_decide_eq_true hy
      have b1 : 0 ≤ (i : Int) ∧ (i : Int) < (p.length : Int) := ⟨by omega, hy⟩
      have b4 : i < p.length := by omega
      have b2 : 0 + i < (p.set A.toNat v).length := by rw [a4]; omega
      have q1 : rngI .i64 ((i : Int) + 1) := rng64 (by omega) (by omega)
      by_cases hA2 : (i : Int) = A
      · have hA3 : A.toNat = i := by omega
        (repeat (first | (refine ⟨fun hh => absurd hh ?prx, fun _ => ?_⟩; (case prx => (simp [hA2, hA3, b4, List.getElem?_set]; done))) | (refine ⟨fun _ => ?_, fun hh => absurd hh ?prx⟩; (case prx => (simp [hA2, hA3, b4, List.getElem?_set]; done))) | (refine ⟨?prx, ?_⟩; (case prx => (first | exact Chk.mk (by kernel_rfl) | exact rfl | (first | exact b1 | exact b2 | exact q1))))))
        refine ⟨i + 1, [some 0, some 1, some 2, some 3, some 4], b4, (by show p.length - (i + 1) < p.length - i; omega), ?_⟩
        (repeat' (first | apply And.intro | intro h)); (all_goals (try exact Chk.mk (by kernel_rfl)))
        (all_goals (try first | exact True.intro | exact rfl | exact And.intro rfl rfl | exact And.intro rfl (fun _ _ => rfl)))
      · have hA3 : ¬ A.toNat = i := by omega
        (repeat (first | (refine ⟨fun hh => absurd hh ?prx, fun _ => ?_⟩; (case prx => (simp [hA2, hA3, b4, List.getElem?_set]; done))) | (refine ⟨fun _ => ?_, fun hh => absurd hh ?prx⟩; (case prx => (simp [hA2, hA3, b4, List.getElem?_set]; done))) | (refine ⟨?prx, ?_⟩; (case prx => (first | exact Chk.mk (by kernel_rfl) | exact rfl | (first | exact b1 | exact b2 | exact q1))))))
        refine ⟨i + 1, [some 0, some 1, some 2, some 3, some 4], b4, (by show p.length - (i + 1) < p.length - i; omega), ?_⟩
        (repeat' (first | apply And.intro | intro h)); (all_goals (try exact Chk.mk (by kernel_rfl)))
        (all_goals (try first | exact True.intro | exact rfl | exact And.intro rfl rfl | exact And.intro rfl (fun _ _ => rfl)))
    · replace hy : ¬ (i : Int) < (p.length : Int) := of_decide_eq_false hy
      clear hi'
      refine ⟨by decide, ?_⟩
      refine ⟨fun h5 => ?_, fun h5 => ?_⟩
      · have e5 := imRow_neg (of_decide_eq_true h5)
        (repeat (first | (refine ⟨fun hh => absurd hh ?prx, fun _ => ?_⟩; (case prx => (simp [e5]; done))) | (refine ⟨fun _ => ?_, fun hh => absurd hh ?prx⟩; (case prx => (simp [e5]; done))) | (refine ⟨?prx, ?_⟩; (case prx => (first | exact Chk.mk (by kernel_rfl) | exact rfl | exact rfl)))))
        exact rfl
      · obtain ⟨t1, t2, t3, t4, t5⟩ := imRow_pos (of_decide_eq_false h5)
        have t6 : 0 ≤ rplI w h c p.length 0 y 0 := by have := of_decide_eq_false h5; omega
        obtain ⟨B, hB⟩ : ∃ B, B = rplI w h c p.length 0 y 0 := ⟨_, rfl⟩
        obtain ⟨L, hL⟩ : ∃ L, L = imRow w h c y p := ⟨_, rfl⟩
        rw [← hB] at t4 t5 t6
        rw [← hL] at t1 t5
        have t7 : ((w * c).toNat : Int) = w * c := by omega
        have t8 : rngI .i64 (w * c) := rng64 (by omega) (by omega)
        (repeat (first | (refine ⟨fun hh => absurd hh ?prx, fun _ => ?_⟩; (case prx => (simp [← hL, t1, t7]; done))) | (refine ⟨fun _ => ?_, fun hh => absurd hh ?prx⟩; (case prx => (simp [← hL, t1, t7]; done))) | (refine ⟨?prx, ?_⟩; (case prx => (first | exact Chk.mk (by kernel_rfl) | exact rfl | exact t8)))))
        refine ⟨Nat, fun i => [(3, .ptr 0 0), (11, .sl 1 1 0 L.length), (14, .int .i64 B), (15, .int .i64 i)],
          fun i => ⟨2, [(0, some (.cells 24 [.int .i64 w, .int .i64 h, .int .i64 c, .roi .u8 p])), (1, some (.ints 5 .u8 L))]⟩,
          fun i => i ≤ L.length, fun i => L.length - i, ⟨0, [some 0, some 4], Nat.zero_le _, ?_⟩, fun i hi' => ?_⟩
        · (repeat' (first | apply And.intro | intro h)); (all_goals (try exact Chk.mk (by kernel_rfl)))
          all_goals (try first | exact True.intro | exact hB.symm | exact hL.symm | exact rfl | exact congrArg List.length hL.symm)
        refine ⟨fun hy => ?_, fun hy => ?_⟩
        · replace hy : (i : Int) < (L.length : Int) := of_decide_eq_true hy
          have u1 : 0 ≤ (i : Int) ∧ (i : Int) < (L.length : Int) := ⟨by omega, hy⟩
          have u2 : 0 + i < L.length := by omega
          have u3 : rngI .i64 (B + i) := rng64 (by omega) (by omega)
          have u4 : 0 ≤ B + (i : Int) ∧ B + (i : Int) < (p.length : Int) := ⟨by omega, by omega⟩
          have u5 : rngI .i64 ((i : Int) + 1) := rng64 (by omega) (by omega)
          have u6 := t5 i (by omega)
          have u7 : (B + (i : Int)).toNat = B.toNat + i := by omega
          simp only [List.getD] at u6
          (repeat (first | (refine ⟨fun hh => absurd hh ?prx, fun _ => ?_⟩; (case prx => (simp [u6, u7]; done))) | (refine ⟨fun _ => ?_, fun hh => absurd hh ?prx⟩; (case prx => (simp [u6, u7]; done))) | (refine ⟨?prx, ?_⟩; (case prx => (first | exact Chk.mk (by kernel_rfl) | exact rfl | (first | exact u1 | exact u2 | exact u3 | exact u4 | exact u5))))))
          refine ⟨i + 1, [some 0, some 1], (by show i + 1 ≤ L.length; omega), (by show L.length - (i + 1) < L.length - i; omega), ?_⟩
          (repeat' (first | apply And.intro | intro h)); (all_goals (try exact Chk.mk (by kernel_rfl)))
          (all_goals (try first | exact True.intro | exact rfl | exact And.intro rfl rfl | exact And.intro rfl (fun _ _ => rfl)))
        · (repeat' (first | apply And.intro | intro h)); (all_goals (try exact Chk.mk (by kernel_rfl)))
          (all_goals (try first | exact True.intro | exact rfl | exact And.intro rfl rfl | exact And.intro rfl (fun _ _ => rfl)))
  | false =>
    have e1 : rplI w h c p.length x y k = -1 := if_neg (fun hh => by simp [isI, hh.1, hh.2] at hi)
    have e2 : setL w h c x y k v p = p := if_neg (by rw [hi]; decide)
    have e3 : (if isI w h c p.length x y k = true then p.getD (plI w c x y k).toNat 0 else 0) = 0 := if_neg (by rw [hi]; decide)
    refine ⟨[(3, .ptr 0 0), (4, .ptr 1 0), (2, .int .u8 v), (7, .int .i64 (-1)), (8, .int .u8 0), (9, .bool false), (10, .ptr 2 0),
        (11, .sl 4 1 0 (imRow w h c y p).length), (12, .bool false)],
      ⟨5, [(0, some (.cells 24 [.int .i64 w, .int .i64 h, .int .i64 c, .roi .u8 p])), (1, some (.cells 86 [.int .i64 x, .int .i64 y, .int .i64 k])), (2, some (.cells 24 [.int .i64 w, .int .i64 h, .int .i64 c, .sl 3 1 0 p.length])), (3, some (.ints 5 .u8 (p))), (4, some (.ints 5 .u8 (imRow w h c y p)))]⟩, [some 0, some 1, some 2, some 3, some 4], ?_, ?_⟩
    · (repeat' (first | apply And.intro | intro h)); (all_goals (try exact Chk.mk (by kernel_rfl)))
      (all_goals (try first | exact True.intro | exact rfl | exact And.intro rfl rfl | exact And.intro rfl (fun _ _ => rfl)))
      all_goals first | exact e1 | exact hi | exact e2 | exact e3
    have a4 : p.length = p.length := rfl
    (repeat (first | (refine ⟨fun hh => absurd hh ?prx, fun _ => ?_⟩; (case prx => (simp [e1]; done))) | (refine ⟨fun _ => ?_, fun hh => absurd hh ?prx⟩; (case prx => (simp [e1]; done))) | (refine ⟨?prx, ?_⟩; (case prx => (first | exact Chk.mk (by kernel_rfl) | exact rfl | exact rfl)))))
    refine ⟨Nat, fun i => [(3, .ptr 0 0), (4, .ptr 1 0), (2, .int .u8 v), (7, .int .i64 (-1)), (10, .ptr 2 0), (11, .sl 4 1 0 (imRow w h c y p).length), (13, .int .i64 i)],
      fun i => ⟨5, [(0, some (.cells 24 [.int .i64 w, .int .i64 h, .int .i64 c, .roi .u8 p])), (1, some (.cells 86 [.int .i64 x, .int .i64 y, .int .i64 k])), (2, some (.cells 24 [.int .i64 w, .int .i64 h, .int .i64 c, .sl 3 1 0 p.length])), (3, some (.ints 5 .u8 (p))), (4, some (.ints 5 .u8 (imRow w h c y p)))]⟩,
      fun i => i ≤ p.length, fun i => p.length - i, ⟨0, [some 0, some 1, some 2, some 3, some 4], Nat.zero_le _, ?_⟩, fun i hi' => ?_⟩
    · (repeat' (first | apply And.intro | intro h)); (all_goals (try exact Chk.mk (by kernel_rfl)))
      (all_goals (try first | exact True.intro | exact rfl | exact And.intro rfl rfl | exact And.intro rfl (fun _ _ => rfl)))
    refine ⟨fun hy => ?_, fun hy => ?_⟩
    · replace hy : (i : Int) < (p.length : Int) := of_decide_eq_true hy
      have b1 : 0 ≤ (i : Int) ∧ (i : Int) < (p.length : Int) := ⟨by omega, hy⟩
      have b4 : i < p.length := by omega
      have b2 : 0 + i < (p).length := by rw [a4]; omega
      have q1 : rngI .i64 ((i : Int) + 1) := rng64 (by omega) (by omega)
      have hA2 : ¬ (i : Int) = -1 := by omega
      (repeat (first | (refine ⟨fun hh => absurd hh ?prx, fun _ => ?_⟩; (case prx => (simp [hA2, b4]; done))) | (refine ⟨fun _ => ?_, fun hh => absurd hh ?prx⟩; (case prx => (simp [hA2, b4]; done))) | (refine ⟨?prx, ?_⟩; (case prx => (first | exact Chk.mk (by kernel_rfl) | exact rfl | (first | exact b1 | exact b2 | exact q1))))))
      refine ⟨i + 1, [some 0, some 1, some 2, some 3, some 4], b4, (by show p.length - (i + 1) < p.length - i; omega), ?_⟩
      (repeat' (first | apply And.intro | intro h)); (all_goals (try exact Chk.mk (by kernel_rfl)))
      (all_goals (try first | exact True.intro | exact rfl | exact And.intro rfl rfl | exact And.intro rfl (fun _ _ => rfl)))
    · replace hy : ¬ (i : Int) < (p.length : Int) := of_decide_eq_false hy
      clear hi'
      refine ⟨by decide, ?_⟩
      refine ⟨fun h5 => ?_, fun h5 => ?_⟩
      · have e5 := imRow_neg (of_decide_eq_true h5)
        (repeat (first | (refine ⟨fun hh => absurd hh ?prx, fun _ => ?_⟩; (case prx => (simp [e5]; done))) | (refine ⟨fun _ => ?_, fun hh => absurd hh ?prx⟩; (case prx => (simp [e5]; done))) | (refine ⟨?prx, ?_⟩; (case prx => (first | exact Chk.mk (by kernel_rfl) | exact rfl | exact rfl)))))
        exact rfl
      · obtain ⟨t1, t2, t3, t4, t5⟩ := imRow_pos (of_decide_eq_false h5)
        have t6 : 0 ≤ rplI w h c p.length 0 y 0 := by have := of_decide_eq_false h5; omega
        obtain ⟨B, hB⟩ : ∃ B, B = rplI w h c p.length 0 y 0 := ⟨_, rfl⟩
        obtain ⟨L, hL⟩ : ∃ L, L = imRow w h c y p := ⟨_, rfl⟩
        rw [← hB] at t4 t5 t6
        rw [← hL] at t1 t5
        have t7 : ((w * c).toNat : Int) = w * c := by omega
        have t8 : rngI .i64 (w * c) := rng64 (by omega) (by omega)
        (repeat (first | (refine ⟨fun hh => absurd hh ?prx, fun _ => ?_⟩; (case prx => (simp [← hL, t1, t7]; done))) | (refine ⟨fun _ => ?_, fun hh => absurd hh ?prx⟩; (case prx => (simp [← hL, t1, t7]; done))) | (refine ⟨?prx, ?_⟩; (case prx => (first | exact Chk.mk (by kernel_rfl) | exact rfl | exact t8)))))
        refine ⟨Nat, fun i => [(3, .ptr 0 0), (11, .sl 1 1 0 L.length), (14, .int .i64 B), (15, .int .i64 i)],
          fun i => ⟨2, [(0, some (.cells 24 [.int .i64 w, .int .i64 h, .int .i64 c, .roi .u8 p])), (1, some (.ints 5 .u8 L))]⟩,
          fun i => i ≤ L.length, fun i => L.length - i, ⟨0, [some 0, some 4], Nat.zero_le _, ?_⟩, fun i hi' => ?_⟩
        · (repeat' (first | apply And.intro | intro h)); (all_goals (try exact Chk.mk (by kernel_rfl)))
          all_goals (try first | exact True.intro | exact hB.symm | exact hL.symm | exact rfl | exact congrArg List.length hL.symm)
        refine ⟨fun hy => ?_, fun hy => ?_⟩
        · replace hy : (i : Int) < (L.length : Int) := of_decide_eq_true hy
          have u1 : 0 ≤ (i : Int) ∧ (i : Int) < (L.length : Int) := ⟨by omega, hy⟩
          have u2 : 0 + i < L.length := by omega
          have u3 : rngI .i64 (B + i) := rng64 (by omega) (by omega)
          have u4 : 0 ≤ B + (i : Int) ∧ B + (i : Int) < (p.length : Int) := ⟨by omega, by omega⟩
          have u5 : rngI .i64 ((i : Int) + 1) := rng64 (by omega) (by omega)
          have u6 := t5 i (by omega)
          have u7 : (B + (i : Int)).toNat = B.toNat + i := by omega
          simp only [List.getD] at u6
          (repeat (first | (refine ⟨fun hh => absurd hh ?prx, fun _ => ?_⟩; (case prx => (simp [u6, u7]; done))) | (refine ⟨fun _ => ?_, fun hh => absurd hh ?prx⟩; (case prx => (simp [u6, u7]; done))) | (refine ⟨?prx, ?_⟩; (case prx => (first | exact Chk.mk (by kernel_rfl) | exact rfl | (first | exact u1 | exact u2 | exact u3 | exact u4 | exact u5))))))
          refine ⟨i + 1, [some 0, some 1], (by show i + 1 ≤ L.length; omega), (by show L.length - (i + 1) < L.length - i; omega), ?_⟩
          (repeat' (first | apply And.intro | intro h)); (all_goals (try exact Chk.mk (by kernel_rfl)))
          (all_goals (try first | exact True.intro | exact rfl | exact And.intro rfl rfl | exact And.intro rfl (fun _ _ => rfl)))
        · (repeat' (first | apply And.intro | intro h)); (all_goals (try exact Chk.mk (by kernel_rfl)))
          (all_goals (try first | exact True.intro | exact rfl | exact And.intro rfl rfl | exact And.intro rfl (fun _ _ => rfl)))
end Go.Proofs.Ytenjmgopfcbbbaa
