
/- Quarters of a turn: the document's images; the law TurnImages. No condition. -/
import Derived.Test.YtpgikaeddhaiiaaV23f
namespace Go.Proofs.Ytpgikaeddhaiiaa
open Go Go.RowKit
set_option linter.unusedVariables false
set_option linter.unusedSimpArgs false
set_option maxRecDepth 100000
set_option maxHeartbeats 4000000

abbrev rimgS : PSpec := fun l => match l with
  | [.agg [.int .i64 w, .int .i64 h, .int .i64 c, .roi .u8 p], .int .i64 q] => some ([turnC w h c p q = 0], (turnX w h c p q).av) | _ => none
theorem rimg_s : SOK Try.prog 50 rimgS := by
  refine sok_of (C := mkK 0 [(43, rsizeS), (84, rfromS), (87, rplS)] (glook [(88, fG madeF)]) [2]) (mkK_ok (pok_cons rsize_s (pok_cons rfrom_s (pok_cons rplace_s pok_nil))) (gl_cons made_g gl_nil)) rfl mixed ⟨Try.func50, by kernel_rfl, by kernel_rfl, by kernel_rfl⟩ fun l obs v h ho => ?_
  (unfold rimgS at h; split at h; rotate_left; (focus (cases h)); rename_i w0 h0 c0 p q; simp only [Option.some.injEq, Prod.mk.injEq] at h; obtain ⟨rfl, rfl⟩ := h; simp only [List.mem_cons, List.not_mem_nil, or_false, forall_eq_or_imp, forall_eq, false_implies, implies_true] at ho)
  refine ⟨Nat.le_of_ble_eq_true rfl, ?_⟩
  obtain ⟨hc, hq, W, H, C, rfl, rfl, rfl, hW1, hW2, hH1, hH2, hC, hWH, hpl⟩ := turn_num ho
  obtain ⟨q1, q2⟩ := hq
  have e2 : code23 [q, (W : Int), (H : Int)] = 0 := by
    unfold code23
    rw [if_neg (fun h => h rfl), if_neg (by show ¬ (q < 0 ∨ 7 < q); omega), if_neg (by show ¬ ((W : Int) < 1 ∨ 32768 < (W : Int) ∨ (H : Int) < 1 ∨ 32768 < (H : Int)); omega)]
  have e2' : code23 (List.take 3 (List.drop 0 [q, (W : Int), (H : Int)])) = 0 := e2
  have e2'' : code23 (List.take 3 (List.drop 0 ((fun x => q :: x) ((fun x => (W : Int) :: x) ((fun x => (H : Int) :: x) []))))) = 0 := e2
  have esw := sw_w q W H
  have esh := sw_h q W H
  have hA := area_T q W H
  obtain ⟨w', hw'⟩ : ∃ n, wT q W H = n := ⟨_, rfl⟩
  obtain ⟨h', hh'⟩ : ∃ n, hT q W H = n := ⟨_, rfl⟩
  rw [hw'] at esw hA
  rw [hh'] at esh hA
  have hw1 : 1 ≤ w' ∧ w' ≤ 32768 ∧ 1 ≤ h' ∧ h' ≤ 32768 := by
    rw [← hw', ← hh']; unfold wT hT; split <;> omega
  have hA2 : (w' : Int) * h' = ((W * H : Nat) : Int) := by rw [← Int.natCast_mul, hA]
  obtain ⟨N, hN⟩ : ∃ N, W * H = N := ⟨_, rfl⟩
  rw [hN] at hA2 hpl hWH
  have eX : turnX W H C p q = ⟨w', h', C, flatP p C (posT q W H) N⟩ := by
    unfold turnX
    rw [esw, esh]
    simp only [Int.toNat_natCast]
    rw [hN]
  rw [eX]
  (repeat' (first | (refine And.intro (fun (hfk : _ = true) => ?_) (fun (hfk : _ = false) => ?_) <;> ((try (first | replace hfk := of_decide_eq_true hfk | replace hfk := of_decide_eq_false hfk | simp only [decide_eq_true_eq, decide_eq_false_iff_not, dh1, dh0, ne_eq, reduceCtorEq] at hfk)); (try (exfalso; first | omega | contradiction | exact Bool.noConfusion (Eq.trans (Eq.symm hfk) (by with_reducible assumption : _ = false)) | exact Bool.noConfusion (Eq.trans (Eq.symm hfk) (by with_reducible assumption : _ = true)))))) | (refine And.intro ?ob ?_; (case ob => (first | exact Chk.mk (by kernel_rfl) | exact True.intro | with_reducible assumption | exact rng64 (by omega) (by omega) | omega | (dsimp only; omega) | (show (_ : Nat) ≤ _; omega) | (simp only [ll1, ll2, ll0]; done) | (simp only [ll1, ll2, ll0]; omega) | (dsimp only; simp only [ll1, ll2, ll0]; omega)))) | exact True.intro | (show _ = _; first | with_reducible rfl | with_reducible assumption | omega | (simp only [ll1, ll2, ll0]; omega) | (skip; done) | exact rfl) | with_reducible assumption | (apply And.intro) | omega | (intro j hj; exact rfl) | fail))
  refine ⟨[(1, .int .i64 q), (2, .ptr 0 0), (4, .ptr 1 0), (5, .sl 2 1 0 3), (6, .int .i64 w'), (7, .int .i64 h')],
      ⟨3, [(0, some (.cells 32 [.int .i64 W, .int .i64 H, .int .i64 C, .roi .u8 p])), (1, some (.cells 32 [.int .i64 0, .int .i64 0, .int .i64 0, .nils])), (2, some (.ints 2 .i64 [q, (W : Int), (H : Int)]))]⟩, [some 0, some 1, some 2], ?_, ?_⟩
  · (repeat' (first | (refine And.intro (fun (hfk : _ = true) => ?_) (fun (hfk : _ = false) => ?_) <;> ((try (first | replace hfk := of_decide_eq_true hfk | replace hfk := of_decide_eq_false hfk | simp only [decide_eq_true_eq, decide_eq_false_iff_not, dh1, dh0, ne_eq, reduceCtorEq] at hfk)); (try (exfalso; first | omega | contradiction | exact Bool.noConfusion (Eq.trans (Eq.symm hfk) (by with_reducible assumption : _ = false)) | exact Bool.noConfusion (Eq.trans (Eq.symm hfk) (by with_reducible assumption : _ = true)))))) | (refine And.intro ?ob ?_; (case ob => (first | exact Chk.mk (by kernel_rfl) | exact True.intro | with_reducible assumption | exact rng64 (by omega) (by omega) | omega | (dsimp only; omega) | (show (_ : Nat) ≤ _; omega) | (simp only [ll1, ll2, ll0]; done) | (simp only [ll1, ll2, ll0]; omega) | (dsimp only; simp only [ll1, ll2, ll0]; omega)))) | exact True.intro | (show _ = _; first | with_reducible rfl | with_reducible assumption | omega | (simp only [ll1, ll2, ll0]; omega) | ((first | exact esw | exact esh); done) | exact rfl) | with_reducible assumption | (apply And.intro) | omega | (intro j hj; exact rfl) | fail))
  clear esw esh
  have hpos : ∀ k, k < N → posT q W H k * C + C ≤ p.length := fun k hk => by
    have := (pos_in (q := q) (w := W) (h := H) (k := k) ⟨q1, q2⟩ (by omega)).2.2.1
    rw [hN] at this
    have := prod_of (n := C) this
    omega
  have hfl := flatP_len hpos
  have hp16 : N * C ≤ 16777216 := by
    calc N * C ≤ 4194304 * C := Nat.mul_le_mul_right _ hWH
      _ ≤ 16777216 := by omega
  (repeat' (first | (refine And.intro (fun (hfk : _ = true) => ?_) (fun (hfk : _ = false) => ?_) <;> ((try (first | replace hfk := of_decide_eq_true hfk | replace hfk := of_decide_eq_false hfk | simp only [decide_eq_true_eq, decide_eq_false_iff_not, dh1, dh0, ne_eq, reduceCtorEq] at hfk)); (try (exfalso; first | omega | contradiction | exact Bool.noConfusion (Eq.trans (Eq.symm hfk) (by with_reducible assumption : _ = false)) | exact Bool.noConfusion (Eq.trans (Eq.symm hfk) (by with_reducible assumption : _ = true)))))) | (refine And.intro ?ob ?_; (case ob => (first | exact Chk.mk (by kernel_rfl) | exact True.intro | with_reducible assumption | exact rng64 (by omega) (by omega) | omega | (dsimp only; omega) | (show (_ : Nat) ≤ _; omega) | (simp only [ll1, ll2, ll0]; done) | (simp only [ll1, ll2, ll0]; omega) | (dsimp only; simp only [ll1, ll2, ll0]; omega)))) | exact True.intro | (show _ = _; first | with_reducible rfl | with_reducible assumption | omega | (simp only [ll1, ll2, ll0]; omega) | (skip; done) | exact rfl) | with_reducible assumption | (apply And.intro) | omega | (intro j hj; exact rfl) | fail))
  refine ⟨Nat, fun (k : Nat) => [(1, .int .i64 q), (2, .ptr 0 0), (4, .ptr 1 0), (5, .sl 2 1 0 3), (6, .int .i64 w'), (7, .int .i64 h'), (8, .sl 3 1 0 (k * C)), (9, .int .i64 k)],
      fun k => ⟨4, [(0, some (.cells 32 [.int .i64 W, .int .i64 H, .int .i64 C, .roi .u8 p])), (1, some (.cells 32 [.int .i64 0, .int .i64 0, .int .i64 0, .nils])), (2, some (.ints 2 .i64 [q, (W : Int), (H : Int)])), (3, some (.ints 5 .u8 (flatP p C (posT q W H) k)))]⟩,
      fun k => k ≤ N, fun k => N - k, ⟨0, [some 0, some 1, some 2, none], Nat.zero_le _, ?_⟩, fun k hk => ?_⟩
  · have e0 : 0 = 0 * C := (Nat.zero_mul C).symm
    (repeat' (first | (refine And.intro (fun (hfk : _ = true) => ?_) (fun (hfk : _ = false) => ?_) <;> ((try (first | replace hfk := of_decide_eq_true hfk | replace hfk := of_decide_eq_false hfk | simp only [decide_eq_true_eq, decide_eq_false_iff_not, dh1, dh0, ne_eq, reduceCtorEq] at hfk)); (try (exfalso; first | omega | contradiction | exact Bool.noConfusion (Eq.trans (Eq.symm hfk) (by with_reducible assumption : _ = false)) | exact Bool.noConfusion (Eq.trans (Eq.symm hfk) (by with_reducible assumption : _ = true)))))) | (refine And.intro ?ob ?_; (case ob => (first | exact Chk.mk (by kernel_rfl) | exact True.intro | with_reducible assumption | exact rng64 (by omega) (by omega) | omega | (dsimp only; omega) | (show (_ : Nat) ≤ _; omega) | (simp only [ll1, ll2, ll0]; done) | (simp only [ll1, ll2, ll0]; omega) | (dsimp only; simp only [ll1, ll2, ll0]; omega)))) | exact True.intro | (show _ = _; first | with_reducible rfl | with_reducible assumption | omega | (simp only [ll1, ll2, ll0]; omega) | ((first | exact e0); done) | exact rfl) | with_reducible assumption | (apply And.intro) | omega | (intro j hj; exact rfl) | fail))
  have hk : k ≤ N := hk
  have hlk := hfl k hk
  by_cases hlt : k < N
  · obtain ⟨⟨b1, b2⟩, ⟨b3, b4⟩, b5, b6⟩ := pos_in (q := q) (w := W) (h := H) (k := k) ⟨q1, q2⟩ (by omega)
    have eu : fromU q W H ((k : Int).tmod w') ((k : Int).tdiv w') 1 = posU q W H k := by unfold posU; rw [hw']; rfl
    have ev : fromV q W H ((k : Int).tmod w') ((k : Int).tdiv w') 1 = posV q W H k := by unfold posV; rw [hw']; rfl
    have hm : 0 ≤ (k : Int).tmod w' ∧ (k : Int).tmod w' < w' := ⟨Int.natCast_nonneg (k % w'), Int.ofNat_lt.2 (Nat.mod_lt _ (by omega))⟩
    have hdn : k / w' < h' := (Nat.div_lt_iff_lt_mul (by omega)).2 (by rw [Nat.mul_comm, hA, hN]; exact hlt)
    have hd : 0 ≤ (k : Int).tdiv w' ∧ (k : Int).tdiv w' < h' := ⟨Int.natCast_nonneg (k / w'), Int.ofNat_lt.2 hdn⟩
    have hpl2 : plcB W H ((k : Int).tmod w') ((k : Int).tdiv w') 1 := ⟨by omega, by omega, by omega, by omega, by omega, by omega, by omega, by omega, by omega, by omega⟩
    have hpl3 : plcB ((List.take 3 (List.drop 0 [q, (W : Int), (H : Int)])).getD 1 0) ((List.take 3 (List.drop 0 [q, (W : Int), (H : Int)])).getD 2 0) ((k : Int).tmod w') ((k : Int).tdiv w') 1 := hpl2
    have e8 := hpos k hlt
    have e9 := prod_of (n := C) hlt
    have hat : rplI W H C p.length (fromU ((List.take 3 (List.drop 0 [q, (W : Int), (H : Int)])).getD 0 0) ((List.take 3 (List.drop 0 [q, (W : Int), (H : Int)])).getD 1 0) ((List.take 3 (List.drop 0 [q, (W : Int), (H : Int)])).getD 2 0) ((k : Int).tmod w') ((k : Int).tdiv w') 1) (fromV ((List.take 3 (List.drop 0 [q, (W : Int), (H : Int)])).getD 0 0) ((List.take 3 (List.drop 0 [q, (W : Int), (H : Int)])).getD 1 0) ((List.take 3 (List.drop 0 [q, (W : Int), (H : Int)])).getD 2 0) ((k : Int).tmod w') ((k : Int).tdiv w') 1) 0 = ((posT q W H k * C : Nat) : Int) := by
      show rplI W H C p.length (fromU q W H ((k : Int).tmod w') ((k : Int).tdiv w') 1) (fromV q W H ((k : Int).tmod w') ((k : Int).tdiv w') 1) 0 = _
      rw [eu, ev]
      unfold rplI
      rw [if_pos ⟨hc, in_of ⟨b1, b2, b3, b4, by omega, by omega⟩⟩]
      unfold plI
      rw [← b6, ← Int.natCast_mul]
      omega
    have eR : ∀ (a b : Nat), a = posT q W H k * C → b = posT q W H k * C + C → flatP p C (posT q W H) k ++ (p.take b).drop a = flatP p C (posT q W H) (k + 1) := by
      intro a b ha hb
      rw [ha, hb, List.drop_take, Nat.add_sub_cancel_left]; rfl
    have eL : ∀ (a b : Nat), a = posT q W H k * C → b = posT q W H k * C + C → (flatP p C (posT q W H) k).length + ((p.take b).drop a).length = (k + 1) * C := by
      intro a b ha hb
      rw [ha, hb, List.drop_take, Nat.add_sub_cancel_left, hlk, Nat.succ_mul]
      congr 1
      exact piece_len e8
    (repeat' (first | (refine And.intro (fun (hfk : _ = true) => ?_) (fun (hfk : _ = false) => ?_) <;> ((try (first | replace hfk := of_decide_eq_true hfk | replace hfk := of_decide_eq_false hfk | simp only [decide_eq_true_eq, decide_eq_false_iff_not, dh1, dh0, ne_eq, reduceCtorEq] at hfk)); (try (exfalso; first | omega | contradiction | exact Bool.noConfusion (Eq.trans (Eq.symm hfk) (by with_reducible assumption : _ = false)) | exact Bool.noConfusion (Eq.trans (Eq.symm hfk) (by with_reducible assumption : _ = true)))))) | (refine And.intro ?ob ?_; (case ob => (first | exact Chk.mk (by kernel_rfl) | exact True.intro | with_reducible assumption | exact rng64 (by omega) (by omega) | omega | (dsimp only; omega) | (show (_ : Nat) ≤ _; omega) | (simp only [ll1, ll2, ll0]; done) | (simp only [ll1, ll2, ll0]; omega) | (dsimp only; simp only [ll1, ll2, ll0]; omega)))) | exact True.intro | (show _ = _; first | with_reducible rfl | with_reducible assumption | omega | (simp only [ll1, ll2, ll0]; omega) | (skip; done) | exact rfl) | with_reducible assumption | (apply And.intro) | omega | (intro j hj; exact rfl) | fail))
    (refine ⟨k + 1, [some 0, some 1, some 2, some 4], ?_, ?mu, ?_⟩; (case mu => ((try dsimp only); omega)))
    · exact hlt
    (repeat' (first | (refine And.intro (fun (hfk : _ = true) => ?_) (fun (hfk : _ = false) => ?_) <;> ((try (first | replace hfk := of_decide_eq_true hfk | replace hfk := of_decide_eq_false hfk | simp only [decide_eq_true_eq, decide_eq_false_iff_not, dh1, dh0, ne_eq, reduceCtorEq] at hfk)); (try (exfalso; first | omega | contradiction | exact Bool.noConfusion (Eq.trans (Eq.symm hfk) (by with_reducible assumption : _ = false)) | exact Bool.noConfusion (Eq.trans (Eq.symm hfk) (by with_reducible assumption : _ = true)))))) | (refine And.intro ?ob ?_; (case ob => (first | exact Chk.mk (by kernel_rfl) | exact True.intro | with_reducible assumption | exact rng64 (by omega) (by omega) | omega | (dsimp only; omega) | (show (_ : Nat) ≤ _; omega) | (simp only [ll1, ll2, ll0]; done) | (simp only [ll1, ll2, ll0]; omega) | (dsimp only; simp only [ll1, ll2, ll0]; omega)))) | exact True.intro | (show _ = _; first | with_reducible rfl | with_reducible assumption | omega | (simp only [ll1, ll2, ll0]; omega) | ((first | (refine eR _ _ ?_ ?_ <;> omega) | (refine eL _ _ ?_ ?_ <;> omega)); done) | exact rfl) | with_reducible assumption | (apply And.intro) | omega | (intro j hj; exact rfl) | fail))
  · obtain rfl : k = N := by omega
    have et : List.take (k * C) (List.drop 0 (flatP p C (posT q W H) k)) = flatP p C (posT q W H) k := by
      rw [List.drop_zero, List.take_of_length_le (by omega)]
    (repeat' (first | (refine And.intro (fun (hfk : _ = true) => ?_) (fun (hfk : _ = false) => ?_) <;> ((try (first | replace hfk := of_decide_eq_true hfk | replace hfk := of_decide_eq_false hfk | simp only [decide_eq_true_eq, decide_eq_false_iff_not, dh1, dh0, ne_eq, reduceCtorEq] at hfk)); (try (exfalso; first | omega | contradiction | exact Bool.noConfusion (Eq.trans (Eq.symm hfk) (by with_reducible assumption : _ = false)) | exact Bool.noConfusion (Eq.trans (Eq.symm hfk) (by with_reducible assumption : _ = true)))))) | (refine And.intro ?ob ?_; (case ob => (first | exact Chk.mk (by kernel_rfl) | exact True.intro | with_reducible assumption | exact rng64 (by omega) (by omega) | omega | (dsimp only; omega) | (show (_ : Nat) ≤ _; omega) | (simp only [ll1, ll2, ll0]; done) | (simp only [ll1, ll2, ll0]; omega) | (dsimp only; simp only [ll1, ll2, ll0]; omega)))) | exact True.intro | (show _ = _; first | with_reducible rfl | with_reducible assumption | omega | (simp only [ll1, ll2, ll0]; omega) | ((exact et); done) | exact rfl) | with_reducible assumption | (apply And.intro) | omega | (intro j hj; exact rfl) | fail))
    (refine ⟨[3], ⟨by kernel_rfl⟩, ?_⟩)
    (repeat' (first | (refine And.intro (fun (hfk : _ = true) => ?_) (fun (hfk : _ = false) => ?_) <;> ((try (first | replace hfk := of_decide_eq_true hfk | replace hfk := of_decide_eq_false hfk | simp only [decide_eq_true_eq, decide_eq_false_iff_not, dh1, dh0, ne_eq, reduceCtorEq] at hfk)); (try (exfalso; first | omega | contradiction | exact Bool.noConfusion (Eq.trans (Eq.symm hfk) (by with_reducible assumption : _ = false)) | exact Bool.noConfusion (Eq.trans (Eq.symm hfk) (by with_reducible assumption : _ = true)))))) | (refine And.intro ?ob ?_; (case ob => (first | exact Chk.mk (by kernel_rfl) | exact True.intro | with_reducible assumption | exact rng64 (by omega) (by omega) | omega | (dsimp only; omega) | (show (_ : Nat) ≤ _; omega) | (simp only [ll1, ll2, ll0]; done) | (simp only [ll1, ll2, ll0]; omega) | (dsimp only; simp only [ll1, ll2, ll0]; omega)))) | exact True.intro | (show _ = _; first | with_reducible rfl | with_reducible assumption | omega | (simp only [ll1, ll2, ll0]; omega) | ((exact et); done) | exact rfl) | with_reducible assumption | (apply And.intro) | omega | (intro j hj; exact rfl) | fail))
theorem sameM_self (w h c : Int) (p : List Int) : sameM w h c p w h c p = true := by simp [sameM]
theorem turnX_len {w h c : Int} {p : List Int} {q : Int} (ht : turnC w h c p q = 0) : (turnX w h c p q).p.length = p.length := by
  obtain ⟨hc, hq, W, H, C, rfl, rfl, rfl, hW1, hW2, hH1, hH2, hC, hWH, hpl⟩ := turn_num ht
  show (flatP p C (posT q W H) (W * H)).length = _
  rw [flatP_len (Q := W * H) (fun k hk => by
    have := (pos_in (q := q) (w := W) (h := H) (k := k) hq hk).2.2.1
    have := prod_of (n := C) this
    omega) _ (Nat.le_refl _), hpl]
theorem walk_TurnImages' (w h c : Int) (m : List Int) (q : Int) (W : World) {cl : List Value} (hcl : CRel noN W NoO [imA w h c m, .int .i64 q] cl) :
    Calls Try.prog 10 cl.toArray W fun e W' => e = .returned (.bool true) ∧ Below W.heap.size W W' := by
  by_cases ht : turnC w h c m q = 0
  rotate_left
  · refine law_of (C := mkC 0 [(48, fewS), (49, imgBadS), (26, checkS), (24, fun l => sameS (l.map nzA)), (47, sN (.bool true))] noG)
      (mkC_ok (pok_cons few_s (pok_cons imgBad_s (pok_cons rcheck7_s (pok_cons (sok_nz rsame_s) (pok_cons alive23_s pok_nil))))) noG_ok) rfl ⟨Try.func10, by kernel_rfl, by kernel_rfl, by kernel_rfl⟩ (by exact Nat.le_of_ble_eq_true rfl) ?_ hcl
    by_cases hl : (m.length : Int) ≤ 20000
    rotate_left
    · (repeat' (first | (refine And.intro (fun (hfk : _ = true) => ?_) (fun (hfk : _ = false) => ?_) <;> ((try (first | replace hfk := of_decide_eq_true hfk | replace hfk := of_decide_eq_false hfk | simp only [decide_eq_true_eq, decide_eq_false_iff_not, dh1, dh0, ne_eq, reduceCtorEq] at hfk)); (try (exfalso; first | omega | contradiction | exact Bool.noConfusion (Eq.trans (Eq.symm hfk) (by with_reducible assumption : _ = false)) | exact Bool.noConfusion (Eq.trans (Eq.symm hfk) (by with_reducible assumption : _ = true)))))) | (refine And.intro ?ob ?_; (case ob => (first | exact Chk.mk (by kernel_rfl) | exact True.intro | with_reducible assumption | exact rng64 (by omega) (by omega) | omega | (dsimp only; omega) | (show (_ : Nat) ≤ _; omega) | (simp only [ll1, ll2, ll0]; done) | (simp only [ll1, ll2, ll0]; omega) | (dsimp only; simp only [ll1, ll2, ll0]; omega)))) | exact True.intro | (show _ = _; first | with_reducible rfl | with_reducible assumption | omega | (simp only [ll1, ll2, ll0]; omega) | (skip; done) | exact rfl) | with_reducible assumption | (apply And.intro) | omega | (intro j hj; exact rfl) | fail))
    have s0 : sameM 0 0 0 [] 0 0 0 [] = true := sameM_self _ _ _ _
    have hn0 : Im.z.p.length ≤ 1152921504606846975 := Nat.zero_le _
    unfold turnC at ht
    by_cases hc : imCheck w h c m.length = 0
    · rw [if_neg (not_not_intro hc)] at ht
      have hq : ¬ (0 ≤ q ∧ q ≤ 7) := fun hq => ht (by rw [if_pos hq])
      have e : turnC w h c m q = 10 := by unfold turnC; rw [if_neg (not_not_intro hc), if_neg hq]
      (repeat' (first | (refine And.intro (fun (hfk : _ = true) => ?_) (fun (hfk : _ = false) => ?_) <;> ((try (first | replace hfk := of_decide_eq_true hfk | replace hfk := of_decide_eq_false hfk | simp only [decide_eq_true_eq, decide_eq_false_iff_not, dh1, dh0, ne_eq, reduceCtorEq] at hfk)); (try (exfalso; first | omega | contradiction | exact Bool.noConfusion (Eq.trans (Eq.symm hfk) (by with_reducible assumption : _ = false)) | exact Bool.noConfusion (Eq.trans (Eq.symm hfk) (by with_reducible assumption : _ = true)))))) | (refine And.intro ?ob ?_; (case ob => (first | exact Chk.mk (by kernel_rfl) | exact True.intro | with_reducible assumption | exact rng64 (by omega) (by omega) | omega | (dsimp only; omega) | (show (_ : Nat) ≤ _; omega) | (simp only [ll1, ll2, ll0]; done) | (simp only [ll1, ll2, ll0]; omega) | (dsimp only; simp only [ll1, ll2, ll0]; omega)))) | exact True.intro | (show _ = _; first | with_reducible rfl | with_reducible assumption | omega | (simp only [ll1, ll2, ll0]; omega) | (skip; done) | exact rfl) | with_reducible assumption | (apply And.intro) | omega | (intro j hj; exact rfl) | fail))
    · have e : turnC w h c m q = imCheck w h c m.length := if_pos hc
      (repeat' (first | (refine And.intro (fun (hfk : _ = true) => ?_) (fun (hfk : _ = false) => ?_) <;> ((try (first | replace hfk := of_decide_eq_true hfk | replace hfk := of_decide_eq_false hfk | simp only [decide_eq_true_eq, decide_eq_false_iff_not, dh1, dh0, ne_eq, reduceCtorEq] at hfk)); (try (exfalso; first | omega | contradiction | exact Bool.noConfusion (Eq.trans (Eq.symm hfk) (by with_reducible assumption : _ = false)) | exact Bool.noConfusion (Eq.trans (Eq.symm hfk) (by with_reducible assumption : _ = true)))))) | (refine And.intro ?ob ?_; (case ob => (first | exact Chk.mk (by kernel_rfl) | exact True.intro | with_reducible assumption | exact rng64 (by omega) (by omega) | omega | (dsimp only; omega) | (show (_ : Nat) ≤ _; omega) | (simp only [ll1, ll2, ll0]; done) | (simp only [ll1, ll2, ll0]; omega) | (dsimp only; simp only [ll1, ll2, ll0]; omega)))) | exact True.intro | (show _ = _; first | with_reducible rfl | with_reducible assumption | omega | (simp only [ll1, ll2, ll0]; omega) | (skip; done) | exact rfl) | with_reducible assumption | (apply And.intro) | omega | (intro j hj; exact rfl) | fail))
  obtain ⟨hc, hq, hrest⟩ := turn_num ht
  have hl2 := turnX_len ht
  have s1 := sameM_self (turnX w h c m q).w (turnX w h c m q).h (turnX w h c m q).c (turnX w h c m q).p
  refine law_of (C := mkC 0 [(48, fewS), (49, imgOkS), (26, checkS), (24, sameS), (50, rimgS), (47, sN (.bool true))] noG)
      (mkC_ok (pok_cons few_s (pok_cons imgOk_s (pok_cons rcheck7_s (pok_cons rsame_s (pok_cons rimg_s (pok_cons alive23_s pok_nil)))))) noG_ok) rfl ⟨Try.func10, by kernel_rfl, by kernel_rfl, by kernel_rfl⟩ (by exact Nat.le_of_ble_eq_true rfl) ?_ hcl
  by_cases hl : (m.length : Int) ≤ 20000
  rotate_left
  · (repeat' (first | (refine And.intro (fun (hfk : _ = true) => ?_) (fun (hfk : _ = false) => ?_) <;> ((try (first | replace hfk := of_decide_eq_true hfk | replace hfk := of_decide_eq_false hfk | simp only [decide_eq_true_eq, decide_eq_false_iff_not, dh1, dh0, ne_eq, reduceCtorEq] at hfk)); (try (exfalso; first | omega | contradiction | exact Bool.noConfusion (Eq.trans (Eq.symm hfk) (by with_reducible assumption : _ = false)) | exact Bool.noConfusion (Eq.trans (Eq.symm hfk) (by with_reducible assumption : _ = true)))))) | (refine And.intro ?ob ?_; (case ob => (first | exact Chk.mk (by kernel_rfl) | exact True.intro | with_reducible assumption | exact rng64 (by omega) (by omega) | omega | (dsimp only; omega) | (show (_ : Nat) ≤ _; omega) | (simp only [ll1, ll2, ll0]; done) | (simp only [ll1, ll2, ll0]; omega) | (dsimp only; simp only [ll1, ll2, ll0]; omega)))) | exact True.intro | (show _ = _; first | with_reducible rfl | with_reducible assumption | omega | (simp only [ll1, ll2, ll0]; omega) | (skip; done) | exact rfl) | with_reducible assumption | (apply And.intro) | omega | (intro j hj; exact rfl) | fail))
  (repeat' (first | (refine And.intro (fun (hfk : _ = true) => ?_) (fun (hfk : _ = false) => ?_) <;> ((try (first | replace hfk := of_decide_eq_true hfk | replace hfk := of_decide_eq_false hfk | simp only [decide_eq_true_eq, decide_eq_false_iff_not, dh1, dh0, ne_eq, reduceCtorEq] at hfk)); (try (exfalso; first | omega | contradiction | exact Bool.noConfusion (Eq.trans (Eq.symm hfk) (by with_reducible assumption : _ = false)) | exact Bool.noConfusion (Eq.trans (Eq.symm hfk) (by with_reducible assumption : _ = true)))))) | (refine And.intro ?ob ?_; (case ob => (first | exact Chk.mk (by kernel_rfl) | exact True.intro | with_reducible assumption | exact rng64 (by omega) (by omega) | omega | (dsimp only; omega) | (show (_ : Nat) ≤ _; omega) | (simp only [ll1, ll2, ll0]; done) | (simp only [ll1, ll2, ll0]; omega) | (dsimp only; simp only [ll1, ll2, ll0]; omega)))) | exact True.intro | (show _ = _; first | with_reducible rfl | with_reducible assumption | omega | (simp only [ll1, ll2, ll0]; omega) | (skip; done) | exact rfl) | with_reducible assumption | (apply And.intro) | omega | (intro j hj; exact rfl) | fail))
  exact absurd (And.intro rfl (And.intro rfl (And.intro rfl rfl))) (by assumption)
end Go.Proofs.Ytpgikaeddhaiiaa
