
/- The law TintTells. No condition. -/
import Derived.Test.YtjnkjjojkfemoaaT12e
namespace Go.Proofs.Ytjnkjjojkfemoaa
open Go Go.RowKit
set_option linter.unusedVariables false
set_option linter.unusedSimpArgs false
set_option maxRecDepth 100000
set_option maxHeartbeats 4000000

theorem sameM_self (w h c : Int) (p : List Int) : sameM w h c p w h c p = true := by simp [sameM]
theorem toFn_len {C D : Nat} (hd : D = 1 ∨ D = 3 ∨ D = 4) (q : List Int) : (toFn C D D q).length = D := by
  unfold toFn
  split
  · exact sprL_len _ _
  · split
    · show 1 = D; omega
    · exact fstL_len _ _
theorem chg_len {f : Nat → List Int → List Int} {w h c : Int} {p : List Int} {cc : Int} (hf : ∀ C D : Nat, c = C → cc = D → (D = 1 ∨ D = 3 ∨ D = 4) → ∀ q : List Int, q.length = C → (f D q).length = D) : (chgX f w h c p cc).p.length ≤ 16777216 := by
  unfold chgX
  split
  rotate_left
  · show 0 ≤ _; omega
  rename_i hcd
  unfold chgC at hcd
  split at hcd
  · rename_i h1; exact absurd hcd h1
  rename_i h1
  have h1 := Classical.not_not.1 h1
  obtain ⟨C, Q, rfl, hQ, hpl, hC0, hQ1, hp16, hC, hQ4⟩ := image_num h1
  have hd := (fits_inv hcd).1
  obtain ⟨D, rfl⟩ := Int.eq_ofNat_of_zero_le (show 0 ≤ cc by omega)
  have eQ : (w * h).toNat = Q := by rw [hQ]; rfl
  have hD : D = 1 ∨ D = 3 ∨ D = 4 := by omega
  show (flatK p C (f D) (w * h).toNat).length ≤ _
  rw [eQ, flatK_len (d := D) (Q := Q) (fun k hk => hf C D rfl rfl hD _ (piece_len (by have := prod_of (n := C) hk; omega))) Q (Nat.le_refl _)]
  calc Q * D ≤ 4194304 * D := Nat.mul_le_mul_right _ hQ4
    _ ≤ 16777216 := by omega
theorem to_len (w h c : Int) (p : List Int) (cc : Int) : (chgX (toFn c cc) w h c p cc).p.length ≤ 16777216 := chg_len fun C D hc hd h q hq => by subst hc; subst hd; exact toFn_len h q
theorem inv_len (w h c : Int) (p : List Int) : (chgX invL' w h c p c).p.length ≤ 16777216 := chg_len fun C D hc hd h q hq => invL'_len (by omega)
theorem swp_len (w h c : Int) (p : List Int) : (chgX swpL w h c p c).p.length ≤ 16777216 := chg_len fun C D hc hd h q hq => swpL_len (by omega)
theorem chan_len (w h c : Int) (p : List Int) (k : Int) : (chanX w h c p k).p.length ≤ 16777216 := by
  unfold chanX
  split
  rotate_left
  · show 0 ≤ _; omega
  rename_i hcd
  unfold chanC at hcd
  split at hcd
  · rename_i h1; exact absurd hcd h1
  rename_i h1
  have h1 := Classical.not_not.1 h1
  obtain ⟨C, Q, rfl, hQ, hpl, hC0, hQ1, hp16, hC, hQ4⟩ := image_num h1
  have eQ : (w * h).toNat = Q := by rw [hQ]; rfl
  show (flatK p C (chnL k 1) (w * h).toNat).length ≤ _
  rw [eQ, flatK_len (d := 1) (Q := Q) (fun k hk => rfl) Q (Nat.le_refl _)]
  omega
theorem walk_TintTells' (w h c : Int) (m p : List Int) (cc : Int) (hb : Bytes m) (hbp : Bytes p) (W : World) {cl : List Value} (hcl : CRel noN W NoO [imA w h c m, .int .i64 cc, .roi .u8 p] cl) :
    Calls Try.prog 4 cl.toArray W fun e W' => e = .returned (.bool true) ∧ Below W.heap.size W W' := by
  refine law_of (C := mkC 0 [(19, fewS), (20, toS), (21, toS), (22, invertS), (23, invertS), (24, swapS), (25, swapS), (26, channelS), (27, channelS), (28, sameS), (29, grayS), (30, rgrayS), (31, sN (.bool true))] noG)
    (mkC_ok (pok_cons few_s (pok_cons to_s (pok_cons rto_s (pok_cons invert_s (pok_cons rinvert_s (pok_cons swap_s (pok_cons rswap_s (pok_cons channel_s (pok_cons rchannel_s (pok_cons rsame_s (pok_cons gray_s (pok_cons rgray_s (pok_cons alive11_s pok_nil))))))))))))) noG_ok) rfl ⟨Try.func4, by kernel_rfl, by kernel_rfl, by kernel_rfl⟩ (by exact Nat.le_of_ble_eq_true rfl) ?_ hcl
  by_cases hl : (m.length : Int) ≤ 20000
  rotate_left
  · (repeat' (first | (refine And.intro (fun (hfk : _ = true) => ?_) (fun (hfk : _ = false) => ?_) <;> ((try (first | replace hfk := of_decide_eq_true hfk | replace hfk := of_decide_eq_false hfk | simp only [decide_eq_true_eq, decide_eq_false_iff_not, Bool.not_eq_true', Bool.not_eq_false', Bool.and_eq_true, Bool.or_eq_true, Bool.and_eq_false_iff, Bool.or_eq_false_iff, Int.not_lt, Int.not_le, ne_eq, Classical.not_not, Bool.true_eq_false, Bool.false_eq_true, or_false, false_or, and_true, true_and, not_true_eq_false, not_false_eq_true, reduceCtorEq] at hfk)); (try (exfalso; first | omega | contradiction | exact Bool.noConfusion (Eq.trans (Eq.symm hfk) (by with_reducible assumption : _ = false)) | exact Bool.noConfusion (Eq.trans (Eq.symm hfk) (by with_reducible assumption : _ = true)))))) | (refine And.intro ?ob ?_; (case ob => (first | exact Chk.mk (by kernel_rfl) | exact True.intro | with_reducible assumption | exact rng64 (by omega) (by omega) | omega | (dsimp only; omega) | (show (_ : Nat) ≤ _; omega) | (simp only [List.length_cons, List.length_nil, List.length_append, List.length_take, List.length_drop, List.length_set, List.length_replicate, List.length_map, List.drop_zero, List.take_zero, Nat.zero_add, Nat.add_zero, Nat.zero_le, Int.natCast_one, Int.mul_one, Int.natCast_zero, Nat.le_refl]; done) | (simp only [List.length_cons, List.length_nil, List.length_append, List.length_take, List.length_drop, List.length_set, List.length_replicate, List.length_map, List.drop_zero, List.take_zero, Nat.zero_add, Nat.add_zero, Nat.zero_le, Int.natCast_one, Int.mul_one, Int.natCast_zero, Nat.le_refl]; omega) | (dsimp only; simp only [List.length_cons, List.length_nil, List.length_append, List.length_take, List.length_drop, List.length_set, List.length_replicate, List.length_map, List.drop_zero, List.take_zero, Nat.zero_add, Nat.add_zero, Nat.zero_le, Int.natCast_one, Int.mul_one, Int.natCast_zero, Nat.le_refl]; omega)))) | exact True.intro | (show _ = _; first | with_reducible rfl | with_reducible assumption | omega | (simp only [List.length_cons, List.length_nil, List.length_append, List.length_take, List.length_drop, List.length_set, List.length_replicate, List.length_map, List.drop_zero, List.take_zero, Nat.zero_add, Nat.add_zero, Nat.zero_le, Int.natCast_one, Int.mul_one, Int.natCast_zero, Nat.le_refl]; omega) | (skip; done) | exact rfl) | with_reducible assumption | (apply And.intro) | omega | (intro j hj; exact rfl) | fail))
  by_cases hl2 : p.length ≤ 100
  rotate_left
  · (repeat' (first | (refine And.intro (fun (hfk : _ = true) => ?_) (fun (hfk : _ = false) => ?_) <;> ((try (first | replace hfk := of_decide_eq_true hfk | replace hfk := of_decide_eq_false hfk | simp only [decide_eq_true_eq, decide_eq_false_iff_not, Bool.not_eq_true', Bool.not_eq_false', Bool.and_eq_true, Bool.or_eq_true, Bool.and_eq_false_iff, Bool.or_eq_false_iff, Int.not_lt, Int.not_le, ne_eq, Classical.not_not, Bool.true_eq_false, Bool.false_eq_true, or_false, false_or, and_true, true_and, not_true_eq_false, not_false_eq_true, reduceCtorEq] at hfk)); (try (exfalso; first | omega | contradiction | exact Bool.noConfusion (Eq.trans (Eq.symm hfk) (by with_reducible assumption : _ = false)) | exact Bool.noConfusion (Eq.trans (Eq.symm hfk) (by with_reducible assumption : _ = true)))))) | (refine And.intro ?ob ?_; (case ob => (first | exact Chk.mk (by kernel_rfl) | exact True.intro | with_reducible assumption | exact rng64 (by omega) (by omega) | omega | (dsimp only; omega) | (show (_ : Nat) ≤ _; omega) | (simp only [List.length_cons, List.length_nil, List.length_append, List.length_take, List.length_drop, List.length_set, List.length_replicate, List.length_map, List.drop_zero, List.take_zero, Nat.zero_add, Nat.add_zero, Nat.zero_le, Int.natCast_one, Int.mul_one, Int.natCast_zero, Nat.le_refl]; done) | (simp only [List.length_cons, List.length_nil, List.length_append, List.length_take, List.length_drop, List.length_set, List.length_replicate, List.length_map, List.drop_zero, List.take_zero, Nat.zero_add, Nat.add_zero, Nat.zero_le, Int.natCast_one, Int.mul_one, Int.natCast_zero, Nat.le_refl]; omega) | (dsimp only; simp only [List.length_cons, List.length_nil, List.length_append, List.length_take, List.length_drop, List.length_set, List.length_replicate, List.length_map, List.drop_zero, List.take_zero, Nat.zero_add, Nat.add_zero, Nat.zero_le, Int.natCast_one, Int.mul_one, Int.natCast_zero, Nat.le_refl]; omega)))) | exact True.intro | (show _ = _; first | with_reducible rfl | with_reducible assumption | omega | (simp only [List.length_cons, List.length_nil, List.length_append, List.length_take, List.length_drop, List.length_set, List.length_replicate, List.length_map, List.drop_zero, List.take_zero, Nat.zero_add, Nat.add_zero, Nat.zero_le, Int.natCast_one, Int.mul_one, Int.natCast_zero, Nat.le_refl]; omega) | (skip; done) | exact rfl) | with_reducible assumption | (apply And.intro) | omega | (intro j hj; exact rfl) | fail))
  have l1 := to_len w h c m cc
  have l2 := inv_len w h c m
  have l3 := swp_len w h c m
  have l4 := chan_len w h c m cc
  have s1 := sameM_self (chgX (toFn c cc) w h c m cc).w (chgX (toFn c cc) w h c m cc).h (chgX (toFn c cc) w h c m cc).c (chgX (toFn c cc) w h c m cc).p
  have s2 := sameM_self (chgX invL' w h c m c).w (chgX invL' w h c m c).h (chgX invL' w h c m c).c (chgX invL' w h c m c).p
  have s3 := sameM_self (chgX swpL w h c m c).w (chgX swpL w h c m c).h (chgX swpL w h c m c).c (chgX swpL w h c m c).p
  have s4 := sameM_self (chanX w h c m cc).w (chanX w h c m cc).h (chanX w h c m cc).c (chanX w h c m cc).p
  (repeat' (first | (refine And.intro (fun (hfk : _ = true) => ?_) (fun (hfk : _ = false) => ?_) <;> ((try (first | replace hfk := of_decide_eq_true hfk | replace hfk := of_decide_eq_false hfk | simp only [decide_eq_true_eq, decide_eq_false_iff_not, Bool.not_eq_true', Bool.not_eq_false', Bool.and_eq_true, Bool.or_eq_true, Bool.and_eq_false_iff, Bool.or_eq_false_iff, Int.not_lt, Int.not_le, ne_eq, Classical.not_not, Bool.true_eq_false, Bool.false_eq_true, or_false, false_or, and_true, true_and, not_true_eq_false, not_false_eq_true, reduceCtorEq] at hfk)); (try (exfalso; first | omega | contradiction | exact Bool.noConfusion (Eq.trans (Eq.symm hfk) (by with_reducible assumption : _ = false)) | exact Bool.noConfusion (Eq.trans (Eq.symm hfk) (by with_reducible assumption : _ = true)))))) | (refine And.intro ?ob ?_; (case ob => (first | exact Chk.mk (by kernel_rfl) | exact True.intro | with_reducible assumption | exact rng64 (by omega) (by omega) | omega | (dsimp only; omega) | (show (_ : Nat) ≤ _; omega) | (simp only [List.length_cons, List.length_nil, List.length_append, List.length_take, List.length_drop, List.length_set, List.length_replicate, List.length_map, List.drop_zero, List.take_zero, Nat.zero_add, Nat.add_zero, Nat.zero_le, Int.natCast_one, Int.mul_one, Int.natCast_zero, Nat.le_refl]; done) | (simp only [List.length_cons, List.length_nil, List.length_append, List.length_take, List.length_drop, List.length_set, List.length_replicate, List.length_map, List.drop_zero, List.take_zero, Nat.zero_add, Nat.add_zero, Nat.zero_le, Int.natCast_one, Int.mul_one, Int.natCast_zero, Nat.le_refl]; omega) | (dsimp only; simp only [List.length_cons, List.length_nil, List.length_append, List.length_take, List.length_drop, List.length_set, List.length_replicate, List.length_map, List.drop_zero, List.take_zero, Nat.zero_add, Nat.add_zero, Nat.zero_le, Int.natCast_one, Int.mul_one, Int.natCast_zero, Nat.le_refl]; omega)))) | exact True.intro | (show _ = _; first | with_reducible rfl | with_reducible assumption | omega | (simp only [List.length_cons, List.length_nil, List.length_append, List.length_take, List.length_drop, List.length_set, List.length_replicate, List.length_map, List.drop_zero, List.take_zero, Nat.zero_add, Nat.add_zero, Nat.zero_le, Int.natCast_one, Int.mul_one, Int.natCast_zero, Nat.le_refl]; omega) | (skip; done) | exact rfl) | with_reducible assumption | (apply And.intro) | omega | (intro j hj; exact rfl) | fail))
  all_goals first
    | exact hbp
    | exact absurd (And.intro rfl (And.intro rfl (And.intro rfl rfl))) (by assumption)
end Go.Proofs.Ytjnkjjojkfemoaa
