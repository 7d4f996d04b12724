
/- The layer tint's Join of right images; the law TintJoins. No condition. -/
import Derived.Test.YtjnkjjojkfemoaaT11b
import Derived.Test.YtjnkjjojkfemoaaU
namespace Go.Proofs.Ytjnkjjojkfemoaa
open Go Go.RowKit
set_option linter.unusedVariables false
set_option linter.unusedSimpArgs false
set_option maxRecDepth 100000

/-- The rounds of the two loops: of all places p, those of a channel ahead of k, and of channel k those ahead of row i. -/
structure JI (L : List Im) (k i : Nat) (l : List Int) : Prop where
  len : l.length = joinN L
  at_ : ∀ p, p < joinN L → (p % L.length < k ∨ (p % L.length = k ∧ p / L.length < i)) → l.getD p 0 = joinP L p
theorem JI.start (L : List Im) : JI L 0 0 (List.replicate (joinN L) 0) := ⟨by simp, fun p _ h => by rcases h with h | ⟨_, h⟩ <;> exact absurd h (Nat.not_lt_zero _)⟩
theorem JI.next {L : List Im} {k : Nat} {l : List Int} (h : JI L k ((Lg L 0).p.length) l) (hn : 0 < L.length) : JI L (k + 1) 0 l :=
  ⟨h.len, fun p hp hk => h.at_ p hp (by
    by_cases h1 : p % L.length < k
    · exact .inl h1
    · refine .inr ⟨?_, ?_⟩
      · rcases hk with h | ⟨_, h⟩
        · omega
        · exact absurd h (Nat.not_lt_zero _)
      rw [Nat.div_lt_iff_lt_mul hn]; exact hp)⟩
theorem JI.set {L : List Im} {k i : Nat} {l : List Int} (h : JI L k i l) (hk : k < L.length) (hi : i < (Lg L 0).p.length) : JI L k (i + 1) (l.set (i * L.length + k) ((Lg L k).p.getD i 0)) := by
  have hn : 0 < L.length := by omega
  have hm : (i * L.length + k) % L.length = k := by rw [Nat.mul_add_mod']; exact Nat.mod_eq_of_lt hk
  have hd : (i * L.length + k) / L.length = i := by rw [Nat.add_comm, Nat.add_mul_div_right _ _ hn, Nat.div_eq_of_lt hk, Nat.zero_add]
  have hlt : i * L.length + k < joinN L := by
    have : (i + 1) * L.length ≤ (Lg L 0).p.length * L.length := Nat.mul_le_mul_right _ hi
    unfold joinN
    rw [Nat.add_mul, Nat.one_mul] at this; omega
  refine ⟨by rw [List.length_set]; exact h.len, fun p hp hk2 => ?_⟩
  rw [set_getD (by rw [h.len]; exact hlt)]
  by_cases e : p = i * L.length + k
  · subst e
    rw [if_pos rfl]
    unfold joinP
    rw [hm, hd]
  · rw [if_neg e]
    refine h.at_ p hp ?_
    rcases hk2 with h1 | ⟨h1, h2⟩
    · exact .inl h1
    · refine .inr ⟨h1, ?_⟩
      by_cases h3 : p / L.length = i
      · exfalso
        have := Nat.div_add_mod p L.length
        rw [h3, h1, Nat.mul_comm] at this
        omega
      · omega
theorem JI.done {L : List Im} {l : List Int} (h : JI L L.length 0 l) (hn : 0 < L.length) : l = joinL L (joinN L) := by
  refine list_getD (by rw [h.len, joinL_len]) fun p hp => ?_
  rw [h.len] at hp
  rw [h.at_ p hp (.inl (Nat.mod_lt _ hn))]
  simp [joinL, List.getD, hp]
set_option maxHeartbeats 4000000 in
theorem join_g (L : List Im) : GSOK Try.prog 33 (fG (joinF L)) := by
  refine fokD [0] (S := [(86, oneS)]) (G := noG) (D := [(87, newF)]) (pok_cons one_s pok_nil) noG_ok (dl_cons new_g dl_nil) ⟨Try.func33, by kernel_rfl, by kernel_rfl, by kernel_rfl⟩ fun l es obs v es' h ho => ?_
  (unfold joinF at h; split at h; rotate_left; (focus (cases h)); rename_i n get; simp only [Option.some.injEq, Prod.mk.injEq] at h; obtain ⟨rfl, rfl, rfl⟩ := h; simp only [List.mem_cons, List.not_mem_nil, or_false, forall_eq_or_imp, forall_eq, false_implies, implies_true] at ho)
  obtain ⟨rfl, hg, hL, hC⟩ := ho
  refine ⟨Nat.le_of_ble_eq_true rfl, ?_⟩
  refine ⟨[(0, imsG L), (2, .ptr 0 0), (3, .int .i64 0)], ⟨1, [(0, some (.cells 33 [.int .i64 0, .int .i64 0, .int .i64 0, .nils]))]⟩, [some 0], ?_, ?_⟩
  · (repeat' (first | (refine And.intro (fun (hfk : _ = true) => ?_) (fun (hfk : _ = false) => ?_) <;> ((try (first | replace hfk := of_decide_eq_true hfk | replace hfk := of_decide_eq_false hfk | simp only [decide_eq_true_eq, decide_eq_false_iff_not, dh1, dh0, ne_eq, reduceCtorEq] at hfk)); (try (exfalso; first | omega | contradiction | exact Bool.noConfusion (Eq.trans (Eq.symm hfk) (by with_reducible assumption : _ = false)) | exact Bool.noConfusion (Eq.trans (Eq.symm hfk) (by with_reducible assumption : _ = true)))))) | (refine And.intro ?ob ?_; (case ob => (first | exact Chk.mk (by kernel_rfl) | exact True.intro | with_reducible assumption | exact rng64 (by omega) (by omega) | omega | (dsimp only; omega) | (show (_ : Nat) ≤ _; omega) | (simp only [ll1, ll2, ll0]; done) | (simp only [ll1, ll2, ll0]; omega) | (dsimp only; simp only [ll1, ll2, ll0]; omega)))) | exact True.intro | (show _ = _; first | with_reducible rfl | with_reducible assumption | omega | (simp only [ll1, ll2, ll0]; omega) | (skip; done) | exact rfl) | with_reducible assumption | (apply And.intro) | omega | (intro j hj; exact rfl) | fail))
  have hn : L.length = 1 ∨ L.length = 3 ∨ L.length = 4 := Classical.byContradiction fun hn => by
    have eC : joinC L = 10 := if_neg hn
    omega
  have eC : joinC L = badC L L.length := if_pos hn
  have hB : badC L L.length = 0 := by rw [← eC]; exact hC
  have J := join_ok hn hB
  have Ja := badC_all hB
  (repeat' (first | (refine And.intro (fun (hfk : _ = true) => ?_) (fun (hfk : _ = false) => ?_) <;> ((try (first | replace hfk := of_decide_eq_true hfk | replace hfk := of_decide_eq_false hfk | simp only [decide_eq_true_eq, decide_eq_false_iff_not, dh1, dh0, ne_eq, reduceCtorEq] at hfk)); (try (exfalso; first | omega | contradiction | exact Bool.noConfusion (Eq.trans (Eq.symm hfk) (by with_reducible assumption : _ = false)) | exact Bool.noConfusion (Eq.trans (Eq.symm hfk) (by with_reducible assumption : _ = true)))))) | (refine And.intro ?ob ?_; (case ob => (first | exact Chk.mk (by kernel_rfl) | exact True.intro | with_reducible assumption | exact rng64 (by omega) (by omega) | omega | (dsimp only; omega) | (show (_ : Nat) ≤ _; omega) | (simp only [ll1, ll2, ll0]; done) | (simp only [ll1, ll2, ll0]; omega) | (dsimp only; simp only [ll1, ll2, ll0]; omega)))) | exact True.intro | (show _ = _; first | with_reducible rfl | with_reducible assumption | omega | (simp only [ll1, ll2, ll0]; omega) | (skip; done) | exact rfl) | with_reducible assumption | (apply And.intro) | omega | (intro j hj; exact rfl) | fail))
  all_goals
    refine ⟨Nat, fun i => [(0, imsG L), (2, .ptr 0 0), (3, .int .i64 0), (4, .int .i64 ↑L.length), (27, imsG L), (28, .int .i64 ↑L.length), (29, .int .i64 i)],
        fun i => ⟨1, [(0, some (.cells 33 [.int .i64 0, .int .i64 0, .int .i64 0, .nils]))]⟩,
        fun i => i ≤ L.length, fun i => L.length - i, ⟨0, [some 0], by omega, ?_⟩, fun i hi => ?_⟩
    · (repeat' (first | (refine And.intro (fun (hfk : _ = true) => ?_) (fun (hfk : _ = false) => ?_) <;> ((try (first | replace hfk := of_decide_eq_true hfk | replace hfk := of_decide_eq_false hfk | simp only [decide_eq_true_eq, decide_eq_false_iff_not, dh1, dh0, ne_eq, reduceCtorEq] at hfk)); (try (exfalso; first | omega | contradiction | exact Bool.noConfusion (Eq.trans (Eq.symm hfk) (by with_reducible assumption : _ = false)) | exact Bool.noConfusion (Eq.trans (Eq.symm hfk) (by with_reducible assumption : _ = true)))))) | (refine And.intro ?ob ?_; (case ob => (first | exact Chk.mk (by kernel_rfl) | exact True.intro | with_reducible assumption | exact rng64 (by omega) (by omega) | omega | (dsimp only; omega) | (show (_ : Nat) ≤ _; omega) | (simp only [ll1, ll2, ll0]; done) | (simp only [ll1, ll2, ll0]; omega) | (dsimp only; simp only [ll1, ll2, ll0]; omega)))) | exact True.intro | (show _ = _; first | with_reducible rfl | with_reducible assumption | omega | (simp only [ll1, ll2, ll0]; omega) | (skip; done) | exact rfl) | with_reducible assumption | (apply And.intro) | omega | (intro j hj; exact rfl) | fail))
    have hi : i ≤ L.length := hi
    have hI : (↑i : Int).toNat = i := Int.toNat_natCast i
    refine ⟨fun hy => ?_, fun hy => ?_⟩
    · replace hy := of_decide_eq_true hy
      have hc : oneC ⟨(Lg L (↑i : Int).toNat).w, (Lg L (↑i : Int).toNat).h, (Lg L (↑i : Int).toNat).c, (Lg L (↑i : Int).toNat).p⟩ ⟨(Lg L (Int.toNat 0)).w, (Lg L (Int.toNat 0)).h, (Lg L (Int.toNat 0)).c, (Lg L (Int.toNat 0)).p⟩ = 0 := by
        rw [hI]; exact Ja i (by omega)
      (repeat' (first | (refine And.intro (fun (hfk : _ = true) => ?_) (fun (hfk : _ = false) => ?_) <;> ((try (first | replace hfk := of_decide_eq_true hfk | replace hfk := of_decide_eq_false hfk | simp only [decide_eq_true_eq, decide_eq_false_iff_not, dh1, dh0, ne_eq, reduceCtorEq] at hfk)); (try (exfalso; first | omega | contradiction | exact Bool.noConfusion (Eq.trans (Eq.symm hfk) (by with_reducible assumption : _ = false)) | exact Bool.noConfusion (Eq.trans (Eq.symm hfk) (by with_reducible assumption : _ = true)))))) | (refine And.intro ?ob ?_; (case ob => (first | exact Chk.mk (by kernel_rfl) | exact True.intro | with_reducible assumption | exact rng64 (by omega) (by omega) | omega | (dsimp only; omega) | (show (_ : Nat) ≤ _; omega) | (simp only [ll1, ll2, ll0]; done) | (simp only [ll1, ll2, ll0]; omega) | (dsimp only; simp only [ll1, ll2, ll0]; omega)))) | exact True.intro | (show _ = _; first | with_reducible rfl | with_reducible assumption | omega | (simp only [ll1, ll2, ll0]; omega) | (skip; done) | exact rfl) | with_reducible assumption | (apply And.intro) | omega | (intro j hj; exact rfl) | (refine ⟨i + 1, [some 0], ?_, ?mu, ?_⟩; (case mu => ((try dsimp only); omega))) | fail))
    · obtain rfl : i = L.length := by have := of_decide_eq_false hy; omega
      have J1 := J.l
      have J2 := J.m
      have J3 : fitsI (Lg L (Int.toNat 0)).w (Lg L (Int.toNat 0)).h L.length = 0 := J.f
      have N0 : (Lg L (Int.toNat 0)).w * (Lg L (Int.toNat 0)).h * (L.length : Int) = (joinN L : Int) := by
        unfold joinN; push_cast; rw [J1]
      have N1 : joinN L ≤ 16777216 := by
        unfold joinN
        rcases hn with h | h | h <;> (rw [h]; omega)
      have N2 : ((Lg L (Int.toNat 0)).w * (Lg L (Int.toNat 0)).h * (L.length : Int)).toNat = joinN L := by omega
      (repeat' (first | (refine And.intro (fun (hfk : _ = true) => ?_) (fun (hfk : _ = false) => ?_) <;> ((try (first | replace hfk := of_decide_eq_true hfk | replace hfk := of_decide_eq_false hfk | simp only [decide_eq_true_eq, decide_eq_false_iff_not, dh1, dh0, ne_eq, reduceCtorEq] at hfk)); (try (exfalso; first | omega | contradiction | exact Bool.noConfusion (Eq.trans (Eq.symm hfk) (by with_reducible assumption : _ = false)) | exact Bool.noConfusion (Eq.trans (Eq.symm hfk) (by with_reducible assumption : _ = true)))))) | (refine And.intro ?ob ?_; (case ob => (first | exact Chk.mk (by kernel_rfl) | exact True.intro | with_reducible assumption | exact rng64 (by omega) (by omega) | omega | (dsimp only; omega) | (show (_ : Nat) ≤ _; omega) | (simp only [ll1, ll2, ll0]; done) | (simp only [ll1, ll2, ll0]; omega) | (dsimp only; simp only [ll1, ll2, ll0]; omega)))) | exact True.intro | (show _ = _; first | with_reducible rfl | with_reducible assumption | omega | (simp only [ll1, ll2, ll0]; omega) | (skip; done) | exact rfl) | with_reducible assumption | (apply And.intro) | omega | (intro j hj; exact rfl) | (refine ⟨[], ⟨by kernel_rfl⟩, ?_⟩) | fail))
      refine ⟨Nat × List Int, fun g => [(2, .ptr 0 0), (3, .int .i64 0), (4, .int .i64 ↑L.length), (8, .ptr 2 0), (60, imsG L), (61, .int .i64 ↑L.length), (62, .int .i64 g.1)],
        fun g => ⟨3, [(0, some (.cells 33 [.int .i64 0, .int .i64 0, .int .i64 0, .nils])), (1, some (.ints 5 .u8 g.2)), (2, some (.cells 33 [.int .i64 ((Lg L (Int.toNat 0)).w), .int .i64 ((Lg L (Int.toNat 0)).h), .int .i64 ↑L.length, .sl 1 1 0 (joinN L)]))]⟩,
        fun g => g.1 ≤ L.length ∧ JI L g.1 0 g.2, fun g => L.length - g.1, ⟨(0, List.replicate (joinN L) 0), [some 0, some 1, some 2], ⟨by omega, JI.start L⟩, ?_⟩, fun g hg2 => ?_⟩
      · (repeat' (first | (refine And.intro ?_ ?_) | exact True.intro | (show _ = _; with_reducible rfl) | exact Chk.mk (by kernel_rfl)))
        all_goals first
          | (intro j hj; exact rfl)
          | exact N2
          | (show List.replicate _ _ = List.replicate _ _; rw [N2])
          | (show _ = _; rfl)
      obtain ⟨hk, hl⟩ := hg2
      have hK : (↑g.1 : Int).toNat = g.1 := Int.toNat_natCast g.1
      refine ⟨fun hy => ?_, fun hy => ?_⟩
      · replace hy := of_decide_eq_true hy
        have jc : (Lg L (↑g.1 : Int).toNat).p.length = (Lg L 0).p.length := by rw [hK]; exact J.c _ (by omega)
        (repeat' (first | (refine And.intro (fun (hfk : _ = true) => ?_) (fun (hfk : _ = false) => ?_) <;> ((try (first | replace hfk := of_decide_eq_true hfk | replace hfk := of_decide_eq_false hfk | simp only [decide_eq_true_eq, decide_eq_false_iff_not, dh1, dh0, ne_eq, reduceCtorEq] at hfk)); (try (exfalso; first | omega | contradiction | exact Bool.noConfusion (Eq.trans (Eq.symm hfk) (by with_reducible assumption : _ = false)) | exact Bool.noConfusion (Eq.trans (Eq.symm hfk) (by with_reducible assumption : _ = true)))))) | (refine And.intro ?ob ?_; (case ob => (first | exact Chk.mk (by kernel_rfl) | exact True.intro | with_reducible assumption | exact rng64 (by omega) (by omega) | omega | (dsimp only; omega) | (show (_ : Nat) ≤ _; omega) | (simp only [ll1, ll2, ll0]; done) | (simp only [ll1, ll2, ll0]; omega) | (dsimp only; simp only [ll1, ll2, ll0]; omega)))) | exact True.intro | (show _ = _; first | with_reducible rfl | with_reducible assumption | omega | (simp only [ll1, ll2, ll0]; omega) | (skip; done) | exact rfl) | with_reducible assumption | (apply And.intro) | omega | (intro j hj; exact rfl) | fail))
        refine ⟨Nat × List Int, fun i => [(2, .ptr 0 0), (3, .int .i64 0), (4, .int .i64 ↑L.length), (8, .ptr 2 0), (10, .int .i64 ↑g.1), (60, imsG L), (61, .int .i64 ↑L.length), (62, .int .i64 ↑g.1), (68, .roi .u8 ((Lg L (↑g.1 : Int).toNat).p)), (69, .int .i64 (↑(Lg L (↑g.1 : Int).toNat).p.length)), (70, .int .i64 i.1)],
          fun i => ⟨3, [(0, some (.cells 33 [.int .i64 0, .int .i64 0, .int .i64 0, .nils])), (1, some (.ints 5 .u8 i.2)), (2, some (.cells 33 [.int .i64 ((Lg L (Int.toNat 0)).w), .int .i64 ((Lg L (Int.toNat 0)).h), .int .i64 ↑L.length, .sl 1 1 0 (joinN L)]))]⟩,
          fun i => i.1 ≤ (Lg L 0).p.length ∧ JI L g.1 i.1 i.2, fun i => (Lg L 0).p.length - i.1, ⟨(0, g.2), [some 0, some 1, some 2], ⟨by omega, hl⟩, ?_⟩, fun i hi => ?_⟩
        · (repeat' (first | (refine And.intro (fun (hfk : _ = true) => ?_) (fun (hfk : _ = false) => ?_) <;> ((try (first | replace hfk := of_decide_eq_true hfk | replace hfk := of_decide_eq_false hfk | simp only [decide_eq_true_eq, decide_eq_false_iff_not, dh1, dh0, ne_eq, reduceCtorEq] at hfk)); (try (exfalso; first | omega | contradiction | exact Bool.noConfusion (Eq.trans (Eq.symm hfk) (by with_reducible assumption : _ = false)) | exact Bool.noConfusion (Eq.trans (Eq.symm hfk) (by with_reducible assumption : _ = true)))))) | (refine And.intro ?ob ?_; (case ob => (first | exact Chk.mk (by kernel_rfl) | exact True.intro | with_reducible assumption | exact rng64 (by omega) (by omega) | omega | (dsimp only; omega) | (show (_ : Nat) ≤ _; omega) | (simp only [ll1, ll2, ll0]; done) | (simp only [ll1, ll2, ll0]; omega) | (dsimp only; simp only [ll1, ll2, ll0]; omega)))) | exact True.intro | (show _ = _; first | with_reducible rfl | with_reducible assumption | omega | (simp only [ll1, ll2, ll0]; omega) | (skip; done) | exact rfl) | with_reducible assumption | (apply And.intro) | omega | (intro j hj; exact rfl) | fail))
        obtain ⟨hi1, hi2⟩ := hi
        refine ⟨fun hz => ?_, fun hz => ?_⟩
        · replace hz := of_decide_eq_true hz
          have hs := hi2.set (by omega) (by omega)
          have q0 : ((↑i.1 : Int) * ↑L.length + ↑g.1).toNat = i.1 * L.length + g.1 := by
            have e : (↑i.1 : Int) * ↑L.length + ↑g.1 = ((i.1 * L.length + g.1 : Nat) : Int) := by push_cast; rfl
            rw [e]; rfl
          have q1 : i.1 * L.length + g.1 < joinN L := by
            have : (i.1 + 1) * L.length ≤ (Lg L 0).p.length * L.length := Nat.mul_le_mul_right _ (by omega)
            unfold joinN
            rw [Nat.add_mul, Nat.one_mul] at this; omega
          have q2 : (↑i.1 : Int) * ↑L.length + ↑g.1 = ((i.1 * L.length + g.1 : Nat) : Int) := by push_cast; rfl
          have q3 : 0 ≤ (↑i.1 : Int) * ↑L.length := Int.mul_nonneg (by omega) (by omega)
          have q4 := hi2.len
          (repeat' (first | (refine And.intro (fun (hfk : _ = true) => ?_) (fun (hfk : _ = false) => ?_) <;> ((try (first | replace hfk := of_decide_eq_true hfk | replace hfk := of_decide_eq_false hfk | simp only [decide_eq_true_eq, decide_eq_false_iff_not, dh1, dh0, ne_eq, reduceCtorEq] at hfk)); (try (exfalso; first | omega | contradiction | exact Bool.noConfusion (Eq.trans (Eq.symm hfk) (by with_reducible assumption : _ = false)) | exact Bool.noConfusion (Eq.trans (Eq.symm hfk) (by with_reducible assumption : _ = true)))))) | (refine And.intro ?ob ?_; (case ob => (first | exact Chk.mk (by kernel_rfl) | exact True.intro | with_reducible assumption | exact rng64 (by omega) (by omega) | omega | (dsimp only; omega) | (show (_ : Nat) ≤ _; omega) | (simp only [ll1, ll2, ll0]; done) | (simp only [ll1, ll2, ll0]; omega) | (dsimp only; simp only [ll1, ll2, ll0]; omega)))) | exact True.intro | (show _ = _; first | with_reducible rfl | with_reducible assumption | omega | (simp only [ll1, ll2, ll0]; omega) | (simp only [q0, hK, Nat.zero_add, Int.toNat_natCast]; done) | exact rfl) | with_reducible assumption | (apply And.intro) | omega | (intro j hj; exact rfl) | (refine ⟨(i.1 + 1, i.2.set (i.1 * L.length + g.1) ((Lg L g.1).p.getD i.1 0)), [some 0, some 1, some 2], ?_, ?mu, ?_⟩; (case mu => ((try dsimp only); omega))) | fail))
        · have e1 : i.1 = (Lg L 0).p.length := by have := of_decide_eq_false hz; omega
          rw [e1] at hi2
          have hs := hi2.next (by omega)
          (repeat' (first | (refine And.intro (fun (hfk : _ = true) => ?_) (fun (hfk : _ = false) => ?_) <;> ((try (first | replace hfk := of_decide_eq_true hfk | replace hfk := of_decide_eq_false hfk | simp only [decide_eq_true_eq, decide_eq_false_iff_not, dh1, dh0, ne_eq, reduceCtorEq] at hfk)); (try (exfalso; first | omega | contradiction | exact Bool.noConfusion (Eq.trans (Eq.symm hfk) (by with_reducible assumption : _ = false)) | exact Bool.noConfusion (Eq.trans (Eq.symm hfk) (by with_reducible assumption : _ = true)))))) | (refine And.intro ?ob ?_; (case ob => (first | exact Chk.mk (by kernel_rfl) | exact True.intro | with_reducible assumption | exact rng64 (by omega) (by omega) | omega | (dsimp only; omega) | (show (_ : Nat) ≤ _; omega) | (simp only [ll1, ll2, ll0]; done) | (simp only [ll1, ll2, ll0]; omega) | (dsimp only; simp only [ll1, ll2, ll0]; omega)))) | exact True.intro | (show _ = _; first | with_reducible rfl | with_reducible assumption | omega | (simp only [ll1, ll2, ll0]; omega) | (skip; done) | exact rfl) | with_reducible assumption | (apply And.intro) | omega | (intro j hj; exact rfl) | (refine ⟨(g.1 + 1, i.2), [some 0, some 1, some 2], ?_, ?mu, ?_⟩; (case mu => ((try dsimp only); omega))) | fail))
      · have e1 : g.1 = L.length := by have := of_decide_eq_false hy; omega
        rw [e1] at hl
        have e := hl.done (by omega)
        (repeat' (first | (refine And.intro (fun (hfk : _ = true) => ?_) (fun (hfk : _ = false) => ?_) <;> ((try (first | replace hfk := of_decide_eq_true hfk | replace hfk := of_decide_eq_false hfk | simp only [decide_eq_true_eq, decide_eq_false_iff_not, dh1, dh0, ne_eq, reduceCtorEq] at hfk)); (try (exfalso; first | omega | contradiction | exact Bool.noConfusion (Eq.trans (Eq.symm hfk) (by with_reducible assumption : _ = false)) | exact Bool.noConfusion (Eq.trans (Eq.symm hfk) (by with_reducible assumption : _ = true)))))) | (refine And.intro ?ob ?_; (case ob => (first | exact Chk.mk (by kernel_rfl) | exact True.intro | with_reducible assumption | exact rng64 (by omega) (by omega) | omega | (dsimp only; omega) | (show (_ : Nat) ≤ _; omega) | (simp only [ll1, ll2, ll0]; done) | (simp only [ll1, ll2, ll0]; omega) | (dsimp only; simp only [ll1, ll2, ll0]; omega)))) | exact True.intro | (show _ = _; first | with_reducible rfl | with_reducible assumption | omega | (simp only [ll1, ll2, ll0]; omega) | (skip; done) | exact rfl) | with_reducible assumption | (apply And.intro) | omega | (intro j hj; exact rfl) | (refine ⟨[some 1], ?_⟩) | fail))
end Go.Proofs.Ytjnkjjojkfemoaa
