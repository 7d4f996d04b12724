
/- Images of half the size: what the layer mip answers. No condition. -/
import Derived.Test.YtchhikfiofeckaaM31
import Derived.Test.YtchhikfiofeckaaE19
namespace Go.Proofs.Ytchhikfiofeckaa
open Go Go.RowKit
set_option linter.unusedVariables false
set_option linter.unusedSimpArgs false
set_option maxRecDepth 100000
set_option maxHeartbeats 4000000

abbrev halfF : FSpec := fun l es => match l, es with
  | [.agg [.int .i64 w, .int .i64 h, .int .i64 c, .roi .u8 p]], [] => some ([imCheck w h c p.length = 0, Bytes p], .tup [.agg [.int .i64 (hv w), .int .i64 (hv h), .int .i64 c, .sl 0 1 0 (hN w h c)], .int .i64 0], [some (.ints 5 .u8 (halfP w h c p))])
  | _, _ => none
abbrev halfS : PSpec := fun l => match l with | [.agg [.int .i64 w, .int .i64 h, .int .i64 c, .roi .u8 p]] => some ([imCheck w h c p.length = 0, Bytes p], .tup [imA (hv w) (hv h) c (halfP w h c p), .int .i64 0]) | _ => none
theorem half_g : GSOK Try.prog 42 (fG halfF) := by
  refine fokD [4, 9] (S := [(91, checkS), (106, hvS), (107, at31S)]) (G := noG) (D := [(18, newF)]) (pok_cons check_s (pok_cons hv_s (pok_cons at31_s pok_nil))) noG_ok (dl_cons new_g dl_nil) ⟨Try.func42, by kernel_rfl, by kernel_rfl, by kernel_rfl⟩ fun l es obs v es' h ho => ?_
  (unfold halfF at h; split at h; rotate_left; (focus (cases h)); rename_i w hh c p; simp only [Option.some.injEq, Prod.mk.injEq] at h; obtain ⟨rfl, rfl, rfl⟩ := h; simp only [List.mem_cons, List.not_mem_nil, or_false, forall_eq_or_imp, forall_eq, false_implies, implies_true] at ho)
  obtain ⟨hk, hp⟩ := ho
  obtain ⟨hf, hl⟩ := check_inv hk
  have hb := fits_inv hf
  obtain ⟨hf2, w1, w2, h1, h2⟩ := half_fits hf
  have hb2 := fits_inv hf2
  refine ⟨Nat.le_of_ble_eq_true rfl, ?_⟩
  (repeat' (first | (refine And.intro (fun (hfk : _ = true) => ?_) (fun (hfk : _ = false) => ?_) <;> ((try (first | replace hfk := of_decide_eq_true hfk | replace hfk := of_decide_eq_false hfk | simp only [decide_eq_true_eq, decide_eq_false_iff_not, dh1, dh0, ne_eq, reduceCtorEq] at hfk)); (try (exfalso; first | omega | contradiction | exact Bool.noConfusion (Eq.trans (Eq.symm hfk) (by with_reducible assumption : _ = false)) | exact Bool.noConfusion (Eq.trans (Eq.symm hfk) (by with_reducible assumption : _ = true)))))) | (refine And.intro ?ob ?_; (case ob => (first | exact Chk.mk (by kernel_rfl) | exact True.intro | with_reducible assumption | exact rng64 (by omega) (by omega) | omega | (dsimp only; omega) | (show (_ : Nat) ≤ _; omega) | (simp only [ll1, ll2, ll0]; done) | (simp only [ll1, ll2, ll0]; omega) | (dsimp only; simp only [ll1, ll2, ll0]; omega)))) | exact True.intro | (show _ = _; first | with_reducible rfl | with_reducible assumption | omega | (simp only [ll1, ll2, ll0]; omega) | (skip; done) | exact rfl) | with_reducible assumption | (apply And.intro) | omega | (intro j hj; exact rfl) | fail))
  refine ⟨[(1, .ptr 0 0), (2, .ptr 1 0), (3, .int .i64 0), (5, .ptr 3 0), (6, .int .i64 0)],
      ⟨4, [(0, some (.cells 26 [.int .i64 w, .int .i64 hh, .int .i64 c, .roi .u8 p])), (1, some (.cells 26 [.int .i64 0, .int .i64 0, .int .i64 0, .nils])), (2, some (.ints 5 .u8 (List.replicate (hv w * hv hh * c).toNat 0))), (3, some (.cells 26 [.int .i64 (hv w), .int .i64 (hv hh), .int .i64 c, .sl 2 1 0 (hv w * hv hh * c).toNat]))]⟩, [some 0, some 1, some 2, some 3], ?_, ?_⟩
  · (repeat' (first | (refine And.intro ?_ ?_) | exact True.intro | (show _ = _; with_reducible rfl) | exact Chk.mk (by kernel_rfl)))
  obtain ⟨N, hNe⟩ : ∃ N, (hv w * hv hh * c).toNat = N := ⟨_, rfl⟩
  rw [hNe]
  have hN16 : N ≤ 16777216 := by omega
  (repeat' (first | (refine And.intro (fun (hfk : _ = true) => ?_) (fun (hfk : _ = false) => ?_) <;> ((try (first | replace hfk := of_decide_eq_true hfk | replace hfk := of_decide_eq_false hfk | simp only [decide_eq_true_eq, decide_eq_false_iff_not, dh1, dh0, ne_eq, reduceCtorEq] at hfk)); (try (exfalso; first | omega | contradiction | exact Bool.noConfusion (Eq.trans (Eq.symm hfk) (by with_reducible assumption : _ = false)) | exact Bool.noConfusion (Eq.trans (Eq.symm hfk) (by with_reducible assumption : _ = true)))))) | (refine And.intro ?ob ?_; (case ob => (first | exact Chk.mk (by kernel_rfl) | exact True.intro | with_reducible assumption | exact rng64 (by omega) (by omega) | omega | (dsimp only; omega) | (show (_ : Nat) ≤ _; omega) | (simp only [ll1, ll2, ll0]; done) | (simp only [ll1, ll2, ll0]; omega) | (dsimp only; simp only [ll1, ll2, ll0]; omega)))) | exact True.intro | (show _ = _; first | with_reducible rfl | with_reducible assumption | omega | (simp only [ll1, ll2, ll0]; omega) | (skip; done) | exact rfl) | with_reducible assumption | (apply And.intro) | omega | (intro j hj; exact rfl) | fail))
  refine ⟨Nat, fun i => [(1, .ptr 0 0), (2, .ptr 1 0), (3, .int .i64 0), (5, .ptr 3 0), (6, .int .i64 0), (7, .fn 107 1 [.agg [.int .i64 w, .int .i64 hh, .int .i64 c, .roi .u8 p]]), (32, .int .i64 (N : Int)), (33, .int .i64 (i : Int))],
      fun i => ⟨4, [(0, some (.cells 26 [.int .i64 w, .int .i64 hh, .int .i64 c, .roi .u8 p])), (1, some (.cells 26 [.int .i64 0, .int .i64 0, .int .i64 0, .nils])), (2, some (.ints 5 .u8 (mapL (hg w hh c p) i ++ List.replicate (N - i) 0))), (3, some (.cells 26 [.int .i64 (hv w), .int .i64 (hv hh), .int .i64 c, .sl 2 1 0 N]))]⟩,
      fun i => i ≤ N, fun i => N - i, ⟨0, [some 0, some 1, some 2, some 3], Nat.zero_le _, ?_⟩, fun i hi => ?_⟩
  · (repeat' (first | (refine And.intro ?_ ?_) | exact True.intro | (show _ = _; with_reducible rfl) | exact Chk.mk (by kernel_rfl)))
    · show (0 : Int) = ((0 : Nat) : Int)
      rfl
    · show List.replicate N (0 : Int) = mapL (hg w hh c p) 0 ++ List.replicate (N - 0) 0
      rfl
  have hi : i ≤ N := hi
  by_cases hlt : i < N
  · have hat := half_at hf hl hp (i := i) (by unfold hN; rw [hNe]; exact hlt)
    have k0 := hat.x0; have k1 := hat.x1; have k2 := hat.y0; have k3 := hat.y1; have k4 := hat.k0; have k5 := hat.k1
    have k6 : rngI .i64 (Int.tdiv (i : Int) c) := by
      obtain ⟨C, rfl⟩ := Int.eq_ofNat_of_zero_le (show 0 ≤ c by omega)
      have : i / C ≤ i := Nat.div_le_self _ _
      have e : Int.tdiv (i : Int) (C : Int) = ((i / C : Nat) : Int) := rfl
      rw [e]
      obtain ⟨q, hq⟩ : ∃ q, i / C = q := ⟨_, rfl⟩
      rw [hq] at this ⊢
      exact rng64 (by omega) (by omega)
    have k7 : rngI .i64 (Int.tdiv (Int.tdiv (i : Int) c) (hv w)) := rng64 (by omega) (by omega)
    have k8 : c ≠ 0 := by omega
    have k9 : hv w ≠ 0 := by omega
    have kl : (mapL (hg w hh c p) i ++ List.replicate (N - i) (0 : Int)).length = N := by rw [List.length_append, mapL_len, List.length_replicate]; omega
    (repeat' (first | (refine And.intro (fun (hfk : _ = true) => ?_) (fun (hfk : _ = false) => ?_) <;> ((try (first | replace hfk := of_decide_eq_true hfk | replace hfk := of_decide_eq_false hfk | simp only [decide_eq_true_eq, decide_eq_false_iff_not, dh1, dh0, ne_eq, reduceCtorEq] at hfk)); (try (exfalso; first | omega | contradiction | exact Bool.noConfusion (Eq.trans (Eq.symm hfk) (by with_reducible assumption : _ = false)) | exact Bool.noConfusion (Eq.trans (Eq.symm hfk) (by with_reducible assumption : _ = true)))))) | (refine And.intro ?ob ?_; (case ob => (first | exact Chk.mk (by kernel_rfl) | exact True.intro | with_reducible assumption | exact rng64 (by omega) (by omega) | omega | (dsimp only; omega) | (show (_ : Nat) ≤ _; omega) | (simp only [ll1, ll2, ll0]; done) | (simp only [ll1, ll2, ll0]; omega) | (dsimp only; simp only [ll1, ll2, ll0]; omega)))) | exact True.intro | (show _ = _; first | with_reducible rfl | with_reducible assumption | omega | (simp only [ll1, ll2, ll0]; omega) | (skip; done) | exact rfl) | with_reducible assumption | (apply And.intro) | omega | (intro j hj; exact rfl) | fail))
    refine ⟨[(1, .ptr 0 0), (2, .ptr 1 0), (3, .int .i64 0), (5, .ptr 3 0), (6, .int .i64 0), (7, .fn 107 1 [.agg [.int .i64 w, .int .i64 hh, .int .i64 c, .roi .u8 p]]), (32, .int .i64 (N : Int)), (33, .int .i64 (i : Int))],
      ⟨4, [(0, some (.cells 26 [.int .i64 w, .int .i64 hh, .int .i64 c, .roi .u8 p])), (1, some (.cells 26 [.int .i64 0, .int .i64 0, .int .i64 0, .nils])), (2, some (.ints 5 .u8 ((mapL (hg w hh c p) i ++ List.replicate (N - i) 0).set (0 + (i : Int).toNat) (v4 w hh c p (((i : Int).tdiv c).tmod (hv w)) (((i : Int).tdiv c).tdiv (hv w)) ((i : Int).tmod c))))), (3, some (.cells 26 [.int .i64 (hv w), .int .i64 (hv hh), .int .i64 c, .sl 2 1 0 N]))]⟩, [some 0, some 1, some 2, some 3], ?_, ?_⟩
    · (repeat' (first | (refine And.intro ?_ ?_) | exact True.intro | (show _ = _; with_reducible rfl) | exact Chk.mk (by kernel_rfl)))
    have hs : (mapL (hg w hh c p) i ++ List.replicate (N - i) 0).set (0 + (i : Int).toNat) (v4 w hh c p (((i : Int).tdiv c).tmod (hv w)) (((i : Int).tdiv c).tdiv (hv w)) ((i : Int).tmod c)) = mapL (hg w hh c p) (i + 1) ++ List.replicate (N - (i + 1)) 0 := by
      rw [Nat.zero_add, Int.toNat_natCast]
      exact set_next hlt rfl
    rw [hs]
    (repeat' (first | (refine And.intro (fun (hfk : _ = true) => ?_) (fun (hfk : _ = false) => ?_) <;> ((try (first | replace hfk := of_decide_eq_true hfk | replace hfk := of_decide_eq_false hfk | simp only [decide_eq_true_eq, decide_eq_false_iff_not, dh1, dh0, ne_eq, reduceCtorEq] at hfk)); (try (exfalso; first | omega | contradiction | exact Bool.noConfusion (Eq.trans (Eq.symm hfk) (by with_reducible assumption : _ = false)) | exact Bool.noConfusion (Eq.trans (Eq.symm hfk) (by with_reducible assumption : _ = true)))))) | (refine And.intro ?ob ?_; (case ob => (first | exact Chk.mk (by kernel_rfl) | exact True.intro | with_reducible assumption | exact rng64 (by omega) (by omega) | omega | (dsimp only; omega) | (show (_ : Nat) ≤ _; omega) | (simp only [ll1, ll2, ll0]; done) | (simp only [ll1, ll2, ll0]; omega) | (dsimp only; simp only [ll1, ll2, ll0]; omega)))) | exact True.intro | (show _ = _; first | with_reducible rfl | with_reducible assumption | omega | (simp only [ll1, ll2, ll0]; omega) | (skip; done) | exact rfl) | with_reducible assumption | (apply And.intro) | omega | (intro j hj; exact rfl) | fail))
    (refine ⟨i + 1, [some 0, some 1, some 2, some 3], ?_, ?mu, ?_⟩; (case mu => ((try dsimp only); omega)))
    · exact hlt
    (repeat' (first | (refine And.intro (fun (hfk : _ = true) => ?_) (fun (hfk : _ = false) => ?_) <;> ((try (first | replace hfk := of_decide_eq_true hfk | replace hfk := of_decide_eq_false hfk | simp only [decide_eq_true_eq, decide_eq_false_iff_not, dh1, dh0, ne_eq, reduceCtorEq] at hfk)); (try (exfalso; first | omega | contradiction | exact Bool.noConfusion (Eq.trans (Eq.symm hfk) (by with_reducible assumption : _ = false)) | exact Bool.noConfusion (Eq.trans (Eq.symm hfk) (by with_reducible assumption : _ = true)))))) | (refine And.intro ?ob ?_; (case ob => (first | exact Chk.mk (by kernel_rfl) | exact True.intro | with_reducible assumption | exact rng64 (by omega) (by omega) | omega | (dsimp only; omega) | (show (_ : Nat) ≤ _; omega) | (simp only [ll1, ll2, ll0]; done) | (simp only [ll1, ll2, ll0]; omega) | (dsimp only; simp only [ll1, ll2, ll0]; omega)))) | exact True.intro | (show _ = _; first | with_reducible rfl | with_reducible assumption | omega | (simp only [ll1, ll2, ll0]; omega) | (skip; done) | exact rfl) | with_reducible assumption | (apply And.intro) | omega | (intro j hj; exact rfl) | fail))
  · obtain rfl : i = N := by omega
    have e : halfP w hh c p = mapL (hg w hh c p) i := by unfold halfP hN; rw [hNe]
    have e2 : mapL (hg w hh c p) i ++ List.replicate (i - i) 0 = mapL (hg w hh c p) i := by rw [Nat.sub_self]; simp
    have e3 : (mapL (hg w hh c p) i).length = i := mapL_len _ _
    have eF : List.take i (List.drop 0 (mapL (hg w hh c p) i ++ List.replicate (i - i) 0)) = halfP w hh c p := by rw [e2, e, List.drop_zero, List.take_of_length_le (by rw [e3]; exact Nat.le_refl _)]
    have eL : 0 + i ≤ (mapL (hg w hh c p) i ++ List.replicate (i - i) (0 : Int)).length := by rw [e2, e3]; omega
    have eN : i = hN w hh c := hNe.symm
    (repeat' (first | (refine And.intro (fun (hfk : _ = true) => ?_) (fun (hfk : _ = false) => ?_) <;> ((try (first | replace hfk := of_decide_eq_true hfk | replace hfk := of_decide_eq_false hfk | simp only [decide_eq_true_eq, decide_eq_false_iff_not, dh1, dh0, ne_eq, reduceCtorEq] at hfk)); (try (exfalso; first | omega | contradiction | exact Bool.noConfusion (Eq.trans (Eq.symm hfk) (by with_reducible assumption : _ = false)) | exact Bool.noConfusion (Eq.trans (Eq.symm hfk) (by with_reducible assumption : _ = true)))))) | (refine And.intro ?ob ?_; (case ob => (first | exact Chk.mk (by kernel_rfl) | exact True.intro | with_reducible assumption | exact rng64 (by omega) (by omega) | omega | (dsimp only; omega) | (show (_ : Nat) ≤ _; omega) | (simp only [ll1, ll2, ll0]; done) | (simp only [ll1, ll2, ll0]; omega) | (dsimp only; simp only [ll1, ll2, ll0]; omega)))) | exact True.intro | (show _ = _; first | with_reducible rfl | with_reducible assumption | omega | (simp only [ll1, ll2, ll0]; omega) | (skip; done) | exact rfl) | with_reducible assumption | (apply And.intro) | omega | (intro j hj; exact rfl) | fail))
    refine ⟨[some 2], ?_⟩
    have eE : mapL (hg w hh c p) i ++ List.replicate (i - i) 0 = halfP w hh c p := by rw [e2, e]
    (repeat' (first | (refine And.intro (fun (hfk : _ = true) => ?_) (fun (hfk : _ = false) => ?_) <;> ((try (first | replace hfk := of_decide_eq_true hfk | replace hfk := of_decide_eq_false hfk | simp only [decide_eq_true_eq, decide_eq_false_iff_not, dh1, dh0, ne_eq, reduceCtorEq] at hfk)); (try (exfalso; first | omega | contradiction | exact Bool.noConfusion (Eq.trans (Eq.symm hfk) (by with_reducible assumption : _ = false)) | exact Bool.noConfusion (Eq.trans (Eq.symm hfk) (by with_reducible assumption : _ = true)))))) | (refine And.intro ?ob ?_; (case ob => (first | exact Chk.mk (by kernel_rfl) | exact True.intro | with_reducible assumption | exact rng64 (by omega) (by omega) | omega | (dsimp only; omega) | (show (_ : Nat) ≤ _; omega) | (simp only [ll1, ll2, ll0]; done) | (simp only [ll1, ll2, ll0]; omega) | (dsimp only; simp only [ll1, ll2, ll0]; omega)))) | exact True.intro | (show _ = _; first | with_reducible rfl | with_reducible assumption | omega | (simp only [ll1, ll2, ll0]; omega) | ((first | exact eN | exact eE); done) | exact rfl) | with_reducible assumption | (apply And.intro) | omega | (intro j hj; exact rfl) | fail))
theorem half_s : SOK Try.prog 42 halfS := sokF half_g fun l obs v h ho => by
  (unfold halfS at h; split at h; rotate_left; (focus (cases h)); rename_i w hh c p; simp only [Option.some.injEq, Prod.mk.injEq] at h; obtain ⟨rfl, rfl⟩ := h; simp only [List.mem_cons, List.not_mem_nil, or_false, forall_eq_or_imp, forall_eq, false_implies, implies_true] at ho)
  obtain ⟨h1, h2⟩ := ho
  have h3 : (halfP w hh c p).length = hN w hh c := halfP_len
  have h4 : List.take (hN w hh c) (List.drop 0 (halfP w hh c p)) = halfP w hh c p := by rw [List.drop_zero, ← h3, List.take_length]
  refine ⟨[], ⟨by kernel_rfl⟩, ?_⟩
  (repeat' (first | (refine And.intro (fun (hfk : _ = true) => ?_) (fun (hfk : _ = false) => ?_) <;> ((try (first | replace hfk := of_decide_eq_true hfk | replace hfk := of_decide_eq_false hfk | simp only [decide_eq_true_eq, decide_eq_false_iff_not, dh1, dh0, ne_eq, reduceCtorEq] at hfk)); (try (exfalso; first | omega | contradiction | exact Bool.noConfusion (Eq.trans (Eq.symm hfk) (by with_reducible assumption : _ = false)) | exact Bool.noConfusion (Eq.trans (Eq.symm hfk) (by with_reducible assumption : _ = true)))))) | (refine And.intro ?ob ?_; (case ob => (first | exact Chk.mk (by kernel_rfl) | exact True.intro | with_reducible assumption | exact rng64 (by omega) (by omega) | omega | (dsimp only; omega) | (show (_ : Nat) ≤ _; omega) | (simp only [ll1, ll2, ll0]; done) | (simp only [ll1, ll2, ll0]; omega) | (dsimp only; simp only [ll1, ll2, ll0]; omega)))) | exact True.intro | (show _ = _; first | with_reducible rfl | with_reducible assumption | omega | (simp only [ll1, ll2, ll0]; omega) | (exact h4; done) | exact rfl) | with_reducible assumption | (apply And.intro) | omega | (intro j hj; exact rfl) | fail))
end Go.Proofs.Ytchhikfiofeckaa
