/- Texts laid together. No condition. -/
import Derived.Test.YtepjmnkleajibaaS2
/- Bitmaps (bmp): the program's Write. No condition. -/
namespace Go.Proofs.Ytepjmnkleajibaa
open Go Go.RowKit
set_option linter.unusedVariables false
set_option linter.unusedSimpArgs false
set_option maxRecDepth 100000
set_option maxHeartbeats 16000000

noncomputable def wpCx : Ctx := mkE 0 [(92, checkS), (30, bsizeS), (29, strideS)] (glook [(93, fG putHF), (94, fG rowRF), (95, fG turnF)]) [] [] [6, 8, 12, 13]
theorem wpCx_ok : COK Try.prog wpCx := mkE_ok (pok_cons check_s (pok_cons bsize_s (pok_cons stride_s pok_nil))) (gl_cons putH_g (gl_cons rowR_g (gl_cons turn_g gl_nil))) dl_nil
theorem wp_bad {w h c : Int} {p : List Int} (hp : p.length ≤ 20000) (e : wrE w h c p.length ≠ 0) : vcFn wpCx Try.f25 [.agg [.int .i64 w, .int .i64 h, .int .i64 c, .roi .u8 p]] ⟨0, []⟩ (Ret (.tup [.roi .u8 (wrL w h c p), .int .i64 (wrE w h c p.length)])) := by
  have z : wrL w h c p = [] := if_neg e
  rw [z]
  by_cases k1 : imCheck w h c p.length = 0
  · have e1 : wrE w h c p.length = if c = 1 then 10 else 0 := if_neg (fun k => k k1)
    have hc : c = 1 := Classical.byContradiction fun k => e (by rw [e1, if_neg k])
    rw [e1, if_pos hc]
    (repeat' (first | (refine And.intro (fun (hfk : _ = true) => ?_) (fun (hfk : _ = false) => ?_) <;> ((try (first | replace hfk := of_decide_eq_true hfk | replace hfk := of_decide_eq_false hfk | simp only [decide_eq_true_eq, decide_eq_false_iff_not, dh1, dh0, ne_eq, reduceCtorEq] at hfk)); (try (exfalso; first | omega | contradiction | exact Bool.noConfusion (Eq.trans (Eq.symm hfk) (by with_reducible assumption : _ = false)) | exact Bool.noConfusion (Eq.trans (Eq.symm hfk) (by with_reducible assumption : _ = true)))))) | (refine And.intro ?ob ?_; (case ob => (first | exact Chk.mk (by kernel_rfl) | exact True.intro | with_reducible assumption | exact rng64 (by omega) (by omega) | omega | (dsimp only; omega) | (show (_ : Nat) ≤ _; omega) | (simp only [ll1, ll2, ll0]; done) | (simp only [ll1, ll2, ll0]; omega) | (dsimp only; simp only [ll1, ll2, ll0]; omega)))) | exact True.intro | (show _ = _; first | with_reducible rfl | with_reducible assumption | omega | (simp only [ll1, ll2, ll0]; omega) | (rfl; done) | exact rfl) | with_reducible assumption | (apply And.intro) | omega | (intro j hj; exact rfl) | fail))
  · have e1 : wrE w h c p.length = imCheck w h c p.length := if_pos k1
    rw [e1]
    (repeat' (first | (refine And.intro (fun (hfk : _ = true) => ?_) (fun (hfk : _ = false) => ?_) <;> ((try (first | replace hfk := of_decide_eq_true hfk | replace hfk := of_decide_eq_false hfk | simp only [decide_eq_true_eq, decide_eq_false_iff_not, dh1, dh0, ne_eq, reduceCtorEq] at hfk)); (try (exfalso; first | omega | contradiction | exact Bool.noConfusion (Eq.trans (Eq.symm hfk) (by with_reducible assumption : _ = false)) | exact Bool.noConfusion (Eq.trans (Eq.symm hfk) (by with_reducible assumption : _ = true)))))) | (refine And.intro ?ob ?_; (case ob => (first | exact Chk.mk (by kernel_rfl) | exact True.intro | with_reducible assumption | exact rng64 (by omega) (by omega) | omega | (dsimp only; omega) | (show (_ : Nat) ≤ _; omega) | (simp only [ll1, ll2, ll0]; done) | (simp only [ll1, ll2, ll0]; omega) | (dsimp only; simp only [ll1, ll2, ll0]; omega)))) | exact True.intro | (show _ = _; first | with_reducible rfl | with_reducible assumption | omega | (simp only [ll1, ll2, ll0]; omega) | (rfl; done) | exact rfl) | with_reducible assumption | (apply And.intro) | omega | (intro j hj; exact rfl) | fail))
theorem wp_good {w h c : Int} {p : List Int} (hp : p.length ≤ 20000) (e : wrE w h c p.length = 0) : vcFn wpCx Try.f25 [.agg [.int .i64 w, .int .i64 h, .int .i64 c, .roi .u8 p]] ⟨0, []⟩ (Ret (.tup [.roi .u8 (wrL w h c p), .int .i64 (wrE w h c p.length)])) := by
  have hi := im_of e
  have z : wrL w h c p = wrHd w.toNat h.toNat c.toNat (up4 (w * c)).toNat ++ wrB p c.toNat w.toNat h.toNat (up4 (w * c)).toNat := if_pos e
  rw [z, e]
  obtain ⟨W, hW⟩ : ∃ W, w.toNat = W := ⟨_, rfl⟩
  obtain ⟨H, hH⟩ : ∃ H, h.toNat = H := ⟨_, rfl⟩
  obtain ⟨C, hC⟩ : ∃ C, c.toNat = C := ⟨_, rfl⟩
  obtain ⟨st, hst⟩ : ∃ st, (up4 (w * c)).toNat = st := ⟨_, rfl⟩
  rw [hW, hH, hC, hst] at hi ⊢
  clear z e hW hH hC hst
  obtain ⟨rfl, rfl, rfl, chk, c34, w1, w2, h1, h2, wh, len, st_, st1, st2⟩ := hi
  have r8 : rngI .i64 (8 * (C : Int)) := rng64 (by omega) (by omega)
  have hc1 : ¬ (C : Int) = 1 := by omega
  (repeat' (first | (refine And.intro (fun (hfk : _ = true) => ?_) (fun (hfk : _ = false) => ?_) <;> ((try (first | replace hfk := of_decide_eq_true hfk | replace hfk := of_decide_eq_false hfk | simp only [decide_eq_true_eq, decide_eq_false_iff_not, dh1, dh0, ne_eq, reduceCtorEq] at hfk)); (try (exfalso; first | omega | contradiction | exact Bool.noConfusion (Eq.trans (Eq.symm hfk) (by with_reducible assumption : _ = false)) | exact Bool.noConfusion (Eq.trans (Eq.symm hfk) (by with_reducible assumption : _ = true)))))) | (refine And.intro ?ob ?_; (case ob => (first | exact Chk.mk (by kernel_rfl) | exact True.intro | with_reducible assumption | exact rng64 (by omega) (by omega) | omega | (dsimp only; omega) | (show (_ : Nat) ≤ _; omega) | (simp only [ll1, ll2, ll0]; done) | (simp only [ll1, ll2, ll0]; omega) | (dsimp only; simp only [ll1, ll2, ll0]; omega)))) | exact True.intro | (show _ = _; first | with_reducible rfl | with_reducible assumption | omega | (simp only [ll1, ll2, ll0]; omega) | (skip; done) | exact rfl) | with_reducible assumption | (apply And.intro) | omega | (intro j hj; exact rfl) | fail))
  have cwc : ((W * C : Nat) : Int) = (W : Int) * (C : Int) := Int.natCast_mul _ _
  have chs : ((H * st : Nat) : Int) = (st : Int) * (H : Int) := by rw [Int.natCast_mul, Int.mul_comm]
  have cwh : ((W * H : Nat) : Int) = (W : Int) * (H : Int) := Int.natCast_mul _ _
  have wcb : 3 ≤ W * C ∧ W * C ≤ 131072 := by rcases c34 with k | k <;> subst k <;> omega
  have sv : strV (W : Int) (C : Int) = (st : Int) := by unfold strV; rw [if_neg (by omega)]; exact st_
  have hsb : H * st ≤ 32768 * 131075 := Nat.mul_le_mul (by omega) (by omega)
  have bz : bszV (W : Int) (H : Int) (C : Int) = ((54 + H * st : Nat) : Int) := by
    unfold bszV; rw [sv, if_neg (by omega), ← chs]; omega
  have hn4 : 54 + H * st < 4294967296 := by
    have q1 : H * (W * C) ≤ 20000 := by omega
    have q2 : H * st ≤ H * (W * C + 3) := Nat.mul_le_mul_left _ st2
    rw [Nat.mul_add] at q2
    omega
  have b0 : IntKind.u32.wrap (bszV (W : Int) (H : Int) (C : Int)) = ((54 + H * st : Nat) : Int) := by rw [bz]; exact u32_id (by omega) (by omega)
  have b1 : IntKind.u32.wrap (W : Int) = (W : Int) := u32_id (by omega) (by omega)
  have b2 : IntKind.u32.wrap (H : Int) = (H : Int) := u32_id (by omega) (by omega)
  have b3 : IntKind.u32.wrap (8 * (C : Int)) = ((8 * C : Nat) : Int) := by rw [u32_id (by omega) (by omega)]; omega
  refine ⟨[(1, .ptr 0 0), (5, .ptr 1 0)], ⟨2, [(0, some (.cells 40 [.int .i64 (W : Int), .int .i64 (H : Int), .int .i64 (C : Int), .roi .u8 p])), (1, some (hdEn ((54 + H * st : Nat) : Int) 0 54 40 (W : Int) (H : Int) 1 ((8 * C : Nat) : Int) 0 0 0 0 0 0))]⟩, [some 0, some 1], ?_, ?_⟩
  · (repeat' (first | (refine And.intro ?_ ?_) | exact True.intro | (show _ = _; with_reducible rfl) | exact Chk.mk (by kernel_rfl)))
    all_goals first | exact b0 | exact b1 | exact b2 | exact b3 | rfl
  have u0 : ∀ n : Nat, n < 4294967296 → U32 (n : Int) := fun n hn => ⟨by omega, by omega⟩
  have u1 := u0 (54 + H * st) hn4
  have u2 := u0 W (by omega)
  have u3 := u0 H (by omega)
  have u4 := u0 (8 * C) (by omega)
  have u5 : U32 0 := ⟨by decide, by decide⟩
  have u6 : U32 54 := ⟨by decide, by decide⟩
  have u7 : U32 40 := ⟨by decide, by decide⟩
  have u8 : U32 1 := ⟨by decide, by decide⟩
  have rwc : rngI .i64 ((W : Int) * (C : Int)) := by rw [← cwc]; exact rng64 (by omega) (by omega)
  have rsw : rngI .i64 (strV (W : Int) (C : Int) - (W : Int) * (C : Int)) := by rw [sv, ← cwc]; exact rng64 (by omega) (by omega)
  have om : 0 ≤ strV (W : Int) (C : Int) - (W : Int) * (C : Int) ∧ strV (W : Int) (C : Int) - (W : Int) * (C : Int) ≤ strV (W : Int) (C : Int) - (W : Int) * (C : Int) ∧ strV (W : Int) (C : Int) - (W : Int) * (C : Int) ≤ 140737488355328 ∧ (strV (W : Int) (C : Int) - (W : Int) * (C : Int)) * ((1 : Nat) : Int) ≤ 140737488355328 := by rw [sv, ← cwc]; omega
  (repeat' (first | (refine And.intro (fun (hfk : _ = true) => ?_) (fun (hfk : _ = false) => ?_) <;> ((try (first | replace hfk := of_decide_eq_true hfk | replace hfk := of_decide_eq_false hfk | simp only [decide_eq_true_eq, decide_eq_false_iff_not, dh1, dh0, ne_eq, reduceCtorEq] at hfk)); (try (exfalso; first | omega | contradiction | exact Bool.noConfusion (Eq.trans (Eq.symm hfk) (by with_reducible assumption : _ = false)) | exact Bool.noConfusion (Eq.trans (Eq.symm hfk) (by with_reducible assumption : _ = true)))))) | (refine And.intro ?ob ?_; (case ob => (first | exact Chk.mk (by kernel_rfl) | exact True.intro | with_reducible assumption | exact rng64 (by omega) (by omega) | omega | (dsimp only; omega) | (show (_ : Nat) ≤ _; omega) | (simp only [ll1, ll2, ll0]; done) | (simp only [ll1, ll2, ll0]; omega) | (dsimp only; simp only [ll1, ll2, ll0]; omega)))) | exact True.intro | (show _ = _; first | with_reducible rfl | with_reducible assumption | omega | (simp only [ll1, ll2, ll0]; omega) | (skip; done) | exact rfl) | with_reducible assumption | (apply And.intro) | omega | (intro j hj; exact rfl) | fail))
  (refine ⟨[1], ⟨by kernel_rfl⟩, ?_⟩)
  (repeat' (first | (refine And.intro (fun (hfk : _ = true) => ?_) (fun (hfk : _ = false) => ?_) <;> ((try (first | replace hfk := of_decide_eq_true hfk | replace hfk := of_decide_eq_false hfk | simp only [decide_eq_true_eq, decide_eq_false_iff_not, dh1, dh0, ne_eq, reduceCtorEq] at hfk)); (try (exfalso; first | omega | contradiction | exact Bool.noConfusion (Eq.trans (Eq.symm hfk) (by with_reducible assumption : _ = false)) | exact Bool.noConfusion (Eq.trans (Eq.symm hfk) (by with_reducible assumption : _ = true)))))) | (refine And.intro ?ob ?_; (case ob => (first | exact Chk.mk (by kernel_rfl) | exact True.intro | with_reducible assumption | exact rng64 (by omega) (by omega) | omega | (dsimp only; omega) | (show (_ : Nat) ≤ _; omega) | (simp only [ll1, ll2, ll0]; done) | (simp only [ll1, ll2, ll0]; omega) | (dsimp only; simp only [ll1, ll2, ll0]; omega)))) | exact True.intro | (show _ = _; first | with_reducible rfl | with_reducible assumption | omega | (simp only [ll1, ll2, ll0]; omega) | (first | exact u1 | exact u2 | exact u3 | exact u4 | exact u5 | exact u6 | exact u7 | exact u8 | exact om; done) | exact rfl) | with_reducible assumption | (apply And.intro) | omega | (intro j hj; exact rfl) | fail))
  refine ⟨[(1, .ptr 0 0), (6, .sl 2 1 0 54), (7, .sl 3 1 0 (st - W * C))], ⟨4, [(0, some (.cells 40 [.int .i64 (W : Int), .int .i64 (H : Int), .int .i64 (C : Int), .roi .u8 p])), (1, some (hdEn ((54 + H * st : Nat) : Int) 0 54 40 (W : Int) (H : Int) 1 ((8 * C : Nat) : Int) 0 0 0 0 0 0)), (2, some (bE (wrHd W H C st))), (3, some (bE (List.replicate (st - W * C) 0)))]⟩, [some 0, some 1, some 2, some 3], ?_, ?_⟩
  · have z1 : (strV (W : Int) (C : Int) - (W : Int) * (C : Int)).toNat = st - W * C := by rw [sv, ← cwc]; omega
    have z2 : List.replicate (strV (W : Int) (C : Int) - (W : Int) * (C : Int)).toNat (0 : Int) = List.replicate (st - W * C) 0 := by rw [z1]
    (repeat' (first | (refine And.intro ?_ ?_) | exact True.intro | (show _ = _; with_reducible rfl) | exact Chk.mk (by kernel_rfl)))
    all_goals first | rfl | exact z1 | exact z2
  clear rwc rsw om u0 u1 u2 u3 u4 u5 u6 u7 u8 b0 b1 b2 b3 bz hsb
  obtain ⟨A, hA⟩ : ∃ A, wrHd W H C st = A := ⟨_, rfl⟩
  have hAl : A.length = 54 := by rw [← hA]; rfl
  rw [hA]
  have rh : rngI .i64 ((H : Int) - 1) := rng64 (by omega) (by omega)
  have hrl : ∀ k, k < H → (wrRow p C W H st k).length = st := fun k hk => by
    unfold wrRow
    have := prod_of (n := W * C) (show H - 1 - k < H by omega)
    rw [List.length_append, swapTo_len, piece_len (by omega), List.length_replicate]; omega
  have hHs : H * st < 4294967296 := by omega
  (repeat' (first | (refine And.intro (fun (hfk : _ = true) => ?_) (fun (hfk : _ = false) => ?_) <;> ((try (first | replace hfk := of_decide_eq_true hfk | replace hfk := of_decide_eq_false hfk | simp only [decide_eq_true_eq, decide_eq_false_iff_not, dh1, dh0, ne_eq, reduceCtorEq] at hfk)); (try (exfalso; first | omega | contradiction | exact Bool.noConfusion (Eq.trans (Eq.symm hfk) (by with_reducible assumption : _ = false)) | exact Bool.noConfusion (Eq.trans (Eq.symm hfk) (by with_reducible assumption : _ = true)))))) | (refine And.intro ?ob ?_; (case ob => (first | exact Chk.mk (by kernel_rfl) | exact True.intro | with_reducible assumption | exact rng64 (by omega) (by omega) | omega | (dsimp only; omega) | (show (_ : Nat) ≤ _; omega) | (simp only [ll1, ll2, ll0]; done) | (simp only [ll1, ll2, ll0]; omega) | (dsimp only; simp only [ll1, ll2, ll0]; omega)))) | exact True.intro | (show _ = _; first | with_reducible rfl | with_reducible assumption | omega | (simp only [ll1, ll2, ll0]; omega) | (skip; done) | exact rfl) | with_reducible assumption | (apply And.intro) | omega | (intro j hj; exact rfl) | fail))
  refine ⟨Nat, fun k => [(1, .ptr 0 0), (6, .sl 2 1 0 (54 + k * st)), (7, .sl 3 1 0 (st - W * C)), (8, .int .i64 ((H : Int) - 1 - (k : Int)))], fun k => ⟨4, [(0, some (.cells 40 [.int .i64 (W : Int), .int .i64 (H : Int), .int .i64 (C : Int), .roi .u8 p])), (1, some (hdEn ((54 + H * st : Nat) : Int) 0 54 40 (W : Int) (H : Int) 1 ((8 * C : Nat) : Int) 0 0 0 0 0 0)), (2, some (bE (A ++ catK (wrRow p C W H st) k))), (3, some (bE (List.replicate (st - W * C) 0)))]⟩, fun k => k ≤ H, fun k => H - k, ⟨0, [some 0, some 1, some 2, some 3], Nat.zero_le _, ?_⟩, fun k hk => ?_⟩
  · have z0 : A = A ++ catK (wrRow p C W H st) 0 := (List.append_nil _).symm
    (repeat' (first | (refine And.intro ?_ ?_) | exact True.intro | (show _ = _; with_reducible rfl) | exact Chk.mk (by kernel_rfl)))
    all_goals first | rfl | exact hA.trans z0 | exact z0 | (show (_ : Int) = _; omega) | (show (_ : Nat) = _; omega)
  have hk : k ≤ H := hk
  have hcl := catK_len hrl k hk
  have hol : (A ++ catK (wrRow p C W H st) k).length = 54 + k * st := by rw [List.length_append, hAl, hcl]
  by_cases hlt : k < H
  · have hks := prod_of (n := st) hlt
    have hkw := prod_of (n := W * C) (show H - 1 - k < H by omega)
    have ry : rngI .i64 ((H : Int) - 1 - (k : Int) - 1) := rng64 (by omega) (by omega)
    (repeat' (first | (refine And.intro (fun (hfk : _ = true) => ?_) (fun (hfk : _ = false) => ?_) <;> ((try (first | replace hfk := of_decide_eq_true hfk | replace hfk := of_decide_eq_false hfk | simp only [decide_eq_true_eq, decide_eq_false_iff_not, dh1, dh0, ne_eq, reduceCtorEq] at hfk)); (try (exfalso; first | omega | contradiction | exact Bool.noConfusion (Eq.trans (Eq.symm hfk) (by with_reducible assumption : _ = false)) | exact Bool.noConfusion (Eq.trans (Eq.symm hfk) (by with_reducible assumption : _ = true)))))) | (refine And.intro ?ob ?_; (case ob => (first | exact Chk.mk (by kernel_rfl) | exact True.intro | with_reducible assumption | exact rng64 (by omega) (by omega) | omega | (dsimp only; omega) | (show (_ : Nat) ≤ _; omega) | (simp only [ll1, ll2, ll0]; done) | (simp only [ll1, ll2, ll0]; omega) | (dsimp only; simp only [ll1, ll2, ll0]; omega)))) | exact True.intro | (show _ = _; first | with_reducible rfl | with_reducible assumption | omega | (simp only [ll1, ll2, ll0]; omega) | (skip; done) | exact rfl) | with_reducible assumption | (apply And.intro) | omega | (intro j hj; exact rfl) | fail))
    (refine ⟨[], ⟨by kernel_rfl⟩, ?_⟩)
    (repeat' (first | (refine And.intro (fun (hfk : _ = true) => ?_) (fun (hfk : _ = false) => ?_) <;> ((try (first | replace hfk := of_decide_eq_true hfk | replace hfk := of_decide_eq_false hfk | simp only [decide_eq_true_eq, decide_eq_false_iff_not, dh1, dh0, ne_eq, reduceCtorEq] at hfk)); (try (exfalso; first | omega | contradiction | exact Bool.noConfusion (Eq.trans (Eq.symm hfk) (by with_reducible assumption : _ = false)) | exact Bool.noConfusion (Eq.trans (Eq.symm hfk) (by with_reducible assumption : _ = true)))))) | (refine And.intro ?ob ?_; (case ob => (first | exact Chk.mk (by kernel_rfl) | exact True.intro | with_reducible assumption | exact rng64 (by omega) (by omega) | omega | (dsimp only; omega) | (show (_ : Nat) ≤ _; omega) | (simp only [ll1, ll2, ll0]; done) | (simp only [ll1, ll2, ll0]; omega) | (dsimp only; simp only [ll1, ll2, ll0]; omega)))) | exact True.intro | (show _ = _; first | with_reducible rfl | with_reducible assumption | omega | (simp only [ll1, ll2, ll0]; omega) | (skip; done) | exact rfl) | with_reducible assumption | (apply And.intro) | omega | (intro j hj; exact rfl) | fail))
    refine ⟨[(1, .ptr 0 0), (6, .sl 2 1 0 (54 + k * st)), (7, .sl 3 1 0 (st - W * C)), (8, .int .i64 ((H : Int) - 1 - (k : Int))), (9, .sl 4 1 0 (W * C))], ⟨5, [(0, some (.cells 40 [.int .i64 (W : Int), .int .i64 (H : Int), .int .i64 (C : Int), .roi .u8 p])), (1, some (hdEn ((54 + H * st : Nat) : Int) 0 54 40 (W : Int) (H : Int) 1 ((8 * C : Nat) : Int) 0 0 0 0 0 0)), (2, some (bE (A ++ catK (wrRow p C W H st) k))), (3, some (bE (List.replicate (st - W * C) 0))), (4, some (bE (piece p (W * C) (H - 1 - k))))]⟩, [some 0, some 1, some 2, some 3, some 4], ?_, ?_⟩
    · have t1 : ((W : Int) * (C : Int)).toNat = W * C := by rw [← cwc]; omega
      have t2 : (((H : Int) - 1 - (k : Int)) * ((W : Int) * (C : Int))).toNat = (H - 1 - k) * (W * C) := by
        have : (H : Int) - 1 - (k : Int) = ((H - 1 - k : Nat) : Int) := by omega
        rw [this, ← cwc, ← Int.natCast_mul, Int.toNat_natCast]
      have t3 : List.take ((W : Int) * (C : Int)).toNat (List.drop (((H : Int) - 1 - (k : Int)) * ((W : Int) * (C : Int))).toNat p) = piece p (W * C) (H - 1 - k) := by rw [t1, t2]; rfl
      (repeat' (first | (refine And.intro ?_ ?_) | exact True.intro | (show _ = _; with_reducible rfl) | exact Chk.mk (by kernel_rfl)))
      all_goals first | rfl | exact t1 | exact t3
    have hpl : (piece p (W * C) (H - 1 - k)).length = W * C := piece_len (by omega)
    have tc : (C : Int).toNat = C := Int.toNat_natCast C
    have td : W * C / (C : Int).toNat = W := by rw [tc]; exact Nat.mul_div_cancel _ (by omega)
    have y1 : W * C = W * C / (C : Int).toNat * (C : Int).toNat := by rw [td, tc]
    (repeat' (first | (refine And.intro (fun (hfk : _ = true) => ?_) (fun (hfk : _ = false) => ?_) <;> ((try (first | replace hfk := of_decide_eq_true hfk | replace hfk := of_decide_eq_false hfk | simp only [decide_eq_true_eq, decide_eq_false_iff_not, dh1, dh0, ne_eq, reduceCtorEq] at hfk)); (try (exfalso; first | omega | contradiction | exact Bool.noConfusion (Eq.trans (Eq.symm hfk) (by with_reducible assumption : _ = false)) | exact Bool.noConfusion (Eq.trans (Eq.symm hfk) (by with_reducible assumption : _ = true)))))) | (refine And.intro ?ob ?_; (case ob => (first | exact Chk.mk (by kernel_rfl) | exact True.intro | with_reducible assumption | exact rng64 (by omega) (by omega) | omega | (dsimp only; omega) | (show (_ : Nat) ≤ _; omega) | (simp only [ll1, ll2, ll0]; done) | (simp only [ll1, ll2, ll0]; omega) | (dsimp only; simp only [ll1, ll2, ll0]; omega)))) | exact True.intro | (show _ = _; first | with_reducible rfl | with_reducible assumption | omega | (simp only [ll1, ll2, ll0]; omega) | (skip; done) | exact rfl) | with_reducible assumption | (apply And.intro) | omega | (intro j hj; exact rfl) | fail))
    (refine ⟨[4], ⟨by kernel_rfl⟩, ?_⟩)
    (repeat' (first | (refine And.intro (fun (hfk : _ = true) => ?_) (fun (hfk : _ = false) => ?_) <;> ((try (first | replace hfk := of_decide_eq_true hfk | replace hfk := of_decide_eq_false hfk | simp only [decide_eq_true_eq, decide_eq_false_iff_not, dh1, dh0, ne_eq, reduceCtorEq] at hfk)); (try (exfalso; first | omega | contradiction | exact Bool.noConfusion (Eq.trans (Eq.symm hfk) (by with_reducible assumption : _ = false)) | exact Bool.noConfusion (Eq.trans (Eq.symm hfk) (by with_reducible assumption : _ = true)))))) | (refine And.intro ?ob ?_; (case ob => (first | exact Chk.mk (by kernel_rfl) | exact True.intro | with_reducible assumption | exact rng64 (by omega) (by omega) | omega | (dsimp only; omega) | (show (_ : Nat) ≤ _; omega) | (simp only [ll1, ll2, ll0]; done) | (simp only [ll1, ll2, ll0]; omega) | (dsimp only; simp only [ll1, ll2, ll0]; omega)))) | exact True.intro | (show _ = _; first | with_reducible rfl | with_reducible assumption | omega | (simp only [ll1, ll2, ll0]; omega) | (skip; done) | exact rfl) | with_reducible assumption | (apply And.intro) | omega | (intro j hj; exact rfl) | fail))
    refine ⟨[(1, .ptr 0 0), (6, .sl 2 1 0 (54 + k * st)), (7, .sl 3 1 0 (st - W * C)), (8, .int .i64 ((H : Int) - 1 - (k : Int))), (9, .sl 4 1 0 (W * C))], ⟨5, [(0, some (.cells 40 [.int .i64 (W : Int), .int .i64 (H : Int), .int .i64 (C : Int), .roi .u8 p])), (1, some (hdEn ((54 + H * st : Nat) : Int) 0 54 40 (W : Int) (H : Int) 1 ((8 * C : Nat) : Int) 0 0 0 0 0 0)), (2, some (bE (A ++ catK (wrRow p C W H st) k))), (3, some (bE (List.replicate (st - W * C) 0))), (4, some (bE (swapTo (piece p (W * C) (H - 1 - k)) 0 C W)))]⟩, [some 0, some 1, some 2, some 3, some 4], ?_, ?_⟩
    · have y2 : swapTo (piece p (W * C) (H - 1 - k)) 0 (C : Int).toNat (W * C / (C : Int).toNat) = swapTo (piece p (W * C) (H - 1 - k)) 0 C W := by rw [td, tc]
      (repeat' (first | (refine And.intro ?_ ?_) | exact True.intro | (show _ = _; with_reducible rfl) | exact Chk.mk (by kernel_rfl)))
      all_goals first | rfl | exact y2
    clear y1 td tc hpl
    have hsl : (swapTo (piece p (W * C) (H - 1 - k)) 0 C W).length = W * C := by rw [swapTo_len, piece_len (by omega)]
    have hzl : (List.replicate (st - W * C) (0 : Int)).length = st - W * C := List.length_replicate ..
    have x1 : List.take (W * C) (List.drop 0 (swapTo (piece p (W * C) (H - 1 - k)) 0 C W)) = swapTo (piece p (W * C) (H - 1 - k)) 0 C W := by rw [List.drop_zero]; exact List.take_of_length_le (by omega)
    have x2 : List.take (st - W * C) (List.drop 0 (List.replicate (st - W * C) (0 : Int))) = List.replicate (st - W * C) 0 := by rw [List.drop_zero]; exact List.take_of_length_le (by omega)
    have x3 : A ++ catK (wrRow p C W H st) k ++ List.take (W * C) (List.drop 0 (swapTo (piece p (W * C) (H - 1 - k)) 0 C W)) ++ List.take (st - W * C) (List.drop 0 (List.replicate (st - W * C) (0 : Int))) = A ++ catK (wrRow p C W H st) (k + 1) := by
      rw [x1, x2]
      show _ = A ++ (catK (wrRow p C W H st) k ++ wrRow p C W H st k)
      unfold wrRow
      simp only [List.append_assoc]
    have x4 : (List.take (W * C) (List.drop 0 (swapTo (piece p (W * C) (H - 1 - k)) 0 C W))).length = W * C := by rw [x1, hsl]
    have x5 : (List.take (st - W * C) (List.drop 0 (List.replicate (st - W * C) (0 : Int)))).length = st - W * C := by rw [x2, hzl]
    (repeat' (first | (refine And.intro (fun (hfk : _ = true) => ?_) (fun (hfk : _ = false) => ?_) <;> ((try (first | replace hfk := of_decide_eq_true hfk | replace hfk := of_decide_eq_false hfk | simp only [decide_eq_true_eq, decide_eq_false_iff_not, dh1, dh0, ne_eq, reduceCtorEq] at hfk)); (try (exfalso; first | omega | contradiction | exact Bool.noConfusion (Eq.trans (Eq.symm hfk) (by with_reducible assumption : _ = false)) | exact Bool.noConfusion (Eq.trans (Eq.symm hfk) (by with_reducible assumption : _ = true)))))) | (refine And.intro ?ob ?_; (case ob => (first | exact Chk.mk (by kernel_rfl) | exact True.intro | with_reducible assumption | exact rng64 (by omega) (by omega) | omega | (dsimp only; omega) | (show (_ : Nat) ≤ _; omega) | (simp only [ll1, ll2, ll0]; done) | (simp only [ll1, ll2, ll0]; omega) | (dsimp only; simp only [ll1, ll2, ll0]; omega)))) | exact True.intro | (show _ = _; first | with_reducible rfl | with_reducible assumption | omega | (simp only [ll1, ll2, ll0]; omega) | (skip; done) | exact rfl) | with_reducible assumption | (apply And.intro) | omega | (intro j hj; exact rfl) | fail))
    refine ⟨k + 1, [some 0, some 1, some 6, some 3], hlt, ?mu, ?_⟩
    case mu => (show H - (k + 1) < H - k; omega)
    have x6 : (k + 1) * st = k * st + st := Nat.succ_mul _ _
    (repeat' (first | (refine And.intro ?_ ?_) | exact True.intro | (show _ = _; with_reducible rfl) | exact Chk.mk (by kernel_rfl)))
    all_goals first | rfl | exact x3 | (show (_ : Int) = _; omega) | (show (_ : Nat) = _; simp only [List.length_append, hAl, hcl, x4, x5, x6]; omega)
  · obtain rfl : k = H := by omega
    have z1 : List.take (54 + k * st) (List.drop 0 (A ++ catK (wrRow p C W k st) k)) = A ++ wrB p C W k st := by
      rw [List.drop_zero]; exact List.take_of_length_le (by omega)
    (repeat' (first | (refine And.intro (fun (hfk : _ = true) => ?_) (fun (hfk : _ = false) => ?_) <;> ((try (first | replace hfk := of_decide_eq_true hfk | replace hfk := of_decide_eq_false hfk | simp only [decide_eq_true_eq, decide_eq_false_iff_not, dh1, dh0, ne_eq, reduceCtorEq] at hfk)); (try (exfalso; first | omega | contradiction | exact Bool.noConfusion (Eq.trans (Eq.symm hfk) (by with_reducible assumption : _ = false)) | exact Bool.noConfusion (Eq.trans (Eq.symm hfk) (by with_reducible assumption : _ = true)))))) | (refine And.intro ?ob ?_; (case ob => (first | exact Chk.mk (by kernel_rfl) | exact True.intro | with_reducible assumption | exact rng64 (by omega) (by omega) | omega | (dsimp only; omega) | (show (_ : Nat) ≤ _; omega) | (simp only [ll1, ll2, ll0]; done) | (simp only [ll1, ll2, ll0]; omega) | (dsimp only; simp only [ll1, ll2, ll0]; omega)))) | exact True.intro | (show _ = _; first | with_reducible rfl | with_reducible assumption | omega | (simp only [ll1, ll2, ll0]; omega) | (exact z1; done) | exact rfl) | with_reducible assumption | (apply And.intro) | omega | (intro j hj; exact rfl) | fail))
theorem bwrite_s : SOK Try.prog 25 bwS := by
  refine sok_of (C := wpCx) wpCx_ok rfl mixed ⟨Try.func25, by kernel_rfl, by kernel_rfl, by kernel_rfl⟩ fun l obs v h ho => ?_
  (unfold bwS at h; split at h; rotate_left; (focus (cases h)); rename_i w hh c p; simp only [Option.some.injEq, Prod.mk.injEq] at h; obtain ⟨rfl, rfl⟩ := h; simp only [List.mem_cons, List.not_mem_nil, or_false, forall_eq_or_imp, forall_eq, false_implies, implies_true] at ho)
  refine ⟨Nat.le_of_ble_eq_true rfl, ?_⟩
  by_cases e : wrE w hh c p.length = 0
  · exact wp_good ho e
  · exact wp_bad ho e
end Go.Proofs.Ytepjmnkleajibaa

/- Bitmaps (bmp): the program's Read. Printed by wip/tools/bmpread.py. No condition. -/
namespace Go.Proofs.Ytepjmnkleajibaa
open Go Go.RowKit
set_option linter.unusedVariables false
set_option linter.unusedSimpArgs false
set_option maxRecDepth 100000
set_option maxHeartbeats 16000000

noncomputable def rpCx : Ctx := mkK 0 [(29, strideS), (22, leftS), (99, hformS), (100, hshapeS), (101, hsumsS), (102, hdownS)] (glook [(17, fG newcF), (98, fG takeHF), (79, fG takeF), (95, fG turnF)]) [2, 7, 10, 24, 25]
theorem rpCx_ok : COK Try.prog rpCx := mkK_ok (pok_cons stride_s (pok_cons left_s (pok_cons hform_s (pok_cons hshape_s (pok_cons hsums_s (pok_cons hdown_s pok_nil)))))) (gl_cons newc_g (gl_cons takeH_g (gl_cons take_g (gl_cons turn_g gl_nil))))
theorem tk_bad1 {b : List Int} (hb : Byt b) (h : tkC b ≠ 0) : vcFn rpCx Try.f32 [.roi .u8 b] ⟨0, []⟩ (Ret (.tup [imA (rdK b (hW b)) (rdK b (hrV (hH0 b))) (rdK b (hCn b)) (rdL b), .int .i64 (rdE b)])) := by
  have bl := hb.le
  have e1 : hdE b = tkC b := by rw [hd_take, if_pos h]
  have e : rdE b = tkC b := by unfold rdE; rw [e1, if_pos h]
  obtain ⟨z1, z2⟩ := rd_bad (b := b) (by rw [e]; exact h)
  rw [z1, z1, z1, z2, e]
  (repeat' (first | (refine And.intro (fun (hfk : _ = true) => ?_) (fun (hfk : _ = false) => ?_) <;> ((try (first | replace hfk := of_decide_eq_true hfk | replace hfk := of_decide_eq_false hfk | simp only [decide_eq_true_eq, decide_eq_false_iff_not, dh1, dh0, ne_eq, reduceCtorEq] at hfk)); (try (exfalso; first | omega | contradiction | exact Bool.noConfusion (Eq.trans (Eq.symm hfk) (by with_reducible assumption : _ = false)) | exact Bool.noConfusion (Eq.trans (Eq.symm hfk) (by with_reducible assumption : _ = true)))))) | (refine And.intro ?ob ?_; (case ob => (first | exact Chk.mk (by kernel_rfl) | exact True.intro | with_reducible assumption | exact rng64 (by omega) (by omega) | omega | (dsimp only; omega) | (show (_ : Nat) ≤ _; omega) | (simp only [ll1, ll2, ll0]; done) | (simp only [ll1, ll2, ll0]; omega) | (dsimp only; simp only [ll1, ll2, ll0]; omega)))) | exact True.intro | (show _ = _; first | with_reducible rfl | with_reducible assumption | omega | (simp only [ll1, ll2, ll0]; omega) | (exact hb; done) | exact rfl) | with_reducible assumption | (apply And.intro) | omega | (intro j hj; exact rfl) | fail))
  (refine ⟨[], ⟨by kernel_rfl⟩, ?_⟩)
  (repeat' (first | (refine And.intro (fun (hfk : _ = true) => ?_) (fun (hfk : _ = false) => ?_) <;> ((try (first | replace hfk := of_decide_eq_true hfk | replace hfk := of_decide_eq_false hfk | simp only [decide_eq_true_eq, decide_eq_false_iff_not, dh1, dh0, ne_eq, reduceCtorEq] at hfk)); (try (exfalso; first | omega | contradiction | exact Bool.noConfusion (Eq.trans (Eq.symm hfk) (by with_reducible assumption : _ = false)) | exact Bool.noConfusion (Eq.trans (Eq.symm hfk) (by with_reducible assumption : _ = true)))))) | (refine And.intro ?ob ?_; (case ob => (first | exact Chk.mk (by kernel_rfl) | exact True.intro | with_reducible assumption | exact rng64 (by omega) (by omega) | omega | (dsimp only; omega) | (show (_ : Nat) ≤ _; omega) | (simp only [ll1, ll2, ll0]; done) | (simp only [ll1, ll2, ll0]; omega) | (dsimp only; simp only [ll1, ll2, ll0]; omega)))) | exact True.intro | (show _ = _; first | with_reducible rfl | with_reducible assumption | omega | (simp only [ll1, ll2, ll0]; omega) | (exact hb; done) | exact rfl) | with_reducible assumption | (apply And.intro) | omega | (intro j hj; exact rfl) | fail))
  (refine ⟨[3, 1, 2], ⟨by kernel_rfl⟩, ?_⟩)
  (repeat' (first | (refine And.intro (fun (hfk : _ = true) => ?_) (fun (hfk : _ = false) => ?_) <;> ((try (first | replace hfk := of_decide_eq_true hfk | replace hfk := of_decide_eq_false hfk | simp only [decide_eq_true_eq, decide_eq_false_iff_not, dh1, dh0, ne_eq, reduceCtorEq] at hfk)); (try (exfalso; first | omega | contradiction | exact Bool.noConfusion (Eq.trans (Eq.symm hfk) (by with_reducible assumption : _ = false)) | exact Bool.noConfusion (Eq.trans (Eq.symm hfk) (by with_reducible assumption : _ = true)))))) | (refine And.intro ?ob ?_; (case ob => (first | exact Chk.mk (by kernel_rfl) | exact True.intro | with_reducible assumption | exact rng64 (by omega) (by omega) | omega | (dsimp only; omega) | (show (_ : Nat) ≤ _; omega) | (simp only [ll1, ll2, ll0]; done) | (simp only [ll1, ll2, ll0]; omega) | (dsimp only; simp only [ll1, ll2, ll0]; omega)))) | exact True.intro | (show _ = _; first | with_reducible rfl | with_reducible assumption | omega | (simp only [ll1, ll2, ll0]; omega) | (exact hb; done) | exact rfl) | with_reducible assumption | (apply And.intro) | omega | (intro j hj; exact rfl) | fail))
  refine ⟨[(0, .roi .u8 b), (2, .ptr 0 0), (4, .ptr 1 0), (5, .ptr 3 0), (6, .int .i64 (tkC b))], ⟨4, [(0, some (.cells 40 [.int .i64 0, .int .i64 0, .int .i64 0, .nils])), (1, some (.cells 27 [.sl 2 1 0 b.length, .int .i64 (tkA b)])), (2, some (bE b)), (3, some (.cells 148 [.int .u32 (if tkC b = 0 then lw b 2 4 else 0), .int .u32 (if tkC b = 0 then lw b 6 4 else 0), .int .u32 (if tkC b = 0 then lw b 10 4 else 0), .int .u32 (if tkC b = 0 then lw b 14 4 else 0), .int .u32 (if tkC b = 0 then lw b 18 4 else 0), .int .u32 (if tkC b = 0 then lw b 22 4 else 0), .int .u32 (if tkC b = 0 then lw b 26 2 else 0), .int .u32 (if tkC b = 0 then lw b 28 2 else 0), .int .u32 (if tkC b = 0 then lw b 30 4 else 0), .int .u32 (if tkC b = 0 then lw b 34 4 else 0), .int .u32 (if tkC b = 0 then lw b 38 4 else 0), .int .u32 (if tkC b = 0 then lw b 42 4 else 0), .int .u32 (if tkC b = 0 then lw b 46 4 else 0), .int .u32 (if tkC b = 0 then lw b 50 4 else 0)]))]⟩, [some 0, some 1, some 2, some 3], ?_, ?_⟩
  · (repeat' (first | (refine And.intro ?_ ?_) | exact True.intro | (show _ = _; with_reducible rfl) | exact Chk.mk (by kernel_rfl)))
    all_goals first | rfl
  (repeat' (first | (refine And.intro (fun (hfk : _ = true) => ?_) (fun (hfk : _ = false) => ?_) <;> ((try (first | replace hfk := of_decide_eq_true hfk | replace hfk := of_decide_eq_false hfk | simp only [decide_eq_true_eq, decide_eq_false_iff_not, dh1, dh0, ne_eq, reduceCtorEq] at hfk)); (try (exfalso; first | omega | contradiction | exact Bool.noConfusion (Eq.trans (Eq.symm hfk) (by with_reducible assumption : _ = false)) | exact Bool.noConfusion (Eq.trans (Eq.symm hfk) (by with_reducible assumption : _ = true)))))) | (refine And.intro ?ob ?_; (case ob => (first | exact Chk.mk (by kernel_rfl) | exact True.intro | with_reducible assumption | exact rng64 (by omega) (by omega) | omega | (dsimp only; omega) | (show (_ : Nat) ≤ _; omega) | (simp only [ll1, ll2, ll0]; done) | (simp only [ll1, ll2, ll0]; omega) | (dsimp only; simp only [ll1, ll2, ll0]; omega)))) | exact True.intro | (show _ = _; first | with_reducible rfl | with_reducible assumption | omega | (simp only [ll1, ll2, ll0]; omega) | (rfl; done) | exact rfl) | with_reducible assumption | (apply And.intro) | omega | (intro j hj; exact rfl) | fail))
theorem tk_bad2 {b : List Int} (hb : Byt b) (hk : tkC b = 0) (h : hdE b ≠ 0) : vcFn rpCx Try.f32 [.roi .u8 b] ⟨0, []⟩ (Ret (.tup [imA (rdK b (hW b)) (rdK b (hrV (hH0 b))) (rdK b (hCn b)) (rdL b), .int .i64 (rdE b)])) := by
  have bl := hb.le
  have hH : ∀ F : Int, (if tkC b = 0 then F else 0) = F := fun F => if_pos hk
  have hA : tkA b = 54 := by unfold tkC at hk; unfold tkA; split at hk; · rename_i k; exact absurd hk k
                             rename_i k; rw [if_neg k]; split at hk; · cases hk
                             rename_i k2; rw [if_neg k2]
  have hl54 : 54 ≤ b.length := by unfold tkC at hk; split at hk; · rename_i k; exact absurd hk k
                                  split at hk; · cases hk
                                  omega
  have e1 : hdE b = if fmP (lw b 6 4) (lw b 10 4) (lw b 14 4) (lw b 26 2) (lw b 28 2) (lw b 30 4) (lw b 46 4) (lw b 50 4) then 0 else 21 := by rw [hd_take, if_neg (fun k => k hk)]
  have hf : ¬ fmP (lw b 6 4) (lw b 10 4) (lw b 14 4) (lw b 26 2) (lw b 28 2) (lw b 30 4) (lw b 46 4) (lw b 50 4) := fun k => h (by rw [e1, if_pos k])
  have e : rdE b = 21 := by unfold rdE; rw [if_pos h, e1, if_neg hf]
  obtain ⟨z1, z2⟩ := rd_bad (b := b) (by rw [e]; decide)
  rw [z1, z1, z1, z2, e]
  (repeat' (first | (refine And.intro (fun (hfk : _ = true) => ?_) (fun (hfk : _ = false) => ?_) <;> ((try (first | replace hfk := of_decide_eq_true hfk | replace hfk := of_decide_eq_false hfk | simp only [decide_eq_true_eq, decide_eq_false_iff_not, dh1, dh0, ne_eq, reduceCtorEq] at hfk)); (try (exfalso; first | omega | contradiction | exact Bool.noConfusion (Eq.trans (Eq.symm hfk) (by with_reducible assumption : _ = false)) | exact Bool.noConfusion (Eq.trans (Eq.symm hfk) (by with_reducible assumption : _ = true)))))) | (refine And.intro ?ob ?_; (case ob => (first | exact Chk.mk (by kernel_rfl) | exact True.intro | with_reducible assumption | exact rng64 (by omega) (by omega) | omega | (dsimp only; omega) | (show (_ : Nat) ≤ _; omega) | (simp only [ll1, ll2, ll0]; done) | (simp only [ll1, ll2, ll0]; omega) | (dsimp only; simp only [ll1, ll2, ll0]; omega)))) | exact True.intro | (show _ = _; first | with_reducible rfl | with_reducible assumption | omega | (simp only [ll1, ll2, ll0]; omega) | (exact hb; done) | exact rfl) | with_reducible assumption | (apply And.intro) | omega | (intro j hj; exact rfl) | fail))
  (refine ⟨[], ⟨by kernel_rfl⟩, ?_⟩)
  (repeat' (first | (refine And.intro (fun (hfk : _ = true) => ?_) (fun (hfk : _ = false) => ?_) <;> ((try (first | replace hfk := of_decide_eq_true hfk | replace hfk := of_decide_eq_false hfk | simp only [decide_eq_true_eq, decide_eq_false_iff_not, dh1, dh0, ne_eq, reduceCtorEq] at hfk)); (try (exfalso; first | omega | contradiction | exact Bool.noConfusion (Eq.trans (Eq.symm hfk) (by with_reducible assumption : _ = false)) | exact Bool.noConfusion (Eq.trans (Eq.symm hfk) (by with_reducible assumption : _ = true)))))) | (refine And.intro ?ob ?_; (case ob => (first | exact Chk.mk (by kernel_rfl) | exact True.intro | with_reducible assumption | exact rng64 (by omega) (by omega) | omega | (dsimp only; omega) | (show (_ : Nat) ≤ _; omega) | (simp only [ll1, ll2, ll0]; done) | (simp only [ll1, ll2, ll0]; omega) | (dsimp only; simp only [ll1, ll2, ll0]; omega)))) | exact True.intro | (show _ = _; first | with_reducible rfl | with_reducible assumption | omega | (simp only [ll1, ll2, ll0]; omega) | (exact hb; done) | exact rfl) | with_reducible assumption | (apply And.intro) | omega | (intro j hj; exact rfl) | fail))
  (refine ⟨[3, 1, 2], ⟨by kernel_rfl⟩, ?_⟩)
  (repeat' (first | (refine And.intro (fun (hfk : _ = true) => ?_) (fun (hfk : _ = false) => ?_) <;> ((try (first | replace hfk := of_decide_eq_true hfk | replace hfk := of_decide_eq_false hfk | simp only [decide_eq_true_eq, decide_eq_false_iff_not, dh1, dh0, ne_eq, reduceCtorEq] at hfk)); (try (exfalso; first | omega | contradiction | exact Bool.noConfusion (Eq.trans (Eq.symm hfk) (by with_reducible assumption : _ = false)) | exact Bool.noConfusion (Eq.trans (Eq.symm hfk) (by with_reducible assumption : _ = true)))))) | (refine And.intro ?ob ?_; (case ob => (first | exact Chk.mk (by kernel_rfl) | exact True.intro | with_reducible assumption | exact rng64 (by omega) (by omega) | omega | (dsimp only; omega) | (show (_ : Nat) ≤ _; omega) | (simp only [ll1, ll2, ll0]; done) | (simp only [ll1, ll2, ll0]; omega) | (dsimp only; simp only [ll1, ll2, ll0]; omega)))) | exact True.intro | (show _ = _; first | with_reducible rfl | with_reducible assumption | omega | (simp only [ll1, ll2, ll0]; omega) | (exact hb; done) | exact rfl) | with_reducible assumption | (apply And.intro) | omega | (intro j hj; exact rfl) | fail))
  refine ⟨[(0, .roi .u8 b), (2, .ptr 0 0), (4, .ptr 1 0), (5, .ptr 3 0), (6, .int .i64 0)], ⟨4, [(0, some (.cells 40 [.int .i64 0, .int .i64 0, .int .i64 0, .nils])), (1, some (.cells 27 [.sl 2 1 0 b.length, .int .i64 54])), (2, some (bE b)), (3, some (.cells 148 [.int .u32 (lw b 2 4), .int .u32 (lw b 6 4), .int .u32 (lw b 10 4), .int .u32 (lw b 14 4), .int .u32 (lw b 18 4), .int .u32 (lw b 22 4), .int .u32 (lw b 26 2), .int .u32 (lw b 28 2), .int .u32 (lw b 30 4), .int .u32 (lw b 34 4), .int .u32 (lw b 38 4), .int .u32 (lw b 42 4), .int .u32 (lw b 46 4), .int .u32 (lw b 50 4)]))]⟩, [some 0, some 1, some 2, some 3], ?_, ?_⟩
  · (repeat' (first | (refine And.intro ?_ ?_) | exact True.intro | (show _ = _; with_reducible rfl) | exact Chk.mk (by kernel_rfl)))
    all_goals first | exact hk | exact hA | exact hH _ | rfl
  (repeat' (first | (refine And.intro (fun (hfk : _ = true) => ?_) (fun (hfk : _ = false) => ?_) <;> ((try (first | replace hfk := of_decide_eq_true hfk | replace hfk := of_decide_eq_false hfk | simp only [decide_eq_true_eq, decide_eq_false_iff_not, dh1, dh0, ne_eq, reduceCtorEq] at hfk)); (try (exfalso; first | omega | contradiction | exact Bool.noConfusion (Eq.trans (Eq.symm hfk) (by with_reducible assumption : _ = false)) | exact Bool.noConfusion (Eq.trans (Eq.symm hfk) (by with_reducible assumption : _ = true)))))) | (refine And.intro ?ob ?_; (case ob => (first | exact Chk.mk (by kernel_rfl) | exact True.intro | with_reducible assumption | exact rng64 (by omega) (by omega) | omega | (dsimp only; omega) | (show (_ : Nat) ≤ _; omega) | (simp only [ll1, ll2, ll0]; done) | (simp only [ll1, ll2, ll0]; omega) | (dsimp only; simp only [ll1, ll2, ll0]; omega)))) | exact True.intro | (show _ = _; first | with_reducible rfl | with_reducible assumption | omega | (simp only [ll1, ll2, ll0]; omega) | (rfl; done) | exact rfl) | with_reducible assumption | (apply And.intro) | omega | (intro j hj; exact rfl) | fail))
theorem tk_bad3 {b : List Int} (hb : Byt b) (hk : tkC b = 0) (h : hdE b = 0) (hs : shC (hW b) (hrV (hH0 b)) ≠ 0) : vcFn rpCx Try.f32 [.roi .u8 b] ⟨0, []⟩ (Ret (.tup [imA (rdK b (hW b)) (rdK b (hrV (hH0 b))) (rdK b (hCn b)) (rdL b), .int .i64 (rdE b)])) := by
  have bl := hb.le
  have hH : ∀ F : Int, (if tkC b = 0 then F else 0) = F := fun F => if_pos hk
  have hA : tkA b = 54 := by unfold tkC at hk; unfold tkA; split at hk; · rename_i k; exact absurd hk k
                             rename_i k; rw [if_neg k]; split at hk; · cases hk
                             rename_i k2; rw [if_neg k2]
  have hl54 : 54 ≤ b.length := by unfold tkC at hk; split at hk; · rename_i k; exact absurd hk k
                                  split at hk; · cases hk
                                  omega
  have hd := h
  obtain ⟨_, _, k6, k7, k8⟩ := hd_inv hd
  have hf : fmP (lw b 6 4) (lw b 10 4) (lw b 14 4) (lw b 26 2) (lw b 28 2) (lw b 30 4) (lw b 46 4) (lw b 50 4) := by
    obtain ⟨a1, a2, a3, a4, a5, a6, a7⟩ := k7
    exact ⟨a1, a5, a6, a7, a2, a3, a4, k8⟩
  have wb := lw_bd hb (a := 18) (n := 4) (by decide)
  have hb0 := lw_bd hb (a := 22) (n := 4) (by decide)
  obtain ⟨w0, w1⟩ := wb
  obtain ⟨h0, h1⟩ := hb0
  have e : rdE b = shC (hW b) (hrV (hH0 b)) := by unfold rdE; rw [if_neg (fun k => k h), if_pos hs]
  obtain ⟨z1, z2⟩ := rd_bad (b := b) (by rw [e]; exact hs)
  rw [z1, z1, z1, z2, e]
  have hs' : ¬ shC (lw b 18 4) (hrV (lw b 22 4)) = 0 := hs
  (repeat' (first | (refine And.intro (fun (hfk : _ = true) => ?_) (fun (hfk : _ = false) => ?_) <;> ((try (first | replace hfk := of_decide_eq_true hfk | replace hfk := of_decide_eq_false hfk | simp only [decide_eq_true_eq, decide_eq_false_iff_not, dh1, dh0, ne_eq, reduceCtorEq] at hfk)); (try (exfalso; first | omega | contradiction | exact Bool.noConfusion (Eq.trans (Eq.symm hfk) (by with_reducible assumption : _ = false)) | exact Bool.noConfusion (Eq.trans (Eq.symm hfk) (by with_reducible assumption : _ = true)))))) | (refine And.intro ?ob ?_; (case ob => (first | exact Chk.mk (by kernel_rfl) | exact True.intro | with_reducible assumption | exact rng64 (by omega) (by omega) | omega | (dsimp only; omega) | (show (_ : Nat) ≤ _; omega) | (simp only [ll1, ll2, ll0]; done) | (simp only [ll1, ll2, ll0]; omega) | (dsimp only; simp only [ll1, ll2, ll0]; omega)))) | exact True.intro | (show _ = _; first | with_reducible rfl | with_reducible assumption | omega | (simp only [ll1, ll2, ll0]; omega) | (exact hb; done) | exact rfl) | with_reducible assumption | (apply And.intro) | omega | (intro j hj; exact rfl) | fail))
  (refine ⟨[], ⟨by kernel_rfl⟩, ?_⟩)
  (repeat' (first | (refine And.intro (fun (hfk : _ = true) => ?_) (fun (hfk : _ = false) => ?_) <;> ((try (first | replace hfk := of_decide_eq_true hfk | replace hfk := of_decide_eq_false hfk | simp only [decide_eq_true_eq, decide_eq_false_iff_not, dh1, dh0, ne_eq, reduceCtorEq] at hfk)); (try (exfalso; first | omega | contradiction | exact Bool.noConfusion (Eq.trans (Eq.symm hfk) (by with_reducible assumption : _ = false)) | exact Bool.noConfusion (Eq.trans (Eq.symm hfk) (by with_reducible assumption : _ = true)))))) | (refine And.intro ?ob ?_; (case ob => (first | exact Chk.mk (by kernel_rfl) | exact True.intro | with_reducible assumption | exact rng64 (by omega) (by omega) | omega | (dsimp only; omega) | (show (_ : Nat) ≤ _; omega) | (simp only [ll1, ll2, ll0]; done) | (simp only [ll1, ll2, ll0]; omega) | (dsimp only; simp only [ll1, ll2, ll0]; omega)))) | exact True.intro | (show _ = _; first | with_reducible rfl | with_reducible assumption | omega | (simp only [ll1, ll2, ll0]; omega) | (exact hb; done) | exact rfl) | with_reducible assumption | (apply And.intro) | omega | (intro j hj; exact rfl) | fail))
  (refine ⟨[3, 1, 2], ⟨by kernel_rfl⟩, ?_⟩)
  (repeat' (first | (refine And.intro (fun (hfk : _ = true) => ?_) (fun (hfk : _ = false) => ?_) <;> ((try (first | replace hfk := of_decide_eq_true hfk | replace hfk := of_decide_eq_false hfk | simp only [decide_eq_true_eq, decide_eq_false_iff_not, dh1, dh0, ne_eq, reduceCtorEq] at hfk)); (try (exfalso; first | omega | contradiction | exact Bool.noConfusion (Eq.trans (Eq.symm hfk) (by with_reducible assumption : _ = false)) | exact Bool.noConfusion (Eq.trans (Eq.symm hfk) (by with_reducible assumption : _ = true)))))) | (refine And.intro ?ob ?_; (case ob => (first | exact Chk.mk (by kernel_rfl) | exact True.intro | with_reducible assumption | exact rng64 (by omega) (by omega) | omega | (dsimp only; omega) | (show (_ : Nat) ≤ _; omega) | (simp only [ll1, ll2, ll0]; done) | (simp only [ll1, ll2, ll0]; omega) | (dsimp only; simp only [ll1, ll2, ll0]; omega)))) | exact True.intro | (show _ = _; first | with_reducible rfl | with_reducible assumption | omega | (simp only [ll1, ll2, ll0]; omega) | (exact hb; done) | exact rfl) | with_reducible assumption | (apply And.intro) | omega | (intro j hj; exact rfl) | fail))
  refine ⟨[(0, .roi .u8 b), (2, .ptr 0 0), (4, .ptr 1 0), (5, .ptr 3 0), (6, .int .i64 0)], ⟨4, [(0, some (.cells 40 [.int .i64 0, .int .i64 0, .int .i64 0, .nils])), (1, some (.cells 27 [.sl 2 1 0 b.length, .int .i64 54])), (2, some (bE b)), (3, some (.cells 148 [.int .u32 (lw b 2 4), .int .u32 (lw b 6 4), .int .u32 (lw b 10 4), .int .u32 (lw b 14 4), .int .u32 (lw b 18 4), .int .u32 (lw b 22 4), .int .u32 (lw b 26 2), .int .u32 (lw b 28 2), .int .u32 (lw b 30 4), .int .u32 (lw b 34 4), .int .u32 (lw b 38 4), .int .u32 (lw b 42 4), .int .u32 (lw b 46 4), .int .u32 (lw b 50 4)]))]⟩, [some 0, some 1, some 2, some 3], ?_, ?_⟩
  · (repeat' (first | (refine And.intro ?_ ?_) | exact True.intro | (show _ = _; with_reducible rfl) | exact Chk.mk (by kernel_rfl)))
    all_goals first | exact hk | exact hA | exact hH _ | rfl
  (repeat' (first | (refine And.intro (fun (hfk : _ = true) => ?_) (fun (hfk : _ = false) => ?_) <;> ((try (first | replace hfk := of_decide_eq_true hfk | replace hfk := of_decide_eq_false hfk | simp only [decide_eq_true_eq, decide_eq_false_iff_not, dh1, dh0, ne_eq, reduceCtorEq] at hfk)); (try (exfalso; first | omega | contradiction | exact Bool.noConfusion (Eq.trans (Eq.symm hfk) (by with_reducible assumption : _ = false)) | exact Bool.noConfusion (Eq.trans (Eq.symm hfk) (by with_reducible assumption : _ = true)))))) | (refine And.intro ?ob ?_; (case ob => (first | exact Chk.mk (by kernel_rfl) | exact True.intro | with_reducible assumption | exact rng64 (by omega) (by omega) | omega | (dsimp only; omega) | (show (_ : Nat) ≤ _; omega) | (simp only [ll1, ll2, ll0]; done) | (simp only [ll1, ll2, ll0]; omega) | (dsimp only; simp only [ll1, ll2, ll0]; omega)))) | exact True.intro | (show _ = _; first | with_reducible rfl | with_reducible assumption | omega | (simp only [ll1, ll2, ll0]; omega) | (rfl; done) | exact rfl) | with_reducible assumption | (apply And.intro) | omega | (intro j hj; exact rfl) | fail))
  refine ⟨[(0, .roi .u8 b), (2, .ptr 0 0), (4, .ptr 1 0), (5, .ptr 3 0), (7, .ptr 4 0), (8, .int .i64 (shC (lw b 18 4) (hrV (lw b 22 4))))], ⟨5, [(0, some (.cells 40 [.int .i64 0, .int .i64 0, .int .i64 0, .nils])), (1, some (.cells 27 [.sl 2 1 0 b.length, .int .i64 54])), (2, some (bE b)), (3, some (.cells 148 [.int .u32 (lw b 2 4), .int .u32 (lw b 6 4), .int .u32 (lw b 10 4), .int .u32 (lw b 14 4), .int .u32 (lw b 18 4), .int .u32 (lw b 22 4), .int .u32 (lw b 26 2), .int .u32 (lw b 28 2), .int .u32 (lw b 30 4), .int .u32 (lw b 34 4), .int .u32 (lw b 38 4), .int .u32 (lw b 42 4), .int .u32 (lw b 46 4), .int .u32 (lw b 50 4)])), (4, some (.cells 40 [.int .i64 0, .int .i64 0, .int .i64 0, .nils]))]⟩, [some 0, some 1, some 2, some 3, some 4], ?_, ?_⟩
  · have i0 : ∀ x, shI (shC (lw b 18 4) (hrV (lw b 22 4))) x = 0 := fun x => if_neg hs
    (repeat' (first | (refine And.intro ?_ ?_) | exact True.intro | (show _ = _; with_reducible rfl) | exact Chk.mk (by kernel_rfl)))
    all_goals first | exact i0 _ | rfl
  (repeat' (first | (refine And.intro (fun (hfk : _ = true) => ?_) (fun (hfk : _ = false) => ?_) <;> ((try (first | replace hfk := of_decide_eq_true hfk | replace hfk := of_decide_eq_false hfk | simp only [decide_eq_true_eq, decide_eq_false_iff_not, dh1, dh0, ne_eq, reduceCtorEq] at hfk)); (try (exfalso; first | omega | contradiction | exact Bool.noConfusion (Eq.trans (Eq.symm hfk) (by with_reducible assumption : _ = false)) | exact Bool.noConfusion (Eq.trans (Eq.symm hfk) (by with_reducible assumption : _ = true)))))) | (refine And.intro ?ob ?_; (case ob => (first | exact Chk.mk (by kernel_rfl) | exact True.intro | with_reducible assumption | exact rng64 (by omega) (by omega) | omega | (dsimp only; omega) | (show (_ : Nat) ≤ _; omega) | (simp only [ll1, ll2, ll0]; done) | (simp only [ll1, ll2, ll0]; omega) | (dsimp only; simp only [ll1, ll2, ll0]; omega)))) | exact True.intro | (show _ = _; first | with_reducible rfl | with_reducible assumption | omega | (simp only [ll1, ll2, ll0]; omega) | (rfl; done) | exact rfl) | with_reducible assumption | (apply And.intro) | omega | (intro j hj; exact rfl) | fail))
theorem tk_bad4 {b : List Int} (hb : Byt b) (hk : tkC b = 0) (h : hdE b = 0) (hs : shC (hW b) (hrV (hH0 b)) = 0) (hn : rdE b ≠ 0) : vcFn rpCx Try.f32 [.roi .u8 b] ⟨0, []⟩ (Ret (.tup [imA (rdK b (hW b)) (rdK b (hrV (hH0 b))) (rdK b (hCn b)) (rdL b), .int .i64 (rdE b)])) := by
  have bl := hb.le
  have hH : ∀ F : Int, (if tkC b = 0 then F else 0) = F := fun F => if_pos hk
  have hA : tkA b = 54 := by unfold tkC at hk; unfold tkA; split at hk; · rename_i k; exact absurd hk k
                             rename_i k; rw [if_neg k]; split at hk; · cases hk
                             rename_i k2; rw [if_neg k2]
  have hl54 : 54 ≤ b.length := by unfold tkC at hk; split at hk; · rename_i k; exact absurd hk k
                                  split at hk; · cases hk
                                  omega
  have hd := h
  obtain ⟨_, _, k6, k7, k8⟩ := hd_inv hd
  have hf : fmP (lw b 6 4) (lw b 10 4) (lw b 14 4) (lw b 26 2) (lw b 28 2) (lw b 30 4) (lw b 46 4) (lw b 50 4) := by
    obtain ⟨a1, a2, a3, a4, a5, a6, a7⟩ := k7
    exact ⟨a1, a5, a6, a7, a2, a3, a4, k8⟩
  have wb := lw_bd hb (a := 18) (n := 4) (by decide)
  have hb0 := lw_bd hb (a := 22) (n := 4) (by decide)
  obtain ⟨w0, w1⟩ := wb
  obtain ⟨h0, h1⟩ := hb0
  have hrb := hr_bd h0 h1
  obtain ⟨hw1, hw2, hh1, hh2, hwh⟩ := sh_inv (w := hW b) (r := hrV (hH0 b)) w0 hrb.1 hs
  obtain ⟨W, gw⟩ : ∃ W : Nat, hW b = W := ⟨(hW b).toNat, by omega⟩
  obtain ⟨H, gh⟩ : ∃ H : Nat, hrV (hH0 b) = H := ⟨(hrV (hH0 b)).toNat, by omega⟩
  obtain ⟨c, gc, c34⟩ : ∃ c : Nat, hCn b = c ∧ (c = 3 ∨ c = 4) := by
    unfold hCn
    rcases k8 with k | k
    · exact ⟨3, by rw [k]; rfl, .inl rfl⟩
    · exact ⟨4, by rw [k]; rfl, .inr rfl⟩
  rw [gw] at hw1 hw2 hwh
  rw [gh] at hh1 hh2 hwh
  have cwh : ((W * H : Nat) : Int) = (W : Int) * (H : Int) := Int.natCast_mul _ _
  have cwc : ((W * c : Nat) : Int) = (W : Int) * (c : Int) := Int.natCast_mul _ _
  have wcb : 3 ≤ W * c ∧ W * c ≤ 131072 := by rcases c34 with k | k <;> subst k <;> omega
  obtain ⟨st, gst⟩ : ∃ st : Nat, up4 ((W : Int) * (c : Int)) = st := ⟨(up4 ((W : Int) * (c : Int))).toNat, by have := up4_bd ((W : Int) * (c : Int)); omega⟩
  have ub := up4_bd ((W : Int) * (c : Int))
  rw [gst, ← cwc] at ub
  obtain ⟨ub1, ub2, _⟩ := ub
  have sv : strV (W : Int) (c : Int) = (st : Int) := by
    unfold strV
    rw [if_neg (by omega)]; exact gst
  have chs : ((H * st : Nat) : Int) = (st : Int) * (H : Int) := by rw [Int.natCast_mul, Int.mul_comm]
  have hsb : H * st ≤ 32768 * 131075 := Nat.mul_le_mul (by omega) (by omega)
  have qn : rngI .i64 ((st : Int) * (H : Int)) := by rw [← chs]; exact rng64 (by omega) (by omega)
  have gN : hNn b = ((H * st : Nat) : Int) := by unfold hNn; rw [gw, gc, gst, gh, chs]
  have hs' : shC (lw b 18 4) (hrV (lw b 22 4)) = 0 := hs
  have i0 : ∀ x, shI (shC (lw b 18 4) (hrV (lw b 22 4))) x = x := fun x => if_pos hs
  have gw' : shI (shC (lw b 18 4) (hrV (lw b 22 4))) (lw b 18 4) = (W : Int) := by rw [i0]; exact gw
  have gh' : shI (shC (lw b 18 4) (hrV (lw b 22 4))) (hrV (lw b 22 4)) = (H : Int) := by rw [i0]; exact gh
  have gc' : shI (shC (lw b 18 4) (hrV (lw b 22 4))) (lw b 28 2 / 8) = (c : Int) := by rw [i0]; exact gc
  have e0 : rdE b = if (b.length : Int) - 54 < hNn b then 20 else if hNn b < (b.length : Int) - 54 then 22 else if lw b 2 4 = b.length ∧ (lw b 34 4 = 0 ∨ lw b 34 4 = hNn b) then 0 else 21 := by
    unfold rdE; rw [if_neg (fun k => k h), if_neg (fun k => k hs)]
  rw [gN] at e0
  have : (List.take (b).length (List.drop 0 (b))).length = (b).length := by simp
  obtain ⟨z1, z2⟩ := rd_bad hn
  rw [z1, z1, z1, z2]
  by_cases a1 : (b.length : Int) - 54 < ((H * st : Nat) : Int)
  · rw [e0, if_pos a1]
    rw [chs] at a1
    (repeat' (first | (refine And.intro (fun (hfk : _ = true) => ?_) (fun (hfk : _ = false) => ?_) <;> ((try (first | replace hfk := of_decide_eq_true hfk | replace hfk := of_decide_eq_false hfk | simp only [decide_eq_true_eq, decide_eq_false_iff_not, dh1, dh0, ne_eq, reduceCtorEq] at hfk)); (try (exfalso; first | omega | contradiction | exact Bool.noConfusion (Eq.trans (Eq.symm hfk) (by with_reducible assumption : _ = false)) | exact Bool.noConfusion (Eq.trans (Eq.symm hfk) (by with_reducible assumption : _ = true)))))) | (refine And.intro ?ob ?_; (case ob => (first | exact Chk.mk (by kernel_rfl) | exact True.intro | with_reducible assumption | exact rng64 (by omega) (by omega) | omega | (dsimp only; omega) | (show (_ : Nat) ≤ _; omega) | (simp only [ll1, ll2, ll0]; done) | (simp only [ll1, ll2, ll0]; omega) | (dsimp only; simp only [ll1, ll2, ll0]; omega)))) | exact True.intro | (show _ = _; first | with_reducible rfl | with_reducible assumption | omega | (simp only [ll1, ll2, ll0]; omega) | (exact hb; done) | exact rfl) | with_reducible assumption | (apply And.intro) | omega | (intro j hj; exact rfl) | fail))
    (refine ⟨[], ⟨by kernel_rfl⟩, ?_⟩)
    (repeat' (first | (refine And.intro (fun (hfk : _ = true) => ?_) (fun (hfk : _ = false) => ?_) <;> ((try (first | replace hfk := of_decide_eq_true hfk | replace hfk := of_decide_eq_false hfk | simp only [decide_eq_true_eq, decide_eq_false_iff_not, dh1, dh0, ne_eq, reduceCtorEq] at hfk)); (try (exfalso; first | omega | contradiction | exact Bool.noConfusion (Eq.trans (Eq.symm hfk) (by with_reducible assumption : _ = false)) | exact Bool.noConfusion (Eq.trans (Eq.symm hfk) (by with_reducible assumption : _ = true)))))) | (refine And.intro ?ob ?_; (case ob => (first | exact Chk.mk (by kernel_rfl) | exact True.intro | with_reducible assumption | exact rng64 (by omega) (by omega) | omega | (dsimp only; omega) | (show (_ : Nat) ≤ _; omega) | (simp only [ll1, ll2, ll0]; done) | (simp only [ll1, ll2, ll0]; omega) | (dsimp only; simp only [ll1, ll2, ll0]; omega)))) | exact True.intro | (show _ = _; first | with_reducible rfl | with_reducible assumption | omega | (simp only [ll1, ll2, ll0]; omega) | (exact hb; done) | exact rfl) | with_reducible assumption | (apply And.intro) | omega | (intro j hj; exact rfl) | fail))
    (refine ⟨[3, 1, 2], ⟨by kernel_rfl⟩, ?_⟩)
    (repeat' (first | (refine And.intro (fun (hfk : _ = true) => ?_) (fun (hfk : _ = false) => ?_) <;> ((try (first | replace hfk := of_decide_eq_true hfk | replace hfk := of_decide_eq_false hfk | simp only [decide_eq_true_eq, decide_eq_false_iff_not, dh1, dh0, ne_eq, reduceCtorEq] at hfk)); (try (exfalso; first | omega | contradiction | exact Bool.noConfusion (Eq.trans (Eq.symm hfk) (by with_reducible assumption : _ = false)) | exact Bool.noConfusion (Eq.trans (Eq.symm hfk) (by with_reducible assumption : _ = true)))))) | (refine And.intro ?ob ?_; (case ob => (first | exact Chk.mk (by kernel_rfl) | exact True.intro | with_reducible assumption | exact rng64 (by omega) (by omega) | omega | (dsimp only; omega) | (show (_ : Nat) ≤ _; omega) | (simp only [ll1, ll2, ll0]; done) | (simp only [ll1, ll2, ll0]; omega) | (dsimp only; simp only [ll1, ll2, ll0]; omega)))) | exact True.intro | (show _ = _; first | with_reducible rfl | with_reducible assumption | omega | (simp only [ll1, ll2, ll0]; omega) | (exact hb; done) | exact rfl) | with_reducible assumption | (apply And.intro) | omega | (intro j hj; exact rfl) | fail))
    refine ⟨[(0, .roi .u8 b), (2, .ptr 0 0), (4, .ptr 1 0), (5, .ptr 3 0), (6, .int .i64 0)], ⟨4, [(0, some (.cells 40 [.int .i64 0, .int .i64 0, .int .i64 0, .nils])), (1, some (.cells 27 [.sl 2 1 0 b.length, .int .i64 54])), (2, some (bE b)), (3, some (.cells 148 [.int .u32 (lw b 2 4), .int .u32 (lw b 6 4), .int .u32 (lw b 10 4), .int .u32 (lw b 14 4), .int .u32 (lw b 18 4), .int .u32 (lw b 22 4), .int .u32 (lw b 26 2), .int .u32 (lw b 28 2), .int .u32 (lw b 30 4), .int .u32 (lw b 34 4), .int .u32 (lw b 38 4), .int .u32 (lw b 42 4), .int .u32 (lw b 46 4), .int .u32 (lw b 50 4)]))]⟩, [some 0, some 1, some 2, some 3], ?_, ?_⟩
    · (repeat' (first | (refine And.intro ?_ ?_) | exact True.intro | (show _ = _; with_reducible rfl) | exact Chk.mk (by kernel_rfl)))
      all_goals first | exact hk | exact hA | exact hH _ | rfl
    (repeat' (first | (refine And.intro (fun (hfk : _ = true) => ?_) (fun (hfk : _ = false) => ?_) <;> ((try (first | replace hfk := of_decide_eq_true hfk | replace hfk := of_decide_eq_false hfk | simp only [decide_eq_true_eq, decide_eq_false_iff_not, dh1, dh0, ne_eq, reduceCtorEq] at hfk)); (try (exfalso; first | omega | contradiction | exact Bool.noConfusion (Eq.trans (Eq.symm hfk) (by with_reducible assumption : _ = false)) | exact Bool.noConfusion (Eq.trans (Eq.symm hfk) (by with_reducible assumption : _ = true)))))) | (refine And.intro ?ob ?_; (case ob => (first | exact Chk.mk (by kernel_rfl) | exact True.intro | with_reducible assumption | exact rng64 (by omega) (by omega) | omega | (dsimp only; omega) | (show (_ : Nat) ≤ _; omega) | (simp only [ll1, ll2, ll0]; done) | (simp only [ll1, ll2, ll0]; omega) | (dsimp only; simp only [ll1, ll2, ll0]; omega)))) | exact True.intro | (show _ = _; first | with_reducible rfl | with_reducible assumption | omega | (simp only [ll1, ll2, ll0]; omega) | (rfl; done) | exact rfl) | with_reducible assumption | (apply And.intro) | omega | (intro j hj; exact rfl) | fail))
    refine ⟨[(0, .roi .u8 b), (2, .ptr 0 0), (4, .ptr 1 0), (5, .ptr 3 0), (7, .ptr 4 0), (8, .int .i64 0)], ⟨5, [(0, some (.cells 40 [.int .i64 0, .int .i64 0, .int .i64 0, .nils])), (1, some (.cells 27 [.sl 2 1 0 b.length, .int .i64 54])), (2, some (bE b)), (3, some (.cells 148 [.int .u32 (lw b 2 4), .int .u32 (lw b 6 4), .int .u32 (lw b 10 4), .int .u32 (lw b 14 4), .int .u32 (lw b 18 4), .int .u32 (lw b 22 4), .int .u32 (lw b 26 2), .int .u32 (lw b 28 2), .int .u32 (lw b 30 4), .int .u32 (lw b 34 4), .int .u32 (lw b 38 4), .int .u32 (lw b 42 4), .int .u32 (lw b 46 4), .int .u32 (lw b 50 4)])), (4, some (.cells 40 [.int .i64 (W : Int), .int .i64 (H : Int), .int .i64 (c : Int), .nils]))]⟩, [some 0, some 1, some 2, some 3, some 4], ?_, ?_⟩
    · (repeat' (first | (refine And.intro ?_ ?_) | exact True.intro | (show _ = _; with_reducible rfl) | exact Chk.mk (by kernel_rfl)))
      all_goals first | exact hs' | exact gw' | exact gh' | exact gc' | rfl
    (repeat' (first | (refine And.intro (fun (hfk : _ = true) => ?_) (fun (hfk : _ = false) => ?_) <;> ((try (first | replace hfk := of_decide_eq_true hfk | replace hfk := of_decide_eq_false hfk | simp only [decide_eq_true_eq, decide_eq_false_iff_not, dh1, dh0, ne_eq, reduceCtorEq] at hfk)); (try (exfalso; first | omega | contradiction | exact Bool.noConfusion (Eq.trans (Eq.symm hfk) (by with_reducible assumption : _ = false)) | exact Bool.noConfusion (Eq.trans (Eq.symm hfk) (by with_reducible assumption : _ = true)))))) | (refine And.intro ?ob ?_; (case ob => (first | exact Chk.mk (by kernel_rfl) | exact True.intro | with_reducible assumption | exact rng64 (by omega) (by omega) | omega | (dsimp only; omega) | (show (_ : Nat) ≤ _; omega) | (simp only [ll1, ll2, ll0]; done) | (simp only [ll1, ll2, ll0]; omega) | (dsimp only; simp only [ll1, ll2, ll0]; omega)))) | exact True.intro | (show _ = _; first | with_reducible rfl | with_reducible assumption | omega | (simp only [ll1, ll2, ll0]; omega) | (rfl; done) | exact rfl) | with_reducible assumption | (apply And.intro) | omega | (intro j hj; exact rfl) | fail))
    refine ⟨[(0, .roi .u8 b), (2, .ptr 0 0), (4, .ptr 1 0), (5, .ptr 3 0), (7, .ptr 4 0), (9, .int .i64 (st : Int))], ⟨5, [(0, some (.cells 40 [.int .i64 0, .int .i64 0, .int .i64 0, .nils])), (1, some (.cells 27 [.sl 2 1 0 b.length, .int .i64 54])), (2, some (bE b)), (3, some (.cells 148 [.int .u32 (lw b 2 4), .int .u32 (lw b 6 4), .int .u32 (lw b 10 4), .int .u32 (lw b 14 4), .int .u32 (lw b 18 4), .int .u32 (lw b 22 4), .int .u32 (lw b 26 2), .int .u32 (lw b 28 2), .int .u32 (lw b 30 4), .int .u32 (lw b 34 4), .int .u32 (lw b 38 4), .int .u32 (lw b 42 4), .int .u32 (lw b 46 4), .int .u32 (lw b 50 4)])), (4, some (.cells 40 [.int .i64 (W : Int), .int .i64 (H : Int), .int .i64 (c : Int), .nils]))]⟩, [some 0, some 1, some 2, some 3, some 4], ?_, ?_⟩
    · (repeat' (first | (refine And.intro ?_ ?_) | exact True.intro | (show _ = _; with_reducible rfl) | exact Chk.mk (by kernel_rfl)))
      all_goals first | exact sv | rfl
    (repeat' (first | (refine And.intro (fun (hfk : _ = true) => ?_) (fun (hfk : _ = false) => ?_) <;> ((try (first | replace hfk := of_decide_eq_true hfk | replace hfk := of_decide_eq_false hfk | simp only [decide_eq_true_eq, decide_eq_false_iff_not, dh1, dh0, ne_eq, reduceCtorEq] at hfk)); (try (exfalso; first | omega | contradiction | exact Bool.noConfusion (Eq.trans (Eq.symm hfk) (by with_reducible assumption : _ = false)) | exact Bool.noConfusion (Eq.trans (Eq.symm hfk) (by with_reducible assumption : _ = true)))))) | (refine And.intro ?ob ?_; (case ob => (first | exact Chk.mk (by kernel_rfl) | exact True.intro | with_reducible assumption | exact rng64 (by omega) (by omega) | omega | (dsimp only; omega) | (show (_ : Nat) ≤ _; omega) | (simp only [ll1, ll2, ll0]; done) | (simp only [ll1, ll2, ll0]; omega) | (dsimp only; simp only [ll1, ll2, ll0]; omega)))) | exact True.intro | (show _ = _; first | with_reducible rfl | with_reducible assumption | omega | (simp only [ll1, ll2, ll0]; omega) | (rfl; done) | exact rfl) | with_reducible assumption | (apply And.intro) | omega | (intro j hj; exact rfl) | fail))
  rw [if_neg a1] at e0
  by_cases a2 : ((H * st : Nat) : Int) < (b.length : Int) - 54
  · rw [e0, if_pos a2]
    rw [chs] at a1 a2
    (repeat' (first | (refine And.intro (fun (hfk : _ = true) => ?_) (fun (hfk : _ = false) => ?_) <;> ((try (first | replace hfk := of_decide_eq_true hfk | replace hfk := of_decide_eq_false hfk | simp only [decide_eq_true_eq, decide_eq_false_iff_not, dh1, dh0, ne_eq, reduceCtorEq] at hfk)); (try (exfalso; first | omega | contradiction | exact Bool.noConfusion (Eq.trans (Eq.symm hfk) (by with_reducible assumption : _ = false)) | exact Bool.noConfusion (Eq.trans (Eq.symm hfk) (by with_reducible assumption : _ = true)))))) | (refine And.intro ?ob ?_; (case ob => (first | exact Chk.mk (by kernel_rfl) | exact True.intro | with_reducible assumption | exact rng64 (by omega) (by omega) | omega | (dsimp only; omega) | (show (_ : Nat) ≤ _; omega) | (simp only [ll1, ll2, ll0]; done) | (simp only [ll1, ll2, ll0]; omega) | (dsimp only; simp only [ll1, ll2, ll0]; omega)))) | exact True.intro | (show _ = _; first | with_reducible rfl | with_reducible assumption | omega | (simp only [ll1, ll2, ll0]; omega) | (exact hb; done) | exact rfl) | with_reducible assumption | (apply And.intro) | omega | (intro j hj; exact rfl) | fail))
    (refine ⟨[], ⟨by kernel_rfl⟩, ?_⟩)
    (repeat' (first | (refine And.intro (fun (hfk : _ = true) => ?_) (fun (hfk : _ = false) => ?_) <;> ((try (first | replace hfk := of_decide_eq_true hfk | replace hfk := of_decide_eq_false hfk | simp only [decide_eq_true_eq, decide_eq_false_iff_not, dh1, dh0, ne_eq, reduceCtorEq] at hfk)); (try (exfalso; first | omega | contradiction | exact Bool.noConfusion (Eq.trans (Eq.symm hfk) (by with_reducible assumption : _ = false)) | exact Bool.noConfusion (Eq.trans (Eq.symm hfk) (by with_reducible assumption : _ = true)))))) | (refine And.intro ?ob ?_; (case ob => (first | exact Chk.mk (by kernel_rfl) | exact True.intro | with_reducible assumption | exact rng64 (by omega) (by omega) | omega | (dsimp only; omega) | (show (_ : Nat) ≤ _; omega) | (simp only [ll1, ll2, ll0]; done) | (simp only [ll1, ll2, ll0]; omega) | (dsimp only; simp only [ll1, ll2, ll0]; omega)))) | exact True.intro | (show _ = _; first | with_reducible rfl | with_reducible assumption | omega | (simp only [ll1, ll2, ll0]; omega) | (exact hb; done) | exact rfl) | with_reducible assumption | (apply And.intro) | omega | (intro j hj; exact rfl) | fail))
    (refine ⟨[3, 1, 2], ⟨by kernel_rfl⟩, ?_⟩)
    (repeat' (first | (refine And.intro (fun (hfk : _ = true) => ?_) (fun (hfk : _ = false) => ?_) <;> ((try (first | replace hfk := of_decide_eq_true hfk | replace hfk := of_decide_eq_false hfk | simp only [decide_eq_true_eq, decide_eq_false_iff_not, dh1, dh0, ne_eq, reduceCtorEq] at hfk)); (try (exfalso; first | omega | contradiction | exact Bool.noConfusion (Eq.trans (Eq.symm hfk) (by with_reducible assumption : _ = false)) | exact Bool.noConfusion (Eq.trans (Eq.symm hfk) (by with_reducible assumption : _ = true)))))) | (refine And.intro ?ob ?_; (case ob => (first | exact Chk.mk (by kernel_rfl) | exact True.intro | with_reducible assumption | exact rng64 (by omega) (by omega) | omega | (dsimp only; omega) | (show (_ : Nat) ≤ _; omega) | (simp only [ll1, ll2, ll0]; done) | (simp only [ll1, ll2, ll0]; omega) | (dsimp only; simp only [ll1, ll2, ll0]; omega)))) | exact True.intro | (show _ = _; first | with_reducible rfl | with_reducible assumption | omega | (simp only [ll1, ll2, ll0]; omega) | (exact hb; done) | exact rfl) | with_reducible assumption | (apply And.intro) | omega | (intro j hj; exact rfl) | fail))
    refine ⟨[(0, .roi .u8 b), (2, .ptr 0 0), (4, .ptr 1 0), (5, .ptr 3 0), (6, .int .i64 0)], ⟨4, [(0, some (.cells 40 [.int .i64 0, .int .i64 0, .int .i64 0, .nils])), (1, some (.cells 27 [.sl 2 1 0 b.length, .int .i64 54])), (2, some (bE b)), (3, some (.cells 148 [.int .u32 (lw b 2 4), .int .u32 (lw b 6 4), .int .u32 (lw b 10 4), .int .u32 (lw b 14 4), .int .u32 (lw b 18 4), .int .u32 (lw b 22 4), .int .u32 (lw b 26 2), .int .u32 (lw b 28 2), .int .u32 (lw b 30 4), .int .u32 (lw b 34 4), .int .u32 (lw b 38 4), .int .u32 (lw b 42 4), .int .u32 (lw b 46 4), .int .u32 (lw b 50 4)]))]⟩, [some 0, some 1, some 2, some 3], ?_, ?_⟩
    · (repeat' (first | (refine And.intro ?_ ?_) | exact True.intro | (show _ = _; with_reducible rfl) | exact Chk.mk (by kernel_rfl)))
      all_goals first | exact hk | exact hA | exact hH _ | rfl
    (repeat' (first | (refine And.intro (fun (hfk : _ = true) => ?_) (fun (hfk : _ = false) => ?_) <;> ((try (first | replace hfk := of_decide_eq_true hfk | replace hfk := of_decide_eq_false hfk | simp only [decide_eq_true_eq, decide_eq_false_iff_not, dh1, dh0, ne_eq, reduceCtorEq] at hfk)); (try (exfalso; first | omega | contradiction | exact Bool.noConfusion (Eq.trans (Eq.symm hfk) (by with_reducible assumption : _ = false)) | exact Bool.noConfusion (Eq.trans (Eq.symm hfk) (by with_reducible assumption : _ = true)))))) | (refine And.intro ?ob ?_; (case ob => (first | exact Chk.mk (by kernel_rfl) | exact True.intro | with_reducible assumption | exact rng64 (by omega) (by omega) | omega | (dsimp only; omega) | (show (_ : Nat) ≤ _; omega) | (simp only [ll1, ll2, ll0]; done) | (simp only [ll1, ll2, ll0]; omega) | (dsimp only; simp only [ll1, ll2, ll0]; omega)))) | exact True.intro | (show _ = _; first | with_reducible rfl | with_reducible assumption | omega | (simp only [ll1, ll2, ll0]; omega) | (rfl; done) | exact rfl) | with_reducible assumption | (apply And.intro) | omega | (intro j hj; exact rfl) | fail))
    refine ⟨[(0, .roi .u8 b), (2, .ptr 0 0), (4, .ptr 1 0), (5, .ptr 3 0), (7, .ptr 4 0), (8, .int .i64 0)], ⟨5, [(0, some (.cells 40 [.int .i64 0, .int .i64 0, .int .i64 0, .nils])), (1, some (.cells 27 [.sl 2 1 0 b.length, .int .i64 54])), (2, some (bE b)), (3, some (.cells 148 [.int .u32 (lw b 2 4), .int .u32 (lw b 6 4), .int .u32 (lw b 10 4), .int .u32 (lw b 14 4), .int .u32 (lw b 18 4), .int .u32 (lw b 22 4), .int .u32 (lw b 26 2), .int .u32 (lw b 28 2), .int .u32 (lw b 30 4), .int .u32 (lw b 34 4), .int .u32 (lw b 38 4), .int .u32 (lw b 42 4), .int .u32 (lw b 46 4), .int .u32 (lw b 50 4)])), (4, some (.cells 40 [.int .i64 (W : Int), .int .i64 (H : Int), .int .i64 (c : Int), .nils]))]⟩, [some 0, some 1, some 2, some 3, some 4], ?_, ?_⟩
    · (repeat' (first | (refine And.intro ?_ ?_) | exact True.intro | (show _ = _; with_reducible rfl) | exact Chk.mk (by kernel_rfl)))
      all_goals first | exact hs' | exact gw' | exact gh' | exact gc' | rfl
    (repeat' (first | (refine And.intro (fun (hfk : _ = true) => ?_) (fun (hfk : _ = false) => ?_) <;> ((try (first | replace hfk := of_decide_eq_true hfk | replace hfk := of_decide_eq_false hfk | simp only [decide_eq_true_eq, decide_eq_false_iff_not, dh1, dh0, ne_eq, reduceCtorEq] at hfk)); (try (exfalso; first | omega | contradiction | exact Bool.noConfusion (Eq.trans (Eq.symm hfk) (by with_reducible assumption : _ = false)) | exact Bool.noConfusion (Eq.trans (Eq.symm hfk) (by with_reducible assumption : _ = true)))))) | (refine And.intro ?ob ?_; (case ob => (first | exact Chk.mk (by kernel_rfl) | exact True.intro | with_reducible assumption | exact rng64 (by omega) (by omega) | omega | (dsimp only; omega) | (show (_ : Nat) ≤ _; omega) | (simp only [ll1, ll2, ll0]; done) | (simp only [ll1, ll2, ll0]; omega) | (dsimp only; simp only [ll1, ll2, ll0]; omega)))) | exact True.intro | (show _ = _; first | with_reducible rfl | with_reducible assumption | omega | (simp only [ll1, ll2, ll0]; omega) | (rfl; done) | exact rfl) | with_reducible assumption | (apply And.intro) | omega | (intro j hj; exact rfl) | fail))
    refine ⟨[(0, .roi .u8 b), (2, .ptr 0 0), (4, .ptr 1 0), (5, .ptr 3 0), (7, .ptr 4 0), (9, .int .i64 (st : Int))], ⟨5, [(0, some (.cells 40 [.int .i64 0, .int .i64 0, .int .i64 0, .nils])), (1, some (.cells 27 [.sl 2 1 0 b.length, .int .i64 54])), (2, some (bE b)), (3, some (.cells 148 [.int .u32 (lw b 2 4), .int .u32 (lw b 6 4), .int .u32 (lw b 10 4), .int .u32 (lw b 14 4), .int .u32 (lw b 18 4), .int .u32 (lw b 22 4), .int .u32 (lw b 26 2), .int .u32 (lw b 28 2), .int .u32 (lw b 30 4), .int .u32 (lw b 34 4), .int .u32 (lw b 38 4), .int .u32 (lw b 42 4), .int .u32 (lw b 46 4), .int .u32 (lw b 50 4)])), (4, some (.cells 40 [.int .i64 (W : Int), .int .i64 (H : Int), .int .i64 (c : Int), .nils]))]⟩, [some 0, some 1, some 2, some 3, some 4], ?_, ?_⟩
    · (repeat' (first | (refine And.intro ?_ ?_) | exact True.intro | (show _ = _; with_reducible rfl) | exact Chk.mk (by kernel_rfl)))
      all_goals first | exact sv | rfl
    (repeat' (first | (refine And.intro (fun (hfk : _ = true) => ?_) (fun (hfk : _ = false) => ?_) <;> ((try (first | replace hfk := of_decide_eq_true hfk | replace hfk := of_decide_eq_false hfk | simp only [decide_eq_true_eq, decide_eq_false_iff_not, dh1, dh0, ne_eq, reduceCtorEq] at hfk)); (try (exfalso; first | omega | contradiction | exact Bool.noConfusion (Eq.trans (Eq.symm hfk) (by with_reducible assumption : _ = false)) | exact Bool.noConfusion (Eq.trans (Eq.symm hfk) (by with_reducible assumption : _ = true)))))) | (refine And.intro ?ob ?_; (case ob => (first | exact Chk.mk (by kernel_rfl) | exact True.intro | with_reducible assumption | exact rng64 (by omega) (by omega) | omega | (dsimp only; omega) | (show (_ : Nat) ≤ _; omega) | (simp only [ll1, ll2, ll0]; done) | (simp only [ll1, ll2, ll0]; omega) | (dsimp only; simp only [ll1, ll2, ll0]; omega)))) | exact True.intro | (show _ = _; first | with_reducible rfl | with_reducible assumption | omega | (simp only [ll1, ll2, ll0]; omega) | (rfl; done) | exact rfl) | with_reducible assumption | (apply And.intro) | omega | (intro j hj; exact rfl) | fail))
  rw [if_neg a2] at e0
  have a3 : ¬ (lw b 2 4 = b.length ∧ (lw b 34 4 = 0 ∨ lw b 34 4 = ((H * st : Nat) : Int))) := fun k => hn (by rw [e0, if_pos k])
  rw [e0, if_neg a3]
  have a4 : decide (lw b 2 4 = (b.length : Int) ∧ (lw b 34 4 = 0 ∨ lw b 34 4 = (b.length : Int) - 54)) = false := decide_eq_false fun k => a3 ⟨k.1, k.2.imp id fun k => by omega⟩
  rw [chs] at a1 a2
  (repeat' (first | (refine And.intro (fun (hfk : _ = true) => ?_) (fun (hfk : _ = false) => ?_) <;> ((try (first | replace hfk := of_decide_eq_true hfk | replace hfk := of_decide_eq_false hfk | simp only [decide_eq_true_eq, decide_eq_false_iff_not, dh1, dh0, ne_eq, reduceCtorEq] at hfk)); (try (exfalso; first | omega | contradiction | exact Bool.noConfusion (Eq.trans (Eq.symm hfk) (by with_reducible assumption : _ = false)) | exact Bool.noConfusion (Eq.trans (Eq.symm hfk) (by with_reducible assumption : _ = true)))))) | (refine And.intro ?ob ?_; (case ob => (first | exact Chk.mk (by kernel_rfl) | exact True.intro | with_reducible assumption | exact rng64 (by omega) (by omega) | omega | (dsimp only; omega) | (show (_ : Nat) ≤ _; omega) | (simp only [ll1, ll2, ll0]; done) | (simp only [ll1, ll2, ll0]; omega) | (dsimp only; simp only [ll1, ll2, ll0]; omega)))) | exact True.intro | (show _ = _; first | with_reducible rfl | with_reducible assumption | omega | (simp only [ll1, ll2, ll0]; omega) | (exact hb; done) | exact rfl) | with_reducible assumption | (apply And.intro) | omega | (intro j hj; exact rfl) | fail))
  (refine ⟨[], ⟨by kernel_rfl⟩, ?_⟩)
  (repeat' (first | (refine And.intro (fun (hfk : _ = true) => ?_) (fun (hfk : _ = false) => ?_) <;> ((try (first | replace hfk := of_decide_eq_true hfk | replace hfk := of_decide_eq_false hfk | simp only [decide_eq_true_eq, decide_eq_false_iff_not, dh1, dh0, ne_eq, reduceCtorEq] at hfk)); (try (exfalso; first | omega | contradiction | exact Bool.noConfusion (Eq.trans (Eq.symm hfk) (by with_reducible assumption : _ = false)) | exact Bool.noConfusion (Eq.trans (Eq.symm hfk) (by with_reducible assumption : _ = true)))))) | (refine And.intro ?ob ?_; (case ob => (first | exact Chk.mk (by kernel_rfl) | exact True.intro | with_reducible assumption | exact rng64 (by omega) (by omega) | omega | (dsimp only; omega) | (show (_ : Nat) ≤ _; omega) | (simp only [ll1, ll2, ll0]; done) | (simp only [ll1, ll2, ll0]; omega) | (dsimp only; simp only [ll1, ll2, ll0]; omega)))) | exact True.intro | (show _ = _; first | with_reducible rfl | with_reducible assumption | omega | (simp only [ll1, ll2, ll0]; omega) | (exact hb; done) | exact rfl) | with_reducible assumption | (apply And.intro) | omega | (intro j hj; exact rfl) | fail))
  (refine ⟨[3, 1, 2], ⟨by kernel_rfl⟩, ?_⟩)
  (repeat' (first | (refine And.intro (fun (hfk : _ = true) => ?_) (fun (hfk : _ = false) => ?_) <;> ((try (first | replace hfk := of_decide_eq_true hfk | replace hfk := of_decide_eq_false hfk | simp only [decide_eq_true_eq, decide_eq_false_iff_not, dh1, dh0, ne_eq, reduceCtorEq] at hfk)); (try (exfalso; first | omega | contradiction | exact Bool.noConfusion (Eq.trans (Eq.symm hfk) (by with_reducible assumption : _ = false)) | exact Bool.noConfusion (Eq.trans (Eq.symm hfk) (by with_reducible assumption : _ = true)))))) | (refine And.intro ?ob ?_; (case ob => (first | exact Chk.mk (by kernel_rfl) | exact True.intro | with_reducible assumption | exact rng64 (by omega) (by omega) | omega | (dsimp only; omega) | (show (_ : Nat) ≤ _; omega) | (simp only [ll1, ll2, ll0]; done) | (simp only [ll1, ll2, ll0]; omega) | (dsimp only; simp only [ll1, ll2, ll0]; omega)))) | exact True.intro | (show _ = _; first | with_reducible rfl | with_reducible assumption | omega | (simp only [ll1, ll2, ll0]; omega) | (exact hb; done) | exact rfl) | with_reducible assumption | (apply And.intro) | omega | (intro j hj; exact rfl) | fail))
  refine ⟨[(0, .roi .u8 b), (2, .ptr 0 0), (4, .ptr 1 0), (5, .ptr 3 0), (6, .int .i64 0)], ⟨4, [(0, some (.cells 40 [.int .i64 0, .int .i64 0, .int .i64 0, .nils])), (1, some (.cells 27 [.sl 2 1 0 b.length, .int .i64 54])), (2, some (bE b)), (3, some (.cells 148 [.int .u32 (lw b 2 4), .int .u32 (lw b 6 4), .int .u32 (lw b 10 4), .int .u32 (lw b 14 4), .int .u32 (lw b 18 4), .int .u32 (lw b 22 4), .int .u32 (lw b 26 2), .int .u32 (lw b 28 2), .int .u32 (lw b 30 4), .int .u32 (lw b 34 4), .int .u32 (lw b 38 4), .int .u32 (lw b 42 4), .int .u32 (lw b 46 4), .int .u32 (lw b 50 4)]))]⟩, [some 0, some 1, some 2, some 3], ?_, ?_⟩
  · (repeat' (first | (refine And.intro ?_ ?_) | exact True.intro | (show _ = _; with_reducible rfl) | exact Chk.mk (by kernel_rfl)))
    all_goals first | exact hk | exact hA | exact hH _ | rfl
  (repeat' (first | (refine And.intro (fun (hfk : _ = true) => ?_) (fun (hfk : _ = false) => ?_) <;> ((try (first | replace hfk := of_decide_eq_true hfk | replace hfk := of_decide_eq_false hfk | simp only [decide_eq_true_eq, decide_eq_false_iff_not, dh1, dh0, ne_eq, reduceCtorEq] at hfk)); (try (exfalso; first | omega | contradiction | exact Bool.noConfusion (Eq.trans (Eq.symm hfk) (by with_reducible assumption : _ = false)) | exact Bool.noConfusion (Eq.trans (Eq.symm hfk) (by with_reducible assumption : _ = true)))))) | (refine And.intro ?ob ?_; (case ob => (first | exact Chk.mk (by kernel_rfl) | exact True.intro | with_reducible assumption | exact rng64 (by omega) (by omega) | omega | (dsimp only; omega) | (show (_ : Nat) ≤ _; omega) | (simp only [ll1, ll2, ll0]; done) | (simp only [ll1, ll2, ll0]; omega) | (dsimp only; simp only [ll1, ll2, ll0]; omega)))) | exact True.intro | (show _ = _; first | with_reducible rfl | with_reducible assumption | omega | (simp only [ll1, ll2, ll0]; omega) | (rfl; done) | exact rfl) | with_reducible assumption | (apply And.intro) | omega | (intro j hj; exact rfl) | fail))
  refine ⟨[(0, .roi .u8 b), (2, .ptr 0 0), (4, .ptr 1 0), (5, .ptr 3 0), (7, .ptr 4 0), (8, .int .i64 0)], ⟨5, [(0, some (.cells 40 [.int .i64 0, .int .i64 0, .int .i64 0, .nils])), (1, some (.cells 27 [.sl 2 1 0 b.length, .int .i64 54])), (2, some (bE b)), (3, some (.cells 148 [.int .u32 (lw b 2 4), .int .u32 (lw b 6 4), .int .u32 (lw b 10 4), .int .u32 (lw b 14 4), .int .u32 (lw b 18 4), .int .u32 (lw b 22 4), .int .u32 (lw b 26 2), .int .u32 (lw b 28 2), .int .u32 (lw b 30 4), .int .u32 (lw b 34 4), .int .u32 (lw b 38 4), .int .u32 (lw b 42 4), .int .u32 (lw b 46 4), .int .u32 (lw b 50 4)])), (4, some (.cells 40 [.int .i64 (W : Int), .int .i64 (H : Int), .int .i64 (c : Int), .nils]))]⟩, [some 0, some 1, some 2, some 3, some 4], ?_, ?_⟩
  · (repeat' (first | (refine And.intro ?_ ?_) | exact True.intro | (show _ = _; with_reducible rfl) | exact Chk.mk (by kernel_rfl)))
    all_goals first | exact hs' | exact gw' | exact gh' | exact gc' | rfl
  (repeat' (first | (refine And.intro (fun (hfk : _ = true) => ?_) (fun (hfk : _ = false) => ?_) <;> ((try (first | replace hfk := of_decide_eq_true hfk | replace hfk := of_decide_eq_false hfk | simp only [decide_eq_true_eq, decide_eq_false_iff_not, dh1, dh0, ne_eq, reduceCtorEq] at hfk)); (try (exfalso; first | omega | contradiction | exact Bool.noConfusion (Eq.trans (Eq.symm hfk) (by with_reducible assumption : _ = false)) | exact Bool.noConfusion (Eq.trans (Eq.symm hfk) (by with_reducible assumption : _ = true)))))) | (refine And.intro ?ob ?_; (case ob => (first | exact Chk.mk (by kernel_rfl) | exact True.intro | with_reducible assumption | exact rng64 (by omega) (by omega) | omega | (dsimp only; omega) | (show (_ : Nat) ≤ _; omega) | (simp only [ll1, ll2, ll0]; done) | (simp only [ll1, ll2, ll0]; omega) | (dsimp only; simp only [ll1, ll2, ll0]; omega)))) | exact True.intro | (show _ = _; first | with_reducible rfl | with_reducible assumption | omega | (simp only [ll1, ll2, ll0]; omega) | (rfl; done) | exact rfl) | with_reducible assumption | (apply And.intro) | omega | (intro j hj; exact rfl) | fail))
  refine ⟨[(0, .roi .u8 b), (2, .ptr 0 0), (4, .ptr 1 0), (5, .ptr 3 0), (7, .ptr 4 0), (9, .int .i64 (st : Int))], ⟨5, [(0, some (.cells 40 [.int .i64 0, .int .i64 0, .int .i64 0, .nils])), (1, some (.cells 27 [.sl 2 1 0 b.length, .int .i64 54])), (2, some (bE b)), (3, some (.cells 148 [.int .u32 (lw b 2 4), .int .u32 (lw b 6 4), .int .u32 (lw b 10 4), .int .u32 (lw b 14 4), .int .u32 (lw b 18 4), .int .u32 (lw b 22 4), .int .u32 (lw b 26 2), .int .u32 (lw b 28 2), .int .u32 (lw b 30 4), .int .u32 (lw b 34 4), .int .u32 (lw b 38 4), .int .u32 (lw b 42 4), .int .u32 (lw b 46 4), .int .u32 (lw b 50 4)])), (4, some (.cells 40 [.int .i64 (W : Int), .int .i64 (H : Int), .int .i64 (c : Int), .nils]))]⟩, [some 0, some 1, some 2, some 3, some 4], ?_, ?_⟩
  · (repeat' (first | (refine And.intro ?_ ?_) | exact True.intro | (show _ = _; with_reducible rfl) | exact Chk.mk (by kernel_rfl)))
    all_goals first | exact sv | rfl
  (repeat' (first | (refine And.intro (fun (hfk : _ = true) => ?_) (fun (hfk : _ = false) => ?_) <;> ((try (first | replace hfk := of_decide_eq_true hfk | replace hfk := of_decide_eq_false hfk | simp only [decide_eq_true_eq, decide_eq_false_iff_not, dh1, dh0, ne_eq, reduceCtorEq] at hfk)); (try (exfalso; first | omega | contradiction | exact Bool.noConfusion (Eq.trans (Eq.symm hfk) (by with_reducible assumption : _ = false)) | exact Bool.noConfusion (Eq.trans (Eq.symm hfk) (by with_reducible assumption : _ = true)))))) | (refine And.intro ?ob ?_; (case ob => (first | exact Chk.mk (by kernel_rfl) | exact True.intro | with_reducible assumption | exact rng64 (by omega) (by omega) | omega | (dsimp only; omega) | (show (_ : Nat) ≤ _; omega) | (simp only [ll1, ll2, ll0]; done) | (simp only [ll1, ll2, ll0]; omega) | (dsimp only; simp only [ll1, ll2, ll0]; omega)))) | exact True.intro | (show _ = _; first | with_reducible rfl | with_reducible assumption | omega | (simp only [ll1, ll2, ll0]; omega) | (rfl; done) | exact rfl) | with_reducible assumption | (apply And.intro) | omega | (intro j hj; exact rfl) | fail))
/-- Which rows stand, y rows having come. -/
def fil (dn : Bool) (H y r : Nat) : Bool := if dn = true then decide (r < y) else decide (H ≤ r + y)
theorem fil_next {dn : Bool} {H y r : Nat} (hy : y < H) (hr : r < H) : fil dn H (y + 1) r = (decide (r = fr dn H y) || fil dn H y r) := by
  unfold fil fr
  cases dn
  · simp only [Bool.false_eq_true, if_false]
    by_cases h1 : H ≤ r + y
    · rw [decide_eq_true h1, decide_eq_true (by omega)]; simp
    · by_cases h2 : r = H - 1 - y
      · rw [decide_eq_true h2, decide_eq_true (by omega)]; rfl
      · rw [decide_eq_false h2, decide_eq_false h1, decide_eq_false (by omega)]; rfl
  · simp only [if_true]
    by_cases h1 : r < y
    · rw [decide_eq_true h1, decide_eq_true (by omega)]; simp
    · by_cases h2 : r = y
      · rw [decide_eq_true h2, decide_eq_true (by omega)]; rfl
      · rw [decide_eq_false h2, decide_eq_false h1, decide_eq_false (by omega)]; rfl
def pxk (dn : Bool) (H wc : Nat) (R : Nat → List Int) (y r : Nat) : List Int := if fil dn H y r = true then R r else List.replicate wc 0
theorem fr_fr {dn : Bool} {H y : Nat} (h : y < H) : fr dn H (fr dn H y) = y := by unfold fr; split <;> omega
theorem tk_good {b : List Int} (hb : Byt b) (e : rdE b = 0) : vcFn rpCx Try.f32 [.roi .u8 b] ⟨0, []⟩ (Ret (.tup [imA (rdK b (hW b)) (rdK b (hrV (hH0 b))) (rdK b (hCn b)) (rdL b), .int .i64 (rdE b)])) := by
  have hg0 := gd_of hb e
  have h : hdE b = 0 := hg0.hd
  have hk : tkC b = 0 := by
    have := h
    rw [hd_take] at this
    split at this
    · rename_i k; exact absurd this k
    · rename_i k; exact Classical.not_not.1 k
  have hs : shC (hW b) (hrV (hH0 b)) = 0 := by
    have := e
    unfold rdE at this
    rw [if_neg (fun k => k h)] at this
    split at this
    · rename_i k; exact absurd this k
    · rename_i k; exact Classical.not_not.1 k
  have bl := hb.le
  have hH : ∀ F : Int, (if tkC b = 0 then F else 0) = F := fun F => if_pos hk
  have hA : tkA b = 54 := by unfold tkC at hk; unfold tkA; split at hk; · rename_i k; exact absurd hk k
                             rename_i k; rw [if_neg k]; split at hk; · cases hk
                             rename_i k2; rw [if_neg k2]
  have hl54 : 54 ≤ b.length := by unfold tkC at hk; split at hk; · rename_i k; exact absurd hk k
                                  split at hk; · cases hk
                                  omega
  have hd := h
  obtain ⟨_, _, k6, k7, k8⟩ := hd_inv hd
  have hf : fmP (lw b 6 4) (lw b 10 4) (lw b 14 4) (lw b 26 2) (lw b 28 2) (lw b 30 4) (lw b 46 4) (lw b 50 4) := by
    obtain ⟨a1, a2, a3, a4, a5, a6, a7⟩ := k7
    exact ⟨a1, a5, a6, a7, a2, a3, a4, k8⟩
  have wb := lw_bd hb (a := 18) (n := 4) (by decide)
  have hb0 := lw_bd hb (a := 22) (n := 4) (by decide)
  obtain ⟨w0, w1⟩ := wb
  obtain ⟨h0, h1⟩ := hb0
  have hrb := hr_bd h0 h1
  obtain ⟨hw1, hw2, hh1, hh2, hwh⟩ := sh_inv (w := hW b) (r := hrV (hH0 b)) w0 hrb.1 hs
  obtain ⟨W, gw⟩ : ∃ W : Nat, hW b = W := ⟨(hW b).toNat, by omega⟩
  obtain ⟨H, gh⟩ : ∃ H : Nat, hrV (hH0 b) = H := ⟨(hrV (hH0 b)).toNat, by omega⟩
  obtain ⟨c, gc, c34⟩ : ∃ c : Nat, hCn b = c ∧ (c = 3 ∨ c = 4) := by
    unfold hCn
    rcases k8 with k | k
    · exact ⟨3, by rw [k]; rfl, .inl rfl⟩
    · exact ⟨4, by rw [k]; rfl, .inr rfl⟩
  rw [gw] at hw1 hw2 hwh
  rw [gh] at hh1 hh2 hwh
  have cwh : ((W * H : Nat) : Int) = (W : Int) * (H : Int) := Int.natCast_mul _ _
  have cwc : ((W * c : Nat) : Int) = (W : Int) * (c : Int) := Int.natCast_mul _ _
  have wcb : 3 ≤ W * c ∧ W * c ≤ 131072 := by rcases c34 with k | k <;> subst k <;> omega
  obtain ⟨st, gst⟩ : ∃ st : Nat, up4 ((W : Int) * (c : Int)) = st := ⟨(up4 ((W : Int) * (c : Int))).toNat, by have := up4_bd ((W : Int) * (c : Int)); omega⟩
  have ub := up4_bd ((W : Int) * (c : Int))
  rw [gst, ← cwc] at ub
  obtain ⟨ub1, ub2, _⟩ := ub
  have sv : strV (W : Int) (c : Int) = (st : Int) := by
    unfold strV
    rw [if_neg (by omega)]; exact gst
  have chs : ((H * st : Nat) : Int) = (st : Int) * (H : Int) := by rw [Int.natCast_mul, Int.mul_comm]
  have hsb : H * st ≤ 32768 * 131075 := Nat.mul_le_mul (by omega) (by omega)
  have qn : rngI .i64 ((st : Int) * (H : Int)) := by rw [← chs]; exact rng64 (by omega) (by omega)
  have gN : hNn b = ((H * st : Nat) : Int) := by unfold hNn; rw [gw, gc, gst, gh, chs]
  have hs' : shC (lw b 18 4) (hrV (lw b 22 4)) = 0 := hs
  have i0 : ∀ x, shI (shC (lw b 18 4) (hrV (lw b 22 4))) x = x := fun x => if_pos hs
  have gw' : shI (shC (lw b 18 4) (hrV (lw b 22 4))) (lw b 18 4) = (W : Int) := by rw [i0]; exact gw
  have gh' : shI (shC (lw b 18 4) (hrV (lw b 22 4))) (hrV (lw b 22 4)) = (H : Int) := by rw [i0]; exact gh
  have gc' : shI (shC (lw b 18 4) (hrV (lw b 22 4))) (lw b 28 2 / 8) = (c : Int) := by rw [i0]; exact gc
  have e0 : rdE b = if (b.length : Int) - 54 < hNn b then 20 else if hNn b < (b.length : Int) - 54 then 22 else if lw b 2 4 = b.length ∧ (lw b 34 4 = 0 ∨ lw b 34 4 = hNn b) then 0 else 21 := by
    unfold rdE; rw [if_neg (fun k => k h), if_neg (fun k => k hs)]
  rw [gN] at e0
  have : (List.take (b).length (List.drop 0 (b))).length = (b).length := by simp
  obtain ⟨dn, hdn⟩ : ∃ dn, decide (2147483648 ≤ hH0 b) = dn := ⟨_, rfl⟩
  have hdn' : decide (2147483648 ≤ lw b 22 4) = dn := hdn
  have tW : (hW b).toNat = W := by omega
  have tH : (hrV (hH0 b)).toNat = H := by omega
  have tc : (hCn b).toNat = c := by omega
  have ts : (up4 (hW b * hCn b)).toNat = st := by rw [gw, gc, gst]; omega
  have hL0 : rdL b = rdPx b c W H st dn := by unfold rdL; rw [if_pos e, tW, tH, tc, ts, hdn]
  rw [tW, tH, tc, ts, hdn] at hg0
  have hg := hg0
  have kk : ∀ x, rdK b x = x := fun x => if_pos e
  rw [kk, kk, kk, hL0, e]
  have glen := hg.len
  have a1 : ¬ (b.length : Int) - 54 < (st : Int) * (H : Int) := by rw [← chs]; omega
  have a2 : ¬ (st : Int) * (H : Int) < (b.length : Int) - 54 := by rw [← chs]; omega
  have a4 : decide (lw b 2 4 = (b.length : Int) ∧ (lw b 34 4 = 0 ∨ lw b 34 4 = (b.length : Int) - 54)) = true := decide_eq_true ⟨hg.s1, hg.s2.imp id fun k => by omega⟩
  obtain ⟨R, hR⟩ : ∃ R : Nat → List Int, R = fun r => swapTo (fRow b st (W * c) (fr dn H r)) 0 c W := ⟨_, rfl⟩
  have hwc : H * (W * c) ≤ 16777216 := by
    have k1 := hg.wh
    have k2 : H * (W * c) = (W * H) * c := by rw [← Nat.mul_assoc, Nat.mul_comm H W]
    have k3 : (W * H) * c ≤ 4194304 * 4 := Nat.mul_le_mul k1 (by omega)
    omega
  have chc : (W : Int) * (H : Int) * (c : Int) = ((H * (W * c) : Nat) : Int) := by rw [← cwh, ← Int.natCast_mul, Nat.mul_comm W H, Nat.mul_assoc]
  have qwh : rngI .i64 ((W : Int) * (H : Int)) := by rw [← cwh]; exact rng64 (by omega) (by omega)
  have qwc : rngI .i64 ((W : Int) * (H : Int) * (c : Int)) := by rw [chc]; exact rng64 (by omega) (by omega)
  have om : 0 ≤ (W : Int) * (H : Int) * (c : Int) ∧ (W : Int) * (H : Int) * (c : Int) ≤ (W : Int) * (H : Int) * (c : Int) ∧ (W : Int) * (H : Int) * (c : Int) ≤ 140737488355328 ∧ (W : Int) * (H : Int) * (c : Int) * ((1 : Nat) : Int) ≤ 140737488355328 := by rw [chc]; omega
  have hRl : ∀ r, r < H → (R r).length = W * c := fun r hr => by
    have hf : fr dn H r < H := fr_lt hr
    have := prod_of (n := st) hf
    rw [hR]
    show (swapTo _ 0 c W).length = _
    rw [swapTo_len]; exact fRow_len (by rw [glen]; omega)
  (repeat' (first | (refine And.intro (fun (hfk : _ = true) => ?_) (fun (hfk : _ = false) => ?_) <;> ((try (first | replace hfk := of_decide_eq_true hfk | replace hfk := of_decide_eq_false hfk | simp only [decide_eq_true_eq, decide_eq_false_iff_not, dh1, dh0, ne_eq, reduceCtorEq] at hfk)); (try (exfalso; first | omega | contradiction | exact Bool.noConfusion (Eq.trans (Eq.symm hfk) (by with_reducible assumption : _ = false)) | exact Bool.noConfusion (Eq.trans (Eq.symm hfk) (by with_reducible assumption : _ = true)))))) | (refine And.intro ?ob ?_; (case ob => (first | exact Chk.mk (by kernel_rfl) | exact True.intro | with_reducible assumption | exact rng64 (by omega) (by omega) | omega | (dsimp only; omega) | (show (_ : Nat) ≤ _; omega) | (simp only [ll1, ll2, ll0]; done) | (simp only [ll1, ll2, ll0]; omega) | (dsimp only; simp only [ll1, ll2, ll0]; omega)))) | exact True.intro | (show _ = _; first | with_reducible rfl | with_reducible assumption | omega | (simp only [ll1, ll2, ll0]; omega) | (exact hb; done) | exact rfl) | with_reducible assumption | (apply And.intro) | omega | (intro j hj; exact rfl) | fail))
  (refine ⟨[], ⟨by kernel_rfl⟩, ?_⟩)
  (repeat' (first | (refine And.intro (fun (hfk : _ = true) => ?_) (fun (hfk : _ = false) => ?_) <;> ((try (first | replace hfk := of_decide_eq_true hfk | replace hfk := of_decide_eq_false hfk | simp only [decide_eq_true_eq, decide_eq_false_iff_not, dh1, dh0, ne_eq, reduceCtorEq] at hfk)); (try (exfalso; first | omega | contradiction | exact Bool.noConfusion (Eq.trans (Eq.symm hfk) (by with_reducible assumption : _ = false)) | exact Bool.noConfusion (Eq.trans (Eq.symm hfk) (by with_reducible assumption : _ = true)))))) | (refine And.intro ?ob ?_; (case ob => (first | exact Chk.mk (by kernel_rfl) | exact True.intro | with_reducible assumption | exact rng64 (by omega) (by omega) | omega | (dsimp only; omega) | (show (_ : Nat) ≤ _; omega) | (simp only [ll1, ll2, ll0]; done) | (simp only [ll1, ll2, ll0]; omega) | (dsimp only; simp only [ll1, ll2, ll0]; omega)))) | exact True.intro | (show _ = _; first | with_reducible rfl | with_reducible assumption | omega | (simp only [ll1, ll2, ll0]; omega) | (exact hb; done) | exact rfl) | with_reducible assumption | (apply And.intro) | omega | (intro j hj; exact rfl) | fail))
  (refine ⟨[3, 1, 2], ⟨by kernel_rfl⟩, ?_⟩)
  (repeat' (first | (refine And.intro (fun (hfk : _ = true) => ?_) (fun (hfk : _ = false) => ?_) <;> ((try (first | replace hfk := of_decide_eq_true hfk | replace hfk := of_decide_eq_false hfk | simp only [decide_eq_true_eq, decide_eq_false_iff_not, dh1, dh0, ne_eq, reduceCtorEq] at hfk)); (try (exfalso; first | omega | contradiction | exact Bool.noConfusion (Eq.trans (Eq.symm hfk) (by with_reducible assumption : _ = false)) | exact Bool.noConfusion (Eq.trans (Eq.symm hfk) (by with_reducible assumption : _ = true)))))) | (refine And.intro ?ob ?_; (case ob => (first | exact Chk.mk (by kernel_rfl) | exact True.intro | with_reducible assumption | exact rng64 (by omega) (by omega) | omega | (dsimp only; omega) | (show (_ : Nat) ≤ _; omega) | (simp only [ll1, ll2, ll0]; done) | (simp only [ll1, ll2, ll0]; omega) | (dsimp only; simp only [ll1, ll2, ll0]; omega)))) | exact True.intro | (show _ = _; first | with_reducible rfl | with_reducible assumption | omega | (simp only [ll1, ll2, ll0]; omega) | (exact hb; done) | exact rfl) | with_reducible assumption | (apply And.intro) | omega | (intro j hj; exact rfl) | fail))
  refine ⟨[(0, .roi .u8 b), (2, .ptr 0 0), (4, .ptr 1 0), (5, .ptr 3 0), (6, .int .i64 0)], ⟨4, [(0, some (.cells 40 [.int .i64 0, .int .i64 0, .int .i64 0, .nils])), (1, some (.cells 27 [.sl 2 1 0 b.length, .int .i64 54])), (2, some (bE b)), (3, some (.cells 148 [.int .u32 (lw b 2 4), .int .u32 (lw b 6 4), .int .u32 (lw b 10 4), .int .u32 (lw b 14 4), .int .u32 (lw b 18 4), .int .u32 (lw b 22 4), .int .u32 (lw b 26 2), .int .u32 (lw b 28 2), .int .u32 (lw b 30 4), .int .u32 (lw b 34 4), .int .u32 (lw b 38 4), .int .u32 (lw b 42 4), .int .u32 (lw b 46 4), .int .u32 (lw b 50 4)]))]⟩, [some 0, some 1, some 2, some 3], ?_, ?_⟩
  · (repeat' (first | (refine And.intro ?_ ?_) | exact True.intro | (show _ = _; with_reducible rfl) | exact Chk.mk (by kernel_rfl)))
    all_goals first | exact hk | exact hA | exact hH _ | rfl
  (repeat' (first | (refine And.intro (fun (hfk : _ = true) => ?_) (fun (hfk : _ = false) => ?_) <;> ((try (first | replace hfk := of_decide_eq_true hfk | replace hfk := of_decide_eq_false hfk | simp only [decide_eq_true_eq, decide_eq_false_iff_not, dh1, dh0, ne_eq, reduceCtorEq] at hfk)); (try (exfalso; first | omega | contradiction | exact Bool.noConfusion (Eq.trans (Eq.symm hfk) (by with_reducible assumption : _ = false)) | exact Bool.noConfusion (Eq.trans (Eq.symm hfk) (by with_reducible assumption : _ = true)))))) | (refine And.intro ?ob ?_; (case ob => (first | exact Chk.mk (by kernel_rfl) | exact True.intro | with_reducible assumption | exact rng64 (by omega) (by omega) | omega | (dsimp only; omega) | (show (_ : Nat) ≤ _; omega) | (simp only [ll1, ll2, ll0]; done) | (simp only [ll1, ll2, ll0]; omega) | (dsimp only; simp only [ll1, ll2, ll0]; omega)))) | exact True.intro | (show _ = _; first | with_reducible rfl | with_reducible assumption | omega | (simp only [ll1, ll2, ll0]; omega) | (rfl; done) | exact rfl) | with_reducible assumption | (apply And.intro) | omega | (intro j hj; exact rfl) | fail))
  refine ⟨[(0, .roi .u8 b), (2, .ptr 0 0), (4, .ptr 1 0), (5, .ptr 3 0), (7, .ptr 4 0), (8, .int .i64 0)], ⟨5, [(0, some (.cells 40 [.int .i64 0, .int .i64 0, .int .i64 0, .nils])), (1, some (.cells 27 [.sl 2 1 0 b.length, .int .i64 54])), (2, some (bE b)), (3, some (.cells 148 [.int .u32 (lw b 2 4), .int .u32 (lw b 6 4), .int .u32 (lw b 10 4), .int .u32 (lw b 14 4), .int .u32 (lw b 18 4), .int .u32 (lw b 22 4), .int .u32 (lw b 26 2), .int .u32 (lw b 28 2), .int .u32 (lw b 30 4), .int .u32 (lw b 34 4), .int .u32 (lw b 38 4), .int .u32 (lw b 42 4), .int .u32 (lw b 46 4), .int .u32 (lw b 50 4)])), (4, some (.cells 40 [.int .i64 (W : Int), .int .i64 (H : Int), .int .i64 (c : Int), .nils]))]⟩, [some 0, some 1, some 2, some 3, some 4], ?_, ?_⟩
  · (repeat' (first | (refine And.intro ?_ ?_) | exact True.intro | (show _ = _; with_reducible rfl) | exact Chk.mk (by kernel_rfl)))
    all_goals first | exact hs' | exact gw' | exact gh' | exact gc' | rfl
  (repeat' (first | (refine And.intro (fun (hfk : _ = true) => ?_) (fun (hfk : _ = false) => ?_) <;> ((try (first | replace hfk := of_decide_eq_true hfk | replace hfk := of_decide_eq_false hfk | simp only [decide_eq_true_eq, decide_eq_false_iff_not, dh1, dh0, ne_eq, reduceCtorEq] at hfk)); (try (exfalso; first | omega | contradiction | exact Bool.noConfusion (Eq.trans (Eq.symm hfk) (by with_reducible assumption : _ = false)) | exact Bool.noConfusion (Eq.trans (Eq.symm hfk) (by with_reducible assumption : _ = true)))))) | (refine And.intro ?ob ?_; (case ob => (first | exact Chk.mk (by kernel_rfl) | exact True.intro | with_reducible assumption | exact rng64 (by omega) (by omega) | omega | (dsimp only; omega) | (show (_ : Nat) ≤ _; omega) | (simp only [ll1, ll2, ll0]; done) | (simp only [ll1, ll2, ll0]; omega) | (dsimp only; simp only [ll1, ll2, ll0]; omega)))) | exact True.intro | (show _ = _; first | with_reducible rfl | with_reducible assumption | omega | (simp only [ll1, ll2, ll0]; omega) | (rfl; done) | exact rfl) | with_reducible assumption | (apply And.intro) | omega | (intro j hj; exact rfl) | fail))
  refine ⟨[(0, .roi .u8 b), (2, .ptr 0 0), (4, .ptr 1 0), (5, .ptr 3 0), (7, .ptr 4 0), (9, .int .i64 (st : Int))], ⟨5, [(0, some (.cells 40 [.int .i64 0, .int .i64 0, .int .i64 0, .nils])), (1, some (.cells 27 [.sl 2 1 0 b.length, .int .i64 54])), (2, some (bE b)), (3, some (.cells 148 [.int .u32 (lw b 2 4), .int .u32 (lw b 6 4), .int .u32 (lw b 10 4), .int .u32 (lw b 14 4), .int .u32 (lw b 18 4), .int .u32 (lw b 22 4), .int .u32 (lw b 26 2), .int .u32 (lw b 28 2), .int .u32 (lw b 30 4), .int .u32 (lw b 34 4), .int .u32 (lw b 38 4), .int .u32 (lw b 42 4), .int .u32 (lw b 46 4), .int .u32 (lw b 50 4)])), (4, some (.cells 40 [.int .i64 (W : Int), .int .i64 (H : Int), .int .i64 (c : Int), .nils]))]⟩, [some 0, some 1, some 2, some 3, some 4], ?_, ?_⟩
  · (repeat' (first | (refine And.intro ?_ ?_) | exact True.intro | (show _ = _; with_reducible rfl) | exact Chk.mk (by kernel_rfl)))
    all_goals first | exact sv | rfl
  (repeat' (first | (refine And.intro (fun (hfk : _ = true) => ?_) (fun (hfk : _ = false) => ?_) <;> ((try (first | replace hfk := of_decide_eq_true hfk | replace hfk := of_decide_eq_false hfk | simp only [decide_eq_true_eq, decide_eq_false_iff_not, dh1, dh0, ne_eq, reduceCtorEq] at hfk)); (try (exfalso; first | omega | contradiction | exact Bool.noConfusion (Eq.trans (Eq.symm hfk) (by with_reducible assumption : _ = false)) | exact Bool.noConfusion (Eq.trans (Eq.symm hfk) (by with_reducible assumption : _ = true)))))) | (refine And.intro ?ob ?_; (case ob => (first | exact Chk.mk (by kernel_rfl) | exact True.intro | with_reducible assumption | exact rng64 (by omega) (by omega) | omega | (dsimp only; omega) | (show (_ : Nat) ≤ _; omega) | (simp only [ll1, ll2, ll0]; done) | (simp only [ll1, ll2, ll0]; omega) | (dsimp only; simp only [ll1, ll2, ll0]; omega)))) | exact True.intro | (show _ = _; first | with_reducible rfl | with_reducible assumption | omega | (simp only [ll1, ll2, ll0]; omega) | (exact om; done) | exact rfl) | with_reducible assumption | (apply And.intro) | omega | (intro j hj; exact rfl) | fail))
  refine ⟨Nat, fun y => [(0, .roi .u8 b), (2, .ptr 0 0), (4, .ptr 1 0), (5, .ptr 3 0), (7, .ptr 4 0), (9, .int .i64 (st : Int)), (79, .int .i64 (H : Int)), (80, .int .i64 (y : Int))],
    fun y => ⟨6, [(0, some (.cells 40 [.int .i64 0, .int .i64 0, .int .i64 0, .nils])), (1, some (.cells 27 [.sl 2 1 0 b.length, .int .i64 ((54 + y * st : Nat) : Int)])), (2, some (bE b)), (3, some (.cells 148 [.int .u32 (lw b 2 4), .int .u32 (lw b 6 4), .int .u32 (lw b 10 4), .int .u32 (lw b 14 4), .int .u32 (lw b 18 4), .int .u32 (lw b 22 4), .int .u32 (lw b 26 2), .int .u32 (lw b 28 2), .int .u32 (lw b 30 4), .int .u32 (lw b 34 4), .int .u32 (lw b 38 4), .int .u32 (lw b 42 4), .int .u32 (lw b 46 4), .int .u32 (lw b 50 4)])), (4, some (.cells 40 [.int .i64 (W : Int), .int .i64 (H : Int), .int .i64 (c : Int), .sl 5 1 0 (H * (W * c))])), (5, some (bE (catK (pxk dn H (W * c) R y) H)))]⟩,
    fun y => y ≤ H, fun y => H - y, ⟨0, [some 0, some 1, some 2, some 3, some 4, some 5], Nat.zero_le _, ?_⟩, fun y hy => ?_⟩
  · have z0 : List.replicate ((W : Int) * (H : Int) * (c : Int)).toNat 0 = catK (pxk dn H (W * c) R 0) H := by
      have z1 : catK (pxk dn H (W * c) R 0) H = catK (fun _ => List.replicate (W * c) (0 : Int)) H := catK_congr (Q := H) (fun r hr => by
        have : fil dn H 0 r = false := by unfold fil; split <;> simp <;> omega
        unfold pxk; rw [if_neg (by rw [this]; decide)]) H (Nat.le_refl _)
      rw [z1, chc, Int.toNat_natCast]
      have : ∀ k, List.replicate (k * (W * c)) (0 : Int) = catK (fun _ => List.replicate (W * c) (0 : Int)) k := by
        intro k
        induction k with
        | zero => simp [catK]
        | succ k ih => rw [catK, ← ih, Nat.succ_mul, List.replicate_append_replicate]
      exact this H
    have z2 : ((W : Int) * (H : Int) * (c : Int)).toNat = H * (W * c) := by rw [chc, Int.toNat_natCast]
    have z3 : (54 : Int) = ((54 + 0 * st : Nat) : Int) := by omega
    (repeat' (first | (refine And.intro ?_ ?_) | exact True.intro | (show _ = _; with_reducible rfl) | exact Chk.mk (by kernel_rfl)))
    all_goals first | exact z0 | exact z2 | exact z3 | rfl
  have hy : y ≤ H := hy
  have rfy : rngI .i64 ((y : Int) + 1) := rng64 (by omega) (by omega)
  have hgl : ∀ r, r < H → (pxk dn H (W * c) R y r).length = W * c := fun r hr => by
    unfold pxk
    split
    · exact hRl r hr
    · simp
  have hcl := catK_len hgl H (Nat.le_refl _)
  by_cases hlt : y < H
  · have hfr := fr_lt (dn := dn) hlt
    have hys := prod_of (n := st) hlt
    have hfw := prod_of (n := W * c) hfr
    have t0 : takeL (cR b ((54 + y * st : Nat) : Int)) (st : Int) = (b.drop (54 + y * st)).take st := by
      unfold takeL takeC
      have el : (cR b ((54 + y * st : Nat) : Int)).length = b.length - (54 + y * st) := by
        unfold cR; rw [List.length_take, List.length_drop, Int.toNat_natCast]; omega
      rw [if_neg (show ¬ (st : Int) < 0 by omega), if_neg (show ¬ ((cR b ((54 + y * st : Nat) : Int)).length : Int) < (st : Int) by rw [el]; omega), if_pos rfl]
      unfold cR
      rw [List.take_take, Int.toNat_natCast, Int.toNat_natCast, Nat.min_eq_left (by omega)]
    have t1 : ((takeL (cR b ((54 + y * st : Nat) : Int)) (st : Int)).length : Int) = st := by rw [t0, List.length_take, List.length_drop]; omega
    have t2 : (takeL (cR b ((54 + y * st : Nat) : Int)) (st : Int)).length = st := by omega
    have rh1 : rngI .i64 ((H : Int) - 1) := rng64 (by omega) (by omega)
    have rh2 : rngI .i64 ((H : Int) - 1 - (y : Int)) := rng64 (by omega) (by omega)
    obtain ⟨r, hr⟩ : ∃ r, fr dn H y = r := ⟨_, rfl⟩
    rw [hr] at hfr hfw
    have f1 : (r : Int) * (W : Int) * (c : Int) = ((r * (W * c) : Nat) : Int) := by rw [Int.mul_assoc, ← cwc, ← Int.natCast_mul]
    have f2 : ((r : Int) + 1) * (W : Int) * (c : Int) = ((r * (W * c) + W * c : Nat) : Int) := by rw [Int.mul_assoc, ← cwc, Int.add_mul, Int.one_mul, ← Int.natCast_mul]; omega
    have f3 : 0 ≤ (r : Int) * (W : Int) ∧ (r : Int) * (W : Int) ≤ 32768 * 32768 := ⟨Int.mul_nonneg (by omega) (by omega), Int.le_trans (Int.mul_le_mul_of_nonneg_right (by omega) (by omega)) (Int.mul_le_mul_of_nonneg_left (by omega) (by omega))⟩
    have f4 : ((r : Int) + 1) * (W : Int) = (r : Int) * (W : Int) + W := by rw [Int.add_mul, Int.one_mul]
    have s1 : rngI .i64 ((r : Int) * (W : Int)) := rng64 (by omega) (by omega)
    have s2 : rngI .i64 ((r : Int) * (W : Int) * (c : Int)) := by rw [f1]; exact rng64 (by omega) (by omega)
    have s3 : rngI .i64 ((r : Int) + 1) := rng64 (by omega) (by omega)
    have s4 : rngI .i64 (((r : Int) + 1) * (W : Int)) := by rw [f4]; exact rng64 (by omega) (by omega)
    have s5 : rngI .i64 (((r : Int) + 1) * (W : Int) * (c : Int)) := by rw [f2]; exact rng64 (by omega) (by omega)
    have b1 : 0 ≤ ((r : Int) + 1) * (W : Int) * (c : Int) ∧ ((r : Int) + 1) * (W : Int) * (c : Int) ≤ ((H * (W * c) : Nat) : Int) := by rw [f2]; omega
    have b2 : 0 ≤ (r : Int) * (W : Int) * (c : Int) ∧ (r : Int) * (W : Int) * (c : Int) ≤ ((((r : Int) + 1) * (W : Int) * (c : Int)).toNat : Int) := by rw [f1, f2]; omega
    have b3 : 0 + ((r : Int) * (W : Int) * (c : Int)).toNat = r * (W * c) := by rw [f1]; omega
    have b4 : (((r : Int) + 1) * (W : Int) * (c : Int)).toNat - ((r : Int) * (W : Int) * (c : Int)).toNat = W * c := by rw [f1, f2]; omega
    have t3 : ((54 + y * st : Nat) : Int) + ((takeL (cR b ((54 + y * st : Nat) : Int)) (st : Int)).length : Int) = ((54 + (y + 1) * st : Nat) : Int) := by rw [t1, Nat.succ_mul]; omega
    have hfl : (fRow b st (W * c) y).length = W * c := fRow_len (by rw [glen]; omega)
    have hrl : ((b.drop (54 + y * st)).take st).length = st := by rw [List.length_take, List.length_drop]; omega
    have tcn : (c : Int).toNat = c := Int.toNat_natCast c
    have wdc : W * c / c = W := Nat.mul_div_cancel _ (by omega)
    by_cases hd1 : dn = true
    all_goals
      have hrow : (if dn = true then (y : Int) else (H : Int) - 1 - (y : Int)) = (r : Int) := by rw [← hr]; unfold fr; split <;> omega
      have hdp : if dn = true then 2147483648 ≤ lw b 22 4 else lw b 22 4 < 2147483648 := by
        rw [← hdn']; split
        · rename_i k; exact of_decide_eq_true k
        · rename_i k; have := mt decide_eq_true k; omega
      first | rw [if_pos hd1] at hrow hdp | rw [if_neg hd1] at hrow hdp
      rw [← hrow] at s1 s2 s3 s4 s5 b1 b2 b3 b4
      (repeat' (first | (refine And.intro (fun (hfk : _ = true) => ?_) (fun (hfk : _ = false) => ?_) <;> ((try (first | replace hfk := of_decide_eq_true hfk | replace hfk := of_decide_eq_false hfk | simp only [decide_eq_true_eq, decide_eq_false_iff_not, dh1, dh0, ne_eq, reduceCtorEq] at hfk)); (try (exfalso; first | omega | contradiction | exact Bool.noConfusion (Eq.trans (Eq.symm hfk) (by with_reducible assumption : _ = false)) | exact Bool.noConfusion (Eq.trans (Eq.symm hfk) (by with_reducible assumption : _ = true)))))) | (refine And.intro ?ob ?_; (case ob => (first | exact Chk.mk (by kernel_rfl) | exact True.intro | with_reducible assumption | exact rng64 (by omega) (by omega) | omega | (dsimp only; omega) | (show (_ : Nat) ≤ _; omega) | (simp only [ll1, ll2, ll0]; done) | (simp only [ll1, ll2, ll0]; omega) | (dsimp only; simp only [ll1, ll2, ll0]; omega)))) | exact True.intro | (show _ = _; first | with_reducible rfl | with_reducible assumption | omega | (simp only [ll1, ll2, ll0]; omega) | (skip; done) | exact rfl) | with_reducible assumption | (apply And.intro) | omega | (intro j hj; exact rfl) | fail))
      (refine ⟨[1, 2], ⟨by kernel_rfl⟩, ?_⟩)
      (repeat' (first | (refine And.intro (fun (hfk : _ = true) => ?_) (fun (hfk : _ = false) => ?_) <;> ((try (first | replace hfk := of_decide_eq_true hfk | replace hfk := of_decide_eq_false hfk | simp only [decide_eq_true_eq, decide_eq_false_iff_not, dh1, dh0, ne_eq, reduceCtorEq] at hfk)); (try (exfalso; first | omega | contradiction | exact Bool.noConfusion (Eq.trans (Eq.symm hfk) (by with_reducible assumption : _ = false)) | exact Bool.noConfusion (Eq.trans (Eq.symm hfk) (by with_reducible assumption : _ = true)))))) | (refine And.intro ?ob ?_; (case ob => (first | exact Chk.mk (by kernel_rfl) | exact True.intro | with_reducible assumption | exact rng64 (by omega) (by omega) | omega | (dsimp only; omega) | (show (_ : Nat) ≤ _; omega) | (simp only [ll1, ll2, ll0]; done) | (simp only [ll1, ll2, ll0]; omega) | (dsimp only; simp only [ll1, ll2, ll0]; omega)))) | exact True.intro | (show _ = _; first | with_reducible rfl | with_reducible assumption | omega | (simp only [ll1, ll2, ll0]; omega) | (skip; done) | exact rfl) | with_reducible assumption | (apply And.intro) | omega | (intro j hj; exact rfl) | fail))
      refine ⟨[(0, .roi .u8 b), (2, .ptr 0 0), (4, .ptr 1 0), (5, .ptr 3 0), (7, .ptr 4 0), (9, .int .i64 (st : Int)), (79, .int .i64 (H : Int)), (80, .int .i64 (y : Int)), (11, .sl 6 1 0 st), (13, .sl 5 1 (r * (W * c)) (W * c))], ⟨7, [(0, some (.cells 40 [.int .i64 0, .int .i64 0, .int .i64 0, .nils])), (1, some (.cells 27 [.sl 2 1 0 b.length, .int .i64 ((54 + (y + 1) * st : Nat) : Int)])), (2, some (bE b)), (3, some (.cells 148 [.int .u32 (lw b 2 4), .int .u32 (lw b 6 4), .int .u32 (lw b 10 4), .int .u32 (lw b 14 4), .int .u32 (lw b 18 4), .int .u32 (lw b 22 4), .int .u32 (lw b 26 2), .int .u32 (lw b 28 2), .int .u32 (lw b 30 4), .int .u32 (lw b 34 4), .int .u32 (lw b 38 4), .int .u32 (lw b 42 4), .int .u32 (lw b 46 4), .int .u32 (lw b 50 4)])), (4, some (.cells 40 [.int .i64 (W : Int), .int .i64 (H : Int), .int .i64 (c : Int), .sl 5 1 0 (H * (W * c))])), (5, some (bE (catK (pxk dn H (W * c) R y) H))), (6, some (bE ((b.drop (54 + y * st)).take st)))]⟩, [some 0, some 1, some 2, some 3, some 4, some 5, some 6], ?_, ?_⟩
      · (repeat' (first | (refine And.intro ?_ ?_) | exact True.intro | (show _ = _; with_reducible rfl) | exact Chk.mk (by kernel_rfl)))
        all_goals first | rfl | exact t0 | exact t2 | exact t3 | exact b3 | exact b4
      clear s1 s2 s3 s4 s5 b1 b2 b3 b4 f1 f2 f3 f4 t1 t2 t3 t0
      (repeat' (first | (refine And.intro (fun (hfk : _ = true) => ?_) (fun (hfk : _ = false) => ?_) <;> ((try (first | replace hfk := of_decide_eq_true hfk | replace hfk := of_decide_eq_false hfk | simp only [decide_eq_true_eq, decide_eq_false_iff_not, dh1, dh0, ne_eq, reduceCtorEq] at hfk)); (try (exfalso; first | omega | contradiction | exact Bool.noConfusion (Eq.trans (Eq.symm hfk) (by with_reducible assumption : _ = false)) | exact Bool.noConfusion (Eq.trans (Eq.symm hfk) (by with_reducible assumption : _ = true)))))) | (refine And.intro ?ob ?_; (case ob => (first | exact Chk.mk (by kernel_rfl) | exact True.intro | with_reducible assumption | exact rng64 (by omega) (by omega) | omega | (dsimp only; omega) | (show (_ : Nat) ≤ _; omega) | (simp only [ll1, ll2, ll0]; done) | (simp only [ll1, ll2, ll0]; omega) | (dsimp only; simp only [ll1, ll2, ll0]; omega)))) | exact True.intro | (show _ = _; first | with_reducible rfl | with_reducible assumption | omega | (simp only [ll1, ll2, ll0]; omega) | (skip; done) | exact rfl) | with_reducible assumption | (apply And.intro) | omega | (intro j hj; exact rfl) | fail))
      refine ⟨[(0, .roi .u8 b), (2, .ptr 0 0), (4, .ptr 1 0), (5, .ptr 3 0), (7, .ptr 4 0), (9, .int .i64 (st : Int)), (79, .int .i64 (H : Int)), (80, .int .i64 (y : Int)), (13, .sl 5 1 (r * (W * c)) (W * c))], ⟨6, [(0, some (.cells 40 [.int .i64 0, .int .i64 0, .int .i64 0, .nils])), (1, some (.cells 27 [.sl 2 1 0 b.length, .int .i64 ((54 + (y + 1) * st : Nat) : Int)])), (2, some (bE b)), (3, some (.cells 148 [.int .u32 (lw b 2 4), .int .u32 (lw b 6 4), .int .u32 (lw b 10 4), .int .u32 (lw b 14 4), .int .u32 (lw b 18 4), .int .u32 (lw b 22 4), .int .u32 (lw b 26 2), .int .u32 (lw b 28 2), .int .u32 (lw b 30 4), .int .u32 (lw b 34 4), .int .u32 (lw b 38 4), .int .u32 (lw b 42 4), .int .u32 (lw b 46 4), .int .u32 (lw b 50 4)])), (4, some (.cells 40 [.int .i64 (W : Int), .int .i64 (H : Int), .int .i64 (c : Int), .sl 5 1 0 (H * (W * c))])), (5, some (bE (spl (catK (pxk dn H (W * c) R y) H) (r * (W * c)) (fRow b st (W * c) y))))]⟩, [some 0, some 1, some 2, some 3, some 4, some 5], ?_, ?_⟩
      · have x1 : List.take st (List.drop 0 ((b.drop (54 + y * st)).take st)) = (b.drop (54 + y * st)).take st := by rw [List.drop_zero]; exact List.take_of_length_le (by omega)
        have x2 : Nat.min (List.take st (List.drop 0 ((b.drop (54 + y * st)).take st))).length (W * c) = W * c := by rw [x1, hrl]; exact Nat.min_eq_right (by omega)
        have x3 : List.take (W * c) (List.take st (List.drop 0 ((b.drop (54 + y * st)).take st))) = fRow b st (W * c) y := by rw [x1, List.take_take, Nat.min_eq_left (by omega)]; rfl
        have x4 : List.take (r * (W * c)) (catK (pxk dn H (W * c) R y) H) ++ (List.take (Nat.min (List.take st (List.drop 0 ((b.drop (54 + y * st)).take st))).length (W * c)) (List.take st (List.drop 0 ((b.drop (54 + y * st)).take st))) ++ List.drop (r * (W * c) + Nat.min (List.take st (List.drop 0 ((b.drop (54 + y * st)).take st))).length (W * c)) (catK (pxk dn H (W * c) R y) H)) = spl (catK (pxk dn H (W * c) R y) H) (r * (W * c)) (fRow b st (W * c) y) := by
          rw [x2, x3]; unfold spl; rw [hfl]
        (repeat' (first | (refine And.intro ?_ ?_) | exact True.intro | (show _ = _; with_reducible rfl) | exact Chk.mk (by kernel_rfl)))
        all_goals first | rfl | exact x4
      have y1 : W * c = W * c / (c : Int).toNat * (c : Int).toNat := by rw [tcn, wdc]
      have y2 : r * (W * c) + W * c ≤ (spl (catK (pxk dn H (W * c) R y) H) (r * (W * c)) (fRow b st (W * c) y)).length := by rw [spl_len (by omega)]; omega
      have y3 : swapTo (spl (catK (pxk dn H (W * c) R y) H) (r * (W * c)) (fRow b st (W * c) y)) (r * (W * c)) (c : Int).toNat (W * c / (c : Int).toNat) = catK (pxk dn H (W * c) R (y + 1)) H := by
        rw [tcn, wdc, swapTo_spl (w := W) (by omega) hfl (by omega) W (Nat.le_refl _), catK_upd hgl hfr (by rw [swapTo_len]; exact hfl)]
        refine catK_congr (Q := H) (fun k hk => ?_) H (Nat.le_refl _)
        unfold pxk
        rw [fil_next hlt hk, hr]
        by_cases hkr : k = r
        · rw [if_pos hkr, if_pos (by rw [decide_eq_true hkr]; rfl), hR, hkr, ← hr]
          show _ = swapTo (fRow b st (W * c) (fr dn H (fr dn H y))) 0 c W
          rw [fr_fr hlt]
        · rw [if_neg hkr, decide_eq_false hkr]; rfl
      (repeat' (first | (refine And.intro (fun (hfk : _ = true) => ?_) (fun (hfk : _ = false) => ?_) <;> ((try (first | replace hfk := of_decide_eq_true hfk | replace hfk := of_decide_eq_false hfk | simp only [decide_eq_true_eq, decide_eq_false_iff_not, dh1, dh0, ne_eq, reduceCtorEq] at hfk)); (try (exfalso; first | omega | contradiction | exact Bool.noConfusion (Eq.trans (Eq.symm hfk) (by with_reducible assumption : _ = false)) | exact Bool.noConfusion (Eq.trans (Eq.symm hfk) (by with_reducible assumption : _ = true)))))) | (refine And.intro ?ob ?_; (case ob => (first | exact Chk.mk (by kernel_rfl) | exact True.intro | with_reducible assumption | exact rng64 (by omega) (by omega) | omega | (dsimp only; omega) | (show (_ : Nat) ≤ _; omega) | (simp only [ll1, ll2, ll0]; done) | (simp only [ll1, ll2, ll0]; omega) | (dsimp only; simp only [ll1, ll2, ll0]; omega)))) | exact True.intro | (show _ = _; first | with_reducible rfl | with_reducible assumption | omega | (simp only [ll1, ll2, ll0]; omega) | (skip; done) | exact rfl) | with_reducible assumption | (apply And.intro) | omega | (intro j hj; exact rfl) | fail))
      (refine ⟨[5], ⟨by kernel_rfl⟩, ?_⟩)
      (repeat' (first | (refine And.intro (fun (hfk : _ = true) => ?_) (fun (hfk : _ = false) => ?_) <;> ((try (first | replace hfk := of_decide_eq_true hfk | replace hfk := of_decide_eq_false hfk | simp only [decide_eq_true_eq, decide_eq_false_iff_not, dh1, dh0, ne_eq, reduceCtorEq] at hfk)); (try (exfalso; first | omega | contradiction | exact Bool.noConfusion (Eq.trans (Eq.symm hfk) (by with_reducible assumption : _ = false)) | exact Bool.noConfusion (Eq.trans (Eq.symm hfk) (by with_reducible assumption : _ = true)))))) | (refine And.intro ?ob ?_; (case ob => (first | exact Chk.mk (by kernel_rfl) | exact True.intro | with_reducible assumption | exact rng64 (by omega) (by omega) | omega | (dsimp only; omega) | (show (_ : Nat) ≤ _; omega) | (simp only [ll1, ll2, ll0]; done) | (simp only [ll1, ll2, ll0]; omega) | (dsimp only; simp only [ll1, ll2, ll0]; omega)))) | exact True.intro | (show _ = _; first | with_reducible rfl | with_reducible assumption | omega | (simp only [ll1, ll2, ll0]; omega) | (skip; done) | exact rfl) | with_reducible assumption | (apply And.intro) | omega | (intro j hj; exact rfl) | fail))
      refine ⟨y + 1, [some 0, some 1, some 2, some 3, some 4, some 5], hlt, ?mu, ?_⟩
      case mu => (show H - (y + 1) < H - y; omega)
      (repeat' (first | (refine And.intro ?_ ?_) | exact True.intro | (show _ = _; with_reducible rfl) | exact Chk.mk (by kernel_rfl)))
      all_goals first | rfl | exact y3 | (show (_ : Int) = _; omega)
  · obtain rfl : y = H := by omega
    have z1 : List.take (y * (W * c)) (List.drop 0 (catK (pxk dn y (W * c) R y) y)) = rdPx b c W y st dn := by
      rw [List.drop_zero, List.take_of_length_le (by omega)]
      unfold rdPx
      refine catK_congr (Q := y) (fun k hk => ?_) y (Nat.le_refl _)
      have : fil dn y y k = true := by unfold fil; split <;> simp <;> omega
      unfold pxk
      rw [if_pos this, hR]; rfl
    have gw2 := gw.symm
    have gh2 := gh.symm
    have gc2 := gc.symm
    (repeat' (first | (refine And.intro (fun (hfk : _ = true) => ?_) (fun (hfk : _ = false) => ?_) <;> ((try (first | replace hfk := of_decide_eq_true hfk | replace hfk := of_decide_eq_false hfk | simp only [decide_eq_true_eq, decide_eq_false_iff_not, dh1, dh0, ne_eq, reduceCtorEq] at hfk)); (try (exfalso; first | omega | contradiction | exact Bool.noConfusion (Eq.trans (Eq.symm hfk) (by with_reducible assumption : _ = false)) | exact Bool.noConfusion (Eq.trans (Eq.symm hfk) (by with_reducible assumption : _ = true)))))) | (refine And.intro ?ob ?_; (case ob => (first | exact Chk.mk (by kernel_rfl) | exact True.intro | with_reducible assumption | exact rng64 (by omega) (by omega) | omega | (dsimp only; omega) | (show (_ : Nat) ≤ _; omega) | (simp only [ll1, ll2, ll0]; done) | (simp only [ll1, ll2, ll0]; omega) | (dsimp only; simp only [ll1, ll2, ll0]; omega)))) | exact True.intro | (show _ = _; first | with_reducible rfl | with_reducible assumption | omega | (simp only [ll1, ll2, ll0]; omega) | (first | exact z1 | exact gw2 | exact gh2 | exact gc2 | rfl; done) | exact rfl) | with_reducible assumption | (apply And.intro) | omega | (intro j hj; exact rfl) | fail))
theorem bread_s : SOK Try.prog 32 bmS := by
  refine sok_of (C := rpCx) rpCx_ok rfl mixed ⟨Try.func32, by kernel_rfl, by kernel_rfl, by kernel_rfl⟩ fun l obs v h ho => ?_
  (unfold bmS at h; split at h; rotate_left; (focus (cases h)); rename_i b; simp only [Option.some.injEq, Prod.mk.injEq] at h; obtain ⟨rfl, rfl⟩ := h; simp only [List.mem_cons, List.not_mem_nil, or_false, forall_eq_or_imp, forall_eq, false_implies, implies_true] at ho)
  refine ⟨Nat.le_of_ble_eq_true rfl, ?_⟩
  by_cases e : rdE b = 0
  · exact tk_good ho e
  by_cases hk : tkC b = 0
  rotate_left
  · exact tk_bad1 ho hk
  by_cases h : hdE b = 0
  rotate_left
  · exact tk_bad2 ho hk h
  by_cases hs : shC (hW b) (hrV (hH0 b)) = 0
  · exact tk_bad4 ho hk h hs e
  · exact tk_bad3 ho hk h hs
end Go.Proofs.Ytepjmnkleajibaa

/- The law BmpReads. No condition. -/
namespace Go.Proofs.Ytepjmnkleajibaa
open Go Go.RowKit
set_option linter.unusedVariables false
set_option linter.unusedSimpArgs false
set_option maxRecDepth 100000
set_option maxHeartbeats 4000000

theorem sameM_self (w h c : Int) (p : List Int) : sameM w h c p w h c p = true := decide_eq_true ⟨rfl, rfl, rfl, rfl⟩
theorem rdPx_len {b : List Int} {W H c st : Nat} {dn : Bool} (hg : BmOK b W H c st dn) : (rdPx b c W H st dn).length = H * (W * c) := by
  unfold rdPx
  refine catK_len (fun r hr => ?_) H (Nat.le_refl _)
  have hf : fr dn H r < H := fr_lt hr
  have := prod_of (n := st) hf
  show (swapTo (fRow b st (W * c) (fr dn H r)) 0 c W).length = _
  have h1 := hg.st1
  have h2 := hg.len
  rw [swapTo_len]; exact fRow_len (by omega)
theorem bm_n {b : List Int} {W H c st : Nat} {dn : Bool} (hg : BmOK b W H c st dn) : H * (W * c) ≤ 16777216 := by
  have k1 := hg.wh
  have k2 : H * (W * c) = (W * H) * c := by rw [← Nat.mul_assoc, Nat.mul_comm H W]
  have k3 : (W * H) * c ≤ 4194304 * 4 := Nat.mul_le_mul k1 (by have := hg.c34; omega)
  omega
theorem rdL_len {b : List Int} (hb : Byt b) : (rdL b).length ≤ 16777216 := by
  unfold rdL
  split
  · rename_i e
    have hg := gd_of hb e
    rw [rdPx_len hg]; exact bm_n hg
  · exact Nat.zero_le _
end Go.Proofs.Ytepjmnkleajibaa

/- Bitmaps (bmp): bytes that were written are read as what they were; plain. No condition. -/
namespace Go.Proofs.Ytepjmnkleajibaa
open Go Go.RowKit
set_option linter.unusedVariables false
set_option linter.unusedSimpArgs false
set_option maxRecDepth 100000
set_option maxHeartbeats 4000000

theorem low4 {x : Int} (h0 : 0 ≤ x) (h1 : x < 4294967296) : lowV (byts x 4) = x := by
  show x / 256 ^ 0 % 256 + 256 * (x / 256 ^ 1 % 256 + 256 * (x / 256 ^ 2 % 256 + 256 * (x / 256 ^ 3 % 256 + 256 * 0))) = x
  have p0 : (256 : Int) ^ 0 = 1 := rfl
  have p1 : (256 : Int) ^ 1 = 256 := rfl
  have p2 : (256 : Int) ^ 2 = 65536 := rfl
  have p3 : (256 : Int) ^ 3 = 16777216 := rfl
  rw [p0, p1, p2, p3]
  omega
theorem low2 {x : Int} (h0 : 0 ≤ x) (h1 : x < 65536) : lowV (byts x 2) = x := by
  show x / 256 ^ 0 % 256 + 256 * (x / 256 ^ 1 % 256 + 256 * 0) = x
  have p0 : (256 : Int) ^ 0 = 1 := rfl
  have p1 : (256 : Int) ^ 1 = 256 := rfl
  rw [p0, p1]
  omega
section
variable {x0 x1 x2 x3 x4 x5 x6 x7 x8 x9 x10 x11 x12 x13 : Int} {B : List Int}
theorem hdOut_len : (hdOut x0 x1 x2 x3 x4 x5 x6 x7 x8 x9 x10 x11 x12 x13).length = 54 := by kernel_rfl
theorem at2 : ((hdOut x0 x1 x2 x3 x4 x5 x6 x7 x8 x9 x10 x11 x12 x13 ++ B).drop 2).take 4 = byts x0 4 := by kernel_rfl
theorem at6 : ((hdOut x0 x1 x2 x3 x4 x5 x6 x7 x8 x9 x10 x11 x12 x13 ++ B).drop 6).take 4 = byts x1 4 := by kernel_rfl
theorem at10 : ((hdOut x0 x1 x2 x3 x4 x5 x6 x7 x8 x9 x10 x11 x12 x13 ++ B).drop 10).take 4 = byts x2 4 := by kernel_rfl
theorem at14 : ((hdOut x0 x1 x2 x3 x4 x5 x6 x7 x8 x9 x10 x11 x12 x13 ++ B).drop 14).take 4 = byts x3 4 := by kernel_rfl
theorem at18 : ((hdOut x0 x1 x2 x3 x4 x5 x6 x7 x8 x9 x10 x11 x12 x13 ++ B).drop 18).take 4 = byts x4 4 := by kernel_rfl
theorem at22 : ((hdOut x0 x1 x2 x3 x4 x5 x6 x7 x8 x9 x10 x11 x12 x13 ++ B).drop 22).take 4 = byts x5 4 := by kernel_rfl
theorem at26 : ((hdOut x0 x1 x2 x3 x4 x5 x6 x7 x8 x9 x10 x11 x12 x13 ++ B).drop 26).take 2 = byts x6 2 := by kernel_rfl
theorem at28 : ((hdOut x0 x1 x2 x3 x4 x5 x6 x7 x8 x9 x10 x11 x12 x13 ++ B).drop 28).take 2 = byts x7 2 := by kernel_rfl
theorem at30 : ((hdOut x0 x1 x2 x3 x4 x5 x6 x7 x8 x9 x10 x11 x12 x13 ++ B).drop 30).take 4 = byts x8 4 := by kernel_rfl
theorem at34 : ((hdOut x0 x1 x2 x3 x4 x5 x6 x7 x8 x9 x10 x11 x12 x13 ++ B).drop 34).take 4 = byts x9 4 := by kernel_rfl
theorem at46 : ((hdOut x0 x1 x2 x3 x4 x5 x6 x7 x8 x9 x10 x11 x12 x13 ++ B).drop 46).take 4 = byts x12 4 := by kernel_rfl
theorem at50 : ((hdOut x0 x1 x2 x3 x4 x5 x6 x7 x8 x9 x10 x11 x12 x13 ++ B).drop 50).take 4 = byts x13 4 := by kernel_rfl
end
/-- What is told of bytes that begin with such a head: H0 stands for the rows. -/
structure HdIs (b : List Int) (W H0 C N : Int) : Prop where
  s0 : lw b 2 4 = N
  w : hW b = W
  h : hH0 b = H0
  c : lw b 28 2 = 8 * C
  n : lw b 34 4 = 0
  e : hdE b = 0
theorem hd_is {W H0 N : Int} {C : Nat} {B : List Int} (hw : 0 ≤ W ∧ W < 4294967296) (hh : 0 ≤ H0 ∧ H0 < 4294967296) (hn : 0 ≤ N ∧ N < 4294967296) (hc : C = 3 ∨ C = 4) :
    HdIs (hdOut N 0 54 40 W H0 1 ((8 * C : Nat) : Int) 0 0 0 0 0 0 ++ B) W H0 C N := by
  obtain ⟨b, hb⟩ : ∃ b, hdOut N 0 54 40 W H0 1 ((8 * C : Nat) : Int) 0 0 0 0 0 0 ++ B = b := ⟨_, rfl⟩
  have e2 : lw b 2 4 = N := by rw [← hb]; exact (congrArg lowV at2).trans (low4 hn.1 hn.2)
  have e6 : lw b 6 4 = 0 := by rw [← hb]; exact (congrArg lowV at6).trans (low4 (by decide) (by decide))
  have e10 : lw b 10 4 = 54 := by rw [← hb]; exact (congrArg lowV at10).trans (low4 (by decide) (by decide))
  have e14 : lw b 14 4 = 40 := by rw [← hb]; exact (congrArg lowV at14).trans (low4 (by decide) (by decide))
  have e18 : lw b 18 4 = W := by rw [← hb]; exact (congrArg lowV at18).trans (low4 hw.1 hw.2)
  have e22 : lw b 22 4 = H0 := by rw [← hb]; exact (congrArg lowV at22).trans (low4 hh.1 hh.2)
  have e26 : lw b 26 2 = 1 := by rw [← hb]; exact (congrArg lowV at26).trans (low2 (by decide) (by decide))
  have e28 : lw b 28 2 = ((8 * C : Nat) : Int) := by rw [← hb]; exact (congrArg lowV at28).trans (low2 (by omega) (by omega))
  have e30 : lw b 30 4 = 0 := by rw [← hb]; exact (congrArg lowV at30).trans (low4 (by decide) (by decide))
  have e34 : lw b 34 4 = 0 := by rw [← hb]; exact (congrArg lowV at34).trans (low4 (by decide) (by decide))
  have e46 : lw b 46 4 = 0 := by rw [← hb]; exact (congrArg lowV at46).trans (low4 (by decide) (by decide))
  have e50 : lw b 50 4 = 0 := by rw [← hb]; exact (congrArg lowV at50).trans (low4 (by decide) (by decide))
  have hl : 54 ≤ b.length := by rw [← hb, List.length_append, hdOut_len]; omega
  have g0 : b.getD 0 0 = 66 := by rw [← hb]; rfl
  have g1 : b.getD 1 0 = 77 := by rw [← hb]; rfl
  rw [hb]
  refine ⟨e2, e18, e22, by rw [e28]; omega, e34, ?_⟩
  unfold hdE
  rw [if_neg (by omega), if_neg (by omega), if_neg (by omega), if_pos ⟨⟨e6, e10, e14, e26, e30, e46, e50⟩, by omega⟩]
theorem catK_piece {p : List Int} {wc H : Nat} (h : p.length = H * wc) : catK (piece p wc) H = p := by
  have hl : ∀ k, k < H → (piece p wc k).length = wc := fun k hk => piece_len (by have := prod_of (n := wc) hk; omega)
  refine eq_pieces (Q := H) (d := wc) (catK_len hl H (Nat.le_refl _)) h fun k j hk hj => ?_
  rw [catK_get hl H (Nat.le_refl _) k j hk hj, piece_get hj]
theorem wrRow_len {p : List Int} {c w h st k : Nat} (hp : p.length = h * (w * c)) (hst : w * c ≤ st) (hk : k < h) : (wrRow p c w h st k).length = st := by
  unfold wrRow
  have := prod_of (n := w * c) (show h - 1 - k < h by omega)
  rw [List.length_append, swapTo_len, piece_len (by omega), List.length_replicate]; omega
theorem fRow_wr {A p : List Int} {c w h st k : Nat} (hA : A.length = 54) (hp : p.length = h * (w * c)) (hst : w * c ≤ st) (hk : k < h) :
    fRow (A ++ wrB p c w h st) st (w * c) k = swapTo (piece p (w * c) (h - 1 - k)) 0 c w := by
  have hl : ∀ k, k < h → (wrRow p c w h st k).length = st := fun k hk => wrRow_len hp hst hk
  have hB : (wrB p c w h st).length = h * st := catK_len hl h (Nat.le_refl _)
  have hks := prod_of (n := st) hk
  have hkw := prod_of (n := w * c) (show h - 1 - k < h by omega)
  have hs : (swapTo (piece p (w * c) (h - 1 - k)) 0 c w).length = w * c := by rw [swapTo_len, piece_len (by omega)]
  refine list_getD (by rw [fRow_len (by rw [List.length_append]; omega), hs]) fun j hj => ?_
  rw [fRow_len (by rw [List.length_append]; omega)] at hj
  rw [fRow_get hj, List.getD_eq_getElem?_getD, List.getElem?_append_right (by omega), hA, show 54 + k * st + j - 54 = k * st + j by omega, ← List.getD_eq_getElem?_getD]
  unfold wrB
  rw [catK_get hl h (Nat.le_refl _) k j hk (by omega)]
  unfold wrRow
  rw [List.getD_eq_getElem?_getD, List.getElem?_append_left (by omega), ← List.getD_eq_getElem?_getD]
/-- What is written is read as it was. -/
theorem rd_wr {w h c : Int} {p : List Int} {W H C st : Nat} (hi : ImOK w h c p W H C st) (hb : Byt (wrHd W H C st ++ wrB p C W H st)) :
    rdE (wrHd W H C st ++ wrB p C W H st) = 0 ∧ rdL (wrHd W H C st ++ wrB p C W H st) = p ∧ hW (wrHd W H C st ++ wrB p C W H st) = w ∧ hrV (hH0 (wrHd W H C st ++ wrB p C W H st)) = h ∧ hCn (wrHd W H C st ++ wrB p C W H st) = c := by
  obtain ⟨rfl, rfl, rfl, chk, c34, w1, w2, h1, h2, wh, len, st_, st1, st2⟩ := hi
  have hl : ∀ k, k < H → (wrRow p C W H st k).length = st := fun k hk => wrRow_len len st1 hk
  have hBl : (wrB p C W H st).length = H * st := catK_len hl H (Nat.le_refl _)
  have hll : (wrHd W H C st ++ wrB p C W H st).length = 54 + H * st := by rw [List.length_append, hBl]; rfl
  have hbl := hb.le
  rw [hll] at hbl
  obtain ⟨s0, gw, gh, gc, gn, ge⟩ := hd_is (W := (W : Int)) (H0 := (H : Int)) (N := ((54 + H * st : Nat) : Int)) (C := C) (B := wrB p C W H st) ⟨by omega, by omega⟩ ⟨by omega, by omega⟩ ⟨by omega, by omega⟩ c34
  obtain ⟨b, hbe⟩ : ∃ b, wrHd W H C st ++ wrB p C W H st = b := ⟨_, rfl⟩
  have hbe2 : hdOut ((54 + H * st : Nat) : Int) 0 54 40 (W : Int) (H : Int) 1 ((8 * C : Nat) : Int) 0 0 0 0 0 0 ++ wrB p C W H st = b := hbe
  rw [hbe2] at s0 gw gh gc gn ge
  rw [hbe] at hll hb ⊢
  have g1 : hrV (hH0 b) = H := by rw [gh]; unfold hrV; rw [if_neg (by omega)]
  have g2 : hCn b = C := by unfold hCn; rw [gc]; omega
  have cwh : ((W * H : Nat) : Int) = (W : Int) * (H : Int) := Int.natCast_mul _ _
  have chs : ((H * st : Nat) : Int) = (st : Int) * (H : Int) := by rw [Int.natCast_mul, Int.mul_comm]
  have gN : hNn b = ((H * st : Nat) : Int) := by unfold hNn; rw [gw, g2, st_, g1, chs]
  have gs : shC (hW b) (hrV (hH0 b)) = 0 := by rw [gw, g1]; unfold shC; rw [if_neg (by omega), if_neg (by omega)]
  have e : rdE b = 0 := by
    unfold rdE
    rw [if_neg (fun k => k ge), if_neg (fun k => k gs), gN, if_neg (by omega), if_neg (by omega), if_pos ⟨by rw [s0]; omega, .inl gn⟩]
  refine ⟨e, ?_, gw, g1, g2⟩
  unfold rdL
  rw [if_pos e, gw, g1, g2, st_, gh]
  simp only [Int.toNat_natCast]
  rw [decide_eq_false (by omega)]
  unfold rdPx
  have : catK (fun r => swapTo (fRow b st (W * C) (if false = true then r else H - 1 - r)) 0 C W) H = catK (piece p (W * C)) H := by
    refine catK_congr (Q := H) (fun r hr => ?_) H (Nat.le_refl _)
    show swapTo (fRow b st (W * C) (H - 1 - r)) 0 C W = _
    have hk := prod_of (n := W * C) hr
    rw [← hbe, fRow_wr rfl len st1 (by omega), show H - 1 - (H - 1 - r) = r by omega, trn_trn (by omega) (piece_len (by omega))]
  rw [this, catK_piece len]
end Go.Proofs.Ytepjmnkleajibaa

/- Bitmaps (bmp): bytes there and back; plain. No condition. -/
namespace Go.Proofs.Ytepjmnkleajibaa
open Go Go.RowKit
set_option linter.unusedVariables false
set_option linter.unusedSimpArgs false
set_option maxRecDepth 100000
set_option maxHeartbeats 4000000

theorem bytes_app {A B : List Int} (ha : Bytes A) (hb : Bytes B) : Bytes (A ++ B) := fun x hx => (List.mem_append.1 hx).elim (ha x) (hb x)
theorem bytes_byts (x : Int) (n : Nat) : Bytes (byts x n) := fun y hy => by
  obtain ⟨t, _, rfl⟩ := List.mem_map.1 hy
  exact byt_bd x t
theorem bytes_zero (n : Nat) : Bytes (List.replicate n 0) := fun x hx => by rw [(List.mem_replicate.1 hx).2]; omega
theorem bytes_set {L : List Int} (h : Bytes L) (i : Nat) {v : Int} (hv : 0 ≤ v ∧ v ≤ 255) : Bytes (L.set i v) := fun x hx => (List.mem_or_eq_of_mem_set hx).elim (h x) (fun e => e ▸ hv)
theorem bytes_swap {L : List Int} (h : Bytes L) (o c : Nat) : ∀ k, Bytes (swapTo L o c k)
  | 0 => h
  | k + 1 => bytes_set (bytes_set (bytes_swap h o c k) _ ((bytes_swap h o c k).get _)) _ ((bytes_swap h o c k).get _)
theorem bytes_cat {f : Nat → List Int} (h : ∀ k, Bytes (f k)) : ∀ n, Bytes (catK f n)
  | 0 => fun x hx => by cases hx
  | n + 1 => bytes_app (bytes_cat h n) (h n)
theorem bytes_piece {p : List Int} (h : Bytes p) (c k : Nat) : Bytes (piece p c k) := fun x hx => h x (List.mem_of_mem_drop (List.mem_of_mem_take hx))
theorem bytes_wr {p : List Int} (hp : Bytes p) (W H C st : Nat) : Bytes (wrHd W H C st ++ wrB p C W H st) := by
  refine bytes_app ?_ (bytes_cat (fun k => bytes_app (bytes_swap (bytes_piece hp _ _) _ _ _) (bytes_zero _)) H)
  refine bytes_app (bytes_app (bytes_app (bytes_app (bytes_app (bytes_app (bytes_app (bytes_app (bytes_app (bytes_app (bytes_app (bytes_app (bytes_app (bytes_app ?_ ?_) ?_) ?_) ?_) ?_) ?_) ?_) ?_) ?_) ?_) ?_) ?_) ?_) ?_
  all_goals first | exact bytes_byts _ _ | (intro x hx; have : x = 66 ∨ x = 77 := by simpa using hx
                                            omega)
theorem bytes_wrL {w h c : Int} {p : List Int} (hp : Bytes p) : Bytes (wrL w h c p) := by
  unfold wrL
  split
  · exact bytes_wr hp _ _ _ _
  · intro x hx; cases hx
theorem bytes_rdL {b : List Int} (hb : Bytes b) : Bytes (rdL b) := by
  unfold rdL
  split
  · exact bytes_cat (fun k => bytes_swap (fun x hx => hb x (List.mem_of_mem_drop (List.mem_of_mem_take hx))) _ _ _) _
  · intro x hx; cases hx
theorem wr_len {w h c : Int} {p : List Int} {W H C st : Nat} (hi : ImOK w h c p W H C st) : (wrHd W H C st ++ wrB p C W H st).length = 54 + H * st := by
  have hl : ∀ k, k < H → (wrRow p C W H st k).length = st := fun k hk => wrRow_len hi.len hi.st1 hk
  have hBl : (wrB p C W H st).length = H * st := catK_len hl H (Nat.le_refl _)
  rw [List.length_append, hBl]; rfl
theorem bsz_im {w h c : Int} {p : List Int} {W H C st : Nat} (hi : ImOK w h c p W H C st) : bszV w h c = ((54 + H * st : Nat) : Int) := by
  obtain ⟨rfl, rfl, rfl, chk, c34, w1, w2, h1, h2, wh, len, st_, st1, st2⟩ := hi
  have cwh : ((W * H : Nat) : Int) = (W : Int) * (H : Int) := Int.natCast_mul _ _
  have chs : ((H * st : Nat) : Int) = (st : Int) * (H : Int) := by rw [Int.natCast_mul, Int.mul_comm]
  have e : strV (W : Int) (C : Int) = (st : Int) := by unfold strV; rw [if_neg (by omega)]; exact st_
  have s0 : 0 < W * C := Nat.mul_pos (by omega) (by omega)
  unfold bszV
  rw [e, if_neg (by omega), ← chs]
  omega
/-- What is written of an image, and read again. -/
structure WrOK (w h c : Int) (p q : List Int) : Prop where
  by_ : Byt q
  e : rdE q = 0
  k1 : rdK q (hW q) = w
  k2 : rdK q (hrV (hH0 q)) = h
  k3 : rdK q (hCn q) = c
  l : rdL q = p
  len : (q.length : Int) = bszV w h c
theorem wr_ok {w h c : Int} {p : List Int} (hw : wrE w h c p.length = 0) (hp : p.length ≤ 20000) (hB : Bytes p) : WrOK w h c p (wrL w h c p) := by
  have hi := im_of hw
  have e : wrL w h c p = wrHd w.toNat h.toNat c.toNat (up4 (w * c)).toNat ++ wrB p c.toNat w.toNat h.toNat (up4 (w * c)).toNat := if_pos hw
  have hbl := bytes_wrL (w := w) (h := h) (c := c) hB
  have hs := bsz_im hi
  have hl := wr_len hi
  have i1 := hi.len
  have i2 := hi.st2
  have i3 := hi.c34
  have i4 := hi.w1
  revert hi hs hl i1 i2 i3 i4
  rw [e] at hbl ⊢
  revert hbl
  generalize w.toNat = W, h.toNat = H, c.toNat = C, (up4 (w * c)).toNat = st
  intro hbl hi hs hl i1 i2 i3 i4
  have q1 : H * st ≤ H * (W * C + 3) := Nat.mul_le_mul_left _ i2
  rw [Nat.mul_add] at q1
  have q2 : H * 3 ≤ H * (W * C) := Nat.mul_le_mul_left _ (by rcases i3 with k | k <;> subst k <;> omega)
  have hb : Byt (wrHd W H C st ++ wrB p C W H st) := ⟨by omega, fun i => hbl.get i⟩
  obtain ⟨r1, r2, r3, r4, r5⟩ := rd_wr hi hb
  exact ⟨hb, r1, by unfold rdK; rw [if_pos r1, r3], by unfold rdK; rw [if_pos r1, r4], by unfold rdK; rw [if_pos r1, r5], r2, by rw [hs, hl]⟩
theorem rd_im {b : List Int} (hb : Byt b) (h : rdE b = 0) : wrE (rdK b (hW b)) (rdK b (hrV (hH0 b))) (rdK b (hCn b)) (rdL b).length = 0 ∧ bszV (rdK b (hW b)) (rdK b (hrV (hH0 b))) (rdK b (hCn b)) = b.length ∧ (rdL b).length ≤ b.length := by
  have hg := gd_of hb h
  have e1 : rdK b (hW b) = hW b := if_pos h
  have e2 : rdK b (hrV (hH0 b)) = hrV (hH0 b) := if_pos h
  have e3 : rdK b (hCn b) = hCn b := if_pos h
  have e4 : (rdL b).length = (hrV (hH0 b)).toNat * ((hW b).toNat * (hCn b).toNat) := by
    unfold rdL; rw [if_pos h]; exact rdPx_len hg
  have e5 : hCn b = ((hCn b).toNat : Int) := by have := hg.c_; have := hg.c34; show lw b 28 2 / 8 = _; omega
  have hw := hg.w
  have hh := hg.h
  rw [e1, e2, e3, e4]
  obtain ⟨g0, g1, g2, g3, gd, g4, c34, w1, w2, h1, h2, wh, st_, st1, st2, len, s1, s2⟩ := hg
  rw [e5, g2, g3]
  simp only [Int.toNat_natCast]
  revert c34 w1 w2 h1 h2 wh st_ st1 st2 len
  generalize (hW b).toNat = W, (hrV (hH0 b)).toNat = H, (hCn b).toNat = C
  intro c34 w1 w2 h1 h2 wh st_ st1 st2 len
  have cwh : ((W * H : Nat) : Int) = (W : Int) * (H : Int) := Int.natCast_mul _ _
  have cn : ((H * (W * C) : Nat) : Int) = (W : Int) * (H : Int) * (C : Int) := by rw [← cwh, ← Int.natCast_mul, Nat.mul_comm W H, Nat.mul_assoc]
  have hf : fitsI (W : Int) (H : Int) (C : Int) = 0 := by
    unfold fitsI
    rw [if_neg (by omega), if_neg (by omega), if_neg (by omega)]
  have hch : imCheck (W : Int) (H : Int) (C : Int) ((H * (W * C) : Nat) : Int) = 0 := by
    unfold imCheck
    rw [hf, if_neg (by omega), if_neg (by omega)]
  have hle := Nat.mul_le_mul_left H st1
  refine ⟨?_, ?_, ?_⟩
  · unfold wrE
    rw [hch, if_neg (by omega), if_neg (by omega)]
  · have e : strV (W : Int) (C : Int) = up4 ((W : Int) * (C : Int)) := by unfold strV; rw [if_neg (by omega)]
    have s0 : 0 < W * C := Nat.mul_pos (by omega) (by omega)
    unfold bszV
    rw [e, st_]
    rw [if_neg (by omega), len]
    push_cast
    rw [Int.mul_comm]
  · omega
end Go.Proofs.Ytepjmnkleajibaa

/- The law BmpBack. No condition. -/
namespace Go.Proofs.Ytepjmnkleajibaa
open Go Go.RowKit
set_option linter.unusedVariables false
set_option linter.unusedSimpArgs false
set_option maxRecDepth 100000
set_option maxHeartbeats 4000000

theorem walk_BmpBack' (w h c : Int) (p b : List Int) (hB : Bytes p) (hBb : Bytes b) (W : World) {cl : List Value} (hcl : CRel noN W NoO [imA w h c p, .roi .u8 b] cl) :
    Calls Try.prog 6 cl.toArray W fun e W' => e = .returned (.bool true) ∧ Below W.heap.size W W' := by
  refine law_of (C := mkC 0 [(24, fewS), (25, bwS), (32, bmS), (34, fun l => sameS (l.map nzA)), (30, bsizeS), (31, sN (.bool true))] noG)
    (mkC_ok (pok_cons few_s (pok_cons bwrite_s (pok_cons bread_s (pok_cons (sok_nz rsame_s) (pok_cons bsize_s (pok_cons alive16_s pok_nil)))))) noG_ok) rfl ⟨Try.func6, by kernel_rfl, by kernel_rfl, by kernel_rfl⟩ (by exact Nat.le_of_ble_eq_true rfl) ?_ hcl
  by_cases hl : 20000 < p.length
  · (repeat' (first | (refine And.intro (fun (hfk : _ = true) => ?_) (fun (hfk : _ = false) => ?_) <;> ((try (first | replace hfk := of_decide_eq_true hfk | replace hfk := of_decide_eq_false hfk | simp only [decide_eq_true_eq, decide_eq_false_iff_not, dh1, dh0, ne_eq, reduceCtorEq] at hfk)); (try (exfalso; first | omega | contradiction | exact Bool.noConfusion (Eq.trans (Eq.symm hfk) (by with_reducible assumption : _ = false)) | exact Bool.noConfusion (Eq.trans (Eq.symm hfk) (by with_reducible assumption : _ = true)))))) | (refine And.intro ?ob ?_; (case ob => (first | exact Chk.mk (by kernel_rfl) | exact True.intro | with_reducible assumption | exact rng64 (by omega) (by omega) | omega | (dsimp only; omega) | (show (_ : Nat) ≤ _; omega) | (simp only [ll1, ll2, ll0]; done) | (simp only [ll1, ll2, ll0]; omega) | (dsimp only; simp only [ll1, ll2, ll0]; omega)))) | exact True.intro | (show _ = _; first | with_reducible rfl | with_reducible assumption | omega | (simp only [ll1, ll2, ll0]; omega) | (rfl; done) | exact rfl) | with_reducible assumption | (apply And.intro) | omega | (intro j hj; exact rfl) | fail))
  by_cases hl2 : 20000 < b.length
  · (repeat' (first | (refine And.intro (fun (hfk : _ = true) => ?_) (fun (hfk : _ = false) => ?_) <;> ((try (first | replace hfk := of_decide_eq_true hfk | replace hfk := of_decide_eq_false hfk | simp only [decide_eq_true_eq, decide_eq_false_iff_not, dh1, dh0, ne_eq, reduceCtorEq] at hfk)); (try (exfalso; first | omega | contradiction | exact Bool.noConfusion (Eq.trans (Eq.symm hfk) (by with_reducible assumption : _ = false)) | exact Bool.noConfusion (Eq.trans (Eq.symm hfk) (by with_reducible assumption : _ = true)))))) | (refine And.intro ?ob ?_; (case ob => (first | exact Chk.mk (by kernel_rfl) | exact True.intro | with_reducible assumption | exact rng64 (by omega) (by omega) | omega | (dsimp only; omega) | (show (_ : Nat) ≤ _; omega) | (simp only [ll1, ll2, ll0]; done) | (simp only [ll1, ll2, ll0]; omega) | (dsimp only; simp only [ll1, ll2, ll0]; omega)))) | exact True.intro | (show _ = _; first | with_reducible rfl | with_reducible assumption | omega | (simp only [ll1, ll2, ll0]; omega) | (rfl; done) | exact rfl) | with_reducible assumption | (apply And.intro) | omega | (intro j hj; exact rfl) | fail))
  have hp : p.length ≤ 20000 := by omega
  have hb2 : b.length ≤ 20000 := by omega
  have hb : Byt b := ⟨by omega, fun i => hBb.get i⟩
  have hz : rdE b ≠ 0 → sameM (rdK b (hW b)) (rdK b (hrV (hH0 b))) (rdK b (hCn b)) (rdL b) 0 0 0 [] = true := fun k => by
    obtain ⟨z1, z2⟩ := rd_bad k
    rw [z1, z1, z1, z2]; exact sameM_self _ _ _ _
  have back : rdE b = 0 → wrE (rdK b (hW b)) (rdK b (hrV (hH0 b))) (rdK b (hCn b)) (rdL b).length = 0 ∧ (rdL b).length ≤ 20000 ∧
      Byt (wrL (rdK b (hW b)) (rdK b (hrV (hH0 b))) (rdK b (hCn b)) (rdL b)) ∧ rdE (wrL (rdK b (hW b)) (rdK b (hrV (hH0 b))) (rdK b (hCn b)) (rdL b)) = 0 ∧
      sameM (rdK b (hW b)) (rdK b (hrV (hH0 b))) (rdK b (hCn b)) (rdL b) (rdK (wrL (rdK b (hW b)) (rdK b (hrV (hH0 b))) (rdK b (hCn b)) (rdL b)) (hW (wrL (rdK b (hW b)) (rdK b (hrV (hH0 b))) (rdK b (hCn b)) (rdL b))))
        (rdK (wrL (rdK b (hW b)) (rdK b (hrV (hH0 b))) (rdK b (hCn b)) (rdL b)) (hrV (hH0 (wrL (rdK b (hW b)) (rdK b (hrV (hH0 b))) (rdK b (hCn b)) (rdL b)))))
        (rdK (wrL (rdK b (hW b)) (rdK b (hrV (hH0 b))) (rdK b (hCn b)) (rdL b)) (hCn (wrL (rdK b (hW b)) (rdK b (hrV (hH0 b))) (rdK b (hCn b)) (rdL b)))) (rdL (wrL (rdK b (hW b)) (rdK b (hrV (hH0 b))) (rdK b (hCn b)) (rdL b))) = true ∧
      (wrL (rdK b (hW b)) (rdK b (hrV (hH0 b))) (rdK b (hCn b)) (rdL b)).length = b.length := fun e2 => by
    obtain ⟨r1, r2, r3⟩ := rd_im hb e2
    have hr4 : (rdL b).length ≤ 20000 := by omega
    obtain ⟨u1, u2, u3, u4, u5, u6, u7⟩ := wr_ok r1 hr4 (bytes_rdL hBb)
    refine ⟨r1, hr4, u1, u2, ?_, by omega⟩
    rw [u3, u4, u5, u6]; exact sameM_self _ _ _ _
  have hlb := rdL_len hb
  by_cases e : wrE w h c p.length = 0
  · obtain ⟨o1, o2, o3, o4, o5, o6, o7⟩ := wr_ok e hp hB
    have hs : sameM w h c p (rdK (wrL w h c p) (hW (wrL w h c p))) (rdK (wrL w h c p) (hrV (hH0 (wrL w h c p)))) (rdK (wrL w h c p) (hCn (wrL w h c p))) (rdL (wrL w h c p)) = true := by
      rw [o3, o4, o5, o6]; exact sameM_self _ _ _ _
    have hs' := of_decide_eq_true hs
    have hll := rdL_len o1
    have hln := o1.le
    clear o3 o4 o5 o6
    by_cases e2 : rdE b = 0
    · obtain ⟨b1, b2, b3, b4, b5, b6⟩ := back e2
      have hld := rdL_len b3
      have b5' := of_decide_eq_true b5
      clear back hz
      (repeat' (first | (refine And.intro (fun (hfk : _ = true) => ?_) (fun (hfk : _ = false) => ?_) <;> ((try (first | replace hfk := of_decide_eq_true hfk | replace hfk := of_decide_eq_false hfk | simp only [decide_eq_true_eq, decide_eq_false_iff_not, dh1, dh0, ne_eq, reduceCtorEq] at hfk)); (try (exfalso; first | omega | contradiction | exact Bool.noConfusion (Eq.trans (Eq.symm hfk) (by with_reducible assumption : _ = false)) | exact Bool.noConfusion (Eq.trans (Eq.symm hfk) (by with_reducible assumption : _ = true)))))) | (refine And.intro ?ob ?_; (case ob => (first | exact Chk.mk (by kernel_rfl) | exact True.intro | with_reducible assumption | exact rng64 (by omega) (by omega) | omega | (dsimp only; omega) | (show (_ : Nat) ≤ _; omega) | (simp only [ll1, ll2, ll0]; done) | (simp only [ll1, ll2, ll0]; omega) | (dsimp only; simp only [ll1, ll2, ll0]; omega)))) | exact True.intro | (show _ = _; first | with_reducible rfl | with_reducible assumption | omega | (simp only [ll1, ll2, ll0]; omega) | (first | exact o1 | exact hb | exact b3 | exact hs | exact b5 | rfl; done) | exact rfl) | with_reducible assumption | (apply And.intro) | omega | (intro j hj; exact rfl) | fail))
    · have hz := hz e2
      have hz' := of_decide_eq_true hz
      clear back
      (repeat' (first | (refine And.intro (fun (hfk : _ = true) => ?_) (fun (hfk : _ = false) => ?_) <;> ((try (first | replace hfk := of_decide_eq_true hfk | replace hfk := of_decide_eq_false hfk | simp only [decide_eq_true_eq, decide_eq_false_iff_not, dh1, dh0, ne_eq, reduceCtorEq] at hfk)); (try (exfalso; first | omega | contradiction | exact Bool.noConfusion (Eq.trans (Eq.symm hfk) (by with_reducible assumption : _ = false)) | exact Bool.noConfusion (Eq.trans (Eq.symm hfk) (by with_reducible assumption : _ = true)))))) | (refine And.intro ?ob ?_; (case ob => (first | exact Chk.mk (by kernel_rfl) | exact True.intro | with_reducible assumption | exact rng64 (by omega) (by omega) | omega | (dsimp only; omega) | (show (_ : Nat) ≤ _; omega) | (simp only [ll1, ll2, ll0]; done) | (simp only [ll1, ll2, ll0]; omega) | (dsimp only; simp only [ll1, ll2, ll0]; omega)))) | exact True.intro | (show _ = _; first | with_reducible rfl | with_reducible assumption | omega | (simp only [ll1, ll2, ll0]; omega) | (first | exact o1 | exact hb | exact hs | exact hz | rfl; done) | exact rfl) | with_reducible assumption | (apply And.intro) | omega | (intro j hj; exact rfl) | fail))
  · by_cases e2 : rdE b = 0
    · obtain ⟨b1, b2, b3, b4, b5, b6⟩ := back e2
      have hld := rdL_len b3
      have b5' := of_decide_eq_true b5
      clear back hz
      (repeat' (first | (refine And.intro (fun (hfk : _ = true) => ?_) (fun (hfk : _ = false) => ?_) <;> ((try (first | replace hfk := of_decide_eq_true hfk | replace hfk := of_decide_eq_false hfk | simp only [decide_eq_true_eq, decide_eq_false_iff_not, dh1, dh0, ne_eq, reduceCtorEq] at hfk)); (try (exfalso; first | omega | contradiction | exact Bool.noConfusion (Eq.trans (Eq.symm hfk) (by with_reducible assumption : _ = false)) | exact Bool.noConfusion (Eq.trans (Eq.symm hfk) (by with_reducible assumption : _ = true)))))) | (refine And.intro ?ob ?_; (case ob => (first | exact Chk.mk (by kernel_rfl) | exact True.intro | with_reducible assumption | exact rng64 (by omega) (by omega) | omega | (dsimp only; omega) | (show (_ : Nat) ≤ _; omega) | (simp only [ll1, ll2, ll0]; done) | (simp only [ll1, ll2, ll0]; omega) | (dsimp only; simp only [ll1, ll2, ll0]; omega)))) | exact True.intro | (show _ = _; first | with_reducible rfl | with_reducible assumption | omega | (simp only [ll1, ll2, ll0]; omega) | (first | exact hb | exact b3 | exact b5 | rfl; done) | exact rfl) | with_reducible assumption | (apply And.intro) | omega | (intro j hj; exact rfl) | fail))
    · have hz := hz e2
      have hz' := of_decide_eq_true hz
      clear back
      (repeat' (first | (refine And.intro (fun (hfk : _ = true) => ?_) (fun (hfk : _ = false) => ?_) <;> ((try (first | replace hfk := of_decide_eq_true hfk | replace hfk := of_decide_eq_false hfk | simp only [decide_eq_true_eq, decide_eq_false_iff_not, dh1, dh0, ne_eq, reduceCtorEq] at hfk)); (try (exfalso; first | omega | contradiction | exact Bool.noConfusion (Eq.trans (Eq.symm hfk) (by with_reducible assumption : _ = false)) | exact Bool.noConfusion (Eq.trans (Eq.symm hfk) (by with_reducible assumption : _ = true)))))) | (refine And.intro ?ob ?_; (case ob => (first | exact Chk.mk (by kernel_rfl) | exact True.intro | with_reducible assumption | exact rng64 (by omega) (by omega) | omega | (dsimp only; omega) | (show (_ : Nat) ≤ _; omega) | (simp only [ll1, ll2, ll0]; done) | (simp only [ll1, ll2, ll0]; omega) | (dsimp only; simp only [ll1, ll2, ll0]; omega)))) | exact True.intro | (show _ = _; first | with_reducible rfl | with_reducible assumption | omega | (simp only [ll1, ll2, ll0]; omega) | (first | exact hb | exact hz | rfl; done) | exact rfl) | with_reducible assumption | (apply And.intro) | omega | (intro j hj; exact rfl) | fail))
end Go.Proofs.Ytepjmnkleajibaa

