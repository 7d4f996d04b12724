/- Texts laid together. No condition. -/
import Derived.Test.YtepjmnkleajibaaS2
/- Bitmaps (bmp): the program's Write. No condition. -/
namespace Go.Proofs.Ytepjmnkleajibaa
open Go Go.RowKit
set_option linter.unusedVariables false
set_option linter.unusedSimpArgs false
set_option maxRecDepth 100000
set_option maxHeartbeats 16000000

noncomputable def wpCx : Ctx := mkE 0 [(92, checkS), (30, bsizeS), (29, strideS)] (glook [(93, fG putHF), (94, fG rowRF), (95, fG turnF)]) [] [] [6, 8, 12, 13]
theorem wpCx_ok : COK Try.prog wpCx := mkE_ok (pok_cons check_s (pok_cons bsize_s (pok_cons stride_s pok_nil))) (gl_cons putH_g (gl_cons rowR_g (gl_cons turn_g gl_nil))) dl_nil
theorem wp_bad {w h c : Int} {p : List Int} (hp : p.length ≤ 20000) (e : wrE w h c p.length ≠ 0) : vcFn wpCx Try.f25 [.agg [.int .i64 w, .int .i64 h, .int .i64 c, .roi .u8 p]] ⟨0, []⟩ (Ret (.tup [.roi .u8 (wrL w h c p), .int .i64 (wrE w h c p.length)])) := by
  have z : wrL w h c p = [] := if_neg e
  rw [z]
  by_cases k1 : imCheck w h c p.length = 0
  · have e1 : wrE w h c p.length = if c = 1 then 10 else 0 := if_neg (fun k => k k1)
    have hc : c = 1 := Classical.byContradiction fun k => e (by rw [e1, if_neg k])
    rw [e1, if_pos hc]
    (repeat' (first | (refine And.intro (fun (hfk : _ = true) => ?_) (fun (hfk : _ = false) => ?_) <;> ((try (first | replace hfk := of_decide_eq_true hfk | replace hfk := of_decide_eq_false hfk | simp only [decide_eq_true_eq, decide_eq_false_iff_not, dh1, dh0, ne_eq, reduceCtorEq] at hfk)); (try (exfalso; first | omega | contradiction | exact Bool.noConfusion (Eq.trans (Eq.symm hfk) (by with_reducible assumption : _ = false)) | exact Bool.noConfusion (Eq.trans (Eq.symm hfk) (by with_reducible assumption : _ = true)))))) | (refine And.intro ?ob ?_; (case ob => (first | exact Chk.mk (by kernel_rfl) | exact True.intro | with_reducible assumption | exact rng64 (by omega) (by omega) | omega | (dsimp only; omega) | (show (_ : Nat) ≤ _; omega) | (simp only [ll1, ll2, ll0]; done) | (simp only [ll1, ll2, ll0]; omega) | (dsimp only; simp only [ll1, ll2, ll0]; omega)))) | exact True.intro | (show _ = _; first | with_reducible rfl | with_reducible assumption | omega | (simp only [ll1, ll2, ll0]; omega) | (rfl; done) | exact rfl) | with_reducible assumption | (apply And.intro) | omega | (intro j hj; exact rfl) | fail))
  · have e1 : wrE w h c p.length = imCheck w h c p.length := if_pos k1
    rw [e1]
    (repeat' (first | (refine And.intro (fun (hfk : _ = true) => ?_) (fun (hfk : _ = false) => ?_) <;> ((try (first | replace hfk := of_decide_eq_true hfk | replace hfk := of_decide_eq_false hfk | simp only [decide_eq_true_eq, decide_eq_false_iff_not, dh1, dh0, ne_eq, reduceCtorEq] at hfk)); (try (exfalso; first | omega | contradiction | exact Bool.noConfusion (Eq.trans (Eq.symm hfk) (by with_reducible assumption : _ = false)) | exact Bool.noConfusion (Eq.trans (Eq.symm hfk) (by with_reducible assumption : _ = true)))))) | (refine And.intro ?ob ?_; (case ob => (first | exact Chk.mk (by kernel_rfl) | exact True.intro | with_reducible assumption | exact rng64 (by omega) (by omega) | omega | (dsimp only; omega) | (show (_ : Nat) ≤ _; omega) | (simp only [ll1, ll2, ll0]; done) | (simp only [ll1, ll2, ll0]; omega) | (dsimp only; simp only [ll1, ll2, ll0]; omega)))) | exact True.intro | (show _ = _; first | with_reducible rfl | with_reducible assumption | omega | (simp only [ll1, ll2, ll0]; omega) | (rfl; done) | exact rfl) | with_reducible assumption | (apply And.intro) | omega | (intro j hj; exact rfl) | fail))
theorem wp_good {w h c : Int} {p : List Int} (hp : p.length ≤ 20000) (e : wrE w h c p.length = 0) : vcFn wpCx Try.f25 [.agg [.int .i64 w, .int .i64 h, .int .i64 c, .roi .u8 p]] ⟨0, []⟩ (Ret (.tup [.roi .u8 (wrL w h c p), .int .i64 (wrE w h c p.length)])) := by
  have hi := im_of e
  have z : wrL w h c p = wrHd w.toNat h.toNat c.toNat (up4 (w * c)).toNat ++ wrB p c.toNat w.toNat h.toNat (up4 (w * c)).toNat := if_pos e
  rw [z, e]
  obtain ⟨W, hW⟩ : ∃ W, w.toNat = W := ⟨_, rfl⟩
  obtain ⟨H, hH⟩ : ∃ H, h.toNat = H := ⟨_, rfl⟩
  obtain ⟨C, hC⟩ : ∃ C, c.toNat = C := ⟨_, rfl⟩
  obtain ⟨st, hst⟩ : ∃ st, (up4 (w * c)).toNat = st := ⟨_, rfl⟩
  rw [hW, hH, hC, hst] at hi ⊢
  clear z e hW hH hC hst
  obtain ⟨rfl, rfl, rfl, chk, c34, w1, w2, h1, h2, wh, len, st_, st1, st2⟩ := hi
  have r8 : rngI .i64 (8 * (C : Int)) := rng64 (by omega) (by omega)
  have hc1 : ¬ (C : Int) = 1 := by omega
  (repeat' (first | (refine And.intro (fun (hfk : _ = true) => ?_) (fun (hfk : _ = false) => ?_) <;> ((try (first | replace hfk := of_decide_eq_true hfk | replace hfk := of_decide_eq_false hfk | simp only [decide_eq_true_eq, decide_eq_false_iff_not, dh1, dh0, ne_eq, reduceCtorEq] at hfk)); (try (exfalso; first | omega | contradiction | exact Bool.noConfusion (Eq.trans (Eq.symm hfk) (by with_reducible assumption : _ = false)) | exact Bool.noConfusion (Eq.trans (Eq.symm hfk) (by with_reducible assumption : _ = true)))))) | (refine And.intro ?ob ?_; (case ob => (first | exact Chk.mk (by kernel_rfl) | exact True.intro | with_reducible assumption | exact rng64 (by omega) (by omega) | omega | (dsimp only; omega) | (show (_ : Nat) ≤ _; omega) | (simp only [ll1, ll2, ll0]; done) | (simp only [ll1, ll2, ll0]; omega) | (dsimp only; simp only [ll1, ll2, ll0]; omega)))) | exact True.intro | (show _ = _; first | with_reducible rfl | with_reducible assumption | omega | (simp only [ll1, ll2, ll0]; omega) | (skip; done) | exact rfl) | with_reducible assumption | (apply And.intro) | omega | (intro j hj; exact rfl) | fail))
  have cwc : ((W * C : Nat) : Int) = (W : Int) * (C : Int) := Int.natCast_mul _ _
  have chs : ((H * st : Nat) : Int) = (st : Int) * (H : Int) := by rw [Int.natCast_mul, Int.mul_comm]
  have cwh : ((W * H : Nat) : Int) = (W : Int) * (H : Int) := Int.natCast_mul _ _
  have wcb : 3 ≤ W * C ∧ W * C ≤ 131072 := by rcases c34 with k | k <;> subst k <;> omega
  have sv : strV (W : Int) (C : Int) = (st : Int) := by unfold strV; rw [if_neg (by omega)]; exact st_
  have hsb : H * st ≤ 32768 * 131075 := Nat.mul_le_mul (by omega) (by omega)
  have bz : bszV (W : Int) (H : Int) (C : Int) = ((54 + H * st : Nat) : Int) := by
    unfold bszV; rw [sv, if_neg (by omega), ← chs]; omega
  have hn4 : 54 + H * st < 4294967296 := by
    have q1 : H * (W * C) ≤ 20000 := by omega
    have q2 : H * st ≤ H * (W * C + 3) := Nat.mul_le_mul_left _ st2
    rw [Nat.mul_add] at q2
    omega
  have b0 : IntKind.u32.wrap (bszV (W : Int) (H : Int) (C : Int)) = ((54 + H * st : Nat) : Int) := by rw [bz]; exact u32_id (by omega) (by omega)
  have b1 : IntKind.u32.wrap (W : Int) = (W : Int) := u32_id (by omega) (by omega)
  have b2 : IntKind.u32.wrap (H : Int) = (H : Int) := u32_id (by omega) (by omega)
  have b3 : IntKind.u32.wrap (8 * (C : Int)) = ((8 * C : Nat) : Int) := by rw [u32_id (by omega) (by omega)]; omega
  refine ⟨[(1, .ptr 0 0), (5, .ptr 1 0)], ⟨2, [(0, some (.cells 40 [.int .i64 (W : Int), .int .i64 (H : Int), .int .i64 (C : Int), .roi .u8 p])), (1, some (hdEn ((54 + H * st : Nat) : Int) 0 54 40 (W : Int) (H : Int) 1 ((8 * C : Nat) : Int) 0 0 0 0 0 0))]⟩, [some 0, some 1], ?_, ?_⟩
  · (repeat' (first | (refine And.intro ?_ ?_) | exact True.intro | (show _ = _; with_reducible rfl) | exact Chk.mk (by kernel_rfl)))
    all_goals first | exact b0 | exact b1 | exact b2 | exact b3 | rfl
  have u0 : ∀ n : Nat, n < 4294967296 → U32 (n : Int) := fun n hn => ⟨by omega, by omega⟩
  have u1 := u0 (54 + H * st) hn4
  have u2 := u0 W (by omega)
  have u3 := u0 H (by omega)
  have u4 := u0 (8 * C) (by omega)
  have u5 : U32 0 := ⟨by decide, by decide⟩
  have u6 : U32 54 := ⟨by decide, by decide⟩
  have u7 : U32 40 := ⟨by decide, by decide⟩
  have u8 : U32 1 := ⟨by decide, by decide⟩
  have rwc : rngI .i64 ((W : Int) * (C : Int)) := by rw [← cwc]; exact rng64 (by omega) (by omega)
  have rsw : rngI .i64 (strV (W : Int) (C : Int) - (W : Int) * (C : Int)) := by rw [sv, ← cwc]; exact rng64 (by omega) (by omega)
  have om : 0 ≤ strV (W : Int) (C : Int) - (W : Int) * (C : Int) ∧ strV (W : Int) (C : Int) - (W : Int) * (C : Int) ≤ strV (W : Int) (C : Int) - (W : Int) * (C : Int) ∧ strV (W : Int) (C : Int) - (W : Int) * (C : Int) ≤ 140737488355328 ∧ (strV (W : Int) (C : Int) - (W : Int) * (C : Int)) * ((1 : Nat) : Int) ≤ 140737488355328 := by rw [sv, ← cwc]; omega
  (repeat' (first | (refine And.intro (fun (hfk : _ = true) => ?_) (fun (hfk : _ = false) => ?_) <;> ((try (first | replace hfk := of_decide_eq_true hfk | replace hfk := of_decide_eq_false hfk | simp only [decide_eq_true_eq, decide_eq_false_iff_not, dh1, dh0, ne_eq, reduceCtorEq] at hfk)); (try (exfalso; first | omega | contradiction | exact Bool.noConfusion (Eq.trans (Eq.symm hfk) (by with_reducible assumption : _ = false)) | exact Bool.noConfusion (Eq.trans (Eq.symm hfk) (by with_reducible assumption : _ = true)))))) | (refine And.intro ?ob ?_; (case ob => (first | exact Chk.mk (by kernel_rfl) | exact True.intro | with_reducible assumption | exact rng64 (by omega) (by omega) | omega | (dsimp only; omega) | (show (_ : Nat) ≤ _; omega) | (simp only [ll1, ll2, ll0]; done) | (simp only [ll1, ll2, ll0]; omega) | (dsimp only; simp only [ll1, ll2, ll0]; omega)))) | exact True.intro | (show _ = _; first | with_reducible rfl | with_reducible assumption | omega | (simp only [ll1, ll2, ll0]; omega) | (skip; done) | exact rfl) | with_reducible assumption | (apply And.intro) | omega | (intro j hj; exact rfl) | fail))
  (refine ⟨[1], ⟨by kernel_rfl⟩, ?_⟩)
  (repeat' (first | (refine And.intro (fun (hfk : _ = true) => ?_) (fun (hfk : _ = false) => ?_) <;> ((try (first | replace hfk := of_decide_eq_true hfk | replace hfk := of_decide_eq_false hfk | simp only [decide_eq_true_eq, decide_eq_false_iff_not, dh1, dh0, ne_eq, reduceCtorEq] at hfk)); (try (exfalso; first | omega | contradiction | exact Bool.noConfusion (Eq.trans (Eq.symm hfk) (by with_reducible assumption : _ = false)) | exact Bool.noConfusion (Eq.trans (Eq.symm hfk) (by with_reducible assumption : _ = true)))))) | (refine And.intro ?ob ?_; (case ob => (first | exact Chk.mk (by kernel_rfl) | exact True.intro | with_reducible assumption | exact rng64 (by omega) (by omega) | omega | (dsimp only; omega) | (show (_ : Nat) ≤ _; omega) | (simp only [ll1, ll2, ll0]; done) | (simp only [ll1, ll2, ll0]; omega) | (dsimp only; simp only [ll1, ll2, ll0]; omega)))) | exact True.intro | (show _ = _; first | with_reducible rfl | with_reducible assumption | omega | (simp only [ll1, ll2, ll0]; omega) | (first | exact u1 | exact u2 | exact u3 | exact u4 | exact u5 | exact u6 | exact u7 | exact u8 | exact om; done) | exact rfl) | with_reducible assumption | (apply And.intro) | omega | (intro j hj; exact rfl) | fail))
  refine ⟨[(1, .ptr 0 0), (6, .sl 2 1 0 54), (7, .sl 3 1 0 (st - W * C))], ⟨4, [(0, some (.cells 40 [.int .i64 (W : Int), .int .i64 (H : Int), .int .i64 (C : Int), .roi .u8 p])), (1, some (hdEn ((54 + H * st : Nat) : Int) 0 54 40 (W : Int) (H : Int) 1 ((8 * C : Nat) : Int) 0 0 0 0 0 0)), (2, some (bE (wrHd W H C st))), (3, some (bE (List.replicate (st - W * C) 0)))]⟩, [some 0, some 1, some 2, some 3], ?_, ?_⟩
  · have z1 : (strV (W : Int) (C : Int) - (W : Int) * (C : Int)).toNat = st - W * C := by rw [sv, ← cwc]; omega
    have z2 : List.replicate (strV (W : Int) (C : Int) - (W : Int) * (C : Int)).toNat (0 : Int) = List.replicate (st - W * C) 0 := by rw [z1]
    (repeat' (first | (refine And.intro ?_ ?_) | exact True.intro | (show _ = _; with_reducible rfl) | exact Chk.mk (by kernel_rfl)))
    all_goals first | rfl | exact z1 | exact z2
  clear rwc rsw om u0 u1 u2 u3 u4 u5 u6 u7 u8 b0 b1 b2 b3 bz hsb
  obtain ⟨A, hA⟩ : ∃ A, wrHd W H C st = A := ⟨_, rfl⟩
  have hAl : A.length = 54 := by rw [← hA]; rfl
  rw [hA]
  have rh : rngI .i64 ((H : Int) - 1) := rng64 (by omega) (by omega)
  have hrl : ∀ k, k < H → (wrRow p C W H st k).length = st := fun k hk => by
    unfold wrRow
    have := prod_of (n := W * C) (show H - 1 - k < H by omega)
    rw [List.length_append, swapTo_len, piece_len (by omega), List.length_replicate]; omega
  have hHs : H * st < 4294967296 := by omega
  (repeat' (first | (refine And.intro (fun (hfk : _ = true) => ?_) (fun (hfk : _ = false) => ?_) <;> ((try (first | replace hfk := of_decide_eq_true hfk | replace hfk := of_decide_eq_false hfk | simp only [decide_eq_true_eq, decide_eq_false_iff_not, dh1, dh0, ne_eq, reduceCtorEq] at hfk)); (try (exfalso; first | omega | contradiction | exact Bool.noConfusion (Eq.trans (Eq.symm hfk) (by with_reducible assumption : _ = false)) | exact Bool.noConfusion (Eq.trans (Eq.symm hfk) (by with_reducible assumption : _ = true)))))) | (refine And.intro ?ob ?_; (case ob => (first | exact Chk.mk (by kernel_rfl) | exact True.intro | with_reducible assumption | exact rng64 (by omega) (by omega) | omega | (dsimp only; omega) | (show (_ : Nat) ≤ _; omega) | (simp only [ll1, ll2, ll0]; done) | (simp only [ll1, ll2, ll0]; omega) | (dsimp only; simp only [ll1, ll2, ll0]; omega)))) | exact True.intro | (show _ = _; first | with_reducible rfl | with_reducible assumption | omega | (simp only [ll1, ll2, ll0]; omega) | (skip; done) | exact rfl) | with_reducible assumption | (apply And.intro) | omega | (intro j hj; exact rfl) | fail))
  refine ⟨Nat, fun k => [(1, .ptr 0 0), (6, .sl 2 1 0 (54 + k * st)), (7, .sl 3 1 0 (st - W * C)), (8, .int .i64 ((H : Int) - 1 - (k : Int)))], fun k => ⟨4, [(0, some (.cells 40 [.int .i64 (W : Int), .int .i64 (H : Int), .int .i64 (C : Int), .roi .u8 p])), (1, some (hdEn ((54 + H * st : Nat) : Int) 0 54 40 (W : Int) (H : Int) 1 ((8 * C : Nat) : Int) 0 0 0 0 0 0)), (2, some (bE (A ++ catK (wrRow p C W H st) k))), (3, some (bE (List.replicate (st - W * C) 0)))]⟩, fun k => k ≤ H, fun k => H - k, ⟨0, [some 0, some 1, some 2, some 3], Nat.zero_le _, ?_⟩, fun k hk => ?_⟩
  · have z0 : A = A ++ catK (wrRow p C W H st) 0 := (List.append_nil _).symm
    (repeat' (first | (refine And.intro ?_ ?_) | exact True.intro | (show _ = _; with_reducible rfl) | exact Chk.mk (by kernel_rfl)))
    all_goals first | rfl | exact hA.trans z0 | exact z0 | (show (_ : Int) = _; omega) | (show (_ : Nat) = _; omega)
  have hk : k ≤ H := hk
  have hcl := catK_len hrl k hk
  have hol : (A ++ catK (wrRow p C W H st) k).length = 54 + k * st := by rw [List.length_append, hAl, hcl]
  by_cases hlt : k < H
  · have hks := prod_of (n := st) hlt
    have hkw := prod_of (n := W * C) (show H - 1 - k < H by omega)
    have ry : rngI .i64 ((H : Int) - 1 - (k : Int) - 1) := rng64 (by omega) (by omega)
    (repeat' (first | (refine And.intro (fun (hfk : _ = true) => ?_) (fun (hfk : _ = false) => ?_) <;> ((try (first | replace hfk := of_decide_eq_true hfk | replace hfk := of_decide_eq_false hfk | simp only [decide_eq_true_eq, decide_eq_false_iff_not, dh1, dh0, ne_eq, reduceCtorEq] at hfk)); (try (exfalso; first | omega | contradiction | exact Bool.noConfusion (Eq.trans (Eq.symm hfk) (by with_reducible assumption : _ = false)) | exact Bool.noConfusion (Eq.trans (Eq.symm hfk) (by with_reducible assumption : _ = true)))))) | (refine And.intro ?ob ?_; (case ob => (first | exact Chk.mk (by kernel_rfl) | exact True.intro | with_reducible assumption | exact rng64 (by omega) (by omega) | omega | (dsimp only; omega) | (show (_ : Nat) ≤ _; omega) | (simp only [ll1, ll2, ll0]; done) | (simp only [ll1, ll2, ll0]; omega) | (dsimp only; simp only [ll1, ll2, ll0]; omega)))) | exact True.intro | (show _ = _; first | with_reducible rfl | with_reducible assumption | omega | (simp only [ll1, ll2, ll0]; omega) | (skip; done) | exact rfl) | with_reducible assumption | (apply And.intro) | omega | (intro j hj; exact rfl) | fail))
    (refine ⟨[], ⟨by kernel_rfl⟩, ?_⟩)
    (repeat' (first | (refine And.intro (fun (hfk : _ = true) => ?_) (fun (hfk : _ = false) => ?_) <;> ((try (first | replace hfk := of_decide_eq_true hfk | replace hfk := of_decide_eq_false hfk | simp only [decide_eq_true_eq, decide_eq_false_iff_not, dh1, dh0, ne_eq, reduceCtorEq] at hfk)); (try (exfalso; first | omega | contradiction | exact Bool.noConfusion (Eq.trans (Eq.symm hfk) (by with_reducible assumption : _ = false)) | exact Bool.noConfusion (Eq.trans (Eq.symm hfk) (by with_reducible assumption : _ = true)))))) | (refine And.intro ?ob ?_; (case ob => (first | exact Chk.mk (by kernel_rfl) | exact True.intro | with_reducible assumption | exact rng64 (by omega) (by omega) | omega | (dsimp only; omega) | (show (_ : Nat) ≤ _; omega) | (simp only [ll1, ll2, ll0]; done) | (simp only [ll1, ll2, ll0]; omega) | (dsimp only; simp only [ll1, ll2, ll0]; omega)))) | exact True.intro | (show _ = _; first | with_reducible rfl | with_reducible assumption | omega | (simp only [ll1, ll2, ll0]; omega) | (skip; done) | exact rfl) | with_reducible assumption | (apply And.intro) | omega | (intro j hj; exact rfl) | fail))
    refine ⟨[(1, .ptr 0 0), (6, .sl 2 1 0 (54 + k * st)), (7, .sl 3 1 0 (st - W * C)), (8, .int .i64 ((H : Int) - 1 - (k : Int))), (9, .sl 4 1 0 (W * C))], ⟨5, [(0, some (.cells 40 [.int .i64 (W : Int), .int .i64 (H : Int), .int .i64 (C : Int), .roi .u8 p])), (1, some (hdEn ((54 + H * st : Nat) : Int) 0 54 40 (W : Int) (H : Int) 1 ((8 * C : Nat) : Int) 0 0 0 0 0 0)), (2, some (bE (A ++ catK (wrRow p C W H st) k))), (3, some (bE (List.replicate (st - W * C) 0))), (4, some (bE (piece p (W * C) (H - 1 - k))))]⟩, [some 0, some 1, some 2, some 3, some 4], ?_, ?_⟩
    · have t1 : ((W : Int) * (C : Int)).toNat = W * C := by rw [← cwc]; omega
      have t2 : (((H : Int) - 1 - (k : Int)) * ((W : Int) * (C : Int))).toNat = (H - 1 - k) * (W * C) := by
        have : (H : Int) - 1 - (k : Int) = ((H - 1 - k : Nat) : Int) := by omega
        rw [this, ← cwc, ← Int.natCast_mul, Int.toNat_natCast]
      have t3 : List.take ((W : Int) * (C : Int)).toNat (List.drop (((H : Int) - 1 - (k : Int)) * ((W : Int) * (C : Int))).toNat p) = piece p (W * C) (H - 1 - k) := by rw [t1, t2]; rfl
      (repeat' (first | (refine And.intro ?_ ?_) | exact True.intro | (show _ = _; with_reducible rfl) | exact Chk.mk (by kernel_rfl)))
      all_goals first | rfl | exact t1 | exact t3
    have hpl : (piece p (W * C) (H - 1 - k)).length = W * C := piece_len (by omega)
    have tc : (C : Int).toNat = C := Int.toNat_natCast C
    have td : W * C / (C : Int).toNat = W := by rw [tc]; exact Nat.mul_div_cancel _ (by omega)
    have y1 : W * C = W * C / (C : Int).toNat * (C : Int).toNat := by rw [td, tc]
    (repeat' (first | (refine And.intro (fun (hfk : _ = true) => ?_) (fun (hfk : _ = false) => ?_) <;> ((try (first | replace hfk := of_decide_eq_true hfk | replace hfk := of_decide_eq_false hfk | simp only [decide_eq_true_eq, decide_eq_false_iff_not, dh1, dh0, ne_eq, reduceCtorEq] at hfk)); (try (exfalso; first | omega | contradiction | exact Bool.noConfusion (Eq.trans (Eq.symm hfk) (by with_reducible assumption : _ = false)) | exact Bool.noConfusion (Eq.trans (Eq.symm hfk) (by with_reducible assumption : _ = true)))))) | (refine And.intro ?ob ?_; (case ob => (first | exact Chk.mk (by kernel_rfl) | exact True.intro | with_reducible assumption | exact rng64 (by omega) (by omega) | omega | (dsimp only; omega) | (show (_ : Nat) ≤ _; omega) | (simp only [ll1, ll2, ll0]; done) | (simp only [ll1, ll2, ll0]; omega) | (dsimp only; simp only [ll1, ll2, ll0]; omega)))) | exact True.intro | (show _ = _; first | with_reducible rfl | with_reducible assumption | omega | (simp only [ll1, ll2, ll0]; omega) | (skip; done) | exact rfl) | with_reducible assumption | (apply And.intro) | omega | (intro j hj; exact rfl) | fail))
    (refine ⟨[4], ⟨by kernel_rfl⟩, ?_⟩)
    (repeat' (first | (refine And.intro (fun (hfk : _ = true) => ?_) (fun (hfk : _ = false) => ?_) <;> ((try (first | replace hfk := of_decide_eq_true hfk | replace hfk := of_decide_eq_false hfk | simp only [decide_eq_true_eq, decide_eq_false_iff_not, dh1, dh0, ne_eq, reduceCtorEq] at hfk)); (try (exfalso; first | omega | contradiction | exact Bool.noConfusion (Eq.trans (Eq.symm hfk) (by with_reducible assumption : _ = false)) | exact Bool.noConfusion (Eq.trans (Eq.symm hfk) (by with_reducible assumption : _ = true)))))) | (refine And.intro ?ob ?_; (case ob => (first | exact Chk.mk (by kernel_rfl) | exact True.intro | with_reducible assumption | exact rng64 (by omega) (by omega) | omega | (dsimp only; omega) | (show (_ : Nat) ≤ _; omega) | (simp only [ll1, ll2, ll0]; done) | (simp only [ll1, ll2, ll0]; omega) | (dsimp only; simp only [ll1, ll2, ll0]; omega)))) | exact True.intro | (show _ = _; first | with_reducible rfl | with_reducible assumption | omega | (simp only [ll1, ll2, ll0]; omega) | (skip; done) | exact rfl) | with_reducible assumption | (apply And.intro) | omega | (intro j hj; exact rfl) | fail))
    refine ⟨[(1, .ptr 0 0), (6, .sl 2 1 0 (54 + k * st)), (7, .sl 3 1 0 (st - W * C)), (8, .int .i64 ((H : Int) - 1 - (k : Int))), (9, .sl 4 1 0 (W * C))], ⟨5, [(0, some (.cells 40 [.int .i64 (W : Int), .int .i64 (H : Int), .int .i64 (C : Int), .roi .u8 p])), (1, some (hdEn ((54 + H * st : Nat) : Int) 0 54 40 (W : Int) (H : Int) 1 ((8 * C : Nat) : Int) 0 0 0 0 0 0)), (2, some (bE (A ++ catK (wrRow p C W H st) k))), (3, some (bE (List.replicate (st - W * C) 0))), (4, some (bE (swapTo (piece p (W * C) (H - 1 - k)) 0 C W)))]⟩, [some 0, some 1, some 2, some 3, some 4], ?_, ?_⟩
    · have y2 : swapTo (piece p (W * C) (H - 1 - k)) 0 (C : Int).toNat (W * C / (C : Int).toNat) = swapTo (piece p (W * C) (H - 1 - k)) 0 C W := by rw [td, tc]
      (repeat' (first | (refine And.intro ?_ ?_) | exact True.intro | (show _ = _; with_reducible rfl) | exact Chk.mk (by kernel_rfl)))
      all_goals first | rfl | exact y2
    clear y1 td tc hpl
    have hsl : (swapTo (piece p (W * C) (H - 1 - k)) 0 C W).length = W * C := by rw [swapTo_len, piece_len (by omega)]
    have hzl : (List.replicate (st - W * C) (0 : Int)).length = st - W * C := List.length_replicate ..
    have x1 : List.take (W * C) (List.drop 0 (swapTo (piece p (W * C) (H - 1 - k)) 0 C W)) = swapTo (piece p (W * C) (H - 1 - k)) 0 C W := by rw [List.drop_zero]; exact List.take_of_length_le (by omega)
    have x2 : List.take (st - W * C) (List.drop 0 (List.replicate (st - W * C) (0 : Int))) = List.replicate (st - W * C) 0 := by rw [List.drop_zero]; exact List.take_of_length_le (by omega)
    have x3 : A ++ catK (wrRow p C W H st) k ++ List.take (W * C) (List.drop 0 (swapTo (piece p (W * C) (H - 1 - k)) 0 C W)) ++ List.take (st - W * C) (List.drop 0 (List.replicate (st - W * C) (0 : Int))) = A ++ catK (wrRow p C W H st) (k + 1) := by
      rw [x1, x2]
      show _ = A ++ (catK (wrRow p C W H st) k ++ wrRow p C W H st k)
      unfold wrRow
      simp only [List.append_assoc]
    have x4 : (List.take (W * C) (List.drop 0 (swapTo (piece p (W * C) (H - 1 - k)) 0 C W))).length = W * C := by rw [x1, hsl]
    have x5 : (List.take (st - W * C) (List.drop 0 (List.replicate (st - W * C) (0 : Int)))).length = st - W * C := by rw [x2, hzl]
    (repeat' (first | (refine And.intro (fun (hfk : _ = true) => ?_) (fun (hfk : _ = false) => ?_) <;> ((try (first | replace hfk := of_decide_eq_true hfk | replace hfk := of_decide_eq_false hfk | simp only [decide_eq_true_eq, decide_eq_false_iff_not, dh1, dh0, ne_eq, reduceCtorEq] at hfk)); (try (exfalso; first | omega | contradiction | exact Bool.noConfusion (Eq.trans (Eq.symm hfk) (by with_reducible assumption : _ = false)) | exact Bool.noConfusion (Eq.trans (Eq.symm hfk) (by with_reducible assumption : _ = true)))))) | (refine And.intro ?ob ?_; (case ob => (first | exact Chk.mk (by kernel_rfl) | exact True.intro | with_reducible assumption | exact rng64 (by omega) (by omega) | omega | (dsimp only; omega) | (show (_ : Nat) ≤ _; omega) | (simp only [ll1, ll2, ll0]; done) | (simp only [ll1, ll2, ll0]; omega) | (dsimp only; simp only [ll1, ll2, ll0]; omega)))) | exact True.intro | (show _ = _; first | with_reducible rfl | with_reducible assumption | omega | (simp only [ll1, ll2, ll0]; omega) | (skip; done) | exact rfl) | with_reducible assumption | (apply And.intro) | omega | (intro j hj; exact rfl) | fail))
    refine ⟨k + 1, [some 0, some 1, some 6, some 3], hlt, ?mu, ?_⟩
    case mu => (show H - (k + 1) < H - k; omega)
    have x6 : (k + 1) * st = k * st + st := Nat.succ_mul _ _
    (repeat' (first | (refine And.intro ?_ ?_) | exact True.intro | (show _ = _; with_reducible rfl) | exact Chk.mk (by kernel_rfl)))
    all_goals first | rfl | exact x3 | (show (_ : Int) = _; omega) | (show (_ : Nat) = _; simp only [List.length_append, hAl, hcl, x4, x5, x6]; omega)
  · obtain rfl : k = H := by omega
    have z1 : List.take (54 + k * st) (List.drop 0 (A ++ catK (wrRow p C W k st) k)) = A ++ wrB p C W k st := by
      rw [List.drop_zero]; exact List.take_of_length_le (by omega)
    (repeat' (first | (refine And.intro (fun (hfk : _ = true) => ?_) (fun (hfk : _ = false) => ?_) <;> ((try (first | replace hfk := of_decide_eq_true hfk | replace hfk := of_decide_eq_false hfk | simp only [decide_eq_true_eq, decide_eq_false_iff_not, dh1, dh0, ne_eq, reduceCtorEq] at hfk)); (try (exfalso; first | omega | contradiction | exact Bool.noConfusion (Eq.trans (Eq.symm hfk) (by with_reducible assumption : _ = false)) | exact Bool.noConfusion (Eq.trans (Eq.symm hfk) (by with_reducible assumption : _ = true)))))) | (refine And.intro ?ob ?_; (case ob => (first | exact Chk.mk (by kernel_rfl) | exact True.intro | with_reducible assumption | exact rng64 (by omega) (by omega) | omega | (dsimp only; omega) | (show (_ : Nat) ≤ _; omega) | (simp only [ll1, ll2, ll0]; done) | (simp only [ll1, ll2, ll0]; omega) | (dsimp only; simp only [ll1, ll2, ll0]; omega)))) | exact True.intro | (show _ = _; first | with_reducible rfl | with_reducible assumption | omega | (simp only [ll1, ll2, ll0]; omega) | (exact z1; done) | exact rfl) | with_reducible assumption | (apply And.intro) | omega | (intro j hj; exact rfl) | fail))
theorem bwrite_s : SOK Try.prog 25 bwS := by
  refine sok_of (C := wpCx) wpCx_ok rfl mixed ⟨Try.func25, by kernel_rfl, by kernel_rfl, by kernel_rfl⟩ fun l obs v h ho => ?_
  (unfold bwS at h; split at h; rotate_left; (focus (cases h)); rename_i w hh c p; simp only [Option.some.injEq, Prod.mk.injEq] at h; obtain ⟨rfl, rfl⟩ := h; simp only [List.mem_cons, List.not_mem_nil, or_false, forall_eq_or_imp, forall_eq, false_implies, implies_true] at ho)
  refine ⟨Nat.le_of_ble_eq_true rfl, ?_⟩
  by_cases e : wrE w hh c p.length = 0
  · exact wp_good ho e
  · exact wp_bad ho e
end Go.Proofs.Ytepjmnkleajibaa

/- Bitmaps (bmp): the program's Read. Printed by wip/tools/bmpread.py. No condition. -/
namespace Go.Proofs.Ytepjmnkleajibaa
open Go Go.RowKit
set_option linter.unusedVariables false
set_option linter.unusedSimpArgs false
set_option maxRecDepth 100000
set_option maxHeartbeats 16000000

noncomputable def rpCx : Ctx := mkK 0 [(29, strideS), (22, leftS), (99, hformS), (100, hshapeS), (101, hsumsS), (102, hdownS)] (glook [(17, fG newcF), (98, fG takeHF), (79, fG takeF), (95, fG turnF)]) [2, 7, 10, 24, 25]
theorem rpCx_ok : COK Try.prog rpCx := mkK_ok (pok_cons stride_s (pok_cons left_s (pok_cons hform_s (pok_cons hshape_s (pok_cons hsums_s (pok_cons hdown_s pok_nil)))))) (gl_cons newc_g (gl_cons takeH_g (gl_cons take_g (gl_cons turn_g gl_nil))))
theorem tk_bad1 {b : List Int} (hb : Byt b) (h : tkC b ≠ 0) : vcFn rpCx Try.f32 [.roi .u8 b] ⟨0, []⟩ (Ret (.tup [imA (rdK b (hW b)) (rdK b (hrV (hH0 b))) (rdK b (hCn b)) (rdL b), .int .i64 (rdE b)])) := by
  have bl := hb.le
  have e1 : hdE b = tkC b := by rw [hd_take, if_pos h]
  have e : rdE b = tkC b := by unfold rdE; rw [e1, if_pos h]
  obtain ⟨z1, z2⟩ := rd_bad (b := b) (by rw [e]; exact h)
  rw [z1, z1, z1, z2, e]
  (repeat' (first | (refine And.intro (fun (hfk : _ = true) => ?_) (fun (hfk : _ = false) => ?_) <;> ((try (first | replace hfk := of_decide_eq_true hfk | replace hfk := of_decide_eq_false hfk | simp only [decide_eq_true_eq, decide_eq_false_iff_not, dh1, dh0, ne_eq, reduceCtorEq] at hfk)); (try (exfalso; first | omega | contradiction | exact Bool.noConfusion (Eq.trans (Eq.symm hfk) (by with_reducible assumption : _ = false)) | exact Bool.noConfusion (Eq.trans (Eq.symm hfk) (by with_reducible assumption : _ = true)))))) | (refine And.intro ?ob ?_; (case ob => (first | exact Chk.mk (by kernel_rfl) | exact True.intro | with_reducible assumption | exact rng64 (by omega) (by omega) | omega | (dsimp only; omega) | (show (_ : Nat) ≤ _; omega) | (simp only [ll1, ll2, ll0]; done) | (simp only [ll1, ll2, ll0]; omega) | (dsimp only; simp only [ll1, ll2, ll0]; omega)))) | exact True.intro | (show _ = _; first | with_reducible rfl | with_reducible assumption | omega | (simp only [ll1, ll2, ll0]; omega) | (exact hb; done) | exact rfl) | with_reducible assumption | (apply And.intro) | omega | (intro j hj; exact rfl) | fail))
  (refine ⟨[], ⟨by kernel_rfl⟩, ?_⟩)
  (repeat' (first | (refine And.intro (fun (hfk : _ = true) => ?_) (fun (hfk : _ = false) => ?_) <;> ((try (first | replace hfk := of_decide_eq_true hfk | replace hfk := of_decide_eq_false hfk | simp only [decide_eq_true_eq, decide_eq_false_iff_not, dh1, dh0, ne_eq, reduceCtorEq] at hfk)); (try (exfalso; first | omega | contradiction | exact Bool.noConfusion (Eq.trans (Eq.symm hfk) (by with_reducible assumption : _ = false)) | exact Bool.noConfusion (Eq.trans (Eq.symm hfk) (by with_reducible assumption : _ = true)))))) | (refine And.intro ?ob ?_; (case ob => (first | exact Chk.mk (by kernel_rfl) | exact True.intro | with_reducible assumption | exact rng64 (by omega) (by omega) | omega | (dsimp only; omega) | (show (_ : Nat) ≤ _; omega) | (simp only [ll1, ll2, ll0]; done) | (simp only [ll1, ll2, ll0]; omega) | (dsimp only; simp only [ll1, ll2, ll0]; omega)))) | exact True.intro | (show _ = _; first | with_reducible rfl | with_reducible assumption | omega | (simp only [ll1, ll2, ll0]; omega) | (exact hb; done) | exact rfl) | with_reducible assumption | (apply And.intro) | omega | (intro j hj; exact rfl) | fail))
  (refine ⟨[3, 1, 2], ⟨by kernel_rfl⟩, ?_⟩)
  (repeat' (first | (refine And.intro (fun (hfk : _ = true) => ?_) (fun (hfk : _ = false) => ?_) <;> ((try (first | replace hfk := of_decide_eq_true hfk | replace hfk := of_decide_eq_false hfk | simp only [decide_eq_true_eq, decide_eq_false_iff_not, dh1, dh0, ne_eq, reduceCtorEq] at hfk)); (try (exfalso; first | omega | contradiction | exact Bool.noConfusion (Eq.trans (Eq.symm hfk) (by with_reducible assumption : _ = false)) | exact Bool.noConfusion (Eq.trans (Eq.symm hfk) (by with_reducible assumption : _ = true)))))) | (refine And.intro ?ob ?_; (case ob => (first | exact Chk.mk (by kernel_rfl) | exact True.intro | with_reducible assumption | exact rng64 (by omega) (by omega) | omega | (dsimp only; omega) | (show (_ : Nat) ≤ _; omega) | (simp only [ll1, ll2, ll0]; done) | (simp only [ll1, ll2, ll0]; omega) | (dsimp only; simp only [ll1, ll2, ll0]; omega)))) | exact True.intro | (show _ = _; first | with_reducible rfl | with_reducible assumption | omega | (simp only [ll1, ll2, ll0]; omega) | (exact hb; done) | exact rfl) | with_reducible assumption | (apply And.intro) | omega | (intro j hj; exact rfl) | fail))
  refine ⟨[(0, .roi .u8 b), (2, .ptr 0 0), (4, .ptr 1 0), (5, .ptr 3 0), (6, .int .i64 (tkC b))], ⟨4, [(0, some (.cells 40 [.int .i64 0, .int .i64 0, .int .i64 0, .nils])), (1, some (.cells 27 [.sl 2 1 0 b.length, .int .i64 (tkA b)])), (2, some (bE b)), (3, some (.cells 148 [.int .u32 (if tkC b = 0 then lw b 2 4 else 0), .int .u32 (if tkC b = 0 then lw b 6 4 else 0), .int .u32 (if tkC b = 0 then lw b 10 4 else 0), .int .u32 (if tkC b = 0 then lw b 14 4 else 0), .int .u32 (if tkC b = 0 then lw b 18 4 else 0), .int .u32 (if tkC b = 0 then lw b 22 4 else 0), .int .u32 (if tkC b = 0 then lw b 26 2 else 0), .int .u32 (if tkC b = 0 then lw b 28 2 else 0), .int .u32 (if tkC b = 0 then lw b 30 4 else 0), .int .u32 (if tkC b = 0 then lw b 34 4 else 0), .int .u32 (if tkC b = 0 then lw b 38 4 else 0), .int .u32 (if tkC b = 0 then lw b 42 4 else 0), .int .u32 (if tkC b = 0 then lw b 46 4 else 0), .int .u32 (if tkC b = 0 then lw b 50 4 else 0)]))]⟩, [some 0, some 1, some 2, some 3], ?_, ?_⟩
  · (repeat' (first | (refine And.intro ?_ ?_) | exact True.intro | (show _ = _; with_reducible rfl) | exact Chk.mk (by kernel_rfl)))
    all_goals first | rfl
  (repeat' (first | (refine And.intro (fun (hfk : _ = true) => ?_) (fun (hfk : _ = false) => ?_) <;> ((try (first | replace hfk := of_decide_eq_true hfk | replace hfk := of_decide_eq_false hfk | simp only [decide_eq_true_eq, decide_eq_false_iff_not, dh1, dh0, ne_eq, reduceCtorEq] at hfk)); (try (exfalso; first | omega | contradiction | exact Bool.noConfusion (Eq.trans (Eq.symm hfk) (by with_reducible assumption : _ = false)) | exact Bool.noConfusion (Eq.trans (Eq.symm hfk) (by with_reducible assumption : _ = true)))))) | (refine And.intro ?ob ?_; (case ob => (first | exact Chk.mk (by kernel_rfl) | exact True.intro | with_reducible assumption | exact rng64 (by omega) (by omega) | omega | (dsimp only; omega) | (show (_ : Nat) ≤ _; omega) | (simp only [ll1, ll2, ll0]; done) | (simp only [ll1, ll2, ll0]; omega) | (dsimp only; simp only [ll1, ll2, ll0]; omega)))) | exact True.intro | (show _ = _; first | with_reducible rfl | with_reducible assumption | omega | (simp only [ll1, ll2, ll0]; omega) | (rfl; done) | exact rfl) | with_reducible assumption | (apply And.intro) | omega | (intro j hj; exact rfl) | fail))
theorem tk_bad2 {b : List Int} (hb : Byt b) (hk : tkC b = 0) (h : hdE b ≠ 0) : vcFn rpCx Try.f32 [.roi .u8 b] ⟨0, []⟩ (Ret (.tup [imA (rdK b (hW b)) (rdK b (hrV (hH0 b))) (rdK b (hCn b)) (rdL b), .int .i64 (rdE b)])) := by
  have bl := hb.le
  have hH : ∀ F : Int, (if tkC b = 0 then F else 0) = F := fun F => if_pos hk
  have hA : tkA b = 54 := by unfold tkC at hk; unfold tkA; split at hk; · rename_i k; exact absurd hk k
                             rename_i k; rw [if_neg k]; split at hk; · cases hk
                             rename_i k2; rw [if_neg k2]
  have hl54 : 54 ≤ b.length := by unfold tkC at hk; split at hk; · rename_i k; exact absurd hk k
                                  split at hk; · cases hk
                                  omega
  have e1 : hdE b = if fmP (lw b 6 4) (lw b 10 4) (lw b 14 4) (lw b 26 2) (lw b 28 2) (lw b 30 4) (lw b 46 4) (lw b 50 4) then 0 else 21 := by rw [hd_take, if_neg (fun k => k hk)]
  have hf : ¬ fmP (lw b 6 4) (lw b 10 4) (lw b 14 4) (lw b 26 2) (lw b 28 2) (lw b 30 4) (lw b 46 4) (lw b 50 4) := fun k => h (by rw [e1, if_pos k])
  have e : rdE b = 21 := by unfold rdE; rw [if_pos h, e1, if_neg hf]
  obtain ⟨z1, z2⟩ := rd_bad (b := b) (by rw [e]; decide)
  rw [z1, z1, z1, z2, e]
  (repeat' (first | (refine And.intro (fun (hfk : _ = true) => ?_) (fun (hfk : _ = false) => ?_) <;> ((try (first | replace hfk := of_decide_eq_true hfk | replace hfk := of_decide_eq_false hfk | simp only [decide_eq_true_eq, decide_eq_false_iff_not, dh1, dh0, ne_eq, reduceCtorEq] at hfk)); (try (exfalso; first | omega | contradiction | exact Bool.noConfusion (Eq.trans (Eq.symm hfk) (by with_reducible assumption : _ = false)) | exact Bool.noConfusion (Eq.trans (Eq.symm hfk) (by with_reducible assumption : _ = true)))))) | (refine And.intro ?ob ?_; (case ob => (first | exact Chk.mk (by kernel_rfl) | exact True.intro | with_reducible assumption | exact rng64 (by omega) (by omega) | omega | (dsimp only; omega) | (show (_ : Nat) ≤ _; omega) | (simp only [ll1, ll2, ll0]; done) | (simp only [ll1, ll2, ll0]; omega) | (dsimp only; simp only [ll1, ll2, ll0]; omega)))) | exact True.intro | (show _ = _; first | with_reducible rfl | with_reducible assumption | omega | (simp only [ll1, ll2, ll0]; omega) | (exact hb; done) | exact rfl) | with_reducible assumption | (apply And.intro) | omega | (intro j hj; exact rfl) | fail))
  (refine ⟨[], ⟨by kernel_rfl⟩, ?_⟩)
  (repeat' (first | (refine And.intro (fun (hfk : _ = true) => ?_) (fun (hfk : _ = false) => ?_) <;> ((try (first | replace hfk := of_decide_eq_true hfk | replace hfk := of_decide_eq_false hfk | simp only [decide_eq_true_eq, decide_eq_false_iff_not, dh1, dh0, ne_eq, reduceCtorEq] at hfk)); (try (exfalso; first | omega | contradiction | exact Bool.noConfusion (Eq.trans (Eq.symm hfk) (by with_reducible assumption : _ = false)) | exact Bool.noConfusion (Eq.trans (Eq.symm hfk) (by with_reducible assumption : _ = true)))))) | (refine And.intro ?ob ?_; (case ob => (first | exact Chk.mk (by kernel_rfl) | exact True.intro | with_reducible assumption | exact rng64 (by omega) (by omega) | omega | (dsimp only; omega) | (show (_ : Nat) ≤ _; omega) | (simp only [ll1, ll2, ll0]; done) | (simp only [ll1, ll2, ll0]; omega) | (dsimp only; simp only [ll1, ll2, ll0]; omega)))) | exact True.intro | (show _ = _; first | with_reducible rfl | with_reducible assumption | omega | (simp only [ll1, ll2, ll0]; omega) | (exact hb; done) | exact rfl) | with_reducible assumption | (apply And.intro) | omega | (intro j hj; exact rfl) | fail))
  (refine ⟨[3, 1, 2], ⟨by kernel_rfl⟩, ?_⟩)
  (repeat' (first | (refine And.intro (fun (hfk : _ = true) => ?_) (fun (hfk : _ = false) => ?_) <;> ((try (first | replace hfk := of_decide_eq_true hfk | replace hfk := of_decide_eq_false hfk | simp only [decide_eq_true_eq, decide_eq_false_iff_not, dh1, dh0, ne_eq, reduceCtorEq] at hfk)); (try (exfalso; first | omega | contradiction | exact Bool.noConfusion (Eq.trans (Eq.symm hfk) (by with_reducible assumption : _ = false)) | exact Bool.noConfusion (Eq.trans (Eq.symm hfk) (by with_reducible assumption : _ = true)))))) | (refine And.intro ?ob ?_; (case ob => (first | exact Chk.mk (by kernel_rfl) | exact True.intro | with_reducible assumption | exact rng64 (by omega) (by omega) | omega | (dsimp only; omega) | (show (_ : Nat) ≤ _; omega) | (simp only [ll1, ll2, ll0]; done) | (simp only [ll1, ll2, ll0]; omega) | (dsimp only; simp only [ll1, ll2, ll0]; omega)))) | exact True.intro | (show _ = _; first | with_reducible rfl | with_reducible assumption | omega | (simp only [ll1, ll2, ll0]; omega) | (exact hb; done) | exact rfl) | with_reducible assumption | (apply And.intro) | omega | (intro j hj; exact rfl) | fail))
  refine ⟨[(0, .roi .u8 b), (2, .ptr 0 0), (4, .ptr 1 0), (5, .ptr 3 0), (6, .int .i64 0)], ⟨4, [(0, some (.cells 40 [.int .i64 0, .int .i64 0, .int .i64 0, .nils])), (1, some (.cells 27 [.sl 2 1 0 b.length, .int .i64 54])), (2, some (bE b)), (3, some (.cells 148 [.int .u32 (lw b 2 4), .int .u32 (lw b 6 4), .int .u32 (lw b 10 4), .int .u32 (lw b 14 4), .int .u32 (lw b 18 4), .int .u32 (lw b 22 4), .int .u32 (lw b 26 2), .int .u32 (lw b 28 2), .int .u32 (lw b 30 4), .int .u32 (lw b 34 4), .int .u32 (lw b 38 4), .int .u32 (lw b 42 4), .int .u32 (lw b 46 4), .int .u32 (lw b 50 4)]))]⟩, [some 0, some 1, some 2, some 3], ?_, ?_⟩
  · (repeat' (first | (refine And.intro ?_ ?_) | exact True.intro | (show _ = _; with_reducible rfl) | exact Chk.mk (by kernel_rfl)))
    all_goals first | exact hk | exact hA | exact hH _ | rfl
  (repeat' (first | (refine And.intro (fun (hfk : _ = true) => ?_) (fun (hfk : _ = false) => ?_) <;> ((try (first | replace hfk := of_decide_eq_true hfk | replace hfk := of_decide_eq_false hfk | simp only [decide_eq_true_eq, decide_eq_false_iff_not, dh1, dh0, ne_eq, reduceCtorEq] at hfk)); (try (exfalso; first | omega | contradiction | exact Bool.noConfusion (Eq.trans (Eq.symm hfk) (by with_reducible assumption : _ = false)) | exact Bool.noConfusion (Eq.trans (Eq.symm hfk) (by with_reducible assumption : _ = true)))))) | (refine And.intro ?ob ?_; (case ob => (first | exact Chk.mk (by kernel_rfl) | exact True.intro | with_reducible assumption | exact rng64 (by omega) (by omega) | omega | (dsimp only; omega) | (show (_ : Nat) ≤ _; omega) | (simp only [ll1, ll2, ll0]; done) | (simp only [ll1, ll2, ll0]; omega) | (dsimp only; simp only [ll1, ll2, ll0]; omega)))) | exact True.intro | (show _ = _; first | with_reducible rfl | with_reducible assumption | omega | (simp only [ll1, ll2, ll0]; omega) | (rfl; done) | exact rfl) | with_reducible assumption | (apply And.intro) | omega | (intro j hj; exact rfl) | fail))
theorem tk_bad3 {b : List Int} (hb : Byt b) (hk : tkC b = 0) (h : hdE b = 0) (hs : shC (hW b) (hrV (hH0 b)) ≠ 0) : vcFn rpCx Try.f32 [.roi .u8 b] ⟨0, []⟩ (Ret (.tup [imA (rdK b (hW b)) (rdK b (hrV (hH0 b))) (rdK b (hCn b)) (rdL b), .int .i64 (rdE b)])) := by
  have bl := hb.le
  have hH : ∀ F : Int, (if tkC b = 0 then F else 0) = F := fun F => if_pos hk
  have hA : tkA b = 54 := by unfold tkC at hk; unfold tkA; split at hk; · rename_i k; exact absurd hk k
                             rename_i k; rw [if_neg k]; split at hk; · cases hk
                             rename_i k2; rw [if_neg k2]
  have hl54 : 54 ≤ b.length := by unfold tkC at hk; split at hk; · rename_i k; exact absurd hk k
                                  split at hk; · cases hk
                                  omega
  have hd := h
  obtain ⟨_, _, k6, k7, k8⟩ := hd_inv hd
  have hf : fmP (lw b 6 4) (lw b 10 4) (lw b 14 4) (lw b 26 2) (lw b 28 2) (lw b 30 4) (lw b 46 4) (lw b 50 4) := by
    obtain ⟨a1, a2, a3, a4, a5, a6, a7⟩ := k7
    exact ⟨a1, a5, a6, a7, a2, a3, a4, k8⟩
  have wb := lw_bd hb (a := 18) (n := 4) (by decide)
  have hb0 := lw_bd hb (a := 22) (n := 4) (by decide)
  obtain ⟨w0, w1⟩ := wb
  obtain ⟨h0, h1⟩ := hb0
  have e : rdE b = shC (hW b) (hrV (hH0 b)) := by unfold rdE; rw [if_neg (fun k => k h), if_pos hs]
  obtain ⟨z1, z2⟩ := rd_bad (b := b) (by rw [e]; exact hs)
  rw [z1, z1, z1, z2, e]
  have hs' : ¬ shC (lw b 18 4) (hrV (lw b 22 4)) = 0 := hs
  (repeat' (first | (refine And.intro (fun (hfk : _ = true) => ?_) (fun (hfk : _ = false) => ?_) <;> ((try (first | replace hfk := of_decide_eq_true hfk | replace hfk := of_decide_eq_false hfk | simp only [decide_eq_true_eq, decide_eq_false_iff_not, dh1, dh0, ne_eq, reduceCtorEq] at hfk)); (try (exfalso; first | omega | contradiction | exact Bool.noConfusion (Eq.trans (Eq.symm hfk) (by with_reducible assumption : _ = false)) | exact Bool.noConfusion (Eq.trans (Eq.symm hfk) (by with_reducible assumption : _ = true)))))) | (refine And.intro ?ob ?_; (case ob => (first | exact Chk.mk (by kernel_rfl) | exact True.intro | with_reducible assumption | exact rng64 (by omega) (by omega) | omega | (dsimp only; omega) | (show (_ : Nat) ≤ _; omega) | (simp only [ll1, ll2, ll0]; done) | (simp only [ll1, ll2, ll0]; omega) | (dsimp only; simp only [ll1, ll2, ll0]; omega)))) | exact True.intro | (show _ = _; first | with_reducible rfl | with_reducible assumption | omega | (simp only [ll1, ll2, ll0]; omega) | (exact hb; done) | exact rfl) | with_reducible assumption | (apply And.intro) | omega | (intro j hj; exact rfl) | fail))
  (refine ⟨[], ⟨by kernel_rfl⟩, ?_⟩)
  (repeat' (first | (refine And.intro (fun (hfk : _ = true) => ?_) (fun (hfk : _ = false) => ?_) <;> ((try (first | replace hfk := of_decide_eq_true hfk | replace hfk := of_decide_eq_false hfk | simp only [decide_eq_true_eq, decide_eq_false_iff_not, dh1, dh0, ne_eq, reduceCtorEq] at hfk)); (try (exfalso; first | omega | contradiction | exact Bool.noConfusion (Eq.trans (Eq.symm hfk) (by with_reducible assumption : _ = false)) | exact Bool.noConfusion (Eq.trans (Eq.symm hfk) (by with_reducible assumption : _ = true)))))) | (refine And.intro ?ob ?_; (case ob => (first | exact Chk.mk (by kernel_rfl) | exact True.intro | with_reducible assumption | exact rng64 (by omega) (by omega) | omega | (dsimp only; omega) | (show (_ : Nat) ≤ _; omega) | (simp only [ll1, ll2, ll0]; done) | (simp only [ll1, ll2, ll0]; omega) | (dsimp only; simp only [ll1, ll2, ll0]; omega)))) | exact True.intro | (show _ = _; first | with_reducible rfl | with_reducible assumption | omega | (simp only [ll1, ll2, ll0]; omega) | (exact hb; done) | exact rfl) | with_reducible assumption | (apply And.intro) | omega | (intro j hj; exact rfl) | fail))
  (refine ⟨[3, 1, 2], ⟨by kernel_rfl⟩, ?_⟩)
  (repeat' (first | (refine And.intro (fun (hfk : _ = true) => ?_) (fun (hfk : _ = false) => ?_) <;> ((try (first | replace hfk := of_decide_eq_true hfk | replace hfk := of_decide_eq_false hfk | simp only [decide_eq_true_eq, decide_eq_false_iff_not, dh1, dh0, ne_eq, reduceCtorEq] at hfk)); (try (exfalso; first | omega | contradiction | exact Bool.noConfusion (Eq.trans (Eq.symm hfk) (by with_reducible assumption : _ = false)) | exact Bool.noConfusion (Eq.trans (Eq.symm hfk) (by with_reducible assumption : _ = true)))))) | (refine And.intro ?ob ?_; (case ob => (first | exact Chk.mk (by kernel_rfl) | exact True.intro | with_reducible assumption | exact rng64 (by omega) (by omega) | omega | (dsimp only; omega) | (show (_ : Nat) ≤ _; omega) | (simp only [ll1, ll2, ll0]; done) | (simp only [ll1, ll2, ll0]; omega) | (dsimp only; simp only [ll1, ll2, ll0]; omega)))) | exact True.intro | (show _ = _; first | with_reducible rfl | with_reducible assumption | omega | (simp only [ll1, ll2, ll0]; omega) | (exact hb; done) | exact rfl) | with_reducible assumption | (apply And.intro) | omega | (intro j hj; exact rfl) | fail))
  refine ⟨[(0, .roi .u8 b), (2, .ptr 0 0), (4, .ptr 1 0), (5, .ptr 3 0), (6, .int .i64 0)], ⟨4, [(0, some (.cells 40 [.int .i64 0, .int .i64 0, .int .i64 0, .nils])), (1, some (.cells 27 [.sl 2 1 0 b.length, .int .i64 54])), (2, some (bE b)), (3, some (.cells 148 [.int .u32 (lw b 2 4), .int .u32 (lw b 6 4), .int .u32 (lw b 10 4), .int .u32 (lw b 14 4), .int .u32 (lw b 18 4), .int .u32 (lw b 22 4), .int .u32 (lw b 26 2), .int .u32 (lw b 28 2), .int .u32 (lw b 30 4), .int .u32 (lw b 34 4), .int .u32 (lw b 38 4), .int .u32 (lw b 42 4), .int .u32 (lw b 46 4), .int .u32 (lw b 50 4)]))]⟩, [some 0, some 1, some 2, some 3], ?_, ?_⟩
  · (repeat' (first | (refine And.intro ?_ ?_) | exact True.intro | (show _ = _; with_reducible rfl) | exact Chk.mk (by kernel_rfl)))
    all_goals first | exact hk | exact hA | exact hH _ | rfl
  (repeat' (first | (refine And.intro (fun (hfk : _ = true) => ?_) (fun (hfk : _ = false) => ?_) <;> ((try (first | replace hfk := of_decide_eq_true hfk | replace hfk := of_decide_eq_false hfk | simp only [decide_eq_true_eq, decide_eq_false_iff_not, dh1, dh0, ne_eq, reduceCtorEq] at hfk)); (try (exfalso; first | omega | contradiction | exact Bool.noConfusion (Eq.trans (Eq.symm hfk) (by with_reducible assumption : _ = false)) | exact Bool.noConfusion (Eq.trans (Eq.symm hfk) (by with_reducible assumption : _ = true)))))) | (refine And.intro ?ob ?_; (case ob => (first | exact Chk.mk (by kernel_rfl) | exact True.intro | with_reducible assumption | exact rng64 (by omega) (by omega) | omega | (dsimp only; omega) | (show (_ : Nat) ≤ _; omega) | (simp only [ll1, ll2, ll0]; done) | (simp only [ll1, ll2, ll0]; omega) | (dsimp only; simp only [ll1, ll2, ll0]; omega)))) | exact True.intro | (show _ = _; first | with_reducible rfl | with_reducible assumption | omega | (simp only [ll1, ll2, ll0]; omega) | (rfl; done) | exact rfl) | with_reducible assumption | (apply And.intro) | omega | (intro j hj; exact rfl) | fail))
  refine ⟨[(0, .roi .u8 b), (2, .ptr 0 0), (4, .ptr 1 0), (5, .ptr 3 0), (7, .ptr 4 0), (8, .int .i64 (shC (lw b 18 4) (hrV (lw b 22 4))))], ⟨5, [(0, some (.cells 40 [.int .i64 0, .int .i64 0, .int .i64 0, .nils])), (1, some (.cells 27 [.sl 2 1 0 b.length, .int .i64 54])), (2, some (bE b)), (3, some (.cells 148 [.int .u32 (lw b 2 4), .int .u32 (lw b 6 4), .int .u32 (lw b 10 4), .int .u32 (lw b 14 4), .int .u32 (lw b 18 4), .int .u32 (lw b 22 4), .int .u32 (lw b 26 2), .int .u32 (lw b 28 2), .int .u32 (lw b 30 4), .int .u32 (lw b 34 4), .int .u32 (lw b 38 4), .int .u32 (lw b 42 4), .int .u32 (lw b 46 4), .int .u32 (lw b 50 4)])), (4, some (.cells 40 [.int .i64 0, .int .i64 0, .int .i64 0, .nils]))]⟩, [some 0, some 1, some 2, some 3, some 4], ?_, ?_⟩
  · have i0 : ∀ x, shI (shC (lw b 18 4) (hrV (lw b 22 4))) x = 0 := fun x => if_neg hs
    (repeat' (first | (refine And.intro ?_ ?_) | exact True.intro | (show _ = _; with_reducible rfl) | exact Chk.mk (by kernel_rfl)))
    all_goals first | exact i0 _ | rfl
  (repeat' (first | (refine And.intro (fun (hfk : _ = true) => ?_) (fun (hfk : _ = false) => ?_) <;> ((try (first | replace hfk := of_decide_eq_true hfk | replace hfk := of_decide_eq_false hfk | simp only [decide_eq_true_eq, decide_eq_false_iff_not, dh1, dh0, ne_eq, reduceCtorEq] at hfk)); (try (exfalso; first | omega | contradiction | exact Bool.noConfusion (Eq.trans (Eq.symm hfk) (by with_reducible assumption : _ = false)) | exact Bool.noConfusion (Eq.trans (Eq.symm hfk) (by with_reducible assumption : _ = true)))))) | (refine And.intro ?ob ?_; (case ob => (first | exact Chk.mk (by kernel_rfl) | exact True.intro | with_reducible assumption | exact rng64 (by omega) (by omega) | omega | (dsimp only; omega) | (show (_ : Nat) ≤ _; omega) | (simp only [ll1, ll2, ll0]; done) | (simp only [ll1, ll2, ll0]; omega) | (dsimp only; simp only [ll1, ll2, ll0]; omega)))) | exact True.intro | (show _ = _; first | with_reducible rfl | with_reducible assumption | omega | (simp only [ll1, ll2, ll0]; omega) | (rfl; done) | exact rfl) | with_reducible assumption | (apply And.intro) | omega | (intro j hj; exact rfl) | fail))
theorem tk_bad4 {b : List Int} (hb : Byt b) (hk : tkC b = 0) (h : hdE b = 0) (hs : shC (hW b) (hrV (hH0 b)) = 0) (hn : rdE b ≠ 0) : vcFn rpCx Try.f32 [.roi .u8 b] ⟨0, []⟩ (Ret (.tup [imA (rdK b (hW b)) (rdK b (hrV (hH0 b))) (rdK b (hCn b)) (rdL b), .int .i64 (rdE b)])) := by
  have bl := hb.le
  have hH : ∀ F : Int, (if tkC b = 0 then F else 0) = F := fun F => if_pos hk
  have hA : tkA b = 54 := by unfold tkC at hk; unfold tkA; split at hk; · rename_i k; exact absurd hk k
                             rename_i k; rw [if_neg k]; split at hk; · cases hk
                             rename_i k2; rw [if_neg k2]
  have hl54 : 54 ≤ b.length := by unfold tkC at hk; split at hk; · rename_i k; exact absurd hk k
                                  split at hk; · cases hk
                                  omega
  have hd := h
  obtain ⟨_, _, k6, k7, k8⟩ := hd_inv hd
  have hf : fmP (lw b 6 4) (lw b 10 4) (lw b 14 4) (lw b 26 2) (lw b 28 2) (lw b 30 4) (lw b 46 4) (lw b 50 4) := by
    obtain ⟨a1, a2, a3, a4, a5, a6, a7⟩ := k7
    exact ⟨a1, a5, a6, a7, a2, a3, a4, k8⟩
  have wb := lw_bd hb (a := 18) (n := 4) (by decide)
  have hb0 := lw_bd hb (a := 22) (n := 4) (by decide)
  obtain ⟨w0, w1⟩ := wb
  obtain ⟨h0, h1⟩ := hb0
  have hrb := hr_bd h0 h1
  obtain ⟨hw1, hw2, hh1, hh2, hwh⟩ := sh_inv (w := hW b) (r := hrV (hH0 b)) w0 hrb.1 hs
  obtain ⟨W, gw⟩ : ∃ W : Nat, hW b = W := ⟨(hW b).toNat, by omega⟩
  obtain ⟨H, gh⟩ : ∃ H : Nat, hrV (hH0 b) = H := ⟨(hrV (hH0 b)).toNat, by omega⟩
  obtain ⟨c, gc, c34⟩ : ∃ c : Nat, hCn b = c ∧ (c = 3 ∨ c = 4) := by
    unfold hCn
    rcases k8 with k | k
    · exact ⟨3, by rw [k]; rfl, .inl rfl⟩
    · exact ⟨4, by rw [k]; rfl, .inr rfl⟩
  rw [gw] at hw1 hw2 hwh
  rw [gh] at hh1 hh2 hwh
  have cwh : ((W * H : Nat) : Int) = (W : Int) * (H : Int) := Int.natCast_mul _ _
  have cwc : ((W * c : Nat) : Int) = (W : Int) * (c : Int) := Int.natCast_mul _ _
  have wcb : 3 ≤ W * c ∧ W * c ≤ 131072 := by rcases c34 with k | k <;> subst k <;> omega
  obtain ⟨st, gst⟩ : ∃ st : Nat, up4 ((W : Int) * (c : Int)) = st := ⟨(up4 ((W : Int) * (c : Int))).toNat, by have := up4_bd ((W : Int) * (c : Int)); omega⟩
  have ub := up4_bd ((W : Int) * (c : Int))
  rw [gst, ← cwc] at ub
  obtain ⟨ub1, ub2, _⟩ := ub
  have sv : strV (W : Int) (c : Int) = (st : Int) := by
    unfold strV
    rw [if_neg (by omega)]; exact gst
  have chs : ((H * st : Nat) : Int) = (st : Int) * (H : Int) := by rw [Int.natCast_mul, Int.mul_comm]
  have hsb : H * st ≤ 32768 * 131075 := Nat.mul_le_mul (by omega) (by omega)
  have qn : rngI .i64 ((st : Int) * (H : Int)) := by rw [← chs]; exact rng64 (by omega) (by omega)
  have gN : hNn b = ((H * st : Nat) : Int) := by unfold hNn; rw [gw, gc, gst, gh, chs]
  have hs' : shC (lw b 18 4) (hrV (lw b 22 4)) = 0 := hs
  have i0 : ∀ x, shI (shC (lw b 18 4) (hrV (lw b 22 4))) x = x := fun x => if_pos hs
  have gw' : shI (shC (lw b 18 4) (hrV (lw b 22 4))) (lw b 18 4) = (W : Int) := by rw [i0]; exact gw
  have gh' : shI (shC (lw b 18 4) (hrV (lw b 22 4))) (hrV (lw b 22 4)) = (H : Int) := by rw [i0]; exact gh
  have gc' : shI (shC (lw b 18 4) (hrV (lw b 22 4))) (lw b 28 2 / 8) = (c : Int) := by rw [i0]; exact gc
  have e0 : rdE b = if (b.length : Int) - 54 < hNn b then 20 else if hNn b < (b.length : Int) - 54 then 22 else if lw b 2 4 = b.length ∧ (lw b 34 4 = 0 ∨ lw b 34 4 = hNn b) then 0 else 21 := by
    unfold rdE; rw [if_neg (fun k => k h), if_neg (fun k => k hs)]
  rw [gN] at e0
  have : (List.take (b).length (List.drop 0 (b))).length = (b).length := by simp
  obtain ⟨z1, z2⟩ := rd_bad hn
  rw [z1, z1, z1, z2]
  by_cases a1 : (b.length : Int) - 54 < ((H * st : Nat) : Int)
  · rw [e0, if_pos a1]
    rw [chs] at a1
    (repeat' (first | (refine And.intro (fun (hfk : _ = true) => ?_) (fun (hfk : _ = false) => ?_) <;> ((try (first | replace hfk := of_decide_eq_true hfk | replace hfk := of_decide_eq_false hfk | simp only [decide_eq_true_eq, decide_eq_false_iff_not, dh1, dh0, ne_eq, reduceCtorEq] at hfk)); (try (exfalso; first | omega | contradiction | exact Bool.noConfusion (Eq.trans (Eq.symm hfk) (by with_reducible assumption : _ = false)) | exact Bool.noConfusion (Eq.trans (Eq.symm hfk) (by with_reducible assumption : _ = true)))))) | (refine And.intro ?ob ?_; (case ob => (first | exact Chk.mk (by kernel_rfl) | exact True.intro | with_reducible assumption | exact rng64 (by omega) (by omega) | omega | (dsimp only; omega) | (show (_ : Nat) ≤ _; omega) | (simp only [ll1, ll2, ll0]; done) | (simp only [ll1, ll2, ll0]; omega) | (dsimp only; simp only [ll1, ll2, ll0]; omega)))) | exact True.intro | (show _ = _; first | with_reducible rfl | with_reducible assumption | omega | (simp only [ll1, ll2, ll0]; omega) | (exact hb; done) | exact rfl) | with_reducible assumption | (apply And.intro) | omega | (intro j hj; exact rfl) | fail))
    (refine ⟨[], ⟨by kernel_rfl⟩, ?_⟩)
    (repeat' (first | (refine And.intro (fun (hfk : _ = true) => ?_) (fun (hfk : _ = false) => ?_) <;> ((try (first | replace hfk := of_decide_eq_true hfk | replace hfk := of_decide_eq_false hfk | simp only [decide_eq_true_eq, decide_eq_false_iff_not, dh1, dh0, ne_eq, reduceCtorEq] at hfk)); (try (exfalso; first | omega | contradiction | exact Bool.noConfusion (Eq.trans (Eq.symm hfk) (by with_reducible assumption : _ = false)) | exact Bool.noConfusion (Eq.trans (Eq.symm hfk) (by with_reducible assumption : _ = true)))))) | (refine And.intro ?ob ?_; (case ob => (first | exact Chk.mk (by kernel_rfl) | exact True.intro | with_reducible assumption | exact rng64 (by omega) (by omega) | omega | (dsimp only; omega) | (show (_ : Nat) ≤ _; omega) | (simp only [ll1, ll2, ll0]; done) | (simp only [ll1, ll2, ll0]; omega) | (dsimp only; simp only [ll1, ll2, ll0]; omega)))) | exact True.intro | (show _ = _; first | with_reducible rfl | with_reducible assumption | omega | (simp only [ll1, ll2, ll0]; omega) | (exact hb; done) | exact rfl) | with_reducible assumption | (apply And.intro) | omega | (intro j hj; exact rfl) | fail))
    (refine ⟨[3, 1, 2], ⟨by kernel_rfl⟩, ?_⟩)
    (repeat' (first | (refine And.intro (fun (hfk : _ = true) => ?_) (fun (hfk : _ = false) => ?_) <;> ((try (first | replace hfk := of_decide_eq_true hfk | replace hfk := of_decide_eq_false hfk | simp only [decide_eq_true_eq, decide_eq_false_iff_not, dh1, dh0, ne_eq, reduceCtorEq] at hfk)); (try (exfalso; first | omega | contradiction | exact Bool.noConfusion (Eq.trans (Eq.symm hfk) (by with_reducible assumption : _ = false)) | exact Bool.noConfusion (Eq.trans (Eq.symm hfk) (by with_reducible assumption : _ = true)))))) | (refine And.intro ?ob ?_; (case ob => (first | exact Chk.mk (by kernel_rfl) | exact True.intro | with_reducible assumption | exact rng64 (by omega) (by omega) | omega | (dsimp only; omega) | (show (_ : Nat) ≤ _; omega) | (simp only [ll1, ll2, ll0]; done) | (simp only [ll1, ll2, ll0]; omega) | (dsimp only; simp only [ll1, ll2, ll0]; omega)))) | exact True.intro | (show _ = _; first | with_reducible rfl | with_reducible assumption | omega | (simp only [ll1, ll2, ll0]; omega) | (exact hb; done) | exact rfl) | with_reducible assumption | (apply And.intro) | omega | (intro j hj; exact rfl) | fail))
    refine ⟨[(0, .roi .u8 b), (2, .ptr 0 0), (4, .ptr 1 0), (5, .ptr 3 0), (6, .int .i64 0)], ⟨4, [(0, some (.cells 40 [.int .i64 0, .int .i64 0, .int .i64 0, .nils])), (1, some (.cells 27 [.sl 2 1 0 b.length, .int .i64 54])), (2, some (bE b)), (3, some (.cells 148 [.int .u32 (lw b 2 4), .int .u32 (lw b 6 4), .int .u32 (lw b 10 4), .int .u32 (lw b 14 4), .int .u32 (lw b 18 4), .int .u32 (lw b 22 4), .int .u32 (lw b 26 2), .int .u32 (lw b 28 2), .int .u32 (lw b 30 4), .int .u32 (lw b 34 4), .int .u32 (lw b 38 4), .int .u32 (lw b 42 4), .int .u32 (lw b 46 4), .int .u32 (lw b 50 4)]))]⟩, [some 0, some 1, some 2, some 3], ?_, ?_⟩
    · (repeat' (first | (refine And.intro ?_ ?_) | exact True.intro | (show _ = _; with_reducible rfl) | exact Chk.mk (by kernel_rfl)))
      all_goals first | exact hk | exact hA | exact hH _ | rfl
    (repeat' (first | (refine And.intro (fun (hfk : _ = true) => ?_) (fun (hfk : _ = false) => ?_) <;> ((try (first | replace hfk := of_decide_eq_true hfk | replace hfk := of_decide_eq_false hfk | simp only [decide_eq_true_eq, decide_eq_false_iff_not, dh1, dh0, ne_eq, reduceCtorEq] at hfk)); (try (exfalso; first | omega | contradiction | exact Bool.noConfusion (Eq.trans (Eq.symm hfk) (by with_reducible assumption : _ = false)) | exact Bool.noConfusion (Eq.trans (Eq.symm hfk) (by with_reducible assumption : _ = true)))))) | (refine And.intro ?ob ?_; (case ob => (first | exact Chk.mk (by kernel_rfl) | exact True.intro | with_reducible assumption | exact rng64 (by omega) (by omega) | omega | (dsimp only; omega) | (show (_ : Nat) ≤ _; omega) | (simp only [ll1, ll2, ll0]; done) | (simp only [ll1, ll2, ll0]; omega) | (dsimp only; simp only [ll1, ll2, ll0]; omega)))) | exact True.intro | (show _ = _; first | with_reducible rfl | with_reducible assumption | omega | (simp only [ll1, ll2, ll0]; omega) | (rfl; done) | exact rfl) | with_reducible assumption | (apply And.intro) | omega | (intro j hj; exact rfl) | fail))
    refine ⟨[(0, .roi .u8 b), (2, .ptr 0 0), (4, .ptr 1 0), (5, .ptr 3 0), (7, .ptr 4 0), (8, .int .i64 0)], ⟨5, [(0, some (.cells 40 [.int .i64 0, .int .i64 0, .int .i64 0, .nils])), (1, some (.cells 27 [.sl 2 1 0 b.length, .int .i64 54])), (2, some (bE b)), (3, some (.cells 148 [.int .u32 (lw b 2 4), .int .u32 (lw b 6 4), .int .u32 (lw b 10 4), .int .u32 (lw b 14 4), .int .u32 (lw b 18 4), .int .u32 (lw b 22 4), .int .u32 (lw b 26 2), .int .u32 (lw b 28 2), .int .u32 (lw b 30 4), .int .u32 (lw b 34 4), .int .u32 (lw b 38 4), .int .u32 (lw b 42 4), .int .u32 (lw b 46 4), .int .u32 (lw b 50 4)])), (4, some (.cells 40 [.int .i64 (W : Int), .int .i64 (H : Int), .int .i64 (c : Int), .nils]))]⟩, [some 0, some 1, some 2, some 3, some 4], ?_, ?_⟩
    · (repeat' (first | (refine And.intro ?_ ?_) | exact True.intro | (show _ = _; with_reducible rfl) | exact Chk.mk (by kernel_rfl)))
      all_goals first | exact hs' | exact gw' | exact gh' | exact gc' | rfl
    (repeat' (first | (refine And.intro (fun (hfk : _ = true) => ?_) (fun (hfk : _ = false) => ?_) <;> ((try (first | replace hfk := of_decide_eq_true hfk | replace hfk := of_decide_eq_false hfk | simp only [decide_eq_true_eq, decide_eq_false_iff_not, dh1, dh0, ne_eq, reduceCtorEq] at hfk)); (try (exfalso; first | omega | contradiction | exact Bool.noConfusion (Eq.trans (Eq.symm hfk) (by with_reducible assumption : _ = false)) | exact Bool.noConfusion (Eq.trans (Eq.symm hfk) (by with_reducible assumption : _ = true)))))) | (refine And.intro ?ob ?_; (case ob => (first | exact Chk.mk (by kernel_rfl) | exact True.intro | with_reducible assumption | exact rng64 (by omega) (by omega) | omega | (dsimp only; omega) | (show (_ : Nat) ≤ _; omega) | (simp only [ll1, ll2, ll0]; done) | (simp only [ll1, ll2, ll0]; omega) | (dsimp only; simp only [ll1, ll2, ll0]; omega)))) | exact True.intro | (show _ = _; first | with_reducible rfl | with_reducible assumption | omega | (simp only [ll1, ll2, ll0]; omega) | (rfl; done) | exact rfl) | with_reducible assumption | (apply And.intro) | omega | (intro j hj; exact rfl) | fail))
    refine ⟨[(0, .roi .u8 b), (2, .ptr 0 0), (4, .ptr 1 0), (5, .ptr 3 0), (7, .ptr 4 0), (9, .int .i64 (st : Int))], ⟨5, [(0, some (.cells 40 [.int .i64 0, .int .i64 0, .int .i64 0, .nils])), (1, some (.cells 27 [.sl 2 1 0 b.length, .int .i64 54])), (2, some (bE b)), (3, some (.cells 148 [.int .u32 (lw b 2 4), .int .u32 (lw b 6 4), .int .u32 (lw b 10 4), .int .u32 (lw b 14 4), .int .u32 (lw b 18 4), .int .u32 (lw b 22 4), .int .u32 (lw b 26 2), .int .u32 (lw b 28 2), .int .u32 (lw b 30 4), .int .u32 (lw b 34 4), .int .u32 (lw b 38 4), .int .u32 (lw b 42 4), .int .u32 (lw b 46 4), .int .u32 (lw b 50 4)])), (4, some (.cells 40 [.int .i64 (W : Int), .int .i64 (H : Int), .int .i64 (c : Int), .nils]))]⟩, [some 0, some 1, some 2, some 3, some 4], ?_, ?_⟩
    · (repeat' (first | (refine And.intro ?_ ?_) | exact True.intro | (show _ = _; with_reducible rfl) | exact Chk.mk (by kernel_rfl)))
      all_goals first | exact sv | rfl
    (repeat' (first | (refine And.intro (fun (hfk : _ = true) => ?_) (fun (hfk : _ = false) => ?_) <;> ((try (first | replace hfk := of_decide_eq_true hfk | replace hfk := of_decide_eq_false hfk | simp only [decide_eq_true_eq, decide_eq_false_iff_not, dh1, dh0, ne_eq, reduceCtorEq] at hfk)); (try (exfalso; first | omega | contradiction | exact Bool.noConfusion (Eq.trans (Eq.symm hfk) (by with_reducible assumption : _ = false)) | exact Bool.noConfusion (Eq.trans (Eq.symm hfk) (by with_reducible assumption : _ = true)))))) | (refine And.intro ?ob ?_; (case ob => (first | exact Chk.mk (by kernel_rfl) | exact True.intro | with_reducible assumption | exact rng64 (by omega) (by omega) | omega | (dsimp only; omega) | (show (_ : Nat) ≤ _; omega) | (simp only [ll1, ll2, ll0]; done) | (simp only [ll1, ll2, ll0]; omega) | (dsimp only; simp only [ll1, ll2, ll0]; omega)))) | exact True.intro | (show _ = _; first | with_reducible rfl | with_reducible assumption | omega | (simp only [ll1, ll2, ll0]; omega) | (rfl; done) | exact rfl) | with_reducible assumption | (apply And.intro) | omega | (intro j hj; exact rfl) | fail))
  rw [if_neg a1] at e0
  by_cases a2 : ((H * st : Nat) : Int) < (b.length : Int) - 54
  · rw [e0, if_pos a2]
    rw [chs] at a1 a2
    (repeat' (first | (refine And.intro (fun (hfk : _ = true) => ?_) (fun (hfk : _ = false) => ?_) <;> ((try (first | replace hfk := of_decide_eq_true hfk | replace hfk := of_decide_eq_false hfk | simp only [decide_eq_true_eq, decide_eq_false_iff_not, dh1, dh0, ne_eq, reduceCtorEq] at hfk)); (try (exfalso; first | omega | contradiction | exact Bool.noConfusion (Eq.trans (Eq.symm hfk) (by with_reducible assumption : _ = false)) | exact Bool.noConfusion (Eq.trans (Eq.symm hfk) (by with_reducible assumption : _ = true)))))) | (refine And.intro ?ob ?_; (case ob => (first | exact Chk.mk (by kernel_rfl) | exact True.intro | with_reducible assumption | exact rng64 (by omega) (by omega) | omega | (dsimp only; omega) | (show (_ : Nat) ≤ _; omega) | (simp only [ll1, ll2, ll0]; done) | (simp only [ll1, ll2, ll0]; omega) | (dsimp only; simp only [ll1, ll2, ll0]; omega)))) | exact True.intro | (show _ = _; first | with_reducible rfl | with_reducible assumption | omega | (simp only [ll1, ll2, ll0]; omega) | (exact hb; done) | exact rfl) | with_reducible assumption | (apply And.intro) | omega | (intro j hj; exact rfl) | fail))
    (refine ⟨[], ⟨by kernel_rfl⟩, ?_⟩)
    (repeat' (first | (refine And.intro (fun (hfk : _ = true) => ?_) (fun (hfk : _ = false) => ?_) <;> ((try (first | replace hfk := of_decide_eq_true hfk | replace hfk := of_decide_eq_false hfk | simp only [decide_eq_true_eq, decide_eq_false_iff_not, dh1, dh0, ne_eq, reduceCtorEq] at hfk)); (try (exfalso; first | omega | contradiction | exact Bool.noConfusion (Eq.trans (Eq.symm hfk) (by with_reducible assumption : _ = false)) | exact Bool.noConfusion (Eq.trans (Eq.symm hfk) (by with_reducible assumption : _ = true)))))) | (refine And.intro ?ob ?_; (case ob => (first | exact Chk.mk (by kernel_rfl) | exact True.intro | with_reducible assumption | exact rng64 (by omega) (by omega) | omega | (dsimp only; omega) | (show (_ : Nat) ≤ _; omega) | (simp only [ll1, ll2, ll0]; done) | (simp only [ll1, ll2, ll0]; omega) | (dsimp only; simp only [ll1, ll2, ll0]; omega)))) | exact True.intro | (show _ = _; first | with_reducible rfl | with_reducible assumption | omega | (simp only [ll1, ll2, ll0]; omega) | (exact hb; done) | exact rfl) | with_reducible assumption | (apply And.intro) | omega | (intro j hj; exact rfl) | fail))
    (refine ⟨[3, 1, 2], ⟨by kernel_rfl⟩, ?_⟩)
    (repeat' (first | (refine And.intro (fun (hfk : _ = true) => ?_) (fun (hfk : _ = false) => ?_) <;> ((try (first | replace hfk := of_decide_eq_true hfk | replace hfk := of_decide_eq_false hfk | simp only [decide_eq_true_eq, decide_eq_false_iff_not, dh1, dh0, ne_eq, reduceCtorEq] at hfk)); (try (exfalso; first | omega | contradiction | exact Bool.noConfusion (Eq.trans (Eq.symm hfk) (by with_reducible assumption : _ = false)) | exact Bool.noConfusion (Eq.trans (Eq.symm hfk) (by with_reducible assumption : _ = true)))))) | (refine And.intro ?ob ?_; (case ob => (first | exact Chk.mk (by kernel_rfl) | exact True.intro | with_reducible assumption | exact rng64 (by omega) (by omega) | omega | (dsimp only; omega) | (show (_ : Nat) ≤ _; omega) | (simp only [ll1, ll2, ll0]; done) | (simp only [ll1, ll2, ll0]; omega) | (dsimp only; simp only [ll1, ll2, ll0]; omega)))) | exact True.intro | (show _ = _; first | with_reducible rfl | with_reducible assumption | omega | (simp only [ll1, ll2, ll0]; omega) | (exact hb; done) | exact rfl) | with_reducible assumption | (apply And.intro) | omega | (intro j hj; exact rfl) | fail))
    refine ⟨[(0, .roi .u8 b), (2, .ptr 0 0), (4, .ptr 1 0), (5, .ptr 3 0), (6, .int .i64 0)], ⟨4, [(0, some (.cells 40 [.int .i64 0, .int .i64 0, .int .i64 0, .nils])), (1, some (.cells 27 [.sl 2 1 0 b.length, .int .i64 54])), (2, some (bE b)), (3, some (.cells 148 [.int .u32 (lw b 2 4), .int .u32 (lw b 6 4), .int .u32 (lw b 10 4), .int .u32 (lw b 14 4), .int .u32 (lw b 18 4), .int .u32 (lw b 22 4), .int .u32 (lw b 26 2), .int .u32 (lw b 28 2), .int .u32 (lw b 30 4), .int .u32 (lw b 34 4), .int .u32 (lw b 38 4), .int .u32 (lw b 42 4), .int .u32 (lw b 46 4), .int .u32 (lw b 50 4)]))]⟩, [some 0, some 1, some 2, some 3], ?_, ?_⟩
    · (repeat' (first | (refine And.intro ?_ ?_) | exact True.intro | (show _ = _; with_reducible rfl) | exact Chk.mk (by kernel_rfl)))
      all_goals first | exact hk | exact hA | exact hH _ | rfl
    (repeat' (first | (refine And.intro (fun (hfk : _ = true) => ?_) (fun (hfk : _ = false) => ?_) <;> ((try (first | replace hfk := of_decide_eq_true hfk | replace hfk := of_decide_eq_false hfk | simp only [decide_eq_true_eq, decide_eq_false_iff_not, dh1, dh0, ne_eq, reduceCtorEq] at hfk)); (try (exfalso; first | omega | contradiction | exact Bool.noConfusion (Eq.trans (Eq.symm hfk) (by with_reducible assumption : _ = false)) | exact Bool.noConfusion (Eq.trans (Eq.symm hfk) (by with_reducible assumption : _ = true)))))) | (refine And.intro ?ob ?_; (case ob => (first | exact Chk.mk (by kernel_rfl) | exact True.intro | with_reducible assumption | exact rng64 (by omega) (by omega) | omega | (dsimp only; omega) | (show (_ : Nat) ≤ _; omega) | (simp only [ll1, ll2, ll0]; done) | (simp only [ll1, ll2, ll0]; omega) | (dsimp only; simp only [ll1, ll2, ll0]; omega)))) | exact True.intro | (show _ = _; first | with_reducible rfl | with_reducible assumption | omega | (simp only [ll1, ll2, ll0]; omega) | (rfl; done) | exact rfl) | with_reducible assumption | (apply And.intro) | omega | (intro j hj; exact rfl) | fail))
    refine ⟨[(0, .roi .u8 b), (2, .ptr 0 0), (4, .ptr 1 0), (5, .ptr 3 0), (7, .ptr 4 0), (8, .int .i64 0)], ⟨5, [(0, some (.cells 40 [.int .i64 0, .int .i64 0, .int .i64 0, .nils])), (1, some (.cells 27 [.sl 2 1 0 b.length, .int .i64 54])), (2, some (bE b)), (3, some (.cells 148 [.int .u32 (lw b 2 4), .int .u32 (lw b 6 4), .int .u32 (lw b 10 4), .int .u32 (lw b 14 4), .int .u32 (lw b 18 4), .int .u32 (lw b 22 4), .int .u32 (lw b 26 2), .int .u32 (lw b 28 2), .int .u32 (lw b 30 4), .int .u32 (lw b 34 4), .int .u32 (lw b 38 4), .int .u32 (lw b 42 4), .int .u32 (lw b 46 4), .int .u32 (lw b 50 4)])), (4, some (.cells 40 [.int .i64 (W : Int), .int .i64 (H : Int), .int .i64 (c : Int), .nils]))]⟩, [some 0, some 1, some 2, some 3, some 4], ?_, ?_⟩
    · (repeat' (first | (refine And.intro ?_ ?_) | exact True.intro | (show _ = _; with_reducible rfl) | exact Chk.mk (by kernel_rfl)))
      all_goals first | exact hs' | exact gw' | exact gh' | exact gc' | rfl
    (repeat' (first | (refine And.intro (fun (hfk : _ = true) => ?_) (fun (hfk : _ = false) => ?_) <;> ((try (first | replace hfk := of_decide_eq_true hfk | replace hfk := of_decide_eq_false hfk | simp only [decide_eq_true_eq, decide_eq_false_iff_not, dh1, dh0, ne_eq, reduceCtorEq] at hfk)); (try (exfalso; first | omega | contradiction | exact Bool.noConfusion (Eq.trans (Eq.symm hfk) (by with_reducible assumption : _ = false)) | exact Bool.noConfusion (Eq.trans (Eq.symm hfk) (by with_reducible assumption : _ = true)))))) | (refine And.intro ?ob ?_; (case ob => (first | exact Chk.mk (by kernel_rfl) | exact True.intro | with_reducible assumption | exact rng64 (by omega) (by omega) | omega | (dsimp only; omega) | (show (_ : Nat) ≤ _; omega) | (simp only [ll1, ll2, ll0]; done) | (simp only [ll1, ll2, ll0]; omega) | (dsimp only; simp only [ll1, ll2, ll0]; omega)))) | exact True.intro | (show _ = _; first | with_reducible rfl | with_reducible assumption | omega | (simp only [ll1, ll2, ll0]; omega) | (rfl; done) | exact rfl) | with_reducible assumption | (apply And.intro) | omega | (intro j hj; exact rfl) | fail))
    refine ⟨[(0, .roi .u8 b), (2, .ptr 0 0), (4, .ptr 1 0), (5, .ptr 3 0), (7, .ptr 4 0), (9, .int .i64 (st : Int))], ⟨5, [(0, some (.cells 40 [.int .i64 0, .int .i64 0, .int .i64 0, .nils])), (1, some (.cells 27 [.sl 2 1 0 b.length, .int .i64 54])), (2, some (bE b)), (3, some (.cells 148 [.int .u32 (lw b 2 4), .int .u32 (lw b 6 4), .int .u32 (lw b 10 4), .int .u32 (lw b 14 4), .int .u32 (lw b 18 4), .int .u32 (lw b 22 4), .int .u32 (lw b 26 2), .int .u32 (lw b 28 2), .int .u32 (lw b 30 4), .int .u32 (lw b 34 4), .int .u32 (lw b 38 4), .int .u32 (lw b 42 4), .int .u32 (lw b 46 4), .int .u32 (lw b 50 4)])), (4, some (.cells 40 [.int .i64 (W : Int), .int .i64 (H : Int), .int .i64 (c : Int), .nils]))]⟩, [some 0, some 1, some 2, some 3, some 4], ?_, ?_⟩
    · (repeat' (first | (refine And.intro ?_ ?_) | exact True.intro | (show _ = _; with_reducible rfl) | exact Chk.mk (by kernel_rfl)))
      all_goals first | exact sv | rfl
    (repeat' (first | (refine And.intro (fun (hfk : _ = true) => ?_) (fun (hfk : _ = false) => ?_) <;> ((try (first | replace hfk := of_decide_eq_true hfk | replace hfk := of_decide_eq_false hfk | simp only [decide_eq_true_eq, decide_eq_false_iff_not, dh1, dh0, ne_eq, reduceCtorEq] at hfk)); (try (exfalso; first | omega | contradiction | exact Bool.noConfusion (Eq.trans (Eq.symm hfk) (by with_reducible assumption : _ = false)) | exact Bool.noConfusion (Eq.trans (Eq.symm hfk) (by with_reducible assumption : _ = true)))))) | (refine And.intro ?ob ?_; (case ob => (first | exact Chk.mk (by kernel_rfl) | exact True.intro | with_reducible assumption | exact rng64 (by omega) (by omega) | omega | (dsimp only; omega) | (show (_ : Nat) ≤ _; omega) | (simp only [ll1, ll2, ll0]; done) | (simp only [ll1, ll2, ll0]; omega) | (dsimp only; simp only [ll1, ll2, ll0]; omega)))) | exact True.intro | (show _ = _; first | with_reducible rfl | with_reducible assumption | omega | (simp only [ll1, ll2, ll0]; omega) | (rfl; done) | exact rfl) | with_reducible assumption | (apply And.intro) | omega | (intro j hj; exact rfl) | fail))
  rw [if_neg a2] at e0
  have a3 : ¬ (lw b 2 4 = b.length ∧ (lw b 34 4 = 0 ∨ lw b 34 4 = ((H * st : Nat) : Int))) := fun k => hn (by rw [e0, if_pos k])
  rw [e0, if_neg a3]
  have a4 : decide (lw b 2 4 = (b.length : Int) ∧ (lw b 34 4 = 0 ∨ lw b 34 4 = (b.length : Int) - 54)) = false := decide_eq_false fun k => a3 ⟨k.1, k.2.imp id fun k => by omega⟩
  rw [chs] at a1 a2
  (repeat' (first | (refine And.intro (fun (hfk : _ = true) => ?_) (fun (hfk : _ = false) => ?_) <;> ((try (first | replace hfk := of_decide_eq_true hfk | replace hfk := of_decide_eq_false hfk | simp only [decide_eq_true_eq, decide_eq_false_iff_not, dh1, dh0, ne_eq, reduceCtorEq] at hfk)); (try (exfalso; first | omega | contradiction | exact Bool.noConfusion (Eq.trans (Eq.symm hfk) (by with_reducible assumption : _ = false)) | exact Bool.noConfusion (Eq.trans (Eq.symm hfk) (by with_reducible assumption : _ = true)))))) | (refine And.intro ?ob ?_; (case ob => (first | exact Chk.mk (by kernel_rfl) | exact True.intro | with_reducible assumption | exact rng64 (by omega) (by omega) | omega | (dsimp only; omega) | (show (_ : Nat) ≤ _; omega) | (simp only [ll1, ll2, ll0]; done) | (simp only [ll1, ll2, ll0]; omega) | (dsimp only; simp only [ll1, ll2, ll0]; omega)))) | exact True.intro | (show _ = _; first | with_reducible rfl | with_reducible assumption | omega | (simp only [ll1, ll2, ll0]; omega) | (exact hb; done) | exact rfl) | with_reducible assumption | (apply And.intro) | omega | (intro j hj; exact rfl) | fail))
  (refine ⟨[], ⟨by kernel_rfl⟩, ?_⟩)
  (repeat' (first | (refine And.intro (fun (hfk : _ = true) => ?_) (fun (hfk : _ = false) => ?_) <;> ((try (first | replace hfk := of_decide_eq_true hfk | replace hfk := of_decide_eq_false hfk | simp only [decide_eq_true_eq, decide_eq_false_iff_not, dh1, dh0, ne_eq, reduceCtorEq] at hfk)); (try (exfalso; first | omega | contradiction | exact Bool.noConfusion (Eq.trans (Eq.symm hfk) (by with_reducible assumption : _ = false)) | exact Bool.noConfusion (Eq.trans (Eq.symm hfk) (by with_reducible assumption : _ = true)))))) | (refine And.intro ?ob ?_; (case ob => (first | exact Chk.mk (by kernel_rfl) | exact True.intro | with_reducible assumption | exact rng64 (by omega) (by omega) | omega | (dsimp only; omega) | (show (_ : Nat) ≤ _; omega) | (simp only [ll1, ll2, ll0]; done) | (simp only [ll1, ll2, ll0]; omega) | (dsimp only; simp only [ll1, ll2, ll0]; omega)))) | exact True.intro | (show _ = _; first | with_reducible rfl | with_reducible assumption | omega | (simp only [ll1, ll2, ll0]; omega) | (exact hb; done) | exact rfl) | with_reducible assumption | (apply And.intro) | omega | (intro j hj; exact rfl) | fail))
  (refine ⟨[3, 1, 2], ⟨by kernel_rfl⟩, ?_⟩)
  (repeat' (first | (refine And.intro (fun (hfk : _ = true) => ?_) (fun (hfk : _ = false) => ?_) <;> ((try (first | replace hfk := of_decide_eq_true hfk | replace hfk := of_decide_eq_false hfk | simp only [decide_eq_true_eq, decide_eq_false_iff_not, dh1, dh0, ne_eq, reduceCtorEq] at hfk)); (try (exfalso; first | omega | contradiction | exact Bool.noConfusion (Eq.trans (Eq.symm hfk) (by with_reducible assumption : _ = false)) | exact Bool.noConfusion (Eq.trans (Eq.symm hfk) (by with_reducible assumption : _ = true)))))) | (refine And.intro ?ob ?_; (case ob => (first | exact Chk.mk (by kernel_rfl) | exact True.intro | with_reducible assumption | exact rng64 (by omega) (by omega) | omega | (dsimp only; omega) | (show (_ : Nat) ≤ _; omega) | (simp only [ll1, ll2, ll0]; done) | (simp only [ll1, ll2, ll0]; omega) | (dsimp only; simp only [ll1, ll2, ll0]; omega)))) | exact True.intro | (show _ = _; first | with_reducible rfl | with_reducible assumption | omega | (simp only [ll1, ll2, ll0]; omega) | (exact hb; done) | exact rfl) | with_reducible assumption | (apply And.intro) | omega | (intro j hj; exact rfl) | fail))
  refine ⟨[(0, .roi .u8 b), (2, .ptr 0 0), (4, .ptr 1 0), (5, .ptr 3 0), (6, .int .i64 0)], ⟨4, [(0, some (.cells 40 [.int .i64 0, .int .i64 0, .int .i64 0, .nils])), (1, some (.cells 27 [.sl 2 1 0 b.length, .int .i64 54])), (2, some (bE b)), (3, some (.cells 148 [.int .u32 (lw b 2 4), .int .u32 (lw b 6 4), .int .u32 (lw b 10 4), .int .u32 (lw b 14 4), .int .u32 (lw b 18 4), .int .u32 (lw b 22 4), .int .u32 (lw b 26 2), .int .u32 (lw b 28 2), .int .u32 (lw b 30 4), .int .u32 (lw b 34 4), .int .u32 (lw b 38 4), .int .u32 (lw b 42 4), .int .u32 (lw b 46 4), .int .u32 (lw b 50 4)]))]⟩, [some 0, some 1, some 2, some 3], ?_, ?_⟩
  · (repeat' (first | (refine And.intro ?_ ?_) | exact True.intro | (show _ = _; with_reducible rfl) | exact Chk.mk (by kernel_rfl)))
    all_goals first | exact hk | exact hA | exact hH _ | rfl
  (repeat' (first | (refine And.intro (fun (hfk : _ = true) => ?_) (fun (hfk : _ = false) => ?_) <;> ((try (first | replace hfk := of_decide_eq_true hfk | replace hfk := of_decide_eq_false hfk | simp only [decide_eq_true_eq, decide_eq_false_iff_not, dh1, dh0, ne_eq, reduceCtorEq] at hfk)); (try (exfalso; first | omega | contradiction | exact Bool.noConfusion (Eq.trans (Eq.symm hfk) (by with_reducible assumption : _ = false)) | exact Bool.noConfusion (Eq.trans (Eq.symm hfk) (by with_reducible assumption : _ = true)))))) | (refine And.intro ?ob ?_; (case ob => (first | exact Chk.mk (by kernel_rfl) | exact True.intro | with_reducible assumption | exact rng64 (by omega) (by omega) | omega | (dsimp only; omega) | (show (_ : Nat) ≤ _; omega) | (simp only [ll1, ll2, ll0]; done) | (simp only [ll1, ll2, ll0]; omega) | (dsimp only; simp only [ll1, ll2, ll0]; omega)))) | exact True.intro | (show _ = _; first | with_reducible rfl | with_reducible assumption | omega | (simp only [ll1, ll2, ll0]; omega) | (rfl; done) | exact rfl) | with_reducible assumption | (apply And.intro) | omega | (intro j hj; exact rfl) | fail))
  refine ⟨[(0, .roi .u8 b), (2, .ptr 0 0), (4, .ptr 1 0), (5, .ptr 3 0), (7, .ptr 4 0), (8, .int .i64 0)], ⟨5, [(0, some (.cells 40 [.int .i64 0, .int .i64 0, .int .i64 0, .nils])), (1, some (.cells 27 [.sl 2 1 0 b.length, .int .i64 54])), (2, some (bE b)), (3, some (.cells 148 [.int .u32 (lw b 2 4), .int .u32 (lw b 6 4), .int .u32 (lw b 10 4), .int .u32 (lw b 14 4), .int .u32 (lw b 18 4), .int .u32 (lw b 22 4), .int .u32 (lw b 26 2), .int .u32 (lw b 28 2), .int .u32 (lw b 30 4), .int .u32 (lw b 34 4), .int .u32 (lw b 38 4), .int .u32 (lw b 42 4), .int .u32 (lw b 46 4), .int .u32 (lw b 50 4)])), (4, some (.cells 40 [.int .i64 (W : Int), .int .i64 (H : Int), .int .i64 (c : Int), .nils]))]⟩, [some 0, some 1, some 2, some 3, some 4], ?_, ?_⟩
  · (repeat' (first | (refine And.intro ?_ ?_) | exact True.intro | (show _ = _; with_reducible rfl) | exact Chk.mk (by kernel_rfl)))
    all_goals first | exact hs' | exact gw' | exact gh' | exact gc' | rfl
  (repeat' (first | (refine And.intro (fun (hfk : _ = true) => ?_) (fun (hfk : _ = false) => ?_) <;> ((try (first | replace hfk := of_decide_eq_true hfk | replace hfk := of_decide_eq_false hfk | simp only [decide_eq_true_eq, decide_eq_false_iff_not, dh1, dh0, ne_eq, reduceCtorEq] at hfk)); (try (exfalso; first | omega | contradiction | exact Bool.noConfusion (Eq.trans (Eq.symm hfk) (by with_reducible assumption : _ = false)) | exact Bool.noConfusion (Eq.trans (Eq.symm hfk) (by with_reducible assumption : _ = true)))))) | (refine And.intro ?ob ?_; (case ob => (first | exact Chk.mk (by kernel_rfl) | exact True.intro | with_reducible assumption | exact rng64 (by omega) (by omega) | omega | (dsimp only; omega) | (show (_ : Nat) ≤ _; omega) | (simp only [ll1, ll2, ll0]; done) | (simp only [ll1, ll2, ll0]; omega) | (dsimp only; simp only [ll1, ll2, ll0]; omega)))) | exact True.intro | (show _ = _; first | with_reducible rfl | with_reducible assumption | omega | (simp only [ll1, ll2, ll0]; omega) | (rfl; done) | exact rfl) | with_reducible assumption | (apply And.intro) | omega | (intro j hj; exact rfl) | fail))
  refine ⟨[(0, .roi .u8 b), (2, .ptr 0 0), (4, .ptr 1 0), (5, .ptr 3 0), (7, .ptr 4 0), (9, .int .i64 (st : Int))], ⟨5, [(0, some (.cells 40 [.int .i64 0, .int .i64 0, .int .i64 0, .nils])), (1, some (.cells 27 [.sl 2 1 0 b.length, .int .i64 54])), (2, some (bE b)), (3, some (.cells 148 [.int .u32 (lw b 2 4), .int .u32 (lw b 6 4), .int .u32 (lw b 10 4), .int .u32 (lw b 14 4), .int .u32 (lw b 18 4), .int .u32 (lw b 22 4), .int .u32 (lw b 26 2), .int .u32 (lw b 28 2), .int .u32 (lw b 30 4), .int .u32 (lw b 34 4), .int .u32 (lw b 38 4), .int .u32 (lw b 42 4), .int .u32 (lw b 46 4), .int .u32 (lw b 50 4)])), (4, some (.cells 40 [.int .i64 (W : Int), .int .i64 (H : Int), .int .i64 (c : Int), .nils]))]⟩, [some 0, some 1, some 2, some 3, some 4], ?_, ?_⟩
  · (repeat' (first | (refine And.intro ?_ ?_) | exact True.intro | (show _ = _; with_reducible rfl) | exact Chk.mk (by kernel_rfl)))
    all_goals first | exact sv | rfl
  (repeat' (first | (refine And.intro (fun (hfk : _ = true) => ?_) (fun (hfk : _ = false) => ?_) <;> ((try (first | replace hfk := of_decide_eq_true hfk | replace hfk := of_decide_eq_false hfk | simp only [decide_eq_true_eq, decide_eq_false_iff_not, dh1, dh0, ne_eq, reduceCtorEq] at hfk)); (try (exfalso; first | omega | contradiction | exact Bool.noConfusion (Eq.trans (Eq.symm hfk) (by with_reducible assumption : _ = false)) | exact Bool.noConfusion (Eq.trans (Eq.symm hfk) (by with_reducible assumption : _ = true)))))) | (refine And.intro ?ob ?_; (case ob => (first | exact Chk.mk (by kernel_rfl) | exact True.intro | with_reducible assumption | exact rng64 (by omega) (by omega) | omega | (dsimp only; omega) | (show (_ : Nat) ≤ _; omega) | (simp only [ll1, ll2, ll0]; done) | (simp only [ll1, ll2, ll0]; omega) | (dsimp only; simp only [ll1, ll2, ll0]; omega)))) | exact True.intro | (show _ = _; first | with_reducible rfl | with_reducible assumption | omega | (simp only [ll1, ll2, ll0]; omega) | (rfl; done) | exact rfl) | with_reducible assumption | (apply And.intro) | omega | (intro j hj; exact rfl) | fail))
/-- Which rows stand, y rows having come. -/
def fil (dn : Bool) (H y r : Nat) : Bool := if dn = true then decide (r < y) else decide (H ≤ r + y)
theorem fil_next {dn : Bool} {H y r : Nat} (hy : y < H) (hr : r < H) : fil dn H (y + 1) r = (decide (r = fr dn H y) || fil dn H y r) := by
  unfold fil fr
  cases dn
  · simp only [Bool.false_eq_true, if_false]
    by_cases h1 : H ≤ r + y
    · rw [decide_eq_true h1, decide_eq_true (by omega)]; simp
    · by_cases h2 : r = H - 1 - y
      · rw [decide_eq_true h2, decide_eq_true (by omega)]; rfl
      · rw [decide_eq_false h2, decide_eq_false h1, decide_eq_false (by omega)]; rfl
  · simp only [if_true]
    by_cases h1 : r < y
    · rw [decide_eq_true h1, decide_eq_true (by omega)]; simp
    · by_cases h2 : r = y
      · rw [decide_eq_true h2, decide_eq_true (by omega)]; rfl
      · rw [decide_eq_false h2, decide_eq_false h1, decide_eq_false (by omega)]; rfl
def pxk (dn : Bool) (H wc : Nat) (R : Nat → List Int) (y r : Nat) : List Int := if fil dn H y r = true then R r else List.replicate wc 0
theorem fr_fr {dn : Bool} {H y : Nat} (h : y < H) : fr dn H (fr dn H y) = y := by unfold fr; split <;> omega
theorem tk_good {b : List Int} (hb : Byt b) (e : rdE b = 0) : vcFn rpCx Try.f32 [.roi .u8 b] ⟨0, []⟩ (Ret (.tup [imA (rdK b (hW b)) (rdK b (hrV (hH0 b))) (rdK b (hCn b)) (rdL b), .int .i64 (rdE b)])) := by
  have hg0 := gd_of hb e
  have h : hdE b = 0 := hg0.hd
  have hk : tkC b = 0 := by
    have := h
    rw [hd_take] at this
    split at this
    · rename_i k; exact absurd this k
    · rename_i k; exact Classical.not_not.1 k
  have hs : shC (hW b) (hrV (hH0 b)) = 0 := by
    have := e
    unfold rdE at this
    rw [if_neg (fun k => k h)] at this
    split at this
    · rename_i k; exact absurd this k
    · rename_i k; exact Classical.not_not.1 k
  have bl := hb.le
  have hH : ∀ F : Int, (if tkC b = 0 then F else 0) = F := fun F => if_pos hk
  have hA : tkA b = 54 := by unfold tkC at hk; unfold tkA; split at hk; · rename_i k; exact absurd hk k
                             rename_i k; rw [if_neg k]; split at hk; · cases hk
                             rename_i k2; rw [if_neg k2]
  have hl54 : 54 ≤ b.length := by unfold tkC at hk; split at hk; · rename_i k; exact absurd hk k
                                  split at hk; · cases hk
                                  omega
  have hd := h
  obtain ⟨_, _, k6, k7, k8⟩ := hd_inv hd
  have hf : fmP (lw b 6 4) (lw b 10 4) (lw b 14 4) (lw b 26 2) (lw b 28 2) (lw b 30 4) (lw b 46 4) (lw b 50 4) := by
    obtain ⟨a1, a2, a3, a4, a5, a6, a7⟩ := k7
    exact ⟨a1, a5, a6, a7, a2, a3, a4, k8⟩
  have wb := lw_bd hb (a := 18) (n := 4) (by decide)
  have hb0 := lw_bd hb (a := 22) (n := 4) (by decide)
  obtain ⟨w0, w1⟩ := wb
  obtain ⟨h0, h1⟩ := hb0
  have hrb := hr_bd h0 h1
  obtain ⟨hw1, hw2, hh1, hh2, hwh⟩ := sh_inv (w := hW b) (r := hrV (hH0 b)) w0 hrb.1 hs
  obtain ⟨W, gw⟩ : ∃ W : Nat, hW b = W := ⟨(hW b).toNat, by omega⟩
  obtain ⟨H, gh⟩ : ∃ H : Nat, hrV (hH0 b) = H := ⟨(hrV (hH0 b)).toNat, by omega⟩
  obtain ⟨c, gc, c34⟩ : ∃ c : Nat, hCn b = c ∧ (c = 3 ∨ c = 4) := by
    unfold hCn
    rcases k8 with k | k
    · exact ⟨3, by rw [k]; rfl, .inl rfl⟩
    · exact ⟨4, by rw [k]; rfl, .inr rfl⟩
  rw [gw] at hw1 hw2 hwh
  rw [gh] at hh1 hh2 hwh
  have cwh : ((W * H : Nat) : Int) = (W : Int) * (H : Int) := Int.natCast_mul _ _
  have cwc : ((W * c : Nat) : Int) = (W : Int) * (c : Int) := Int.natCast_mul _ _
  have wcb : 3 ≤ W * c ∧ W * c ≤ 131072 := by rcases c34 with k | k <;> subst k <;> omega
  obtain ⟨st, gst⟩ : ∃ st : Nat, up4 ((W : Int) * (c : Int)) = st := ⟨(up4 ((W : Int) * (c : Int))).toNat, by have := up4_bd ((W : Int) * (c : Int)); omega⟩
  have ub := up4_bd ((W : Int) * (c : Int))
  rw [gst, ← cwc] at ub
  obtain ⟨ub1, ub2, _⟩ := ub
  have sv : strV (W : Int) (c : Int) = (st : Int) := by
    unfold strV
    rw [if_neg (by omega)]; exact gst
  have chs : ((H * st : Nat) : Int) = (st : Int) * (H : Int) := by rw [Int.natCast_mul, Int.mul_comm]
  have hsb : H * st ≤ 32768 * 131075 := Nat.mul_le_mul (by omega) (by omega)
  have qn : rngI .i64 ((st : Int) * (H : Int)) := by rw [← chs]; exact rng64 (by omega) (by omega)
  have gN : hNn b = ((H * st : Nat) : Int) := by unfold hNn; rw [gw, gc, gst, gh, chs]
  have hs' : shC (lw b 18 4) (hrV (lw b 22 4)) = 0 := hs
  have i0 : ∀ x, shI (shC (lw b 18 4) (hrV (lw b 22 4))) x = x := fun x => if_pos hs
  have gw' : shI (shC (lw b 18 4) (hrV (lw b 22 4))) (lw b 18 4) = (W : Int) := by rw [i0]; exact gw
  have gh' : shI (shC (lw b 18 4) (hrV (lw b 22 4))) (hrV (lw b 22 4)) = (H : Int) := by rw [i0]; exact gh
  have gc' : shI (shC (lw b 18 4) (hrV (lw b 22 4))) (lw b 28 2 / 8) = (c : Int) := by rw [i0]; exact gc
  have e0 : rdE b = if (b.length : Int) - 54 < hNn b then 20 else if hNn b < (b.length : Int) - 54 then 22 else if lw b 2 4 = b.length ∧ (lw b 34 4 = 0 ∨ lw b 34 4 = hNn b) then 0 else 21 := by
    unfold rdE; rw [if_neg (fun k => k h), if_neg (fun k => k hs)]
  rw [gN] at e0
  have : (List.take (b).length (List.drop 0 (b))).length = (b).length := by simp
  obtain ⟨dn, hdn⟩ : ∃ dn, decide (2147483648 ≤ hH0 b) = dn := ⟨_, rfl⟩
  have hdn' : decide (2147483648 ≤ lw b 22 4) = dn := hdn
  have tW : (hW b).toNat = W := by omega
  have tH : (hrV (hH0 b)).toNat = H := by omega
  have tc : (hCn b).toNat = c := by omega
  have ts : (up4 (hW b * hCn b)).toNat = st := by rw [gw, gc, gst]; omega
  have hL0 : rdL b = rdPx b c W H st dn := by unfold rdL; rw [if_pos e, tW, tH, tc, ts, hdn]
  rw [tW, tH, tc, ts, hdn] at hg0
  have hg := hg0
  have kk : ∀ x, rdK b x = x := fun x => if_pos e
  rw [kk, kk, kk, hL0, e]
  have glen := hg.len
  have a1 : ¬ (b.length : Int) - 54 < (st : Int) * (H : Int) := by rw [← chs]; omega
  have a2 : ¬ (st : Int) * (H : Int) < (b.length : Int) - 54 := by rw [← chs]; omega
  have a4 : decide (lw b 2 4 = (b.length : Int) ∧ (lw b 34 4 = 0 ∨ lw b 34 4 = (b.length : Int) - 54)) = true := decide_eq_true ⟨hg.s1, hg.s2.imp id fun k => by omega⟩
  obtain ⟨R, hR⟩ : ∃ R : Nat → List Int, R = fun r => swapTo (fRow b st (W * c) (fr dn H r)) 0 c W := ⟨_, rfl⟩
  have hwc : H * (W * c) ≤ 16777216 := by
    have k1 := hg.wh
    have k2 : H * (W * c) = (W * H) * c := by rw [← Nat.mul_assoc, Nat.mul_comm H W]
    have k3 : (W * H) * c ≤ 4194304 * 4 := Nat.mul_le_mul k1 (by omega)
    omega
  have chc : (W : Int) * (H : Int) * (c : Int) = ((H * (W * c) : Nat) : Int) := by rw [← cwh, ← Int.natCast_mul, Nat.mul_comm W H, Nat.mul_assoc]
  have qwh : rngI .i64 ((W : Int) * (H : Int)) := by rw [← cwh]; exact rng64 (by omega) (by omega)
  have qwc : rngI .i64 ((W : Int) * (H : Int) * (c : Int)) := by rw [chc]; exact rng64 (by omega) (by omega)
  have om : 0 ≤ (W : Int) * (H : Int) * (c : Int) ∧ (W : Int) * (H : Int) * (c : Int) ≤ (W : Int) * (H : Int) * (c : Int) ∧ (W : Int) * (H : Int) * (c : Int) ≤ 140737488355328 ∧ (W : Int) * (H : Int) * (c : Int) * ((1 : Nat) : Int) ≤ 140737488355328 := by rw [chc]; omega
  have hRl : ∀ r, r < H → (R r).length = W * c := fun r hr => by
    have hf : fr dn H r < H := fr_lt hr
    have := prod_of (n := st) hf
    rw [hR]
    show (swapTo _ 0 c W).length = _
    rw [swapTo_len]; exact fRow_len (by rw [glen]; omega)
  (repeat' (first | (refine And.intro (fun (hfk : _ = true) => ?_) (fun (hfk : _ = false) => ?_) <;> ((try (first | replace hfk := of_decide_eq_true hfk | replace hfk := of_decide_eq_false hfk | simp only [decide_eq_true_eq, decide_eq_false_iff_not, dh1, dh0, ne_eq, reduceCtorEq] at hfk)); (try (exfalso; first | omega | contradiction | exact Bool.noConfusion (Eq.trans (Eq.symm hfk) (by with_reducible assumption : _ = false)) | exact Bool.noConfusion (Eq.trans (Eq.symm hfk) (by with_reducible assumption : _ = true)))))) | (refine And.intro ?ob ?_; (case ob => (first | exact Chk.mk (by kernel_rfl) | exact True.intro | with_reducible assumption | exact rng64 (by omega) (by omega) | omega | (dsimp only; omega) | (show (_ : Nat) ≤ _; omega) | (simp only [ll1, ll2, ll0]; done) | (simp only [ll1, ll2, ll0]; omega) | (dsimp only; simp only [ll1, ll2, ll0]; omega)))) | exact True.intro | (show _ = _; first | with_reducible rfl | with_reducible assumption | omega | (simp only [ll1, ll2, ll0]; omega) | (exact hb; done) | exact rfl) | with_reducible assumption | (apply And.intro) | omega | (intro j hj; exact rfl) | fail))
  (refine ⟨[], ⟨by kernel_rfl⟩, ?_⟩)
  (repeat' (first | (refine And.intro (fun (hfk : _ = true) => ?_) (fun (hfk : _ = false) => ?_) <;> ((try (first | replace hfk := of_decide_eq_true hfk | replace hfk := of_decide_eq_false hfk | simp only [decide_eq_true_eq, decide_eq_false_iff_not, dh1, dh0, ne_eq, reduceCtorEq] at hfk)); (try (exfalso; first | omega | contradiction | exact Bool.noConfusion (Eq.trans (Eq.symm hfk) (by with_reducible assumption : _ = false)) | exact Bool.noConfusion (Eq.trans (Eq.symm hfk) (by with_reducible assumption : _ = true)))))) | (refine And.intro ?ob ?_; (case ob => (first | exact Chk.mk (by kernel_rfl) | exact True.intro | with_reducible assumption | exact rng64 (by omega) (by omega) | omega | (dsimp only; omega) | (show (_ : Nat) ≤ _; omega) | (simp only [ll1, ll2, ll0]; done) | (simp only [ll1, ll2, ll0]; omega) | (dsimp only; simp only [ll1, ll2, ll0]; omega)))) | exact True.intro | (show _ = _; first | with_reducible rfl | with_reducible assumption | omega | (simp only [ll1, ll2, ll0]; omega) | (exact hb; done) | exact rfl) | with_reducible assumption | (apply And.intro) | omega | (intro j hj; exact rfl) | fail))
  (refine ⟨[3, 1, 2], ⟨by kernel_rfl⟩, ?_⟩)
  (repeat' (first | (refine And.intro (fun (hfk : _ = true) => ?_) (fun (hfk : _ = false) => ?_) <;> ((try (first | replace hfk := of_decide_eq_true hfk | replace hfk := of_decide_eq_false hfk | simp only [decide_eq_true_eq, decide_eq_false_iff_not, dh1, dh0, ne_eq, reduceCtorEq] at hfk)); (try (exfalso; first | omega | contradiction | exact Bool.noConfusion (Eq.trans (Eq.symm hfk) (by with_reducible assumption : _ = false)) | exact Bool.noConfusion (Eq.trans (Eq.symm hfk) (by with_reducible assumption : _ = true)))))) | (refine And.intro ?ob ?_; (case ob => (first | exact Chk.mk (by kernel_rfl) | exact True.intro | with_reducible assumption | exact rng64 (by omega) (by omega) | omega | (dsimp only; omega) | (show (_ : Nat) ≤ _; omega) | (simp only [ll1, ll2, ll0]; done) | (simp only [ll1, ll2, ll0]; omega) | (dsimp only; simp only [ll1, ll2, ll0]; omega)))) | exact True.intro | (show _ = _; first | with_reducible rfl | with_reducible assumption | omega | (simp only [ll1, ll2, ll0]; omega) | (exact hb; done) | exact rfl) | with_reducible assumption | (apply And.intro) | omega | (intro j hj; exact rfl) | fail))
  refine ⟨[(0, .roi .u8 b), (2, .ptr 0 0), (4, .ptr 1 0), (5, .ptr 3 0), (6, .int .i64 0)], ⟨4, [(0, some (.cells 40 [.int .i64 0, .int .i64 0, .int .i64 0, .nils])), (1, some (.cells 27 [.sl 2 1 0 b.length, .int .i64 54])), (2, some (bE b)), (3, some (.cells 148 [.int .u32 (lw b 2 4), .int .u32 (lw b 6 4), .int .u32 (lw b 10 4), .int .u32 (lw b 14 4), .int .u32 (lw b 18 4), .int .u32 (lw b 22 4), .int .u32 (lw b 26 2), .int .u32 (lw b 28 2), .int .u32 (lw b 30 4), .int .u32 (lw b 34 4), .int .u32 (lw b 38 4), .int .u32 (lw b 42 4), .int .u32 (lw b 46 4), .int .u32 (lw b 50 4)]))]⟩, [some 0, some 1, some 2, some 3], ?_, ?_⟩
  · (repeat' (first | (refine And.intro ?_ ?_) | exact True.intro | (show _ = _; with_reducible rfl) | exact Chk.mk (by kernel_rfl)))
    all_goals first | exact hk | exact hA | exact hH _ | rfl
  (repeat' (first | (refine And.intro (fun (hfk : _ = true) => ?_) (fun (hfk : _ = false) => ?_) <;> ((try (first | replace hfk := of_decide_eq_true hfk | replace hfk := of_decide_eq_false hfk | simp only [decide_eq_true_eq, decide_eq_false_iff_not, dh1, dh0, ne_eq, reduceCtorEq] at hfk)); (try (exfalso; first | omega | contradiction | exact Bool.noConfusion (Eq.trans (Eq.symm hfk) (by with_reducible assumption : _ = false)) | exact Bool.noConfusion (Eq.trans (Eq.symm hfk) (by with_reducible assumption : _ = true)))))) | (refine And.intro ?ob ?_; (case ob => (first | exact Chk.mk (by kernel_rfl) | exact True.intro | with_reducible assumption | exact rng64 (by omega) (by omega) | omega | (dsimp only; omega) | (show (_ : Nat) ≤ _; omega) | (simp only [ll1, ll2, ll0]; done) | (simp only [ll1, ll2, ll0]; omega) | (dsimp only; simp only [ll1, ll2, ll0]; omega)))) | exact True.intro | (show _ = _; first | with_reducible rfl | with_reducible assumption | omega | (simp only [ll1, ll2, ll0]; omega) | (rfl; done) | exact rfl) | with_reducible assumption | (apply And.intro) | omega | (intro j hj; exact rfl) | fail))
  refine ⟨[(0, .roi .u8 b), (2, .ptr 0 0), (4, .ptr 1 0), (5, .ptr 3 0), (7, .ptr 4 0), (8, .int .i64 0)], ⟨5, [(0, some (.cells 40 [.int .i64 0, .int .i64 0, .int .i64 0, .nils])), (1, some (.cells 27 [.sl 2 1 0 b.length, .int .i64 54])), (2, some (bE b)), (3, some (.cells 148 [.int .u32 (lw b 2 4), .int .u32 (lw b 6 4), .int .u32 (lw b 10 4), .int .u32 (lw b 14 4), .int .u32 (lw b 18 4), .int .u32 (lw b 22 4), .int .u32 (lw b 26 2), .int .u32 (lw b 28 2), .int .u32 (lw b 30 4), .int .u32 (lw b 34 4), .int .u32 (lw b 38 4), .int .u32 (lw b 42 4), .int .u32 (lw b 46 4), .int .u32 (lw b 50 4)])), (4, some (.cells 40 [.int .i64 (W : Int), .int .i64 (H : Int), .int .i64 (c : Int), .nils]))]⟩, [some 0, some 1, some 2, some 3, some 4], ?_, ?_⟩
  · (repeat' (first | (refine And.intro ?_ ?_) | exact True.intro | (show _ = _; with_reducible rfl) | exact Chk.mk (by kernel_rfl)))
    all_goals first | exact hs' | exact gw' | exact gh' | exact gc' | rfl
  (repeat' (first | (refine And.intro (fun (hfk : _ = true) => ?_) (fun (hfk : _ = false) => ?_) <;> ((try (first | replace hfk := of_decide_eq_true hfk | replace hfk := of_decide_eq_false hfk | simp only [decide_eq_true_eq, decide_eq_false_iff_not, dh1, dh0, ne_eq, reduceCtorEq] at hfk)); (try (exfalso; first | omega | contradiction | exact Bool.noConfusion (Eq.trans (Eq.symm hfk) (by with_reducible assumption : _ = false)) | exact Bool.noConfusion (Eq.trans (Eq.symm hfk) (by with_reducible assumption : _ = true)))))) | (refine And.intro ?ob ?_; (case ob => (first | exact Chk.mk (by kernel_rfl) | exact True.intro | with_reducible assumption | exact rng64 (by omega) (by omega) | omega | (dsimp only; omega) | (show (_ : Nat) ≤ _; omega) | (simp only [ll1, ll2, ll0]; done) | (simp only [ll1, ll2, ll0]; omega) | (dsimp only; simp only [ll1, ll2, ll0]; omega)))) | exact True.intro | (show _ = _; first | with_reducible rfl | with_reducible assumption | omega | (simp only [ll1, ll2, ll0]; omega) | (rfl; done) | exact rfl) | with_reducible assumption | (apply And.intro) | omega | (intro j hj; exact rfl) | fail))
  refine ⟨[(0, .roi .u8 b), (2, .ptr 0 0), (4, .ptr 1 0), (5, .ptr 3 0), (7, .ptr 4 0), (9, .int .i64 (st : Int))], ⟨5, [(0, some (.cells 40 [.int .i64 0, .int .i64 0, .int .i64 0, .nils])), (1, some (.cells 27 [.sl 2 1 0 b.length, .int .i64 54])), (2, some (bE b)), (3, some (.cells 148 [.int .u32 (lw b 2 4), .int .u32 (lw b 6 4), .int .u32 (lw b 10 4), .int .u32 (lw b 14 4), .int .u32 (lw b 18 4), .int .u32 (lw b 22 4), .int .u32 (lw b 26 2), .int .u32 (lw b 28 2), .int .u32 (lw b 30 4), .int .u32 (lw b 34 4), .int .u32 (lw b 38 4), .int .u32 (lw b 42 4), .int .u32 (lw b 46 4), .int .u32 (lw b 50 4)])), (4, some (.cells 40 [.int .i64 (W : Int), .int .i64 (H : Int), .int .i64 (c : Int), .nils]))]⟩, [some 0, some 1, some 2, some 3, some 4], ?_, ?_⟩
  · (repeat' (first | (refine And.intro ?_ ?_) | exact True.intro | (show _ = _; with_reducible rfl) | exact Chk.mk (by kernel_rfl)))
    all_goals first | exact sv | rfl
  (repeat' (first | (refine And.intro (fun (hfk : _ = true) => ?_) (fun (hfk : _ = false) => ?_) <;> ((try (first | replace hfk := of_decide_eq_true hfk | replace hfk := of_decide_eq_false hfk | simp only [decide_eq_true_eq, decide_eq_false_iff_not, dh1, dh0, ne_eq, reduceCtorEq] at hfk)); (try (exfalso; first | omega | contradiction | exact Bool.noConfusion (Eq.trans (Eq.symm hfk) (by with_reducible assumption : _ = false)) | exact Bool.noConfusion (Eq.trans (Eq.symm hfk) (by with_reducible assumption : _ = true)))))) | (refine And.intro ?ob ?_; (case ob => (first | exact Chk.mk (by kernel_rfl) | exact True.intro | with_reducible assumption | exact rng64 (by omega) (by omega) | omega | (dsimp only; omega) | (show (_ : Nat) ≤ _; omega) | (simp only [ll1, ll2, ll0]; done) | (simp only [ll1, ll2, ll0]; omega) | (dsimp only; simp only [ll1, ll2, ll0]; omega)))) | exact True.intro | (show _ = _; first | with_reducible rfl | with_reducible assumption | omega | (simp only [ll1, ll2, ll0]; omega) | (exact om; done) | exact rfl) | with_reducible assumption | (apply And.intro) | omega | (intro j hj; exact rfl) | fail))
  refine ⟨Nat, fun y => [(0, .roi .u8 b), (2, .ptr 0 0), (4, .ptr 1 0), (5, .ptr 3 0), (7, .ptr 4 0), (9, .int .i64 (st : Int)), (79, .int .i64 (H : Int)), (80, .int .i64 (y : Int))],
    fun y => ⟨6, [(0, some (.cells 40 [.int .i64 0, .int .i64 0, .int .i64 0, .nils])), (1, some (.cells 27 [.sl 2 1 0 b.length, .int .i64 ((54 + y * st : Nat) : Int)])), (2, some (bE b)), (3, some (.cells 148 [.int .u32 (lw b 2 4), .int .u32 (lw b 6 4), .int .u32 (lw b 10 4), .int .u32 (lw b 14 4), .int .u32 (lw b 18 4), .int .u32 (lw b 22 4), .int .u32 (lw b 26 2), .int .u32 (lw b 28 2), .int .u32 (lw b 30 4), .int .u32 (lw b 34 4), .int .u32 (lw b 38 4), .int .u32 (lw b 42 4), .int .u32 (lw b 46 4), .int .u32 (lw b 50 4)])), (4, some (.cells 40 [.int .i64 (W : Int), .int .i64 (H : Int), .int .i64 (c : Int), .sl 5 1 0 (H * (W * c))])), (5, some (bE (catK (pxk dn H (W * c) R y) H)))]⟩,
    fun y => y ≤ H, fun y => H - y, ⟨0, [some 0, some 1, some 2, some 3, some 4, some 5], Nat.zero_le _, ?_⟩, fun y hy => ?_⟩
  · have z0 : List.replicate ((W : Int) * (H : Int) * (c : Int)).toNat 0 = catK (pxk dn H (W * c) R 0) H := by
      have z1 : catK (pxk dn H (W * c) R 0) H = catK (fun _ => List.replicate (W * c) (0 : Int)) H := catK_congr (Q := H) (fun r hr => by
        have : fil dn H 0 r = false := by unfold fil; split <;> simp <;> omega
        unfold pxk; rw [if_neg (by rw [this]; decide)]) H (Nat.le_refl _)
      rw [z1, chc, Int.toNat_natCast]
      have : ∀ k, List.replicate (k * (W * c)) (0 : Int) = catK (fun _ => List.replicate (W * c) (0 : Int)) k := by
        intro k
        induction k with
        | zero => simp [catK]
        | succ k ih => rw [catK, ← ih, Nat.succ_mul, List.replicate_append_replicate]
      exact this H
    have z2 : ((W : Int) * (H : Int) * (c : Int)).toNat = H * (W * c) := by rw [chc, Int.toNat_natCast]
    have z3 : (54 : Int) = ((54 + 0 * st : Nat) : Int) := by omega
    (repeat' (first | (refine And.intro ?_ ?_) | exact True.intro | (show _ = _; with_reducible rfl) | exact Chk.mk (by kernel_rfl)))
    all_goals first | exact z0 | exact z2 | exact z3 | rfl
  have hy : y ≤ H := hy
  have rfy : rngI .i64 ((y : Int) + 1) := rng64 (by omega) (by omega)
  have hgl : ∀ r, r < H → (pxk dn H (W * c) R y r).length = W * c := fun r hr => by
    unfold pxk
    split
    · exact hRl r hr
    · simp
  have hcl := catK_len hgl H (Nat.le_refl _)
  by_cases hlt : y < H
  · have hfr := fr_lt (dn := dn) hlt
    have hys := prod_of (n := st) hlt
    have hfw := prod_of (n := W * c) hfr
    have t0 : takeL (cR b ((54 + y * st : Nat) : Int)) (st : Int) = (b.drop (54 + y * st)).take st := by
      unfold takeL takeC
      have el : (cR b ((54 + y * st : Nat) : Int)).length = b.length - (54 + y * st) := by
        unfold cR; rw [List.length_take, List.length_drop, Int.toNat_natCast]; omega
      rw [if_neg (show ¬ (st : Int) < 0 by omega), if_neg (show ¬ ((cR b ((54 + y * st : Nat) : Int)).length : Int) < (st : Int) by rw [el]; omega), if_pos rfl]
      unfold cR
      rw [List.take_take, Int.toNat_natCast, Int.toNat_natCast, Nat.min_eq_left (by omega)]
    have t1 : ((takeL (cR b ((54 + y * st : Nat) : Int)) (st : Int)).length : Int) = st := by rw [t0, List.length_take, List.length_drop]; omega
    have t2 : (takeL (cR b ((54 + y * st : Nat) : Int)) (st : Int)).length = st := by omega
    have rh1 : rngI .i64 ((H : Int) - 1) := rng64 (by omega) (by omega)
    have rh2 : rngI .i64 ((H : Int) - 1 - (y : Int)) := rng64 (by omega) (by omega)
    obtain ⟨r, hr⟩ : ∃ r, fr dn H y = r := ⟨_, rfl⟩
    rw [hr] at hfr hfw
    have f1 : (r : Int) * (W : Int) * (c : Int) = ((r * (W * c) : Nat) : Int) := by rw [Int.mul_assoc, ← cwc, ← Int.natCast_mul]
    have f2 : ((r : Int) + 1) * (W : Int) * (c : Int) = ((r * (W * c) + W * c : Nat) : Int) := by rw [Int.mul_assoc, ← cwc, Int.add_mul, Int.one_mul, ← Int.natCast_mul]; omega
    have f3 : 0 ≤ (r : Int) * (W : Int) ∧ (r : Int) * (W : Int) ≤ 32768 * 32768 := ⟨Int.mul_nonneg (by omega) (by omega), Int.le_trans (Int.mul_le_mul_of_nonneg_right (by omega) (by omega)) (Int.mul_le_mul_of_nonneg_left (by omega) (by omega))⟩
    have f4 : ((r : Int) + 1) * (W : Int) = (r : Int) * (W : Int) + W := by rw [Int.add_mul, Int.one_mul]
    have s1 : rngI .i64 ((r : Int) * (W : Int)) := rng64 (by omega) (by omega)
    have s2 : rngI .i64 ((r : Int) * (W : Int) * (c : Int)) := by rw [f1]; exact rng64 (by omega) (by omega)
    have s3 : rngI .i64 ((r : Int) + 1) := rng64 (by omega) (by omega)
    have s4 : rngI .i64 (((r : Int) + 1) * (W : Int)) := by rw [f4]; exact rng64 (by omega) (by omega)
    have s5 : rngI .i64 (((r : Int) + 1) * (W : Int) * (c : Int)) := by rw [f2]; exact rng64 (by omega) (by omega)
    have b1 : 0 ≤ ((r : Int) + 1) * (W : Int) * (c : Int) ∧ ((r : Int) + 1) * (W : Int) * (c : Int) ≤ ((H * (W * c) : Nat) : Int) := by rw [f2]; omega
    have b2 : 0 ≤ (r : Int) * (W : Int) * (c : Int) ∧ (r : Int) * (W : Int) * (c : Int) ≤ ((((r : Int) + 1) * (W : Int) * (c : Int)).toNat : Int) := by rw [f1, f2]; omega
    have b3 : 0 + ((r : Int) * (W : Int) * (c : Int)).toNat = r * (W * c) := by rw [f1]; omega
    have b4 : (((r : Int) + 1) * (W : Int) * (c : Int)).toNat - ((r : Int) * (W : Int) * (c : Int)).toNat = W * c := by rw [f1, f2]; omega
    have t3 : ((54 + y * st : Nat) : Int) + ((takeL (cR b ((54 + y * st : Nat) : Int)) (st : Int)).length : Int) = ((54 + (y + 1) * st : Nat) : Int) := by rw [t1, Nat.succ_mul]; omega
    have hfl : (fRow b st (W * c) y).length = W * c := fRow_len (by rw [glen]; omega)
    have hrl : ((b.drop (54 + y * st)).take st).length = st := by rw [List.length_take, List.length_drop]; omega
    have tcn : (c : Int).toNat = c := Int.toNat_natCast c
    have wdc : W * c / c = W := Nat.mul_div_cancel _ (by omega)
    by_cases hd1 : dn = true
    all_goals
      have hrow : (if dn = true then (y : Int) else (H : Int) - 1 - (y : Int)) = (r : Int) := by rw [← hr]; unfold fr; split <;> omega
      have hdp : if dn = true then 2147483648 ≤ lw b 22 4 else lw b 22 4 < 2147483648 := by
        rw [← hdn']; split
        · rename_i k; exact of_decide_eq_true k
        · rename_i k; have := mt decide_eq_true k; omega
      first | rw [if_pos hd1] at hrow hdp | rw [if_neg hd1] at hrow hdp
      rw [← hrow] at s1 s2 s3 s4 s5 b1 b2 b3 b4
      (repeat' (first | (refine And.intro (fun (hfk : _ = true) => ?_) (fun (hfk : _ = false) => ?_) <;> ((try (first | replace hfk := of_decide_eq_true hfk | replace hfk := of_decide_eq_false hfk | simp only [decide_eq_true_eq, decide_eq_false_iff_not, dh1, dh0, ne_eq, reduceCtorEq] at hfk)); (try (exfalso; first | omega | contradiction | exact Bool.noConfusion (Eq.trans (Eq.symm hfk) (by with_reducible assumption : _ = false)) | exact Bool.noConfusion (Eq.trans (Eq.symm hfk) (by with_reducible assumption : _ = true)))))) | (refine And.intro ?ob ?_; (case ob => (first | exact Chk.mk (by kernel_rfl) | exact True.intro | with_reducible assumption | exact rng64 (by omega) (by omega) | omega | (dsimp only; omega) | (show (_ : Nat) ≤ _; omega) | (simp only [ll1, ll2, ll0]; done) | (simp only [ll1, ll2, ll0]; omega) | (dsimp only; simp only [ll1, ll2, ll0]; omega)))) | exact True.intro | (show _ = _; first | with_reducible rfl | with_reducible assumption | omega | (simp only [ll1, ll2, ll0]; omega) | (skip; done) | exact rfl) | with_reducible assumption | (apply And.intro) | omega | (intro j hj; exact rfl) | fail))
      (refine ⟨[1, 2], ⟨by kernel_rfl⟩, ?_⟩)
      (repeat' (first | (refine And.intro (fun (hfk : _ = true) => ?_) (fun (hfk : _ = false) => ?_) <;> ((try (first | replace hfk := of_decide_eq_true hfk | replace hfk := of_decide_eq_false hfk | simp only [decide_eq_true_eq, decide_eq_false_iff_not, dh1, dh0, ne_eq, reduceCtorEq] at hfk)); (try (exfalso; first | omega | contradiction | exact Bool.noConfusion (Eq.trans (Eq.symm hfk) (by with_reducible assumption : _ = false)) | exact Bool.noConfusion (Eq.trans (Eq.symm hfk) (by with_reducible assumption : _ = true)))))) | (refine And.intro ?ob ?_; (case ob => (first | exact Chk.mk (by kernel_rfl) | exact True.intro | with_reducible assumption | exact rng64 (by omega) (by omega) | omega | (dsimp only; omega) | (show (_ : Nat) ≤ _; omega) | (simp only [ll1, ll2, ll0]; done) | (simp only [ll1, ll2, ll0]; omega) | (dsimp only; simp only [ll1, ll2, ll0]; omega)))) | exact True.intro | (show _ = _; first | with_reducible rfl | with_reducible assumption | omega | (simp only [ll1, ll2, ll0]; omega) | (skip; done) | exact rfl) | with_reducible assumption | (apply And.intro) | omega | (intro j hj; exact rfl) | fail))
      refine ⟨[(0, .roi .u8 b), (2, .ptr 0 0), (4, .ptr 1 0), (5, .ptr 3 0), (7, .ptr 4 0), (9, .int .i64 (st : Int)), (79, .int .i64 (H : Int)), (80, .int .i64 (y : Int)), (11, .sl 6 1 0 st), (13, .sl 5 1 (r * (W * c)) (W * c))], ⟨7, [(0, some (.cells 40 [.int .i64 0, .int .i64 0, .int .i64 0, .nils])), (1, some (.cells 27 [.sl 2 1 0 b.length, .int .i64 ((54 + (y + 1) * st : Nat) : Int)])), (2, some (bE b)), (3, some (.cells 148 [.int .u32 (lw b 2 4), .int .u32 (lw b 6 4), .int .u32 (lw b 10 4), .int .u32 (lw b 14 4), .int .u32 (lw b 18 4), .int .u32 (lw b 22 4), .int .u32 (lw b 26 2), .int .u32 (lw b 28 2), .int .u32 (lw b 30 4), .int .u32 (lw b 34 4), .int .u32 (lw b 38 4), .int .u32 (lw b 42 4), .int .u32 (lw b 46 4), .int .u32 (lw b 50 4)])), (4, some (.cells 40 [.int .i64 (W : Int), .int .i64 (H : Int), .int .i64 (c : Int), .sl 5 1 0 (H * (W * c))])), (5, some (bE (catK (pxk dn H (W * c) R y) H))), (6, some (bE ((b.drop (54 + y * st)).take st)))]⟩, [some 0, some 1, some 2, some 3, some 4, some 5, some 6], ?_, ?_⟩
      · (repeat' (first | (refine And.intro ?_ ?_) | exact True.intro | (show _ = _; with_reducible rfl) | exact Chk.mk (by kernel_rfl)))
        all_goals first | rfl | exact t0 | exact t2 | exact t3 | exact b3 | exact b4
      clear s1 s2 s3 s4 s5 b1 b2 b3 b4 f1 f2 f3 f4 t1 t2 t3 t0
      (repeat' (first | (refine And.intro (fun (hfk : _ = true) => ?_) (fun (hfk : _ = false) => ?_) <;> ((try (first | replace hfk := of_decide_eq_true hfk | replace hfk := of_decide_eq_false hfk | simp only [decide_eq_true_eq, decide_eq_false_iff_not, dh1, dh0, ne_eq, reduceCtorEq] at hfk)); (try (exfalso; first | omega | contradiction | exact Bool.noConfusion (Eq.trans (Eq.symm hfk) (by with_reducible assumption : _ = false)) | exact Bool.noConfusion (Eq.trans (Eq.symm hfk) (by with_reducible assumption : _ = true)))))) | (refine And.intro ?ob ?_; (case ob => (first | exact Chk.mk (by kernel_rfl) | exact True.intro | with_reducible assumption | exact rng64 (by omega) (by omega) | omega | (dsimp only; omega) | (show (_ : Nat) ≤ _; omega) | (simp only [ll1, ll2, ll0]; done) | (simp only [ll1, ll2, ll0]; omega) | (dsimp only; simp only [ll1, ll2, ll0]; omega)))) | exact True.intro | (show _ = _; first | with_reducible rfl | with_reducible assumption | omega | (simp only [ll1, ll2, ll0]; omega) | (skip; done) | exact rfl) | with_reducible assumption | (apply And.intro) | omega | (intro j hj; exact rfl) | fail))
      refine ⟨[(0, .roi .u8 b), (2, .ptr 0 0), (4, .ptr 1 0), (5, .ptr 3 0), (7, .ptr 4 0), (9, .int .i64 (st : Int)), (79, .int .i64 (H : Int)), (80, .int .i64 (y : Int)), (13, .sl 5 1 (r * (W * c)) (W * c))], ⟨6, [(0, some (.cells 40 [.int .i64 0, .int .i64 0, .int .i64 0, .nils])), (1, some (.cells 27 [.sl 2 1 0 b.length, .int .i64 ((54 + (y + 1) * st : Nat) : Int)])), (2, some (bE b)), (3, some (.cells 148 [.int .u32 (lw b 2 4), .int .u32 (lw b 6 4), .int .u32 (lw b 10 4), .int .u32 (lw b 14 4), .int .u32 (lw b 18 4), .int .u32 (lw b 22 4), .int .u32 (lw b 26 2), .int .u32 (lw b 28 2), .int .u32 (lw b 30 4), .int .u32 (lw b 34 4), .int .u32 (lw b 38 4), .int .u32 (lw b 42 4), .int .u32 (lw b 46 4), .int .u32 (lw b 50 4)])), (4, some (.cells 40 [.int .i64 (W : Int), .int .i64 (H : Int), .int .i64 (c : Int), .sl 5 1 0 (H * (W * c))])), (5, some (bE (spl (catK (pxk dn H (W * c) R y) H) (r * (W * c)) (fRow b st (W * c) y))))]⟩, [some 0, some 1, some 2, some 3, some 4, some 5], ?_, ?_⟩
      · have x1 : List.take st (List.drop 0 ((b.drop (54 + y * st)).take st)) = (b.drop (54 + y * st)).take st := by rw [List.drop_zero]; exact List.take_of_length_le (by omega)
        have x2 : Nat.min (List.take st (List.drop 0 ((b.drop (54 + y * st)).take st))).length (W * c) = W * c := by rw [x1, hrl]; exact Nat.min_eq_right (by omega)
        have x3 : List.take (W * c) (List.take st (List.drop 0 ((b.drop (54 + y * st)).take st))) = fRow b st (W * c) y := by rw [x1, List.take_take, Nat.min_eq_left (by omega)]; rfl
        have x4 : List.take (r * (W * c)) (catK (pxk dn H (W * c) R y) H) ++ (List.take (Nat.min (List.take st (List.drop 0 ((b.drop (54 + y * st)).take st))).length (W * c)) (List.take st (List.drop 0 ((b.drop (54 + y * st)).take st))) ++ List.drop (r * (W * c) + Nat.min (List.take st (List.drop 0 ((b.drop (54 + y * st)).take st))).length (W * c)) (catK (pxk dn H (W * c) R y) H)) = spl (catK (pxk dn H (W * c) R y) H) (r * (W * c)) (fRow b st (W * c) y) := by
          rw [x2, x3]; unfold spl; rw [hfl]
        (repeat' (first | (refine And.intro ?_ ?_) | exact True.intro | (show _ = _; with_reducible rfl) | exact Chk.mk (by kernel_rfl)))
        all_goals first | rfl | exact x4
      have y1 : W * c = W * c / (c : Int).toNat * (c : Int).toNat := by rw [tcn, wdc]
      have y2 : r * (W * c) + W * c ≤ (spl (catK (pxk dn H (W * c) R y) H) (r * (W * c)) (fRow b st (W * c) y)).length := by rw [spl_len (by omega)]; omega
      have y3 : swapTo (spl (catK (pxk dn H (W * c) R y) H) (r * (W * c)) (fRow b st (W * c) y)) (r * (W * c)) (c : Int).toNat (W * c / (c : Int).toNat) = catK (pxk dn H (W * c) R (y + 1)) H := by
        rw [tcn, wdc, swapTo_spl (w := W) (by omega) hfl (by omega) W (Nat.le_refl _), catK_upd hgl hfr (by rw [swapTo_len]; exact hfl)]
        refine catK_congr (Q := H) (fun k hk => ?_) H (Nat.le_refl _)
        unfold pxk
        rw [fil_next hlt hk, hr]
        by_cases hkr : k = r
        · rw [if_pos hkr, if_pos (by rw [decide_eq_true hkr]; rfl), hR, hkr, ← hr]
          show _ = swapTo (fRow b st (W * c) (fr dn H (fr dn H y))) 0 c W
          rw [fr_fr hlt]
        · rw [if_neg hkr, decide_eq_false hkr]; rfl
      (repeat' (first | (refine And.intro (fun (hfk : _ = true) => ?_) (fun (hfk : _ = false) => ?_) <;> ((try (first | replace hfk := of_decide_eq_true hfk | replace hfk := of_decide_eq_false hfk | simp only [decide_eq_true_eq, decide_eq_false_iff_not, dh1, dh0, ne_eq, reduceCtorEq] at hfk)); (try (exfalso; first | omega | contradiction | exact Bool.noConfusion (Eq.trans (Eq.symm hfk) (by with_reducible assumption : _ = false)) | exact Bool.noConfusion (Eq.trans (Eq.symm hfk) (by with_reducible assumption : _ = true)))))) | (refine And.intro ?ob ?_; (case ob => (first | exact Chk.mk (by kernel_rfl) | exact True.intro | with_reducible assumption | exact rng64 (by omega) (by omega) | omega | (dsimp only; omega) | (show (_ : Nat) ≤ _; omega) | (simp only [ll1, ll2, ll0]; done) | (simp only [ll1, ll2, ll0]; omega) | (dsimp only; simp only [ll1, ll2, ll0]; omega)))) | exact True.intro | (show _ = _; first | with_reducible rfl | with_reducible assumption | omega | (simp only [ll1, ll2, ll0]; omega) | (skip; done) | exact rfl) | with_reducible assumption | (apply And.intro) | omega | (intro j hj; exact rfl) | fail))
      (refine ⟨[5], ⟨by kernel_rfl⟩, ?_⟩)
      (repeat' (first | (refine And.intro (fun (hfk : _ = true) => ?_) (fun (hfk : _ = false) => ?_) <;> ((try (first | replace hfk := of_decide_eq_true hfk | replace hfk := of_decide_eq_false hfk | simp only [decide_eq_true_eq, decide_eq_false_iff_not, dh1, dh0, ne_eq, reduceCtorEq] at hfk)); (try (exfalso; first | omega | contradiction | exact Bool.noConfusion (Eq.trans (Eq.symm hfk) (by with_reducible assumption : _ = false)) | exact Bool.noConfusion (Eq.trans (Eq.symm hfk) (by with_reducible assumption : _ = true)))))) | (refine And.intro ?ob ?_; (case ob => (first | exact Chk.mk (by kernel_rfl) | exact True.intro | with_reducible assumption | exact rng64 (by omega) (by omega) | omega | (dsimp only; omega) | (show (_ : Nat) ≤ _; omega) | (simp only [ll1, ll2, ll0]; done) | (simp only [ll1, ll2, ll0]; omega) | (dsimp only; simp only [ll1, ll2, ll0]; omega)))) | exact True.intro | (show _ = _; first | with_reducible rfl | with_reducible assumption | omega | (simp only [ll1, ll2, ll0]; omega) | (skip; done) | exact rfl) | with_reducible assumption | (apply And.intro) | omega | (intro j hj; exact rfl) | fail))
      refine ⟨y + 1, [some 0, some 1, some 2, some 3, some 4, some 5], hlt, ?mu, ?_⟩
      case mu => (show H - (y + 1) < H - y; omega)
      (repeat' (first | (refine And.intro ?_ ?_) | exact True.intro | (show _ = _; with_reducible rfl) | exact Chk.mk (by kernel_rfl)))
      all_goals first | rfl | exact y3 | (show (_ : Int) = _; omega)
  · obtain rfl : y = H := by omega
    have z1 : List.take (y * (W * c)) (List.drop 0 (catK (pxk dn y (W * c) R y) y)) = rdPx b c W y st dn := by
      rw [List.drop_zero, List.take_of_length_le (by omega)]
      unfold rdPx
      refine catK_congr (Q := y) (fun k hk => ?_) y (Nat.le_refl _)
      have : fil dn y y k = true := by unfold fil; split <;> simp <;> omega
      unfold pxk
      rw [if_pos this, hR]; rfl
    have gw2 := gw.symm
    have gh2 := gh.symm
    have gc2 := gc.symm
    (repeat' (first | (refine And.intro (fun (hfk : _ = true) => ?_) (fun (hfk : _ = false) => ?_) <;> ((try (first | replace hfk := of_decide_eq_true hfk | replace hfk := of_decide_eq_false hfk | simp only [decide_eq_true_eq, decide_eq_false_iff_not, dh1, dh0, ne_eq, reduceCtorEq] at hfk)); (try (exfalso; first | omega | contradiction | exact Bool.noConfusion (Eq.trans (Eq.symm hfk) (by with_reducible assumption : _ = false)) | exact Bool.noConfusion (Eq.trans (Eq.symm hfk) (by with_reducible assumption : _ = true)))))) | (refine And.intro ?ob ?_; (case ob => (first | exact Chk.mk (by kernel_rfl) | exact True.intro | with_reducible assumption | exact rng64 (by omega) (by omega) | omega | (dsimp only; omega) | (show (_ : Nat) ≤ _; omega) | (simp only [ll1, ll2, ll0]; done) | (simp only [ll1, ll2, ll0]; omega) | (dsimp only; simp only [ll1, ll2, ll0]; omega)))) | exact True.intro | (show _ = _; first | with_reducible rfl | with_reducible assumption | omega | (simp only [ll1, ll2, ll0]; omega) | (first | exact z1 | exact gw2 | exact gh2 | exact gc2 | rfl; done) | exact rfl) | with_reducible assumption | (apply And.intro) | omega | (intro j hj; exact rfl) | fail))
theorem bread_s : SOK Try.prog 32 bmS := by
  refine sok_of (C := rpCx) rpCx_ok rfl mixed ⟨Try.func32, by kernel_rfl, by kernel_rfl, by kernel_rfl⟩ fun l obs v h ho => ?_
  (unfold bmS at h; split at h; rotate_left; (focus (cases h)); rename_i b; simp only [Option.some.injEq, Prod.mk.injEq] at h; obtain ⟨rfl, rfl⟩ := h; simp only [List.mem_cons, List.not_mem_nil, or_false, forall_eq_or_imp, forall_eq, false_implies, implies_true] at ho)
  refine ⟨Nat.le_of_ble_eq_true rfl, ?_⟩
  by_cases e : rdE b = 0
  · exact tk_good ho e
  by_cases hk : tkC b = 0
  rotate_left
  · exact tk_bad1 ho hk
  by_cases h : hdE b = 0
  rotate_left
  · exact tk_bad2 ho hk h
  by_cases hs : shC (hW b) (hrV (hH0 b)) = 0
  · exact tk_bad4 ho hk h hs e
  · exact tk_bad3 ho hk h hs
end Go.Proofs.Ytepjmnkleajibaa

/- The law BmpReads. No condition. -/
namespace Go.Proofs.Ytepjmnkleajibaa
open Go Go.RowKit
set_option linter.unusedVariables false
set_option linter.unusedSimpArgs false
set_option maxRecDepth 100000
set_option maxHeartbeats 4000000

theorem sameM_self (w h c : Int) (p : List Int) : sameM w h c p w h c p = true := decide_eq_true ⟨rfl, rfl, rfl, rfl⟩
theorem rdPx_len {b : List Int} {W H c st : Nat} {dn : Bool} (hg : BmOK b W H c st dn) : (rdPx b c W H st dn).length = H * (W * c) := by
  unfold rdPx
  refine catK_len (fun r hr => ?_) H (Nat.le_refl _)
  have hf : fr dn H r < H := fr_lt hr
  have := prod_of (n := st) hf
  show (swapTo (fRow b st (W * c) (fr dn H r)) 0 c W).length = _
  have h1 := hg.st1
  have h2 := hg.len
  rw [swapTo_len]; exact fRow_len (by omega)
theorem bm_n {b : List Int} {W H c st : Nat} {dn : Bool} (hg : BmOK b W H c st dn) : H * (W * c) ≤ 16777216 := by
  have k1 := hg.wh
  have k2 : H * (W * c) = (W * H) * c := by rw [← Nat.mul_assoc, Nat.mul_comm H W]
  have k3 : (W * H) * c ≤ 4194304 * 4 := Nat.mul_le_mul k1 (by have := hg.c34; omega)
  omega
theorem rdL_len {b : List Int} (hb : Byt b) : (rdL b).length ≤ 16777216 := by
  unfold rdL
  split
  · rename_i e
    have hg := gd_of hb e
    rw [rdPx_len hg]; exact bm_n hg
  · exact Nat.zero_le _
end Go.Proofs.Ytepjmnkleajibaa

/- Bitmaps (bmp): bytes that were written are read as what they were; plain. No condition. -/
namespace Go.Proofs.Ytepjmnkleajibaa
open Go Go.RowKit
set_option linter.unusedVariables false
set_option linter.unusedSimpArgs false
set_option maxRecDepth 100000
set_option maxHeartbeats 4000000

theorem low4 {x : Int} (h0 : 0 ≤ x) (h1 : x < 4294967296) : lowV (byts x 4) = x := by
  show x / 256 ^ 0 % 256 + 256 * (x / 256 ^ 1 % 256 + 256 * (x / 256 ^ 2 % 256 + 256 * (x / 256 ^ 3 % 256 + 256 * 0))) = x
  have p0 : (256 : Int) ^ 0 = 1 := rfl
  have p1 : (256 : Int) ^ 1 = 256 := rfl
  have p2 : (256 : Int) ^ 2 = 65536 := rfl
  have p3 : (256 : Int) ^ 3 = 16777216 := rfl
  rw [p0, p1, p2, p3]
  omega
theorem low2 {x : Int} (h0 : 0 ≤ x) (h1 : x < 65536) : lowV (byts x 2) = x := by
  show x / 256 ^ 0 % 256 + 256 * (x / 256 ^ 1 % 256 + 256 * 0) = x
  have p0 : (256 : Int) ^ 0 = 1 := rfl
  have p1 : (256 : Int) ^ 1 = 256 := rfl
  rw [p0, p1]
  omega
section
variable {x0 x1 x2 x3 x4 x5 x6 x7 x8 x9 x10 x11 x12 x13 : Int} {B : List Int}
theorem hdOut_len : (hdOut x0 x1 x2 x3 x4 x5 x6 x7 x8 x9 x10 x11 x12 x13).length = 54 := by kernel_rfl
theorem at2 : ((hdOut x0 x1 x2 x3 x4 x5 x6 x7 x8 x9 x10 x11 x12 x13 ++ B).drop 2).take 4 = byts x0 4 := by kernel_rfl
theorem at6 : ((hdOut x0 x1 x2 x3 x4 x5 x6 x7 x8 x9 x10 x11 x12 x13 ++ B).drop 6).take 4 = byts x1 4 := by kernel_rfl
theorem at10 : ((hdOut x0 x1 x2 x3 x4 x5 x6 x7 x8 x9 x10 x11 x12 x13 ++ B).drop 10).take 4 = byts x2 4 := by kernel_rfl
theorem at14 : ((hdOut x0 x1 x2 x3 x4 x5 x6 x7 x8 x9 x10 x11 x12 x13 ++ B).drop 14).take 4 = byts x3 4 := by kernel_rfl
theorem at18 : ((hdOut x0 x1 x2 x3 x4 x5 x6 x7 x8 x9 x10 x11 x12 x13 ++ B).drop 18).take 4 = byts x4 4 := by kernel_rfl
theorem at22 : ((hdOut x0 x1 x2 x3 x4 x5 x6 x7 x8 x9 x10 x11 x12 x13 ++ B).drop 22).take 4 = byts x5 4 := by kernel_rfl
theorem at26 : ((hdOut x0 x1 x2 x3 x4 x5 x6 x7 x8 x9 x10 x11 x12 x13 ++ B).drop 26).take 2 = byts x6 2 := by kernel_rfl
theorem at28 : ((hdOut x0 x1 x2 x3 x4 x5 x6 x7 x8 x9 x10 x11 x12 x13 ++ B).drop 28).take 2 = byts x7 2 := by kernel_rfl
theorem at30 : ((hdOut x0 x1 x2 x3 x4 x5 x6 x7 x8 x9 x10 x11 x12 x13 ++ B).drop 30).take 4 = byts x8 4 := by kernel_rfl
theorem at34 : ((hdOut x0 x1 x2 x3 x4 x5 x6 x7 x8 x9 x10 x11 x12 x13 ++ B).drop 34).take 4 = byts x9 4 := by kernel_rfl
theorem at46 : ((hdOut x0 x1 x2 x3 x4 x5 x6 x7 x8 x9 x10 x11 x12 x13 ++ B).drop 46).take 4 = byts x12 4 := by kernel_rfl
theorem at50 : ((hdOut x0 x1 x2 x3 x4 x5 x6 x7 x8 x9 x10 x11 x12 x13 ++ B).drop 50).take 4 = byts x13 4 := by kernel_rfl
end
/-- What is told of bytes that begin with such a head: H0 stands for the rows. -/
structure HdIs (b : List Int) (W H0 C N : Int) : Prop where
  s0 : lw b 2 4 = N
  w : hW b = W
  h : hH0 b = H0
  c : lw b 28 2 = 8 * C
  n : lw b 34 4 = 0
  e : hdE b = 0
theorem hd_is {W H0 N : Int} {C : Nat} {B : List Int} (hw : 0 ≤ W ∧ W < 4294967296) (hh : 0 ≤ H0 ∧ H0 < 4294967296) (hn : 0 ≤ N ∧ N < 4294967296) (hc : C = 3 ∨ C = 4) :
    HdIs (hdOut N 0 54 40 W H0 1 ((8 * C : Nat) : Int) 0 0 0 0 0 0 ++ B) W H0 C N := by
  obtain ⟨b, hb⟩ : ∃ b, hdOut N 0 54 40 W H0 1 ((8 * C : Nat) : Int) 0 0 0 0 0 0 ++ B = b := ⟨_, rfl⟩
  have e2 : lw b 2 4 = N := by rw [← hb]; exact (congrArg lowV at2).trans (low4 hn.1 hn.2)
  have e6 : lw b 6 4 = 0 := by rw [← hb]; exact (congrArg lowV at6).trans (low4 (by decide) (by decide))
  have e10 : lw b 10 4 = 54 := by rw [← hb]; exact (congrArg lowV at10).trans (low4 (by decide) (by decide))
  have e14 : lw b 14 4 = 40 := by rw [← hb]; exact (congrArg lowV at14).trans (low4 (by decide) (by decide))
  have e18 : lw b 18 4 = W := by rw [← hb]; exact (congrArg lowV at18).trans (low4 hw.1 hw.2)
  have e22 : lw b 22 4 = H0 := by rw [← hb]; exact (congrArg lowV at22).trans (low4 hh.1 hh.2)
  have e26 : lw b 26 2 = 1 := by rw [← hb]; exact (congrArg lowV at26).trans (low2 (by decide) (by decide))
  have e28 : lw b 28 2 = ((8 * C : Nat) : Int) := by rw [← hb]; exact (congrArg lowV at28).trans (low2 (by omega) (by omega))
  have e30 : lw b 30 4 = 0 := by rw [← hb]; exact (congrArg lowV at30).trans (low4 (by decide) (by decide))
  have e34 : lw b 34 4 = 0 := by rw [← hb]; exact (congrArg lowV at34).trans (low4 (by decide) (by decide))
  have e46 : lw b 46 4 = 0 := by rw [← hb]; exact (congrArg lowV at46).trans (low4 (by decide) (by decide))
  have e50 : lw b 50 4 = 0 := by rw [← hb]; exact (congrArg lowV at50).trans (low4 (by decide) (by decide))
  have hl : 54 ≤ b.length := by rw [← hb, List.length_append, hdOut_len]; omega
  have g0 : b.getD 0 0 = 66 := by rw [← hb]; rfl
  have g1 : b.getD 1 0 = 77 := by rw [← hb]; rfl
  rw [hb]
  refine ⟨e2, e18, e22, by rw [e28]; omega, e34, ?_⟩
  unfold hdE
  rw [if_neg (by omega), if_neg (by omega), if_neg (by omega), if_pos ⟨⟨e6, e10, e14, e26, e30, e46, e50⟩, by omega⟩]
theorem catK_piece {p : List Int} {wc H : Nat} (h : p.length = H * wc) : catK (piece p wc) H = p := by
  have hl : ∀ k, k < H → (piece p wc k).length = wc := fun k hk => piece_len (by have := prod_of (n := wc) hk; omega)
  refine eq_pieces (Q := H) (d := wc) (catK_len hl H (Nat.le_refl _)) h fun k j hk hj => ?_
  rw [catK_get hl H (Nat.le_refl _) k j hk hj, piece_get hj]
theorem wrRow_len {p : List Int} {c w h st k : Nat} (hp : p.length = h * (w * c)) (hst : w * c ≤ st) (hk : k < h) : (wrRow p c w h st k).length = st := by
  unfold wrRow
  have := prod_of (n := w * c) (show h - 1 - k < h by omega)
  rw [List.length_append, swapTo_len, piece_len (by omega), List.length_replicate]; omega
end Go.Proofs.Ytepjmnkleajibaa

/- Bitmaps (bmp): bytes there and back; plain. No condition. -/
namespace Go.Proofs.Ytepjmnkleajibaa
open Go Go.RowKit
set_option linter.unusedVariables false
set_option linter.unusedSimpArgs false
set_option maxRecDepth 100000
set_option maxHeartbeats 4000000

theorem bytes_app {A B : List Int} (ha : Bytes A) (hb : Bytes B) : Bytes (A ++ B) := fun x hx => (List.mem_append.1 hx).elim (ha x) (hb x)
theorem bytes_byts (x : Int) (n : Nat) : Bytes (byts x n) := fun y hy => by
  obtain ⟨t, _, rfl⟩ := List.mem_map.1 hy
  exact byt_bd x t
theorem bytes_zero (n : Nat) : Bytes (List.replicate n 0) := fun x hx => by rw [(List.mem_replicate.1 hx).2]; omega
theorem bytes_set {L : List Int} (h : Bytes L) (i : Nat) {v : Int} (hv : 0 ≤ v ∧ v ≤ 255) : Bytes (L.set i v) := fun x hx => (List.mem_or_eq_of_mem_set hx).elim (h x) (fun e => e ▸ hv)
theorem bytes_swap {L : List Int} (h : Bytes L) (o c : Nat) : ∀ k, Bytes (swapTo L o c k)
  | 0 => h
  | k + 1 => bytes_set (bytes_set (bytes_swap h o c k) _ ((bytes_swap h o c k).get _)) _ ((bytes_swap h o c k).get _)
theorem bytes_cat {f : Nat → List Int} (h : ∀ k, Bytes (f k)) : ∀ n, Bytes (catK f n)
  | 0 => fun x hx => by cases hx
  | n + 1 => bytes_app (bytes_cat h n) (h n)
theorem bytes_piece {p : List Int} (h : Bytes p) (c k : Nat) : Bytes (piece p c k) := fun x hx => h x (List.mem_of_mem_drop (List.mem_of_mem_take hx))
theorem bytes_wr {p : List Int} (hp : Bytes p) (W H C st : Nat) : Bytes (wrHd W H C st ++ wrB p C W H st) := by
  refine bytes_app ?_ (bytes_cat (fun k => bytes_app (bytes_swap (bytes_piece hp _ _) _ _ _) (bytes_zero _)) H)
  refine bytes_app (bytes_app (bytes_app (bytes_app (bytes_app (bytes_app (bytes_app (bytes_app (bytes_app (bytes_app (bytes_app (bytes_app (bytes_app (bytes_app ?_ ?_) ?_) ?_) ?_) ?_) ?_) ?_) ?_) ?_) ?_) ?_) ?_) ?_) ?_
  all_goals first | exact bytes_byts _ _ | (intro x hx; have : x = 66 ∨ x = 77 := by simpa using hx
                                            omega)
theorem bytes_wrL {w h c : Int} {p : List Int} (hp : Bytes p) : Bytes (wrL w h c p) := by
  unfold wrL
  split
  · exact bytes_wr hp _ _ _ _
  · intro x hx; cases hx
theorem wr_len {w h c : Int} {p : List Int} {W H C st : Nat} (hi : ImOK w h c p W H C st) : (wrHd W H C st ++ wrB p C W H st).length = 54 + H * st := by
  have hl : ∀ k, k < H → (wrRow p C W H st k).length = st := fun k hk => wrRow_len hi.len hi.st1 hk
  have hBl : (wrB p C W H st).length = H * st := catK_len hl H (Nat.le_refl _)
  rw [List.length_append, hBl]; rfl
end Go.Proofs.Ytepjmnkleajibaa

/- Bitmaps (bmp): rows the first one first; plain. No condition. -/
namespace Go.Proofs.Ytepjmnkleajibaa
open Go Go.RowKit
set_option linter.unusedVariables false
set_option linter.unusedSimpArgs false
set_option maxRecDepth 100000
set_option maxHeartbeats 4000000

/-- A row, its image's first one first; v stands behind it. -/
def rwRow (p : List Int) (c w st : Nat) (v : Int) (k : Nat) : List Int := swapTo (piece p (w * c) k) 0 c w ++ List.replicate (st - w * c) v
abbrev rwHd (W H C st : Nat) : List Int := hdOut ((54 + H * st : Nat) : Int) 0 54 40 (W : Int) (4294967296 - (H : Int)) 1 ((8 * C : Nat) : Int) 0 0 0 0 0 0
theorem rwRow_len {p : List Int} {c w h st k : Nat} {v : Int} (hp : p.length = h * (w * c)) (hst : w * c ≤ st) (hk : k < h) : (rwRow p c w st v k).length = st := by
  unfold rwRow
  have := prod_of (n := w * c) hk
  rw [List.length_append, swapTo_len, piece_len (by omega), List.length_replicate]; omega
theorem fRow_cat {A : List Int} {f : Nat → List Int} {st wc h k : Nat} (hA : A.length = 54) (hl : ∀ k, k < h → (f k).length = st) (hst : wc ≤ st) (hk : k < h) :
    fRow (A ++ catK f h) st wc k = (f k).take wc := by
  have hB : (catK f h).length = h * st := catK_len hl h (Nat.le_refl _)
  have hks := prod_of (n := st) hk
  have hfk := hl k hk
  refine list_getD (by rw [fRow_len (by rw [List.length_append]; omega), List.length_take]; omega) fun j hj => ?_
  rw [fRow_len (by rw [List.length_append]; omega)] at hj
  rw [fRow_get hj, List.getD_eq_getElem?_getD, List.getElem?_append_right (by omega), hA, show 54 + k * st + j - 54 = k * st + j by omega, ← List.getD_eq_getElem?_getD, catK_get hl h (Nat.le_refl _) k j hk (by omega), take_getD hj]
theorem rd_rows {w h c : Int} {p : List Int} {W H C st : Nat} {v : Int} (hi : ImOK w h c p W H C st) (hb : Byt (rwHd W H C st ++ catK (rwRow p C W st v) H)) :
    rdE (rwHd W H C st ++ catK (rwRow p C W st v) H) = 0 ∧ rdL (rwHd W H C st ++ catK (rwRow p C W st v) H) = p ∧ hW (rwHd W H C st ++ catK (rwRow p C W st v) H) = w ∧ hrV (hH0 (rwHd W H C st ++ catK (rwRow p C W st v) H)) = h ∧ hCn (rwHd W H C st ++ catK (rwRow p C W st v) H) = c := by
  obtain ⟨rfl, rfl, rfl, chk, c34, w1, w2, h1, h2, wh, len, st_, st1, st2⟩ := hi
  have hl : ∀ k, k < H → (rwRow p C W st v k).length = st := fun k hk => rwRow_len len st1 hk
  have hBl : (catK (rwRow p C W st v) H).length = H * st := catK_len hl H (Nat.le_refl _)
  have hll : (rwHd W H C st ++ catK (rwRow p C W st v) H).length = 54 + H * st := by rw [List.length_append, hBl]; rfl
  have hbl := hb.le
  rw [hll] at hbl
  obtain ⟨s0, gw, gh, gc, gn, ge⟩ := hd_is (W := (W : Int)) (H0 := 4294967296 - (H : Int)) (N := ((54 + H * st : Nat) : Int)) (C := C) (B := catK (rwRow p C W st v) H) ⟨by omega, by omega⟩ ⟨by omega, by omega⟩ ⟨by omega, by omega⟩ c34
  obtain ⟨b, hbe⟩ : ∃ b, rwHd W H C st ++ catK (rwRow p C W st v) H = b := ⟨_, rfl⟩
  have hbe2 : hdOut ((54 + H * st : Nat) : Int) 0 54 40 (W : Int) (4294967296 - (H : Int)) 1 ((8 * C : Nat) : Int) 0 0 0 0 0 0 ++ catK (rwRow p C W st v) H = b := hbe
  rw [hbe2] at s0 gw gh gc gn ge
  rw [hbe] at hll hb ⊢
  have g1 : hrV (hH0 b) = H := by rw [gh]; unfold hrV; rw [if_pos (by omega)]; omega
  have g2 : hCn b = C := by unfold hCn; rw [gc]; omega
  have cwh : ((W * H : Nat) : Int) = (W : Int) * (H : Int) := Int.natCast_mul _ _
  have chs : ((H * st : Nat) : Int) = (st : Int) * (H : Int) := by rw [Int.natCast_mul, Int.mul_comm]
  have gN : hNn b = ((H * st : Nat) : Int) := by unfold hNn; rw [gw, g2, st_, g1, chs]
  have gs : shC (hW b) (hrV (hH0 b)) = 0 := by rw [gw, g1]; unfold shC; rw [if_neg (by omega), if_neg (by omega)]
  have e : rdE b = 0 := by
    unfold rdE
    rw [if_neg (fun k => k ge), if_neg (fun k => k gs), gN, if_neg (by omega), if_neg (by omega), if_pos ⟨by rw [s0]; omega, .inl gn⟩]
  refine ⟨e, ?_, gw, g1, g2⟩
  unfold rdL
  rw [if_pos e, gw, g1, g2, st_, gh]
  simp only [Int.toNat_natCast]
  rw [decide_eq_true (by omega)]
  unfold rdPx
  have : catK (fun r => swapTo (fRow b st (W * C) (if true = true then r else H - 1 - r)) 0 C W) H = catK (piece p (W * C)) H := by
    refine catK_congr (Q := H) (fun r hr => ?_) H (Nat.le_refl _)
    show swapTo (fRow b st (W * C) r) 0 C W = _
    have hk := prod_of (n := W * C) hr
    have hpl : (piece p (W * C) r).length = W * C := piece_len (by omega)
    have hsl : (swapTo (piece p (W * C) r) 0 C W).length = W * C := by rw [swapTo_len, hpl]
    have ht : (rwRow p C W st v r).take (W * C) = swapTo (piece p (W * C) r) 0 C W := by unfold rwRow; rw [List.take_append_of_le_length (by omega), List.take_of_length_le (by omega)]
    rw [← hbe, fRow_cat rfl hl st1 hr, ht, trn_trn (by omega) hpl]
  rw [this, catK_piece len]
theorem bytes_rep {v : Int} (h : 0 ≤ v ∧ v ≤ 255) (n : Nat) : Bytes (List.replicate n v) := fun x hx => by rw [(List.mem_replicate.1 hx).2]; exact h
theorem bytes_rw {p : List Int} (hp : Bytes p) {v : Int} (hv : 0 ≤ v ∧ v ≤ 255) (W H C st : Nat) : Bytes (rwHd W H C st ++ catK (rwRow p C W st v) H) := by
  refine bytes_app ?_ (bytes_cat (fun k => bytes_app (bytes_swap (bytes_piece hp _ _) _ _ _) (bytes_rep hv _)) H)
  refine bytes_app (bytes_app (bytes_app (bytes_app (bytes_app (bytes_app (bytes_app (bytes_app (bytes_app (bytes_app (bytes_app (bytes_app (bytes_app (bytes_app ?_ ?_) ?_) ?_) ?_) ?_) ?_) ?_) ?_) ?_) ?_) ?_) ?_) ?_) ?_
  all_goals first | exact bytes_byts _ _ | (intro x hx; have : x = 66 ∨ x = 77 := by simpa using hx
                                            omega)
end Go.Proofs.Ytepjmnkleajibaa

/- The law BmpRows. No condition. -/
namespace Go.Proofs.Ytepjmnkleajibaa
open Go Go.RowKit
set_option linter.unusedVariables false
set_option linter.unusedSimpArgs false
set_option maxRecDepth 100000
set_option maxHeartbeats 4000000

theorem hd_rows (W H C st : Nat) (n : Int) : ((((wrHd W H C st).set 22 (byt n 0)).set 23 (byt n 1)).set 24 (byt n 2)).set 25 (byt n 3) = hdOut ((54 + H * st : Nat) : Int) 0 54 40 (W : Int) n 1 ((8 * C : Nat) : Int) 0 0 0 0 0 0 := by kernel_rfl
theorem walk_BmpRows' (w h c : Int) (p : List Int) (v : Int) (hB : Bytes p) (hv : 0 ≤ v ∧ v ≤ 255) (Wo : World) {cl : List Value} (hcl : CRel noN Wo NoO [imA w h c p, .int .u8 v] cl) :
    Calls Try.prog 7 cl.toArray Wo fun e W' => e = .returned (.bool true) ∧ Below Wo.heap.size Wo W' := by
  refine law_of (C := mkE 0 [(24, fewS), (25, bwS), (32, bmS), (34, sameS), (27, rstrS), (31, sN (.bool true))] noG [] [] [9, 11, 15, 1000013])
    (mkE_ok (pok_cons few_s (pok_cons bwrite_s (pok_cons bread_s (pok_cons rsame_s (pok_cons rstr_s (pok_cons alive16_s pok_nil)))))) noG_ok dl_nil) rfl ⟨Try.func7, by kernel_rfl, by kernel_rfl, by kernel_rfl⟩ (by exact Nat.le_of_ble_eq_true rfl) ?_ hcl
  by_cases hl : 20000 < p.length
  · (repeat' (first | (refine And.intro (fun (hfk : _ = true) => ?_) (fun (hfk : _ = false) => ?_) <;> ((try (first | replace hfk := of_decide_eq_true hfk | replace hfk := of_decide_eq_false hfk | simp only [decide_eq_true_eq, decide_eq_false_iff_not, dh1, dh0, ne_eq, reduceCtorEq] at hfk)); (try (exfalso; first | omega | contradiction | exact Bool.noConfusion (Eq.trans (Eq.symm hfk) (by with_reducible assumption : _ = false)) | exact Bool.noConfusion (Eq.trans (Eq.symm hfk) (by with_reducible assumption : _ = true)))))) | (refine And.intro ?ob ?_; (case ob => (first | (first | kchk | exact Chk.mk (by kernel_rfl)) | exact True.intro | with_reducible assumption | exact rng64 (by omega) (by omega) | omega | (dsimp only; omega) | (show (_ : Nat) ≤ _; omega) | (simp only [ll1, ll2, ll0]; done) | (simp only [ll1, ll2, ll0]; omega) | (dsimp only; simp only [ll1, ll2, ll0]; omega)))) | exact True.intro | (show _ = _; first | with_reducible rfl | with_reducible assumption | omega | (simp only [ll1, ll2, ll0]; omega) | (rfl; done) | exact rfl) | with_reducible assumption | (apply And.intro) | omega | (intro j hj; exact rfl) | fail))
    peek
  have hp : p.length ≤ 20000 := by omega
  by_cases e : wrE w h c p.length = 0
  rotate_left
  · have z : wrL w h c p = [] := if_neg e
    have zl : (wrL w h c p).length = 0 := by rw [z]; rfl
    (repeat' (first | (refine And.intro (fun (hfk : _ = true) => ?_) (fun (hfk : _ = false) => ?_) <;> ((try (first | replace hfk := of_decide_eq_true hfk | replace hfk := of_decide_eq_false hfk | simp only [decide_eq_true_eq, decide_eq_false_iff_not, dh1, dh0, ne_eq, reduceCtorEq] at hfk)); (try (exfalso; first | omega | contradiction | exact Bool.noConfusion (Eq.trans (Eq.symm hfk) (by with_reducible assumption : _ = false)) | exact Bool.noConfusion (Eq.trans (Eq.symm hfk) (by with_reducible assumption : _ = true)))))) | (refine And.intro ?ob ?_; (case ob => (first | (first | kchk | exact Chk.mk (by kernel_rfl)) | exact True.intro | with_reducible assumption | exact rng64 (by omega) (by omega) | omega | (dsimp only; omega) | (show (_ : Nat) ≤ _; omega) | (simp only [ll1, ll2, ll0]; done) | (simp only [ll1, ll2, ll0]; omega) | (dsimp only; simp only [ll1, ll2, ll0]; omega)))) | exact True.intro | (show _ = _; first | with_reducible rfl | with_reducible assumption | omega | (simp only [ll1, ll2, ll0]; omega) | (rfl; done) | exact rfl) | with_reducible assumption | (apply And.intro) | omega | (intro j hj; exact rfl) | fail))
    peek
  have hi := im_of e
  have z : wrL w h c p = wrHd w.toNat h.toNat c.toNat (up4 (w * c)).toNat ++ wrB p c.toNat w.toNat h.toNat (up4 (w * c)).toNat := if_pos e
  have hbw := bytes_wrL (w := w) (h := h) (c := c) hB
  obtain ⟨W, hW⟩ : ∃ W, w.toNat = W := ⟨_, rfl⟩
  obtain ⟨H, hH⟩ : ∃ H, h.toNat = H := ⟨_, rfl⟩
  obtain ⟨C, hC⟩ : ∃ C, c.toNat = C := ⟨_, rfl⟩
  obtain ⟨st, hst⟩ : ∃ st, (up4 (w * c)).toNat = st := ⟨_, rfl⟩
  rw [hW, hH, hC, hst] at hi z
  clear hW hH hC hst
  have hwl := wr_len hi
  rw [← z] at hwl
  have hi0 := hi
  obtain ⟨rfl, rfl, rfl, chk, c34, w1, w2, h1, h2, wh, len, st_, st1, st2⟩ := hi
  have cwc : ((W * C : Nat) : Int) = (W : Int) * (C : Int) := Int.natCast_mul _ _
  have chs : ((H * st : Nat) : Int) = (st : Int) * (H : Int) := by rw [Int.natCast_mul, Int.mul_comm]
  have wcb : 3 ≤ W * C ∧ W * C ≤ 131072 := by rcases c34 with k | k <;> subst k <;> omega
  have hn4 : H * st ≤ 50000 := by
    have q1 : H * (W * C) ≤ 20000 := by omega
    have q3 : H * 3 ≤ H * (W * C) := Nat.mul_le_mul_left _ (by omega)
    have q2 : H * st ≤ H * (W * C + 3) := Nat.mul_le_mul_left _ st2
    rw [Nat.mul_add] at q2
    omega
  have wc1 : 0 ≤ (W : Int) * (C : Int) := by omega
  have wc2 : (W : Int) * (C : Int) ≤ 4294967296 := by omega
  have un : up4 ((W : Int) * (C : Int)) * (H : Int) = ((H * st : Nat) : Int) := by rw [st_, chs]
  have r1 : rngI .i64 (up4 ((W : Int) * (C : Int)) * (H : Int)) := by rw [un]; exact rng64 (by omega) (by omega)
  have r2 : rngI .i64 (54 + up4 ((W : Int) * (C : Int)) * (H : Int)) := by rw [un]; exact rng64 (by omega) (by omega)
  have hwl2 : ((wrL (W : Int) (H : Int) (C : Int) p).length : Int) = 54 + up4 ((W : Int) * (C : Int)) * (H : Int) := by rw [un, hwl]; omega
  (repeat' (first | (refine And.intro (fun (hfk : _ = true) => ?_) (fun (hfk : _ = false) => ?_) <;> ((try (first | replace hfk := of_decide_eq_true hfk | replace hfk := of_decide_eq_false hfk | simp only [decide_eq_true_eq, decide_eq_false_iff_not, dh1, dh0, ne_eq, reduceCtorEq] at hfk)); (try (exfalso; first | omega | contradiction | exact Bool.noConfusion (Eq.trans (Eq.symm hfk) (by with_reducible assumption : _ = false)) | exact Bool.noConfusion (Eq.trans (Eq.symm hfk) (by with_reducible assumption : _ = true)))))) | (refine And.intro ?ob ?_; (case ob => (first | (first | kchk | exact Chk.mk (by kernel_rfl)) | exact True.intro | with_reducible assumption | exact rng64 (by omega) (by omega) | omega | (dsimp only; omega) | (show (_ : Nat) ≤ _; omega) | (simp only [ll1, ll2, ll0]; done) | (simp only [ll1, ll2, ll0]; omega) | (dsimp only; simp only [ll1, ll2, ll0]; omega)))) | exact True.intro | (show _ = _; first | with_reducible rfl | with_reducible assumption | omega | (simp only [ll1, ll2, ll0]; omega) | (skip; done) | exact rfl) | with_reducible assumption | (apply And.intro) | omega | (intro j hj; exact rfl) | fail))
  obtain ⟨b, hb⟩ : ∃ b, wrL (W : Int) (H : Int) (C : Int) p = b := ⟨_, rfl⟩
  obtain ⟨E0, hE0⟩ : ∃ E, wrHd W H C st = E := ⟨_, rfl⟩
  have e0l : E0.length = 54 := by rw [← hE0]; rfl
  rw [hb] at z hbw hwl hwl2
  have z0 : b = E0 ++ wrB p C W H st := by rw [z, hE0]
  have t0 : b.take 54 = E0 := by rw [z0, List.take_append_of_le_length (by omega), List.take_of_length_le (by omega)]
  have f2 : (([] : List Int).length + (List.drop 0 (List.take (Int.toNat 54) (wrL (W : Int) (H : Int) (C : Int) p))).length) = 54 := by
    rw [hb]; show 0 + (List.take 54 b).length = 54; rw [t0, e0l]
  have f3 : ([] : List Int) ++ List.drop 0 (List.take (Int.toNat 54) (wrL (W : Int) (H : Int) (C : Int) p)) = E0 := by rw [hb]; exact t0
  refine ⟨[(1, .int .u8 v), (2, .ptr 0 0), (4, .fls), (5, .roi .u8 b), (7, .int .i64 (st : Int)), (8, .sl 1 1 0 54)],
      ⟨2, [(0, some (.cells 40 [.int .i64 (W : Int), .int .i64 (H : Int), .int .i64 (C : Int), .roi .u8 p])), (1, some (bE E0))]⟩, [some 0, some 2], ?_, ?_⟩
  · (repeat' (first | (refine And.intro ?_ ?_) | exact True.intro | (show _ = _; with_reducible rfl) | (first | kchk | exact Chk.mk (by kernel_rfl))))
    all_goals first | exact hb | exact st_ | exact f2 | exact f3 | rfl
    peek
  clear f2 f3 r1 r2 wc1 wc2 un
  have w32 : IntKind.u32.wrap (4294967296 - (H : Int)) = 4294967296 - (H : Int) := u32_id (by omega) (by omega)
  obtain ⟨n, hn⟩ : ∃ n : Int, 4294967296 - (H : Int) = n := ⟨_, rfl⟩
  have n0 : 0 ≤ n ∧ n < 4294967296 := by omega
  rw [hn] at w32
  have y0 : IntKind.u8.wrap n = byt n 0 := by
    have e2 : IntKind.u8.wrap n = n % 256 := by simp [IntKind.wrap, IntKind.signed, IntKind.bits]
    rw [e2]; show _ = n / 1 % 256; rw [Int.ediv_one]
  have y1 : IntKind.u8.wrap (n.fdiv (2 ^ min (Int.toNat 8) IntKind.u32.bits)) = byt n 1 := byt_sh (t := 1) n0.1 n0.2 (by decide)
  have y2 : IntKind.u8.wrap (n.fdiv (2 ^ min (Int.toNat 16) IntKind.u32.bits)) = byt n 2 := byt_sh (t := 2) n0.1 n0.2 (by decide)
  have y3 : IntKind.u8.wrap (n.fdiv (2 ^ min (Int.toNat 24) IntKind.u32.bits)) = byt n 3 := byt_sh (t := 3) n0.1 n0.2 (by decide)
  obtain ⟨E1, hE1⟩ : ∃ E, rwHd W H C st = E := ⟨_, rfl⟩
  have e1l : E1.length = 54 := by rw [← hE1]; rfl
  have y4 : (((E0.set (0 + Int.toNat 22) (IntKind.u8.wrap (IntKind.u32.wrap (4294967296 - (H : Int))))).set (0 + Int.toNat 23) (IntKind.u8.wrap ((IntKind.u32.wrap (4294967296 - (H : Int))).fdiv (2 ^ min (Int.toNat 8) IntKind.u32.bits)))).set (0 + Int.toNat 24) (IntKind.u8.wrap ((IntKind.u32.wrap (4294967296 - (H : Int))).fdiv (2 ^ min (Int.toNat 16) IntKind.u32.bits)))).set (0 + Int.toNat 25) (IntKind.u8.wrap ((IntKind.u32.wrap (4294967296 - (H : Int))).fdiv (2 ^ min (Int.toNat 24) IntKind.u32.bits))) = E1 := by
    rw [hn, w32, y0, y1, y2, y3, ← hE0, ← hE1]
    refine (hd_rows W H C st n).trans ?_
    rw [← hn]
  (repeat' (first | (refine And.intro (fun (hfk : _ = true) => ?_) (fun (hfk : _ = false) => ?_) <;> ((try (first | replace hfk := of_decide_eq_true hfk | replace hfk := of_decide_eq_false hfk | simp only [decide_eq_true_eq, decide_eq_false_iff_not, dh1, dh0, ne_eq, reduceCtorEq] at hfk)); (try (exfalso; first | omega | contradiction | exact Bool.noConfusion (Eq.trans (Eq.symm hfk) (by with_reducible assumption : _ = false)) | exact Bool.noConfusion (Eq.trans (Eq.symm hfk) (by with_reducible assumption : _ = true)))))) | (refine And.intro ?ob ?_; (case ob => (first | (first | kchk | exact Chk.mk (by kernel_rfl)) | exact True.intro | with_reducible assumption | exact rng64 (by omega) (by omega) | omega | (dsimp only; omega) | (show (_ : Nat) ≤ _; omega) | (simp only [ll1, ll2, ll0]; done) | (simp only [ll1, ll2, ll0]; omega) | (dsimp only; simp only [ll1, ll2, ll0]; omega)))) | exact True.intro | (show _ = _; first | with_reducible rfl | with_reducible assumption | omega | (simp only [ll1, ll2, ll0]; omega) | (skip; done) | exact rfl) | with_reducible assumption | (apply And.intro) | omega | (intro j hj; exact rfl) | fail))
  refine ⟨[(1, .int .u8 v), (2, .ptr 0 0), (4, .fls), (5, .roi .u8 b), (7, .int .i64 (st : Int)), (8, .sl 1 1 0 54)],
      ⟨2, [(0, some (.cells 40 [.int .i64 (W : Int), .int .i64 (H : Int), .int .i64 (C : Int), .roi .u8 p])), (1, some (bE E1))]⟩, [some 0, some 1], ?_, ?_⟩
  · (repeat' (first | (refine And.intro ?_ ?_) | exact True.intro | (show _ = _; with_reducible rfl) | (first | kchk | exact Chk.mk (by kernel_rfl))))
    all_goals first | exact y4 | rfl
    peek
  clear y0 y1 y2 y3 y4 w32 hn n0
  have rh1 : rngI .i64 ((H : Int) - 1) := rng64 (by omega) (by omega)
  (repeat' (first | (refine And.intro (fun (hfk : _ = true) => ?_) (fun (hfk : _ = false) => ?_) <;> ((try (first | replace hfk := of_decide_eq_true hfk | replace hfk := of_decide_eq_false hfk | simp only [decide_eq_true_eq, decide_eq_false_iff_not, dh1, dh0, ne_eq, reduceCtorEq] at hfk)); (try (exfalso; first | omega | contradiction | exact Bool.noConfusion (Eq.trans (Eq.symm hfk) (by with_reducible assumption : _ = false)) | exact Bool.noConfusion (Eq.trans (Eq.symm hfk) (by with_reducible assumption : _ = true)))))) | (refine And.intro ?ob ?_; (case ob => (first | (first | kchk | exact Chk.mk (by kernel_rfl)) | exact True.intro | with_reducible assumption | exact rng64 (by omega) (by omega) | omega | (dsimp only; omega) | (show (_ : Nat) ≤ _; omega) | (simp only [ll1, ll2, ll0]; done) | (simp only [ll1, ll2, ll0]; omega) | (dsimp only; simp only [ll1, ll2, ll0]; omega)))) | exact True.intro | (show _ = _; first | with_reducible rfl | with_reducible assumption | omega | (simp only [ll1, ll2, ll0]; omega) | (skip; done) | exact rfl) | with_reducible assumption | (apply And.intro) | omega | (intro j hj; exact rfl) | fail))
  have hrl : ∀ k, k < H → (rwRow p C W st v k).length = st := fun k hk => rwRow_len len st1 hk
  have hwl0 : ∀ k, k < H → (wrRow p C W H st k).length = st := fun k hk => wrRow_len len st1 hk
  have i1 : (54 : Nat) = 54 + 0 * st := by omega
  have i2 : E1 = E1 ++ catK (rwRow p C W st v) 0 := (List.append_nil _).symm
  refine ⟨Nat, fun k => [(1, .int .u8 v), (2, .ptr 0 0), (4, .fls), (5, .roi .u8 b), (7, .int .i64 (st : Int)), (8, .sl 1 1 0 (54 + k * st)), (10, .int .i64 ((H : Int) - 1 - (k : Int)))],
      fun k => ⟨2, [(0, some (.cells 40 [.int .i64 (W : Int), .int .i64 (H : Int), .int .i64 (C : Int), .roi .u8 p])), (1, some (bE (E1 ++ catK (rwRow p C W st v) k)))]⟩,
      fun k => k ≤ H, fun k => H - k, ⟨0, [some 0, some 1], Nat.zero_le _, ?_⟩, fun k hk => ?_⟩
  · (repeat' (first | (refine And.intro ?_ ?_) | exact True.intro | (show _ = _; with_reducible rfl) | (first | kchk | exact Chk.mk (by kernel_rfl))))
    all_goals first | exact i1 | exact i2 | rfl | (show (_ : Int) = _; omega)
    peek
  clear i1 i2
  have hk : k ≤ H := hk
  have hcl2 := catK_len hrl k hk
  by_cases hlt : k < H
  · have eY : (((H - 1 - k) * st : Nat) : Int) = (st : Int) * ((H : Int) - 1 - (k : Int)) := by
      rw [Int.natCast_mul, Int.mul_comm, show ((H - 1 - k : Nat) : Int) = (H : Int) - 1 - (k : Int) by omega]
    have bY := prod_of (n := st) (show H - 1 - k < H by omega)
    have ra : rngI .i64 ((st : Int) * ((H : Int) - 1 - (k : Int))) := rng64 (by omega) (by omega)
    have rb : rngI .i64 (54 + (st : Int) * ((H : Int) - 1 - (k : Int))) := rng64 (by omega) (by omega)
    have rc : rngI .i64 (54 + (st : Int) * ((H : Int) - 1 - (k : Int)) + (st : Int)) := rng64 (by omega) (by omega)
    have rd : rngI .i64 ((H : Int) - 1 - (k : Int) - 1) := rng64 (by omega) (by omega)
    (repeat' (first | (refine And.intro (fun (hfk : _ = true) => ?_) (fun (hfk : _ = false) => ?_) <;> ((try (first | replace hfk := of_decide_eq_true hfk | replace hfk := of_decide_eq_false hfk | simp only [decide_eq_true_eq, decide_eq_false_iff_not, dh1, dh0, ne_eq, reduceCtorEq] at hfk)); (try (exfalso; first | omega | contradiction | exact Bool.noConfusion (Eq.trans (Eq.symm hfk) (by with_reducible assumption : _ = false)) | exact Bool.noConfusion (Eq.trans (Eq.symm hfk) (by with_reducible assumption : _ = true)))))) | (refine And.intro ?ob ?_; (case ob => (first | (first | kchk | exact Chk.mk (by kernel_rfl)) | exact True.intro | with_reducible assumption | exact rng64 (by omega) (by omega) | omega | (dsimp only; omega) | (show (_ : Nat) ≤ _; omega) | (simp only [ll1, ll2, ll0]; done) | (simp only [ll1, ll2, ll0]; omega) | (dsimp only; simp only [ll1, ll2, ll0]; omega)))) | exact True.intro | (show _ = _; first | with_reducible rfl | with_reducible assumption | omega | (simp only [ll1, ll2, ll0]; omega) | (skip; done) | exact rfl) | with_reducible assumption | (apply And.intro) | omega | (intro j hj; exact rfl) | fail))
    refine ⟨[], ?_⟩
    (repeat' (first | (refine And.intro (fun (hfk : _ = true) => ?_) (fun (hfk : _ = false) => ?_) <;> ((try (first | replace hfk := of_decide_eq_true hfk | replace hfk := of_decide_eq_false hfk | simp only [decide_eq_true_eq, decide_eq_false_iff_not, dh1, dh0, ne_eq, reduceCtorEq] at hfk)); (try (exfalso; first | omega | contradiction | exact Bool.noConfusion (Eq.trans (Eq.symm hfk) (by with_reducible assumption : _ = false)) | exact Bool.noConfusion (Eq.trans (Eq.symm hfk) (by with_reducible assumption : _ = true)))))) | (refine And.intro ?ob ?_; (case ob => (first | (first | kchk | exact Chk.mk (by kernel_rfl)) | exact True.intro | with_reducible assumption | exact rng64 (by omega) (by omega) | omega | (dsimp only; omega) | (show (_ : Nat) ≤ _; omega) | (simp only [ll1, ll2, ll0]; done) | (simp only [ll1, ll2, ll0]; omega) | (dsimp only; simp only [ll1, ll2, ll0]; omega)))) | exact True.intro | (show _ = _; first | with_reducible rfl | with_reducible assumption | omega | (simp only [ll1, ll2, ll0]; omega) | (skip; done) | exact rfl) | with_reducible assumption | (apply And.intro) | omega | (intro j hj; exact rfl) | fail))
    refine ⟨[(1, .int .u8 v), (2, .ptr 0 0), (4, .fls), (5, .roi .u8 b), (7, .int .i64 (st : Int)), (8, .sl 1 1 0 (54 + k * st)), (10, .int .i64 ((H : Int) - 1 - (k : Int))), (75, .bool (decide (0 ≤ (H : Int) - 1 - (k : Int))))],
      ⟨2, [(0, some (.cells 40 [.int .i64 (W : Int), .int .i64 (H : Int), .int .i64 (C : Int), .roi .u8 p])), (1, some (bE (E1 ++ catK (rwRow p C W st v) k)))]⟩, [some 0, some 1], ?_, ?_⟩
    · (repeat' (first | (refine And.intro ?_ ?_) | exact True.intro | (show _ = _; with_reducible rfl) | (first | kchk | exact Chk.mk (by kernel_rfl))))
      all_goals rfl
      peek
    (repeat' (first | (refine And.intro (fun (hfk : _ = true) => ?_) (fun (hfk : _ = false) => ?_) <;> ((try (first | replace hfk := of_decide_eq_true hfk | replace hfk := of_decide_eq_false hfk | simp only [decide_eq_true_eq, decide_eq_false_iff_not, dh1, dh0, ne_eq, reduceCtorEq] at hfk)); (try (exfalso; first | omega | contradiction | exact Bool.noConfusion (Eq.trans (Eq.symm hfk) (by with_reducible assumption : _ = false)) | exact Bool.noConfusion (Eq.trans (Eq.symm hfk) (by with_reducible assumption : _ = true)))))) | (refine And.intro ?ob ?_; (case ob => (first | (first | kchk | exact Chk.mk (by kernel_rfl)) | exact True.intro | with_reducible assumption | exact rng64 (by omega) (by omega) | omega | (dsimp only; omega) | (show (_ : Nat) ≤ _; omega) | (simp only [ll1, ll2, ll0]; done) | (simp only [ll1, ll2, ll0]; omega) | (dsimp only; simp only [ll1, ll2, ll0]; omega)))) | exact True.intro | (show _ = _; first | with_reducible rfl | with_reducible assumption | omega | (simp only [ll1, ll2, ll0]; omega) | (skip; done) | exact rfl) | with_reducible assumption | (apply And.intro) | omega | (intro j hj; exact rfl) | fail))
    obtain ⟨R, hR⟩ : ∃ R, swapTo (piece p (W * C) k) 0 C W = R := ⟨_, rfl⟩
    have hkw := prod_of (n := W * C) hlt
    have hRl : R.length = W * C := by rw [← hR, swapTo_len, piece_len (by omega)]
    have hrow : List.drop (54 + (H - 1 - k) * st) (List.take (54 + (H - 1 - k) * st + st) b) = R ++ List.replicate (st - W * C) 0 := by
      have h5 := fRow_cat (A := E0) (f := wrRow p C W H st) (st := st) (wc := st) (h := H) (k := H - 1 - k) e0l hwl0 (Nat.le_refl _) (by omega)
      have h6 : E0 ++ catK (wrRow p C W H st) H = b := z0.symm
      rw [h6, List.take_of_length_le (by rw [hwl0 _ (by omega)]; exact Nat.le_refl _)] at h5
      have h7 : wrRow p C W H st (H - 1 - k) = R ++ List.replicate (st - W * C) 0 := by
        unfold wrRow
        rw [show H - 1 - (H - 1 - k) = k by omega, hR]
      rw [← h7, ← h5]
      unfold fRow
      rw [List.drop_take, show 54 + (H - 1 - k) * st + st - (54 + (H - 1 - k) * st) = st by omega]
    have tl : (54 + (st : Int) * ((H : Int) - 1 - (k : Int))).toNat = 54 + (H - 1 - k) * st := by omega
    have th : (54 + (st : Int) * ((H : Int) - 1 - (k : Int)) + (st : Int)).toNat = 54 + (H - 1 - k) * st + st := by omega
    have c1 : ([] : List Int) ++ List.drop (54 + (st : Int) * ((H : Int) - 1 - (k : Int))).toNat (List.take (54 + (st : Int) * ((H : Int) - 1 - (k : Int)) + (st : Int)).toNat b) = R ++ List.replicate (st - W * C) 0 := by rw [tl, th, hrow]; rfl
    have c2 : ([] : List Int).length + (List.drop (54 + (st : Int) * ((H : Int) - 1 - (k : Int))).toNat (List.take (54 + (st : Int) * ((H : Int) - 1 - (k : Int)) + (st : Int)).toNat b)).length = st := by
      rw [tl, th, hrow, List.length_append, hRl, List.length_replicate]; show 0 + _ = _; omega
    refine ⟨[(1, .int .u8 v), (2, .ptr 0 0), (4, .fls), (5, .roi .u8 b), (7, .int .i64 (st : Int)), (8, .sl 1 1 0 (54 + k * st)), (10, .int .i64 ((H : Int) - 1 - (k : Int))), (11, .sl 2 1 0 st)],
      ⟨3, [(0, some (.cells 40 [.int .i64 (W : Int), .int .i64 (H : Int), .int .i64 (C : Int), .roi .u8 p])), (1, some (bE (E1 ++ catK (rwRow p C W st v) k))), (2, some (bE (R ++ List.replicate (st - W * C) 0)))]⟩, [some 0, some 1, some 3], ?_, ?_⟩
    · (repeat' (first | (refine And.intro ?_ ?_) | exact True.intro | (show _ = _; with_reducible rfl) | (first | kchk | exact Chk.mk (by kernel_rfl))))
      all_goals first | exact c1 | exact c2 | rfl
      peek
    clear c1 c2 tl th hrow ra rb rc eY bY z z0 t0 hb hE0 hE1 hi0 hbw
    have rw1 : rngI .i64 ((W : Int) * (C : Int)) := rng64 (by omega) (by omega)
    (repeat' (first | (refine And.intro (fun (hfk : _ = true) => ?_) (fun (hfk : _ = false) => ?_) <;> ((try (first | replace hfk := of_decide_eq_true hfk | replace hfk := of_decide_eq_false hfk | simp only [decide_eq_true_eq, decide_eq_false_iff_not, dh1, dh0, ne_eq, reduceCtorEq] at hfk)); (try (exfalso; first | omega | contradiction | exact Bool.noConfusion (Eq.trans (Eq.symm hfk) (by with_reducible assumption : _ = false)) | exact Bool.noConfusion (Eq.trans (Eq.symm hfk) (by with_reducible assumption : _ = true)))))) | (refine And.intro ?ob ?_; (case ob => (first | (first | kchk | exact Chk.mk (by kernel_rfl)) | exact True.intro | with_reducible assumption | exact rng64 (by omega) (by omega) | omega | (dsimp only; omega) | (show (_ : Nat) ≤ _; omega) | (simp only [ll1, ll2, ll0]; done) | (simp only [ll1, ll2, ll0]; omega) | (dsimp only; simp only [ll1, ll2, ll0]; omega)))) | exact True.intro | (show _ = _; first | with_reducible rfl | with_reducible assumption | omega | (simp only [ll1, ll2, ll0]; omega) | (skip; done) | exact rfl) | with_reducible assumption | (apply And.intro) | omega | (intro j hj; exact rfl) | fail))
    have i3 : (W : Int) * (C : Int) = ((W * C + 0 : Nat) : Int) := by rw [← cwc]; rfl
    have i4 : R ++ List.replicate (st - W * C) 0 = R ++ (List.replicate 0 v ++ List.replicate (st - W * C - 0) 0) := rfl
    refine ⟨Nat, fun j => [(1, .int .u8 v), (2, .ptr 0 0), (4, .fls), (5, .roi .u8 b), (7, .int .i64 (st : Int)), (8, .sl 1 1 0 (54 + k * st)), (10, .int .i64 ((H : Int) - 1 - (k : Int))), (11, .sl 2 1 0 st), (12, .int .i64 ((W * C + j : Nat) : Int))],
      fun j => ⟨3, [(0, some (.cells 40 [.int .i64 (W : Int), .int .i64 (H : Int), .int .i64 (C : Int), .roi .u8 p])), (1, some (bE (E1 ++ catK (rwRow p C W st v) k))), (2, some (bE (R ++ (List.replicate j v ++ List.replicate (st - W * C - j) 0))))]⟩,
      fun j => W * C + j ≤ st, fun j => st - (W * C + j), ⟨0, [some 0, some 1, some 2], st1, ?_⟩, fun j hj => ?_⟩
    · (repeat' (first | (refine And.intro ?_ ?_) | exact True.intro | (show _ = _; with_reducible rfl) | (first | kchk | exact Chk.mk (by kernel_rfl))))
      all_goals first | exact i3 | exact i4 | rfl
      peek
    clear i3 i4 rw1
    have hj : W * C + j ≤ st := hj
    have hlr : (R ++ (List.replicate j v ++ List.replicate (st - W * C - j) 0)).length = st := by
      rw [List.length_append, List.length_append, List.length_replicate, List.length_replicate, hRl]; omega
    by_cases hjt : W * C + j < st
    · have rj : rngI .i64 (((W * C + j : Nat) : Int) + 1) := rng64 (by omega) (by omega)
      have x1 : (R ++ (List.replicate j v ++ List.replicate (st - W * C - j) 0)).set (0 + ((W * C + j : Nat) : Int).toNat) v = R ++ (List.replicate (j + 1) v ++ List.replicate (st - W * C - (j + 1)) 0) := by
        rw [Int.toNat_natCast, Nat.zero_add, List.set_append_right _ _ (by omega), hRl, Nat.add_sub_cancel_left, List.set_append_right _ _ (by rw [List.length_replicate]; exact Nat.le_refl _), List.length_replicate, Nat.sub_self]
        obtain ⟨m, hm⟩ : ∃ m, st - W * C - j = m + 1 := ⟨st - W * C - j - 1, by omega⟩
        rw [hm, show st - W * C - (j + 1) = m by omega, List.replicate_succ (n := m), List.replicate_succ' (n := j), List.append_assoc]; rfl
      (repeat' (first | (refine And.intro (fun (hfk : _ = true) => ?_) (fun (hfk : _ = false) => ?_) <;> ((try (first | replace hfk := of_decide_eq_true hfk | replace hfk := of_decide_eq_false hfk | simp only [decide_eq_true_eq, decide_eq_false_iff_not, dh1, dh0, ne_eq, reduceCtorEq] at hfk)); (try (exfalso; first | omega | contradiction | exact Bool.noConfusion (Eq.trans (Eq.symm hfk) (by with_reducible assumption : _ = false)) | exact Bool.noConfusion (Eq.trans (Eq.symm hfk) (by with_reducible assumption : _ = true)))))) | (refine And.intro ?ob ?_; (case ob => (first | (first | kchk | exact Chk.mk (by kernel_rfl)) | exact True.intro | with_reducible assumption | exact rng64 (by omega) (by omega) | omega | (dsimp only; omega) | (show (_ : Nat) ≤ _; omega) | (simp only [ll1, ll2, ll0]; done) | (simp only [ll1, ll2, ll0]; omega) | (dsimp only; simp only [ll1, ll2, ll0]; omega)))) | exact True.intro | (show _ = _; first | with_reducible rfl | with_reducible assumption | omega | (simp only [ll1, ll2, ll0]; omega) | (skip; done) | exact rfl) | with_reducible assumption | (apply And.intro) | omega | (intro j hj; exact rfl) | fail))
      refine ⟨j + 1, [some 0, some 1, some 2], by show W * C + (j + 1) ≤ st; omega, ?mu, ?_⟩
      case mu => (show st - (W * C + (j + 1)) < st - (W * C + j); omega)
      (repeat' (first | (refine And.intro ?_ ?_) | exact True.intro | (show _ = _; with_reducible rfl) | (first | kchk | exact Chk.mk (by kernel_rfl))))
      all_goals first | exact x1 | rfl | (show (_ : Int) = _; omega)
      peek
    · have hjs : j = st - W * C := by omega
      have x2 : R ++ (List.replicate j v ++ List.replicate (st - W * C - j) 0) = rwRow p C W st v k := by
        rw [hjs, Nat.sub_self]; unfold rwRow; rw [hR]; simp
      have x3 : List.take st (List.drop 0 (R ++ (List.replicate j v ++ List.replicate (st - W * C - j) 0))) = rwRow p C W st v k := by
        rw [List.drop_zero, List.take_of_length_le (by omega), x2]
      have x4 : E1 ++ catK (rwRow p C W st v) k ++ List.take st (List.drop 0 (R ++ (List.replicate j v ++ List.replicate (st - W * C - j) 0))) = E1 ++ catK (rwRow p C W st v) (k + 1) := by
        rw [x3, List.append_assoc]; rfl
      have x5 : (List.take st (List.drop 0 (R ++ (List.replicate j v ++ List.replicate (st - W * C - j) 0)))).length = st := by rw [x3, hrl k hlt]
      have hlk : (E1 ++ catK (rwRow p C W st v) k).length = 54 + k * st := by rw [List.length_append, e1l, hcl2]
      have hks := prod_of (n := st) hlt
      have x6 : (E1 ++ catK (rwRow p C W st v) k).length + (List.take st (List.drop 0 (R ++ (List.replicate j v ++ List.replicate (st - W * C - j) 0)))).length ≤ 140737488355328 := by rw [hlk, x5]; omega
      have x7 : (((E1 ++ catK (rwRow p C W st v) k).length : Int) + ((List.take st (List.drop 0 (R ++ (List.replicate j v ++ List.replicate (st - W * C - j) 0)))).length : Int)) * ((1 : Nat) : Int) ≤ 140737488355328 := by rw [hlk, x5]; omega
      have x8 : (E1 ++ catK (rwRow p C W st v) k).length + (List.take st (List.drop 0 (R ++ (List.replicate j v ++ List.replicate (st - W * C - j) 0)))).length = 54 + (k + 1) * st := by rw [hlk, x5, Nat.succ_mul]; omega
      (repeat' (first | (refine And.intro (fun (hfk : _ = true) => ?_) (fun (hfk : _ = false) => ?_) <;> ((try (first | replace hfk := of_decide_eq_true hfk | replace hfk := of_decide_eq_false hfk | simp only [decide_eq_true_eq, decide_eq_false_iff_not, dh1, dh0, ne_eq, reduceCtorEq] at hfk)); (try (exfalso; first | omega | contradiction | exact Bool.noConfusion (Eq.trans (Eq.symm hfk) (by with_reducible assumption : _ = false)) | exact Bool.noConfusion (Eq.trans (Eq.symm hfk) (by with_reducible assumption : _ = true)))))) | (refine And.intro ?ob ?_; (case ob => (first | (first | kchk | exact Chk.mk (by kernel_rfl)) | exact True.intro | with_reducible assumption | exact rng64 (by omega) (by omega) | omega | (dsimp only; omega) | (show (_ : Nat) ≤ _; omega) | (simp only [ll1, ll2, ll0]; done) | (simp only [ll1, ll2, ll0]; omega) | (dsimp only; simp only [ll1, ll2, ll0]; omega)))) | exact True.intro | (show _ = _; first | with_reducible rfl | with_reducible assumption | omega | (simp only [ll1, ll2, ll0]; omega) | (first | exact x6 | exact x7; done) | exact rfl) | with_reducible assumption | (apply And.intro) | omega | (intro j hj; exact rfl) | fail))
      refine ⟨k + 1, [some 0, some 3], hlt, ?mu2, ?_⟩
      case mu2 => (show H - (k + 1) < H - k; omega)
      (repeat' (first | (refine And.intro ?_ ?_) | exact True.intro | (show _ = _; with_reducible rfl) | (first | kchk | exact Chk.mk (by kernel_rfl))))
      all_goals first | exact x4 | exact x8 | rfl | (show (_ : Int) = _; omega)
      peek
  · obtain rfl : k = H := by omega
    (repeat' (first | (refine And.intro (fun (hfk : _ = true) => ?_) (fun (hfk : _ = false) => ?_) <;> ((try (first | replace hfk := of_decide_eq_true hfk | replace hfk := of_decide_eq_false hfk | simp only [decide_eq_true_eq, decide_eq_false_iff_not, dh1, dh0, ne_eq, reduceCtorEq] at hfk)); (try (exfalso; first | omega | contradiction | exact Bool.noConfusion (Eq.trans (Eq.symm hfk) (by with_reducible assumption : _ = false)) | exact Bool.noConfusion (Eq.trans (Eq.symm hfk) (by with_reducible assumption : _ = true)))))) | (refine And.intro ?ob ?_; (case ob => (first | (first | kchk | exact Chk.mk (by kernel_rfl)) | exact True.intro | with_reducible assumption | exact rng64 (by omega) (by omega) | omega | (dsimp only; omega) | (show (_ : Nat) ≤ _; omega) | (simp only [ll1, ll2, ll0]; done) | (simp only [ll1, ll2, ll0]; omega) | (dsimp only; simp only [ll1, ll2, ll0]; omega)))) | exact True.intro | (show _ = _; first | with_reducible rfl | with_reducible assumption | omega | (simp only [ll1, ll2, ll0]; omega) | (skip; done) | exact rfl) | with_reducible assumption | (apply And.intro) | omega | (intro j hj; exact rfl) | fail))
    refine ⟨[8], ?_⟩
    (repeat' (first | (refine And.intro (fun (hfk : _ = true) => ?_) (fun (hfk : _ = false) => ?_) <;> ((try (first | replace hfk := of_decide_eq_true hfk | replace hfk := of_decide_eq_false hfk | simp only [decide_eq_true_eq, decide_eq_false_iff_not, dh1, dh0, ne_eq, reduceCtorEq] at hfk)); (try (exfalso; first | omega | contradiction | exact Bool.noConfusion (Eq.trans (Eq.symm hfk) (by with_reducible assumption : _ = false)) | exact Bool.noConfusion (Eq.trans (Eq.symm hfk) (by with_reducible assumption : _ = true)))))) | (refine And.intro ?ob ?_; (case ob => (first | (first | kchk | exact Chk.mk (by kernel_rfl)) | exact True.intro | with_reducible assumption | exact rng64 (by omega) (by omega) | omega | (dsimp only; omega) | (show (_ : Nat) ≤ _; omega) | (simp only [ll1, ll2, ll0]; done) | (simp only [ll1, ll2, ll0]; omega) | (dsimp only; simp only [ll1, ll2, ll0]; omega)))) | exact True.intro | (show _ = _; first | with_reducible rfl | with_reducible assumption | omega | (simp only [ll1, ll2, ll0]; omega) | (skip; done) | exact rfl) | with_reducible assumption | (apply And.intro) | omega | (intro j hj; exact rfl) | fail))
    have hlk : (E1 ++ catK (rwRow p C W st v) k).length = 54 + k * st := by rw [List.length_append, e1l, hcl2]
    obtain ⟨q, hq⟩ : ∃ q, rwHd W k C st ++ catK (rwRow p C W st v) k = q := ⟨_, rfl⟩
    have hqE : E1 ++ catK (rwRow p C W st v) k = q := by rw [← hq, hE1]
    have hqb := bytes_rw hB hv W k C st
    rw [hq] at hqb
    have hql : q.length = 54 + k * st := by rw [← hqE, hlk]
    have hqB : Byt q := ⟨by omega, fun i => hqb.get i⟩
    have hrd := rd_rows (v := v) hi0 (by rw [hq]; exact hqB)
    rw [hq] at hrd
    obtain ⟨d1, d2, d3, d4, d5⟩ := hrd
    have qo : List.take (54 + k * st) (List.drop 0 (E1 ++ catK (rwRow p C W st v) k)) = q := by rw [List.drop_zero, List.take_of_length_le (by omega), hqE]
    refine ⟨[(2, .ptr 0 0), (4, .fls), (8, .roi .u8 q), (75, .bool (decide (0 ≤ (k : Int) - 1 - (k : Int))))],
      ⟨1, [(0, some (.cells 40 [.int .i64 (W : Int), .int .i64 (k : Int), .int .i64 (C : Int), .roi .u8 p]))]⟩, [some 0], ?_, ?_⟩
    · (repeat' (first | (refine And.intro ?_ ?_) | exact True.intro | (show _ = _; with_reducible rfl) | (first | kchk | exact Chk.mk (by kernel_rfl))))
      all_goals first | exact qo | rfl
      peek
    have s1 : rdK q (hW q) = (W : Int) := by unfold rdK; rw [if_pos d1, d3]
    have s2 : rdK q (hrV (hH0 q)) = (k : Int) := by unfold rdK; rw [if_pos d1, d4]
    have s3 : rdK q (hCn q) = (C : Int) := by unfold rdK; rw [if_pos d1, d5]
    have sm : sameM (rdK q (hW q)) (rdK q (hrV (hH0 q))) (rdK q (hCn q)) (rdL q) (W : Int) (k : Int) (C : Int) p = true := by rw [s1, s2, s3, d2]; exact sameM_self _ _ _ _
    have sm' := of_decide_eq_true sm
    have hrl2 := rdL_len hqB
    clear d2 d3 d4 d5 s1 s2 s3 hq hqE qo hlk hql hrl hwl0 z z0 t0 hb hE0 hE1
    (repeat' (first | (refine And.intro (fun (hfk : _ = true) => ?_) (fun (hfk : _ = false) => ?_) <;> ((try (first | replace hfk := of_decide_eq_true hfk | replace hfk := of_decide_eq_false hfk | simp only [decide_eq_true_eq, decide_eq_false_iff_not, dh1, dh0, ne_eq, reduceCtorEq] at hfk)); (try (exfalso; first | omega | contradiction | exact Bool.noConfusion (Eq.trans (Eq.symm hfk) (by with_reducible assumption : _ = false)) | exact Bool.noConfusion (Eq.trans (Eq.symm hfk) (by with_reducible assumption : _ = true)))))) | (refine And.intro ?ob ?_; (case ob => (first | (first | kchk | exact Chk.mk (by kernel_rfl)) | exact True.intro | with_reducible assumption | exact rng64 (by omega) (by omega) | omega | (dsimp only; omega) | (show (_ : Nat) ≤ _; omega) | (simp only [ll1, ll2, ll0]; done) | (simp only [ll1, ll2, ll0]; omega) | (dsimp only; simp only [ll1, ll2, ll0]; omega)))) | exact True.intro | (show _ = _; first | with_reducible rfl | with_reducible assumption | omega | (simp only [ll1, ll2, ll0]; omega) | (first | exact hqB | exact sm | rfl; done) | exact rfl) | with_reducible assumption | (apply And.intro) | omega | (intro j hj; exact rfl) | fail))
    peek
end Go.Proofs.Ytepjmnkleajibaa

