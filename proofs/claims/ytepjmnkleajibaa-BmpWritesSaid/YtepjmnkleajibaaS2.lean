/- Texts laid together. No condition. -/
import Derived.Test.YtepjmnkleajibaaS1
/- Bitmaps (bmp): a row out of an image that is only read; what the program's head tells of bytes. No condition. -/
namespace Go.Proofs.Ytepjmnkleajibaa
open Go Go.RowKit
set_option linter.unusedVariables false
set_option linter.unusedSimpArgs false
set_option maxRecDepth 100000
set_option maxHeartbeats 4000000

def rowRF : FSpec := fun l es => match l, es with
  | [.agg [.int .i64 w, .int .i64 h, .int .i64 c, .roi .u8 p], .int .i64 y], [] =>
    some ([imCheck w h c p.length = 0, 0 ≤ y, y < h], .sl 0 1 0 (w * c).toNat, [some (bE ((p.drop (y * (w * c)).toNat).take (w * c).toNat))])
  | _, _ => none
theorem rowR_g : GSOK Try.prog 94 (fG rowRF) := by
  refine fok (S := [(92, checkS)]) (G := glook [(78, fG cloneF)]) (pok_cons check_s pok_nil) (gl_cons clone_g gl_nil) ⟨Try.func94, by kernel_rfl, by kernel_rfl, by kernel_rfl⟩ fun l es obs v es' h ho => ?_
  (unfold rowRF at h; split at h; rotate_left; (focus (cases h)); rename_i w hh c p y; simp only [Option.some.injEq, Prod.mk.injEq] at h; obtain ⟨rfl, rfl, rfl⟩ := h; simp only [List.mem_cons, List.not_mem_nil, or_false, forall_eq_or_imp, forall_eq, false_implies, implies_true] at ho)
  obtain ⟨hc0, hy0, hy1⟩ := ho
  have hc := check_inv hc0
  obtain ⟨k1, k2, k3, k4⟩ := row_bd hc.1 hy0 hy1
  have hl := hc.2
  have q1 : rngI .i64 (w * c) := rng64 (by omega) (by omega)
  have q2 : rngI .i64 (y * (w * c)) := rng64 (by omega) (by omega)
  have q3 : rngI .i64 (y * (w * c) + w * c) := rng64 (by omega) (by omega)
  have e1 : (List.drop (y * (w * c)).toNat (List.take (y * (w * c) + w * c).toNat p)).length = (w * c).toNat := by
    rw [List.length_drop, List.length_take]; omega
  have e2 : List.drop (y * (w * c)).toNat (List.take (y * (w * c) + w * c).toNat p) = (p.drop (y * (w * c)).toNat).take (w * c).toNat := by
    rw [List.drop_take]; congr 1; omega
  refine ⟨Nat.le_of_ble_eq_true rfl, ?_⟩
  (repeat' (first | (refine And.intro (fun (hfk : _ = true) => ?_) (fun (hfk : _ = false) => ?_) <;> ((try (first | replace hfk := of_decide_eq_true hfk | replace hfk := of_decide_eq_false hfk | simp only [decide_eq_true_eq, decide_eq_false_iff_not, dh1, dh0, ne_eq, reduceCtorEq] at hfk)); (try (exfalso; first | omega | contradiction | exact Bool.noConfusion (Eq.trans (Eq.symm hfk) (by with_reducible assumption : _ = false)) | exact Bool.noConfusion (Eq.trans (Eq.symm hfk) (by with_reducible assumption : _ = true)))))) | (refine And.intro ?ob ?_; (case ob => (first | exact Chk.mk (by kernel_rfl) | exact True.intro | with_reducible assumption | exact rng64 (by omega) (by omega) | omega | (dsimp only; omega) | (show (_ : Nat) ≤ _; omega) | (simp only [ll1, ll2, ll0]; done) | (simp only [ll1, ll2, ll0]; omega) | (dsimp only; simp only [ll1, ll2, ll0]; omega)))) | exact True.intro | (show _ = _; first | with_reducible rfl | with_reducible assumption | omega | (simp only [ll1, ll2, ll0]; omega) | (skip; done) | exact rfl) | with_reducible assumption | (apply And.intro) | omega | (intro j hj; exact rfl) | fail))
  (refine ⟨[], ⟨by kernel_rfl⟩, ?_⟩)
  (repeat' (first | (refine And.intro (fun (hfk : _ = true) => ?_) (fun (hfk : _ = false) => ?_) <;> ((try (first | replace hfk := of_decide_eq_true hfk | replace hfk := of_decide_eq_false hfk | simp only [decide_eq_true_eq, decide_eq_false_iff_not, dh1, dh0, ne_eq, reduceCtorEq] at hfk)); (try (exfalso; first | omega | contradiction | exact Bool.noConfusion (Eq.trans (Eq.symm hfk) (by with_reducible assumption : _ = false)) | exact Bool.noConfusion (Eq.trans (Eq.symm hfk) (by with_reducible assumption : _ = true)))))) | (refine And.intro ?ob ?_; (case ob => (first | exact Chk.mk (by kernel_rfl) | exact True.intro | with_reducible assumption | exact rng64 (by omega) (by omega) | omega | (dsimp only; omega) | (show (_ : Nat) ≤ _; omega) | (simp only [ll1, ll2, ll0]; done) | (simp only [ll1, ll2, ll0]; omega) | (dsimp only; simp only [ll1, ll2, ll0]; omega)))) | exact True.intro | (show _ = _; first | with_reducible rfl | with_reducible assumption | omega | (simp only [ll1, ll2, ll0]; omega) | (skip; done) | exact rfl) | with_reducible assumption | (apply And.intro) | omega | (intro j hj; exact rfl) | fail))
  refine ⟨[some 1], ?_⟩
  (repeat' (first | (refine And.intro (fun (hfk : _ = true) => ?_) (fun (hfk : _ = false) => ?_) <;> ((try (first | replace hfk := of_decide_eq_true hfk | replace hfk := of_decide_eq_false hfk | simp only [decide_eq_true_eq, decide_eq_false_iff_not, dh1, dh0, ne_eq, reduceCtorEq] at hfk)); (try (exfalso; first | omega | contradiction | exact Bool.noConfusion (Eq.trans (Eq.symm hfk) (by with_reducible assumption : _ = false)) | exact Bool.noConfusion (Eq.trans (Eq.symm hfk) (by with_reducible assumption : _ = true)))))) | (refine And.intro ?ob ?_; (case ob => (first | exact Chk.mk (by kernel_rfl) | exact True.intro | with_reducible assumption | exact rng64 (by omega) (by omega) | omega | (dsimp only; omega) | (show (_ : Nat) ≤ _; omega) | (simp only [ll1, ll2, ll0]; done) | (simp only [ll1, ll2, ll0]; omega) | (dsimp only; simp only [ll1, ll2, ll0]; omega)))) | exact True.intro | (show _ = _; first | with_reducible rfl | with_reducible assumption | omega | (simp only [ll1, ll2, ll0]; omega) | (first | exact e1 | exact e2; done) | exact rfl) | with_reducible assumption | (apply And.intro) | omega | (intro j hj; exact rfl) | fail))
end Go.Proofs.Ytepjmnkleajibaa

/- Bitmaps (bmp): what is written of an image. No condition. -/
namespace Go.Proofs.Ytepjmnkleajibaa
open Go Go.RowKit
set_option linter.unusedVariables false
set_option linter.unusedSimpArgs false
set_option maxRecDepth 100000
set_option maxHeartbeats 16000000

def wrE (w h c n : Int) : Int := if imCheck w h c n ≠ 0 then imCheck w h c n else if c = 1 then 10 else 0
abbrev wrHd (W H c st : Nat) : List Int := hdOut ((54 + H * st : Nat) : Int) 0 54 40 (W : Int) (H : Int) 1 ((8 * c : Nat) : Int) 0 0 0 0 0 0
def wrL (w h c : Int) (p : List Int) : List Int :=
  if wrE w h c p.length = 0 then wrHd w.toNat h.toNat c.toNat (up4 (w * c)).toNat ++ wrB p c.toNat w.toNat h.toNat (up4 (w * c)).toNat else []
/-- An image that has a bitmap. -/
structure ImOK (w h c : Int) (p : List Int) (W H C st : Nat) : Prop where
  w_ : w = W
  h_ : h = H
  c_ : c = C
  chk : imCheck w h c p.length = 0
  c34 : C = 3 ∨ C = 4
  w1 : 1 ≤ W
  w2 : W ≤ 32768
  h1 : 1 ≤ H
  h2 : H ≤ 32768
  wh : W * H ≤ 4194304
  len : p.length = H * (W * C)
  st_ : up4 ((W : Int) * (C : Int)) = st
  st1 : W * C ≤ st
  st2 : st ≤ W * C + 3
theorem im_of {w h c : Int} {p : List Int} (hw : wrE w h c p.length = 0) : ImOK w h c p w.toNat h.toNat c.toNat (up4 (w * c)).toNat := by
  unfold wrE at hw
  split at hw
  · rename_i k; exact absurd hw k
  rename_i k1
  have k1 : imCheck w h c p.length = 0 := Classical.not_not.1 k1
  split at hw
  · cases hw
  rename_i k2
  obtain ⟨hf, hn⟩ := check_inv k1
  obtain ⟨hc, w1, w2, h1, h2, wh, _, q1, q2⟩ := fits_inv hf
  obtain ⟨W, rfl⟩ : ∃ W : Nat, w = W := ⟨w.toNat, by omega⟩
  obtain ⟨H, rfl⟩ : ∃ H : Nat, h = H := ⟨h.toNat, by omega⟩
  obtain ⟨C, rfl⟩ : ∃ C : Nat, c = C := ⟨c.toNat, by omega⟩
  have cwh : ((W * H : Nat) : Int) = (W : Int) * (H : Int) := Int.natCast_mul _ _
  have cwc : ((W * C : Nat) : Int) = (W : Int) * (C : Int) := Int.natCast_mul _ _
  have cn : ((H * (W * C) : Nat) : Int) = (W : Int) * (H : Int) * (C : Int) := by rw [← cwh, ← Int.natCast_mul, Nat.mul_comm W H, Nat.mul_assoc]
  have ub := up4_bd ((W : Int) * (C : Int))
  have es : ((up4 ((W : Int) * (C : Int))).toNat : Int) = up4 ((W : Int) * (C : Int)) := Int.toNat_of_nonneg (by omega)
  simp only [Int.toNat_natCast]
  exact ⟨rfl, rfl, rfl, k1, by omega, by omega, by omega, by omega, by omega, by omega, by omega, es.symm, by omega, by omega⟩
abbrev bwS : PSpec := fun l => match l with
  | [.agg [.int .i64 w, .int .i64 h, .int .i64 c, .roi .u8 p]] => some ([p.length ≤ 20000], .tup [.roi .u8 (wrL w h c p), .int .i64 (wrE w h c p.length)])
  | _ => none
end Go.Proofs.Ytepjmnkleajibaa

/- Bitmaps (bmp): the program's Write. No condition. -/
namespace Go.Proofs.Ytepjmnkleajibaa
open Go Go.RowKit
set_option linter.unusedVariables false
set_option linter.unusedSimpArgs false
set_option maxRecDepth 100000
set_option maxHeartbeats 16000000

noncomputable def wpCx : Ctx := mkE 0 [(92, checkS), (30, bsizeS), (29, strideS)] (glook [(93, fG putHF), (94, fG rowRF), (95, fG turnF)]) [] [] [6, 8, 12, 13]
theorem wpCx_ok : COK Try.prog wpCx := mkE_ok (pok_cons check_s (pok_cons bsize_s (pok_cons stride_s pok_nil))) (gl_cons putH_g (gl_cons rowR_g (gl_cons turn_g gl_nil))) dl_nil
theorem wp_bad {w h c : Int} {p : List Int} (hp : p.length ≤ 20000) (e : wrE w h c p.length ≠ 0) : vcFn wpCx Try.f25 [.agg [.int .i64 w, .int .i64 h, .int .i64 c, .roi .u8 p]] ⟨0, []⟩ (Ret (.tup [.roi .u8 (wrL w h c p), .int .i64 (wrE w h c p.length)])) := by
  have z : wrL w h c p = [] := if_neg e
  rw [z]
  by_cases k1 : imCheck w h c p.length = 0
  · have e1 : wrE w h c p.length = if c = 1 then 10 else 0 := if_neg (fun k => k k1)
    have hc : c = 1 := Classical.byContradiction fun k => e (by rw [e1, if_neg k])
    rw [e1, if_pos hc]
    (repeat' (first | (refine And.intro (fun (hfk : _ = true) => ?_) (fun (hfk : _ = false) => ?_) <;> ((try (first | replace hfk := of_decide_eq_true hfk | replace hfk := of_decide_eq_false hfk | simp only [decide_eq_true_eq, decide_eq_false_iff_not, dh1, dh0, ne_eq, reduceCtorEq] at hfk)); (try (exfalso; first | omega | contradiction | exact Bool.noConfusion (Eq.trans (Eq.symm hfk) (by with_reducible assumption : _ = false)) | exact Bool.noConfusion (Eq.trans (Eq.symm hfk) (by with_reducible assumption : _ = true)))))) | (refine And.intro ?ob ?_; (case ob => (first | exact Chk.mk (by kernel_rfl) | exact True.intro | with_reducible assumption | exact rng64 (by omega) (by omega) | omega | (dsimp only; omega) | (show (_ : Nat) ≤ _; omega) | (simp only [ll1, ll2, ll0]; done) | (simp only [ll1, ll2, ll0]; omega) | (dsimp only; simp only [ll1, ll2, ll0]; omega)))) | exact True.intro | (show _ = _; first | with_reducible rfl | with_reducible assumption | omega | (simp only [ll1, ll2, ll0]; omega) | (rfl; done) | exact rfl) | with_reducible assumption | (apply And.intro) | omega | (intro j hj; exact rfl) | fail))
  · have e1 : wrE w h c p.length = imCheck w h c p.length := if_pos k1
    rw [e1]
    (repeat' (first | (refine And.intro (fun (hfk : _ = true) => ?_) (fun (hfk : _ = false) => ?_) <;> ((try (first | replace hfk := of_decide_eq_true hfk | replace hfk := of_decide_eq_false hfk | simp only [decide_eq_true_eq, decide_eq_false_iff_not, dh1, dh0, ne_eq, reduceCtorEq] at hfk)); (try (exfalso; first | omega | contradiction | exact Bool.noConfusion (Eq.trans (Eq.symm hfk) (by with_reducible assumption : _ = false)) | exact Bool.noConfusion (Eq.trans (Eq.symm hfk) (by with_reducible assumption : _ = true)))))) | (refine And.intro ?ob ?_; (case ob => (first | exact Chk.mk (by kernel_rfl) | exact True.intro | with_reducible assumption | exact rng64 (by omega) (by omega) | omega | (dsimp only; omega) | (show (_ : Nat) ≤ _; omega) | (simp only [ll1, ll2, ll0]; done) | (simp only [ll1, ll2, ll0]; omega) | (dsimp only; simp only [ll1, ll2, ll0]; omega)))) | exact True.intro | (show _ = _; first | with_reducible rfl | with_reducible assumption | omega | (simp only [ll1, ll2, ll0]; omega) | (rfl; done) | exact rfl) | with_reducible assumption | (apply And.intro) | omega | (intro j hj; exact rfl) | fail))
theorem wp_good {w h c : Int} {p : List Int} (hp : p.length ≤ 20000) (e : wrE w h c p.length = 0) : vcFn wpCx Try.f25 [.agg [.int .i64 w, .int .i64 h, .int .i64 c, .roi .u8 p]] ⟨0, []⟩ (Ret (.tup [.roi .u8 (wrL w h c p), .int .i64 (wrE w h c p.length)])) := by
  have hi := im_of e
  have z : wrL w h c p = wrHd w.toNat h.toNat c.toNat (up4 (w * c)).toNat ++ wrB p c.toNat w.toNat h.toNat (up4 (w * c)).toNat := if_pos e
  rw [z, e]
  obtain ⟨W, hW⟩ : ∃ W, w.toNat = W := ⟨_, rfl⟩
  obtain ⟨H, hH⟩ : ∃ H, h.toNat = H := ⟨_, rfl⟩
  obtain ⟨C, hC⟩ : ∃ C, c.toNat = C := ⟨_, rfl⟩
  obtain ⟨st, hst⟩ : ∃ st, (up4 (w * c)).toNat = st := ⟨_, rfl⟩
  rw [hW, hH, hC, hst] at hi ⊢
  clear z e hW hH hC hst
  obtain ⟨rfl, rfl, rfl, chk, c34, w1, w2, h1, h2, wh, len, st_, st1, st2⟩ := hi
  have r8 : rngI .i64 (8 * (C : Int)) := rng64 (by omega) (by omega)
  have hc1 : ¬ (C : Int) = 1 := by omega
  (repeat' (first | (refine And.intro (fun (hfk : _ = true) => ?_) (fun (hfk : _ = false) => ?_) <;> ((try (first | replace hfk := of_decide_eq_true hfk | replace hfk := of_decide_eq_false hfk | simp only [decide_eq_true_eq, decide_eq_false_iff_not, dh1, dh0, ne_eq, reduceCtorEq] at hfk)); (try (exfalso; first | omega | contradiction | exact Bool.noConfusion (Eq.trans (Eq.symm hfk) (by with_reducible assumption : _ = false)) | exact Bool.noConfusion (Eq.trans (Eq.symm hfk) (by with_reducible assumption : _ = true)))))) | (refine And.intro ?ob ?_; (case ob => (first | exact Chk.mk (by kernel_rfl) | exact True.intro | with_reducible assumption | exact rng64 (by omega) (by omega) | omega | (dsimp only; omega) | (show (_ : Nat) ≤ _; omega) | (simp only [ll1, ll2, ll0]; done) | (simp only [ll1, ll2, ll0]; omega) | (dsimp only; simp only [ll1, ll2, ll0]; omega)))) | exact True.intro | (show _ = _; first | with_reducible rfl | with_reducible assumption | omega | (simp only [ll1, ll2, ll0]; omega) | (skip; done) | exact rfl) | with_reducible assumption | (apply And.intro) | omega | (intro j hj; exact rfl) | fail))
  have cwc : ((W * C : Nat) : Int) = (W : Int) * (C : Int) := Int.natCast_mul _ _
  have chs : ((H * st : Nat) : Int) = (st : Int) * (H : Int) := by rw [Int.natCast_mul, Int.mul_comm]
  have cwh : ((W * H : Nat) : Int) = (W : Int) * (H : Int) := Int.natCast_mul _ _
  have wcb : 3 ≤ W * C ∧ W * C ≤ 131072 := by rcases c34 with k | k <;> subst k <;> omega
  have sv : strV (W : Int) (C : Int) = (st : Int) := by unfold strV; rw [if_neg (by omega)]; exact st_
  have hsb : H * st ≤ 32768 * 131075 := Nat.mul_le_mul (by omega) (by omega)
  have bz : bszV (W : Int) (H : Int) (C : Int) = ((54 + H * st : Nat) : Int) := by
    unfold bszV; rw [sv, if_neg (by omega), ← chs]; omega
  have hn4 : 54 + H * st < 4294967296 := by
    have q1 : H * (W * C) ≤ 20000 := by omega
    have q2 : H * st ≤ H * (W * C + 3) := Nat.mul_le_mul_left _ st2
    rw [Nat.mul_add] at q2
    omega
  have b0 : IntKind.u32.wrap (bszV (W : Int) (H : Int) (C : Int)) = ((54 + H * st : Nat) : Int) := by rw [bz]; exact u32_id (by omega) (by omega)
  have b1 : IntKind.u32.wrap (W : Int) = (W : Int) := u32_id (by omega) (by omega)
  have b2 : IntKind.u32.wrap (H : Int) = (H : Int) := u32_id (by omega) (by omega)
  have b3 : IntKind.u32.wrap (8 * (C : Int)) = ((8 * C : Nat) : Int) := by rw [u32_id (by omega) (by omega)]; omega
  refine ⟨[(1, .ptr 0 0), (5, .ptr 1 0)], ⟨2, [(0, some (.cells 40 [.int .i64 (W : Int), .int .i64 (H : Int), .int .i64 (C : Int), .roi .u8 p])), (1, some (hdEn ((54 + H * st : Nat) : Int) 0 54 40 (W : Int) (H : Int) 1 ((8 * C : Nat) : Int) 0 0 0 0 0 0))]⟩, [some 0, some 1], ?_, ?_⟩
  · (repeat' (first | (refine And.intro ?_ ?_) | exact True.intro | (show _ = _; with_reducible rfl) | exact Chk.mk (by kernel_rfl)))
    all_goals first | exact b0 | exact b1 | exact b2 | exact b3 | rfl
  have u0 : ∀ n : Nat, n < 4294967296 → U32 (n : Int) := fun n hn => ⟨by omega, by omega⟩
  have u1 := u0 (54 + H * st) hn4
  have u2 := u0 W (by omega)
  have u3 := u0 H (by omega)
  have u4 := u0 (8 * C) (by omega)
  have u5 : U32 0 := ⟨by decide, by decide⟩
  have u6 : U32 54 := ⟨by decide, by decide⟩
  have u7 : U32 40 := ⟨by decide, by decide⟩
  have u8 : U32 1 := ⟨by decide, by decide⟩
  have rwc : rngI .i64 ((W : Int) * (C : Int)) := by rw [← cwc]; exact rng64 (by omega) (by omega)
  have rsw : rngI .i64 (strV (W : Int) (C : Int) - (W : Int) * (C : Int)) := by rw [sv, ← cwc]; exact rng64 (by omega) (by omega)
  have om : 0 ≤ strV (W : Int) (C : Int) - (W : Int) * (C : Int) ∧ strV (W : Int) (C : Int) - (W : Int) * (C : Int) ≤ strV (W : Int) (C : Int) - (W : Int) * (C : Int) ∧ strV (W : Int) (C : Int) - (W : Int) * (C : Int) ≤ 140737488355328 ∧ (strV (W : Int) (C : Int) - (W : Int) * (C : Int)) * ((1 : Nat) : Int) ≤ 140737488355328 := by rw [sv, ← cwc]; omega
  (repeat' (first | (refine And.intro (fun (hfk : _ = true) => ?_) (fun (hfk : _ = false) => ?_) <;> ((try (first | replace hfk := of_decide_eq_true hfk | replace hfk := of_decide_eq_false hfk | simp only [decide_eq_true_eq, decide_eq_false_iff_not, dh1, dh0, ne_eq, reduceCtorEq] at hfk)); (try (exfalso; first | omega | contradiction | exact Bool.noConfusion (Eq.trans (Eq.symm hfk) (by with_reducible assumption : _ = false)) | exact Bool.noConfusion (Eq.trans (Eq.symm hfk) (by with_reducible assumption : _ = true)))))) | (refine And.intro ?ob ?_; (case ob => (first | exact Chk.mk (by kernel_rfl) | exact True.intro | with_reducible assumption | exact rng64 (by omega) (by omega) | omega | (dsimp only; omega) | (show (_ : Nat) ≤ _; omega) | (simp only [ll1, ll2, ll0]; done) | (simp only [ll1, ll2, ll0]; omega) | (dsimp only; simp only [ll1, ll2, ll0]; omega)))) | exact True.intro | (show _ = _; first | with_reducible rfl | with_reducible assumption | omega | (simp only [ll1, ll2, ll0]; omega) | (skip; done) | exact rfl) | with_reducible assumption | (apply And.intro) | omega | (intro j hj; exact rfl) | fail))
  (refine ⟨[1], ⟨by kernel_rfl⟩, ?_⟩)
  (repeat' (first | (refine And.intro (fun (hfk : _ = true) => ?_) (fun (hfk : _ = false) => ?_) <;> ((try (first | replace hfk := of_decide_eq_true hfk | replace hfk := of_decide_eq_false hfk | simp only [decide_eq_true_eq, decide_eq_false_iff_not, dh1, dh0, ne_eq, reduceCtorEq] at hfk)); (try (exfalso; first | omega | contradiction | exact Bool.noConfusion (Eq.trans (Eq.symm hfk) (by with_reducible assumption : _ = false)) | exact Bool.noConfusion (Eq.trans (Eq.symm hfk) (by with_reducible assumption : _ = true)))))) | (refine And.intro ?ob ?_; (case ob => (first | exact Chk.mk (by kernel_rfl) | exact True.intro | with_reducible assumption | exact rng64 (by omega) (by omega) | omega | (dsimp only; omega) | (show (_ : Nat) ≤ _; omega) | (simp only [ll1, ll2, ll0]; done) | (simp only [ll1, ll2, ll0]; omega) | (dsimp only; simp only [ll1, ll2, ll0]; omega)))) | exact True.intro | (show _ = _; first | with_reducible rfl | with_reducible assumption | omega | (simp only [ll1, ll2, ll0]; omega) | (first | exact u1 | exact u2 | exact u3 | exact u4 | exact u5 | exact u6 | exact u7 | exact u8 | exact om; done) | exact rfl) | with_reducible assumption | (apply And.intro) | omega | (intro j hj; exact rfl) | fail))
  refine ⟨[(1, .ptr 0 0), (6, .sl 2 1 0 54), (7, .sl 3 1 0 (st - W * C))], ⟨4, [(0, some (.cells 40 [.int .i64 (W : Int), .int .i64 (H : Int), .int .i64 (C : Int), .roi .u8 p])), (1, some (hdEn ((54 + H * st : Nat) : Int) 0 54 40 (W : Int) (H : Int) 1 ((8 * C : Nat) : Int) 0 0 0 0 0 0)), (2, some (bE (wrHd W H C st))), (3, some (bE (List.replicate (st - W * C) 0)))]⟩, [some 0, some 1, some 2, some 3], ?_, ?_⟩
  · have z1 : (strV (W : Int) (C : Int) - (W : Int) * (C : Int)).toNat = st - W * C := by rw [sv, ← cwc]; omega
    have z2 : List.replicate (strV (W : Int) (C : Int) - (W : Int) * (C : Int)).toNat (0 : Int) = List.replicate (st - W * C) 0 := by rw [z1]
    (repeat' (first | (refine And.intro ?_ ?_) | exact True.intro | (show _ = _; with_reducible rfl) | exact Chk.mk (by kernel_rfl)))
    all_goals first | rfl | exact z1 | exact z2
  clear rwc rsw om u0 u1 u2 u3 u4 u5 u6 u7 u8 b0 b1 b2 b3 bz hsb
  obtain ⟨A, hA⟩ : ∃ A, wrHd W H C st = A := ⟨_, rfl⟩
  have hAl : A.length = 54 := by rw [← hA]; rfl
  rw [hA]
  have rh : rngI .i64 ((H : Int) - 1) := rng64 (by omega) (by omega)
  have hrl : ∀ k, k < H → (wrRow p C W H st k).length = st := fun k hk => by
    unfold wrRow
    have := prod_of (n := W * C) (show H - 1 - k < H by omega)
    rw [List.length_append, swapTo_len, piece_len (by omega), List.length_replicate]; omega
  have hHs : H * st < 4294967296 := by omega
  (repeat' (first | (refine And.intro (fun (hfk : _ = true) => ?_) (fun (hfk : _ = false) => ?_) <;> ((try (first | replace hfk := of_decide_eq_true hfk | replace hfk := of_decide_eq_false hfk | simp only [decide_eq_true_eq, decide_eq_false_iff_not, dh1, dh0, ne_eq, reduceCtorEq] at hfk)); (try (exfalso; first | omega | contradiction | exact Bool.noConfusion (Eq.trans (Eq.symm hfk) (by with_reducible assumption : _ = false)) | exact Bool.noConfusion (Eq.trans (Eq.symm hfk) (by with_reducible assumption : _ = true)))))) | (refine And.intro ?ob ?_; (case ob => (first | exact Chk.mk (by kernel_rfl) | exact True.intro | with_reducible assumption | exact rng64 (by omega) (by omega) | omega | (dsimp only; omega) | (show (_ : Nat) ≤ _; omega) | (simp only [ll1, ll2, ll0]; done) | (simp only [ll1, ll2, ll0]; omega) | (dsimp only; simp only [ll1, ll2, ll0]; omega)))) | exact True.intro | (show _ = _; first | with_reducible rfl | with_reducible assumption | omega | (simp only [ll1, ll2, ll0]; omega) | (skip; done) | exact rfl) | with_reducible assumption | (apply And.intro) | omega | (intro j hj; exact rfl) | fail))
  refine ⟨Nat, fun k => [(1, .ptr 0 0), (6, .sl 2 1 0 (54 + k * st)), (7, .sl 3 1 0 (st - W * C)), (8, .int .i64 ((H : Int) - 1 - (k : Int)))], fun k => ⟨4, [(0, some (.cells 40 [.int .i64 (W : Int), .int .i64 (H : Int), .int .i64 (C : Int), .roi .u8 p])), (1, some (hdEn ((54 + H * st : Nat) : Int) 0 54 40 (W : Int) (H : Int) 1 ((8 * C : Nat) : Int) 0 0 0 0 0 0)), (2, some (bE (A ++ catK (wrRow p C W H st) k))), (3, some (bE (List.replicate (st - W * C) 0)))]⟩, fun k => k ≤ H, fun k => H - k, ⟨0, [some 0, some 1, some 2, some 3], Nat.zero_le _, ?_⟩, fun k hk => ?_⟩
  · have z0 : A = A ++ catK (wrRow p C W H st) 0 := (List.append_nil _).symm
    (repeat' (first | (refine And.intro ?_ ?_) | exact True.intro | (show _ = _; with_reducible rfl) | exact Chk.mk (by kernel_rfl)))
    all_goals first | rfl | exact hA.trans z0 | exact z0 | (show (_ : Int) = _; omega) | (show (_ : Nat) = _; omega)
  have hk : k ≤ H := hk
  have hcl := catK_len hrl k hk
  have hol : (A ++ catK (wrRow p C W H st) k).length = 54 + k * st := by rw [List.length_append, hAl, hcl]
  by_cases hlt : k < H
  · have hks := prod_of (n := st) hlt
    have hkw := prod_of (n := W * C) (show H - 1 - k < H by omega)
    have ry : rngI .i64 ((H : Int) - 1 - (k : Int) - 1) := rng64 (by omega) (by omega)
    (repeat' (first | (refine And.intro (fun (hfk : _ = true) => ?_) (fun (hfk : _ = false) => ?_) <;> ((try (first | replace hfk := of_decide_eq_true hfk | replace hfk := of_decide_eq_false hfk | simp only [decide_eq_true_eq, decide_eq_false_iff_not, dh1, dh0, ne_eq, reduceCtorEq] at hfk)); (try (exfalso; first | omega | contradiction | exact Bool.noConfusion (Eq.trans (Eq.symm hfk) (by with_reducible assumption : _ = false)) | exact Bool.noConfusion (Eq.trans (Eq.symm hfk) (by with_reducible assumption : _ = true)))))) | (refine And.intro ?ob ?_; (case ob => (first | exact Chk.mk (by kernel_rfl) | exact True.intro | with_reducible assumption | exact rng64 (by omega) (by omega) | omega | (dsimp only; omega) | (show (_ : Nat) ≤ _; omega) | (simp only [ll1, ll2, ll0]; done) | (simp only [ll1, ll2, ll0]; omega) | (dsimp only; simp only [ll1, ll2, ll0]; omega)))) | exact True.intro | (show _ = _; first | with_reducible rfl | with_reducible assumption | omega | (simp only [ll1, ll2, ll0]; omega) | (skip; done) | exact rfl) | with_reducible assumption | (apply And.intro) | omega | (intro j hj; exact rfl) | fail))
    (refine ⟨[], ⟨by kernel_rfl⟩, ?_⟩)
    (repeat' (first | (refine And.intro (fun (hfk : _ = true) => ?_) (fun (hfk : _ = false) => ?_) <;> ((try (first | replace hfk := of_decide_eq_true hfk | replace hfk := of_decide_eq_false hfk | simp only [decide_eq_true_eq, decide_eq_false_iff_not, dh1, dh0, ne_eq, reduceCtorEq] at hfk)); (try (exfalso; first | omega | contradiction | exact Bool.noConfusion (Eq.trans (Eq.symm hfk) (by with_reducible assumption : _ = false)) | exact Bool.noConfusion (Eq.trans (Eq.symm hfk) (by with_reducible assumption : _ = true)))))) | (refine And.intro ?ob ?_; (case ob => (first | exact Chk.mk (by kernel_rfl) | exact True.intro | with_reducible assumption | exact rng64 (by omega) (by omega) | omega | (dsimp only; omega) | (show (_ : Nat) ≤ _; omega) | (simp only [ll1, ll2, ll0]; done) | (simp only [ll1, ll2, ll0]; omega) | (dsimp only; simp only [ll1, ll2, ll0]; omega)))) | exact True.intro | (show _ = _; first | with_reducible rfl | with_reducible assumption | omega | (simp only [ll1, ll2, ll0]; omega) | (skip; done) | exact rfl) | with_reducible assumption | (apply And.intro) | omega | (intro j hj; exact rfl) | fail))
    refine ⟨[(1, .ptr 0 0), (6, .sl 2 1 0 (54 + k * st)), (7, .sl 3 1 0 (st - W * C)), (8, .int .i64 ((H : Int) - 1 - (k : Int))), (9, .sl 4 1 0 (W * C))], ⟨5, [(0, some (.cells 40 [.int .i64 (W : Int), .int .i64 (H : Int), .int .i64 (C : Int), .roi .u8 p])), (1, some (hdEn ((54 + H * st : Nat) : Int) 0 54 40 (W : Int) (H : Int) 1 ((8 * C : Nat) : Int) 0 0 0 0 0 0)), (2, some (bE (A ++ catK (wrRow p C W H st) k))), (3, some (bE (List.replicate (st - W * C) 0))), (4, some (bE (piece p (W * C) (H - 1 - k))))]⟩, [some 0, some 1, some 2, some 3, some 4], ?_, ?_⟩
    · have t1 : ((W : Int) * (C : Int)).toNat = W * C := by rw [← cwc]; omega
      have t2 : (((H : Int) - 1 - (k : Int)) * ((W : Int) * (C : Int))).toNat = (H - 1 - k) * (W * C) := by
        have : (H : Int) - 1 - (k : Int) = ((H - 1 - k : Nat) : Int) := by omega
        rw [this, ← cwc, ← Int.natCast_mul, Int.toNat_natCast]
      have t3 : List.take ((W : Int) * (C : Int)).toNat (List.drop (((H : Int) - 1 - (k : Int)) * ((W : Int) * (C : Int))).toNat p) = piece p (W * C) (H - 1 - k) := by rw [t1, t2]; rfl
      (repeat' (first | (refine And.intro ?_ ?_) | exact True.intro | (show _ = _; with_reducible rfl) | exact Chk.mk (by kernel_rfl)))
      all_goals first | rfl | exact t1 | exact t3
    have hpl : (piece p (W * C) (H - 1 - k)).length = W * C := piece_len (by omega)
    have tc : (C : Int).toNat = C := Int.toNat_natCast C
    have td : W * C / (C : Int).toNat = W := by rw [tc]; exact Nat.mul_div_cancel _ (by omega)
    have y1 : W * C = W * C / (C : Int).toNat * (C : Int).toNat := by rw [td, tc]
    (repeat' (first | (refine And.intro (fun (hfk : _ = true) => ?_) (fun (hfk : _ = false) => ?_) <;> ((try (first | replace hfk := of_decide_eq_true hfk | replace hfk := of_decide_eq_false hfk | simp only [decide_eq_true_eq, decide_eq_false_iff_not, dh1, dh0, ne_eq, reduceCtorEq] at hfk)); (try (exfalso; first | omega | contradiction | exact Bool.noConfusion (Eq.trans (Eq.symm hfk) (by with_reducible assumption : _ = false)) | exact Bool.noConfusion (Eq.trans (Eq.symm hfk) (by with_reducible assumption : _ = true)))))) | (refine And.intro ?ob ?_; (case ob => (first | exact Chk.mk (by kernel_rfl) | exact True.intro | with_reducible assumption | exact rng64 (by omega) (by omega) | omega | (dsimp only; omega) | (show (_ : Nat) ≤ _; omega) | (simp only [ll1, ll2, ll0]; done) | (simp only [ll1, ll2, ll0]; omega) | (dsimp only; simp only [ll1, ll2, ll0]; omega)))) | exact True.intro | (show _ = _; first | with_reducible rfl | with_reducible assumption | omega | (simp only [ll1, ll2, ll0]; omega) | (skip; done) | exact rfl) | with_reducible assumption | (apply And.intro) | omega | (intro j hj; exact rfl) | fail))
    (refine ⟨[4], ⟨by kernel_rfl⟩, ?_⟩)
    (repeat' (first | (refine And.intro (fun (hfk : _ = true) => ?_) (fun (hfk : _ = false) => ?_) <;> ((try (first | replace hfk := of_decide_eq_true hfk | replace hfk := of_decide_eq_false hfk | simp only [decide_eq_true_eq, decide_eq_false_iff_not, dh1, dh0, ne_eq, reduceCtorEq] at hfk)); (try (exfalso; first | omega | contradiction | exact Bool.noConfusion (Eq.trans (Eq.symm hfk) (by with_reducible assumption : _ = false)) | exact Bool.noConfusion (Eq.trans (Eq.symm hfk) (by with_reducible assumption : _ = true)))))) | (refine And.intro ?ob ?_; (case ob => (first | exact Chk.mk (by kernel_rfl) | exact True.intro | with_reducible assumption | exact rng64 (by omega) (by omega) | omega | (dsimp only; omega) | (show (_ : Nat) ≤ _; omega) | (simp only [ll1, ll2, ll0]; done) | (simp only [ll1, ll2, ll0]; omega) | (dsimp only; simp only [ll1, ll2, ll0]; omega)))) | exact True.intro | (show _ = _; first | with_reducible rfl | with_reducible assumption | omega | (simp only [ll1, ll2, ll0]; omega) | (skip; done) | exact rfl) | with_reducible assumption | (apply And.intro) | omega | (intro j hj; exact rfl) | fail))
    refine ⟨[(1, .ptr 0 0), (6, .sl 2 1 0 (54 + k * st)), (7, .sl 3 1 0 (st - W * C)), (8, .int .i64 ((H : Int) - 1 - (k : Int))), (9, .sl 4 1 0 (W * C))], ⟨5, [(0, some (.cells 40 [.int .i64 (W : Int), .int .i64 (H : Int), .int .i64 (C : Int), .roi .u8 p])), (1, some (hdEn ((54 + H * st : Nat) : Int) 0 54 40 (W : Int) (H : Int) 1 ((8 * C : Nat) : Int) 0 0 0 0 0 0)), (2, some (bE (A ++ catK (wrRow p C W H st) k))), (3, some (bE (List.replicate (st - W * C) 0))), (4, some (bE (swapTo (piece p (W * C) (H - 1 - k)) 0 C W)))]⟩, [some 0, some 1, some 2, some 3, some 4], ?_, ?_⟩
    · have y2 : swapTo (piece p (W * C) (H - 1 - k)) 0 (C : Int).toNat (W * C / (C : Int).toNat) = swapTo (piece p (W * C) (H - 1 - k)) 0 C W := by rw [td, tc]
      (repeat' (first | (refine And.intro ?_ ?_) | exact True.intro | (show _ = _; with_reducible rfl) | exact Chk.mk (by kernel_rfl)))
      all_goals first | rfl | exact y2
    clear y1 td tc hpl
    have hsl : (swapTo (piece p (W * C) (H - 1 - k)) 0 C W).length = W * C := by rw [swapTo_len, piece_len (by omega)]
    have hzl : (List.replicate (st - W * C) (0 : Int)).length = st - W * C := List.length_replicate ..
    have x1 : List.take (W * C) (List.drop 0 (swapTo (piece p (W * C) (H - 1 - k)) 0 C W)) = swapTo (piece p (W * C) (H - 1 - k)) 0 C W := by rw [List.drop_zero]; exact List.take_of_length_le (by omega)
    have x2 : List.take (st - W * C) (List.drop 0 (List.replicate (st - W * C) (0 : Int))) = List.replicate (st - W * C) 0 := by rw [List.drop_zero]; exact List.take_of_length_le (by omega)
    have x3 : A ++ catK (wrRow p C W H st) k ++ List.take (W * C) (List.drop 0 (swapTo (piece p (W * C) (H - 1 - k)) 0 C W)) ++ List.take (st - W * C) (List.drop 0 (List.replicate (st - W * C) (0 : Int))) = A ++ catK (wrRow p C W H st) (k + 1) := by
      rw [x1, x2]
      show _ = A ++ (catK (wrRow p C W H st) k ++ wrRow p C W H st k)
      unfold wrRow
      simp only [List.append_assoc]
    have x4 : (List.take (W * C) (List.drop 0 (swapTo (piece p (W * C) (H - 1 - k)) 0 C W))).length = W * C := by rw [x1, hsl]
    have x5 : (List.take (st - W * C) (List.drop 0 (List.replicate (st - W * C) (0 : Int)))).length = st - W * C := by rw [x2, hzl]
    (repeat' (first | (refine And.intro (fun (hfk : _ = true) => ?_) (fun (hfk : _ = false) => ?_) <;> ((try (first | replace hfk := of_decide_eq_true hfk | replace hfk := of_decide_eq_false hfk | simp only [decide_eq_true_eq, decide_eq_false_iff_not, dh1, dh0, ne_eq, reduceCtorEq] at hfk)); (try (exfalso; first | omega | contradiction | exact Bool.noConfusion (Eq.trans (Eq.symm hfk) (by with_reducible assumption : _ = false)) | exact Bool.noConfusion (Eq.trans (Eq.symm hfk) (by with_reducible assumption : _ = true)))))) | (refine And.intro ?ob ?_; (case ob => (first | exact Chk.mk (by kernel_rfl) | exact True.intro | with_reducible assumption | exact rng64 (by omega) (by omega) | omega | (dsimp only; omega) | (show (_ : Nat) ≤ _; omega) | (simp only [ll1, ll2, ll0]; done) | (simp only [ll1, ll2, ll0]; omega) | (dsimp only; simp only [ll1, ll2, ll0]; omega)))) | exact True.intro | (show _ = _; first | with_reducible rfl | with_reducible assumption | omega | (simp only [ll1, ll2, ll0]; omega) | (skip; done) | exact rfl) | with_reducible assumption | (apply And.intro) | omega | (intro j hj; exact rfl) | fail))
    refine ⟨k + 1, [some 0, some 1, some 6, some 3], hlt, ?mu, ?_⟩
    case mu => (show H - (k + 1) < H - k; omega)
    have x6 : (k + 1) * st = k * st + st := Nat.succ_mul _ _
    (repeat' (first | (refine And.intro ?_ ?_) | exact True.intro | (show _ = _; with_reducible rfl) | exact Chk.mk (by kernel_rfl)))
    all_goals first | rfl | exact x3 | (show (_ : Int) = _; omega) | (show (_ : Nat) = _; simp only [List.length_append, hAl, hcl, x4, x5, x6]; omega)
  · obtain rfl : k = H := by omega
    have z1 : List.take (54 + k * st) (List.drop 0 (A ++ catK (wrRow p C W k st) k)) = A ++ wrB p C W k st := by
      rw [List.drop_zero]; exact List.take_of_length_le (by omega)
    (repeat' (first | (refine And.intro (fun (hfk : _ = true) => ?_) (fun (hfk : _ = false) => ?_) <;> ((try (first | replace hfk := of_decide_eq_true hfk | replace hfk := of_decide_eq_false hfk | simp only [decide_eq_true_eq, decide_eq_false_iff_not, dh1, dh0, ne_eq, reduceCtorEq] at hfk)); (try (exfalso; first | omega | contradiction | exact Bool.noConfusion (Eq.trans (Eq.symm hfk) (by with_reducible assumption : _ = false)) | exact Bool.noConfusion (Eq.trans (Eq.symm hfk) (by with_reducible assumption : _ = true)))))) | (refine And.intro ?ob ?_; (case ob => (first | exact Chk.mk (by kernel_rfl) | exact True.intro | with_reducible assumption | exact rng64 (by omega) (by omega) | omega | (dsimp only; omega) | (show (_ : Nat) ≤ _; omega) | (simp only [ll1, ll2, ll0]; done) | (simp only [ll1, ll2, ll0]; omega) | (dsimp only; simp only [ll1, ll2, ll0]; omega)))) | exact True.intro | (show _ = _; first | with_reducible rfl | with_reducible assumption | omega | (simp only [ll1, ll2, ll0]; omega) | (exact z1; done) | exact rfl) | with_reducible assumption | (apply And.intro) | omega | (intro j hj; exact rfl) | fail))
theorem bwrite_s : SOK Try.prog 25 bwS := by
  refine sok_of (C := wpCx) wpCx_ok rfl mixed ⟨Try.func25, by kernel_rfl, by kernel_rfl, by kernel_rfl⟩ fun l obs v h ho => ?_
  (unfold bwS at h; split at h; rotate_left; (focus (cases h)); rename_i w hh c p; simp only [Option.some.injEq, Prod.mk.injEq] at h; obtain ⟨rfl, rfl⟩ := h; simp only [List.mem_cons, List.not_mem_nil, or_false, forall_eq_or_imp, forall_eq, false_implies, implies_true] at ho)
  refine ⟨Nat.le_of_ble_eq_true rfl, ?_⟩
  by_cases e : wrE w hh c p.length = 0
  · exact wp_good ho e
  · exact wp_bad ho e
end Go.Proofs.Ytepjmnkleajibaa

/- Bitmaps (bmp): the document's Write. No condition. -/
namespace Go.Proofs.Ytepjmnkleajibaa
open Go Go.RowKit
set_option linter.unusedVariables false
set_option linter.unusedSimpArgs false
set_option maxRecDepth 100000
set_option maxHeartbeats 16000000

abbrev rputS : PSpec := fun l => match l with | [.int .i64 x, .int .i64 n] => some ([0 ≤ x, x < 4294967296, 0 ≤ n, n ≤ 4], .roi .u8 (byts x n.toNat)) | _ => none
theorem byt_next {x : Int} (h0 : 0 ≤ x) (t : Nat) : (x / 256 ^ t).tdiv 256 = x / 256 ^ (t + 1) := by
  have hp : (0 : Int) < 256 ^ t := Int.pow_pos (by decide)
  rw [Int.tdiv_eq_ediv_of_nonneg (Int.ediv_nonneg h0 (Int.le_of_lt hp)), Int.ediv_ediv_of_nonneg (Int.le_of_lt hp), Int.pow_succ]
theorem rput_s : SOK Try.prog 96 rputS := by
  refine sok_of (C := mkC 0 [] noG) (mkC_ok pok_nil noG_ok) rfl mixed ⟨Try.func96, by kernel_rfl, by kernel_rfl, by kernel_rfl⟩ fun l obs v h ho => ?_
  (unfold rputS at h; split at h; rotate_left; (focus (cases h)); rename_i x n; simp only [Option.some.injEq, Prod.mk.injEq] at h; obtain ⟨rfl, rfl⟩ := h; simp only [List.mem_cons, List.not_mem_nil, or_false, forall_eq_or_imp, forall_eq, false_implies, implies_true] at ho)
  obtain ⟨x0, x1, n0, n1⟩ := ho
  refine ⟨Nat.le_of_ble_eq_true rfl, ?_⟩
  (repeat' (first | (refine And.intro (fun (hfk : _ = true) => ?_) (fun (hfk : _ = false) => ?_) <;> ((try (first | replace hfk := of_decide_eq_true hfk | replace hfk := of_decide_eq_false hfk | simp only [decide_eq_true_eq, decide_eq_false_iff_not, dh1, dh0, ne_eq, reduceCtorEq] at hfk)); (try (exfalso; first | omega | contradiction | exact Bool.noConfusion (Eq.trans (Eq.symm hfk) (by with_reducible assumption : _ = false)) | exact Bool.noConfusion (Eq.trans (Eq.symm hfk) (by with_reducible assumption : _ = true)))))) | (refine And.intro ?ob ?_; (case ob => (first | exact Chk.mk (by kernel_rfl) | exact True.intro | with_reducible assumption | exact rng64 (by omega) (by omega) | omega | (dsimp only; omega) | (show (_ : Nat) ≤ _; omega) | (simp only [ll1, ll2, ll0]; done) | (simp only [ll1, ll2, ll0]; omega) | (dsimp only; simp only [ll1, ll2, ll0]; omega)))) | exact True.intro | (show _ = _; first | with_reducible rfl | with_reducible assumption | omega | (simp only [ll1, ll2, ll0]; omega) | (skip; done) | exact rfl) | with_reducible assumption | (apply And.intro) | omega | (intro j hj; exact rfl) | fail))
  refine ⟨Nat, fun t => [(1, .int .i64 n), (5, .sl 0 1 0 t), (6, .int .i64 (x / 256 ^ t)), (7, .int .i64 (t : Int))], fun t => ⟨1, [(0, some (bE (byts x t)))]⟩, fun t => t ≤ n.toNat, fun t => n.toNat - t, ⟨0, [none], Nat.zero_le _, ?_⟩, fun t ht => ?_⟩
  · have e0 : x = x / 256 ^ 0 := by show x = x / 1; omega
    (repeat' (first | (refine And.intro ?_ ?_) | exact True.intro | (show _ = _; with_reducible rfl) | exact Chk.mk (by kernel_rfl)))
    all_goals first | rfl | exact e0
  have ht : t ≤ n.toNat := ht
  have hp : (0 : Int) < 256 ^ t := Int.pow_pos (by decide)
  have q0 : 0 ≤ x / 256 ^ t := Int.ediv_nonneg x0 (Int.le_of_lt hp)
  have q1 : x / 256 ^ t ≤ x := Int.ediv_le_self _ x0
  have hyn := byt_next x0 t
  have hbt : byt x t = x / 256 ^ t % 256 := rfl
  have hbl := byts_len x t
  by_cases hlt : t < n.toNat
  · have e1 : IntKind.u8.wrap ((x / 256 ^ t).tmod 256) = byt x t := by
      rw [Int.tmod_eq_emod_of_nonneg q0, hbt]; exact w8 (by omega) (by omega)
    have rq : rngI .i64 ((x / 256 ^ t).tdiv 256) := by rw [Int.tdiv_eq_ediv_of_nonneg q0]; exact rng64 (by omega) (by omega)
    have rt : rngI .i64 ((t : Int) + 1) := rng64 (by omega) (by omega)
    have e2 : byts x t ++ List.take 1 (List.drop 0 [IntKind.u8.wrap ((x / 256 ^ t).tmod 256)]) = byts x (t + 1) := by rw [e1, byts_succ]; rfl
    (repeat' (first | (refine And.intro (fun (hfk : _ = true) => ?_) (fun (hfk : _ = false) => ?_) <;> ((try (first | replace hfk := of_decide_eq_true hfk | replace hfk := of_decide_eq_false hfk | simp only [decide_eq_true_eq, decide_eq_false_iff_not, dh1, dh0, ne_eq, reduceCtorEq] at hfk)); (try (exfalso; first | omega | contradiction | exact Bool.noConfusion (Eq.trans (Eq.symm hfk) (by with_reducible assumption : _ = false)) | exact Bool.noConfusion (Eq.trans (Eq.symm hfk) (by with_reducible assumption : _ = true)))))) | (refine And.intro ?ob ?_; (case ob => (first | exact Chk.mk (by kernel_rfl) | exact True.intro | with_reducible assumption | exact rng64 (by omega) (by omega) | omega | (dsimp only; omega) | (show (_ : Nat) ≤ _; omega) | (simp only [ll1, ll2, ll0]; done) | (simp only [ll1, ll2, ll0]; omega) | (dsimp only; simp only [ll1, ll2, ll0]; omega)))) | exact True.intro | (show _ = _; first | with_reducible rfl | with_reducible assumption | omega | (simp only [ll1, ll2, ll0]; omega) | (skip; done) | exact rfl) | with_reducible assumption | (apply And.intro) | omega | (intro j hj; exact rfl) | fail))
    refine ⟨t + 1, [some 2], hlt, ?mu, ?_⟩
    case mu => (show n.toNat - (t + 1) < n.toNat - t; omega)
    (repeat' (first | (refine And.intro ?_ ?_) | exact True.intro | (show _ = _; with_reducible rfl) | exact Chk.mk (by kernel_rfl)))
    all_goals first | rfl | exact e2 | exact hyn | (show (_ : Int) = _; omega) | (show (_ : Nat) = _; rw [hbl]; rfl)
  · obtain rfl : t = n.toNat := by omega
    have e3 : List.take n.toNat (List.drop 0 (byts x n.toNat)) = byts x n.toNat := by rw [List.drop_zero]; exact List.take_of_length_le (by omega)
    (repeat' (first | (refine And.intro (fun (hfk : _ = true) => ?_) (fun (hfk : _ = false) => ?_) <;> ((try (first | replace hfk := of_decide_eq_true hfk | replace hfk := of_decide_eq_false hfk | simp only [decide_eq_true_eq, decide_eq_false_iff_not, dh1, dh0, ne_eq, reduceCtorEq] at hfk)); (try (exfalso; first | omega | contradiction | exact Bool.noConfusion (Eq.trans (Eq.symm hfk) (by with_reducible assumption : _ = false)) | exact Bool.noConfusion (Eq.trans (Eq.symm hfk) (by with_reducible assumption : _ = true)))))) | (refine And.intro ?ob ?_; (case ob => (first | exact Chk.mk (by kernel_rfl) | exact True.intro | with_reducible assumption | exact rng64 (by omega) (by omega) | omega | (dsimp only; omega) | (show (_ : Nat) ≤ _; omega) | (simp only [ll1, ll2, ll0]; done) | (simp only [ll1, ll2, ll0]; omega) | (dsimp only; simp only [ll1, ll2, ll0]; omega)))) | exact True.intro | (show _ = _; first | with_reducible rfl | with_reducible assumption | omega | (simp only [ll1, ll2, ll0]; omega) | (exact e3; done) | exact rfl) | with_reducible assumption | (apply And.intro) | omega | (intro j hj; exact rfl) | fail))
/-! ### The head -/
theorem cp54 {E Z q : List Int} {o n : Nat} (hE : E.length = 54) (ho : o + q.length ≤ 54) (hn : q.length ≤ n) :
    List.take o (E ++ Z) ++ (List.take (Nat.min q.length n) q ++ List.drop (o + Nat.min q.length n) (E ++ Z)) = spl E o q ++ Z := by
  have hm : Nat.min q.length n = q.length := Nat.min_eq_left hn
  rw [hm, List.take_length, List.take_append_of_le_length (by omega), List.drop_append_of_le_length (by omega)]
  unfold spl
  simp only [List.append_assoc]
theorem cpS {E Z q : List Int} {o : Nat} (hE : E.length = 54) (ho : o + q.length ≤ 54) : List.take o (E ++ Z) ++ (q ++ List.drop (o + q.length) (E ++ Z)) = spl E o q ++ Z := by
  rw [List.take_append_of_le_length (by omega), List.drop_append_of_le_length (by omega)]
  unfold spl
  simp only [List.append_assoc]
def wHd (E : List Int) : Nat → List Int
  | 0 => E
  | i + 1 => spl (wHd E i) (wtG i).1.toNat (byts (wtG i).2.2 (wtG i).2.1.toNat)
theorem wHd_len {E : List Int} (h : E.length = 54) : ∀ i, i ≤ 7 → (wHd E i).length = 54
  | 0, _ => h
  | i + 1, hi => by
    have ih := wHd_len h i (by omega)
    obtain ⟨a1, a2, a3, a4⟩ := wt_in (show i < 7 by omega)
    rw [wHd, spl_len (by rw [byts_len]; omega), ih]
abbrev hE1 : List Int := spl (List.replicate 54 0) 0 [66, 77]
abbrev hE2 (n : Int) : List Int := spl hE1 2 (byts n 4)
abbrev hE3 (n : Int) : List Int := wHd (hE2 n) 7
abbrev hE4 (n w : Int) : List Int := spl (hE3 n) 18 (byts w 4)
abbrev hE5 (n w h : Int) : List Int := spl (hE4 n w) 22 (byts h 4)
abbrev hE6 (n w h c : Int) : List Int := spl (hE5 n w h) 28 (byts c 2)
theorem hE6_is (n w h c : Int) : hE6 n w h c = hdOut n 0 54 40 w h 1 c 0 0 0 0 0 0 := by kernel_rfl
theorem wt_x {j : Nat} (h : j < 7) : 0 ≤ (wtG j).2.2 ∧ (wtG j).2.2 < 4294967296 := by
  have : j = 0 ∨ j = 1 ∨ j = 2 ∨ j = 3 ∨ j = 4 ∨ j = 5 ∨ j = 6 := by omega
  rcases this with k | k | k | k | k | k | k <;> subst k <;> decide
/-! ### The pixels -/
def sx (C q : Nat) : Nat := q / C * C + sw (q % C)
abbrev srcI (W C H r q : Nat) : Nat := (H - 1 - r) * (W * C) + sx C q
def PxI (p : List Int) (W C H st i : Nat) (B : List Int) : Prop :=
  B.length = H * st ∧ ∀ r q, r < H → q < st → B.getD (r * st + q) 0 = if q < W * C ∧ srcI W C H r q < i then p.getD (srcI W C H r q) 0 else 0
theorem sx_lt {C W q : Nat} (hc : 3 ≤ C) (hq : q < W * C) : sx C q < W * C := by
  unfold sx
  have h1 : q / C < W := (Nat.div_lt_iff_lt_mul (by omega)).2 hq
  have h2 := prod_of (n := C) h1
  have h3 := sw_lt (Nat.mod_lt q (show 0 < C by omega)) hc
  omega
theorem sx_sx {C q : Nat} (hc : 3 ≤ C) : sx C (sx C q) = q := by
  have h3 := sw_lt (Nat.mod_lt q (show 0 < C by omega)) hc
  have h1 : sx C q / C = q / C := by
    unfold sx
    rw [Nat.add_comm, Nat.add_mul_div_right _ _ (by omega), Nat.div_eq_of_lt h3, Nat.zero_add]
  have h2 : sx C q % C = sw (q % C) := mod_of h3
  have h4 : sx C (sx C q) = sx C q / C * C + sw (sx C q % C) := rfl
  rw [h4, h1, h2, sw_sw, Nat.mul_comm]
  exact Nat.div_add_mod q C
theorem px0 (p : List Int) (W C H st : Nat) : PxI p W C H st 0 (List.replicate (H * st) 0) := by
  refine ⟨by simp, fun r q hr hq => ?_⟩
  rw [if_neg (by omega)]
  have := prod_of (n := st) hr
  simp only [List.getD, List.getElem?_replicate]
  split <;> rfl
/-- One more. -/
theorem px_next {p B : List Int} {W C H st i Y M : Nat} (hc : 3 ≤ C) (h : PxI p W C H st i B) (hy : Y < H) (hm : M < W * C) (hi : i = Y * (W * C) + M) (hst : W * C ≤ st) :
    PxI p W C H st (i + 1) (B.set ((H - 1 - Y) * st + sx C M) (p.getD i 0)) := by
  obtain ⟨h1, h2⟩ := h
  have hs := sx_lt hc hm
  have hp := prod_of (n := st) (show H - 1 - Y < H by omega)
  refine ⟨by rw [List.length_set]; exact h1, fun r q hr hq => ?_⟩
  rw [set_getD (by omega)]
  by_cases he : r = H - 1 - Y ∧ q = sx C M
  · obtain ⟨rfl, rfl⟩ := he
    have e : srcI W C H (H - 1 - Y) (sx C M) = i := by
      unfold srcI
      rw [sx_sx hc, show H - 1 - (H - 1 - Y) = Y by omega, hi]
    rw [if_pos rfl, if_pos ⟨hs, by rw [e]; omega⟩, e]
  · have hne : ¬ r * st + q = (H - 1 - Y) * st + sx C M := fun k => by
      have hst0 : 0 < st := by omega
      have d1 : (r * st + q) / st = r := by rw [Nat.add_comm, Nat.add_mul_div_right _ _ hst0, Nat.div_eq_of_lt hq, Nat.zero_add]
      have d2 : ((H - 1 - Y) * st + sx C M) / st = H - 1 - Y := by rw [Nat.add_comm, Nat.add_mul_div_right _ _ hst0, Nat.div_eq_of_lt (by omega), Nat.zero_add]
      rw [k, d2] at d1
      exact he ⟨d1.symm, by rw [← d1] at k; omega⟩
    rw [if_neg hne, h2 r q hr hq]
    by_cases hqw : q < W * C
    · have hni : srcI W C H r q ≠ i := fun k => by
        apply he
        have k1 := sx_lt hc hqw
        have k4 : (H - 1 - r) * (W * C) + sx C q = Y * (W * C) + M := by rw [← hi]; exact k
        have hw0 : 0 < W * C := by omega
        have d1 : ((H - 1 - r) * (W * C) + sx C q) / (W * C) = H - 1 - r := by rw [Nat.add_comm, Nat.add_mul_div_right _ _ hw0, Nat.div_eq_of_lt k1, Nat.zero_add]
        have d2 : (Y * (W * C) + M) / (W * C) = Y := by rw [Nat.add_comm, Nat.add_mul_div_right _ _ hw0, Nat.div_eq_of_lt hm, Nat.zero_add]
        rw [k4, d2] at d1
        have d3 : M = sx C q := by rw [← d1] at k4; omega
        exact ⟨by omega, by rw [d3, sx_sx hc]⟩
      by_cases hlt : srcI W C H r q < i
      · rw [if_pos ⟨hqw, hlt⟩, if_pos ⟨hqw, by omega⟩]
      · rw [if_neg (fun k => hlt k.2), if_neg (fun k => hlt (by have := k.2; omega))]
    · rw [if_neg (fun k => hqw k.1), if_neg (fun k => hqw k.1)]
theorem px_end {p B : List Int} {W C H st : Nat} (hc : 3 ≤ C) (h : PxI p W C H st (H * (W * C)) B) (hp : p.length = H * (W * C)) (hst : W * C ≤ st) : B = wrB p C W H st := by
  obtain ⟨h1, h2⟩ := h
  have hl : ∀ k, k < H → (wrRow p C W H st k).length = st := fun k hk => by
    unfold wrRow
    have := prod_of (n := W * C) (show H - 1 - k < H by omega)
    rw [List.length_append, swapTo_len, piece_len (by omega), List.length_replicate]; omega
  refine eq_pieces (Q := H) (d := st) h1 (catK_len hl H (Nat.le_refl _)) fun r q hr hq => ?_
  rw [h2 r q hr hq]
  unfold wrB
  rw [catK_get hl H (Nat.le_refl _) r q hr hq]
  unfold wrRow
  have hrw := prod_of (n := W * C) (show H - 1 - r < H by omega)
  have hpl : (piece p (W * C) (H - 1 - r)).length = W * C := piece_len (by omega)
  have hsl : (swapTo (piece p (W * C) (H - 1 - r)) 0 C W).length = W * C := by rw [swapTo_len, hpl]
  by_cases hqw : q < W * C
  · have hsx := sx_lt hc hqw
    rw [if_pos ⟨hqw, by unfold srcI; omega⟩, List.getD_eq_getElem?_getD (l := _ ++ _), List.getElem?_append_left (by omega), ← List.getD_eq_getElem?_getD]
    have h3 : q / C < W := (Nat.div_lt_iff_lt_mul (by omega)).2 hqw
    have h4 := (swapTo_get (L := piece p (W * C) (H - 1 - r)) (o := 0) (c := C) hc W (by omega)).1 (q / C) (q % C) h3 (Nat.mod_lt q (by omega))
    simp only [Nat.zero_add] at h4
    rw [show q / C * C + q % C = q by rw [Nat.mul_comm]; exact Nat.div_add_mod q C] at h4
    rw [h4, piece_get (by exact hsx)]; rfl
  · rw [if_neg (fun k => hqw k.1), List.getD_eq_getElem?_getD (l := _ ++ _), List.getElem?_append_right (by omega), hsl, List.getElem?_replicate, if_pos (by omega)]; rfl
end Go.Proofs.Ytepjmnkleajibaa

/- Bitmaps (bmp): the document's Write, walked. No condition. -/
namespace Go.Proofs.Ytepjmnkleajibaa
open Go Go.RowKit
set_option linter.unusedVariables false
set_option linter.unusedSimpArgs false
set_option maxRecDepth 100000
set_option maxHeartbeats 16000000

noncomputable def wdCx : Ctx := mkE 0 [(37, checkS), (27, rstrS), (96, rputS), (97, sN wantsA)] noG [] [] [6, 7, 8, 12, 14, 15, 16, 22]
theorem wdCx_ok : COK Try.prog wdCx := mkE_ok (pok_cons rcheck7_s (pok_cons rstr_s (pok_cons rput_s (pok_cons wants_s pok_nil)))) noG_ok dl_nil
theorem wd_bad {w h c : Int} {p : List Int} (hp : p.length ≤ 20000) (e : wrE w h c p.length ≠ 0) : vcFn wdCx Try.f26 [.agg [.int .i64 w, .int .i64 h, .int .i64 c, .roi .u8 p]] ⟨0, []⟩ (Ret (.tup [.roi .u8 (wrL w h c p), .int .i64 (wrE w h c p.length)])) := by
  have z : wrL w h c p = [] := if_neg e
  rw [z]
  by_cases k1 : imCheck w h c p.length = 0
  · have e1 : wrE w h c p.length = if c = 1 then 10 else 0 := if_neg (fun k => k k1)
    have hc : c = 1 := Classical.byContradiction fun k => e (by rw [e1, if_neg k])
    rw [e1, if_pos hc]
    (repeat' (first | (refine And.intro (fun (hfk : _ = true) => ?_) (fun (hfk : _ = false) => ?_) <;> ((try (first | replace hfk := of_decide_eq_true hfk | replace hfk := of_decide_eq_false hfk | simp only [decide_eq_true_eq, decide_eq_false_iff_not, dh1, dh0, ne_eq, reduceCtorEq] at hfk)); (try (exfalso; first | omega | contradiction | exact Bool.noConfusion (Eq.trans (Eq.symm hfk) (by with_reducible assumption : _ = false)) | exact Bool.noConfusion (Eq.trans (Eq.symm hfk) (by with_reducible assumption : _ = true)))))) | (refine And.intro ?ob ?_; (case ob => (first | exact Chk.mk (by kernel_rfl) | exact True.intro | with_reducible assumption | exact rng64 (by omega) (by omega) | omega | (dsimp only; omega) | (show (_ : Nat) ≤ _; omega) | (simp only [ll1, ll2, ll0]; done) | (simp only [ll1, ll2, ll0]; omega) | (dsimp only; simp only [ll1, ll2, ll0]; omega)))) | exact True.intro | (show _ = _; first | with_reducible rfl | with_reducible assumption | omega | (simp only [ll1, ll2, ll0]; omega) | (rfl; done) | exact rfl) | with_reducible assumption | (apply And.intro) | omega | (intro j hj; exact rfl) | fail))
  · have e1 : wrE w h c p.length = imCheck w h c p.length := if_pos k1
    rw [e1]
    (repeat' (first | (refine And.intro (fun (hfk : _ = true) => ?_) (fun (hfk : _ = false) => ?_) <;> ((try (first | replace hfk := of_decide_eq_true hfk | replace hfk := of_decide_eq_false hfk | simp only [decide_eq_true_eq, decide_eq_false_iff_not, dh1, dh0, ne_eq, reduceCtorEq] at hfk)); (try (exfalso; first | omega | contradiction | exact Bool.noConfusion (Eq.trans (Eq.symm hfk) (by with_reducible assumption : _ = false)) | exact Bool.noConfusion (Eq.trans (Eq.symm hfk) (by with_reducible assumption : _ = true)))))) | (refine And.intro ?ob ?_; (case ob => (first | exact Chk.mk (by kernel_rfl) | exact True.intro | with_reducible assumption | exact rng64 (by omega) (by omega) | omega | (dsimp only; omega) | (show (_ : Nat) ≤ _; omega) | (simp only [ll1, ll2, ll0]; done) | (simp only [ll1, ll2, ll0]; omega) | (dsimp only; simp only [ll1, ll2, ll0]; omega)))) | exact True.intro | (show _ = _; first | with_reducible rfl | with_reducible assumption | omega | (simp only [ll1, ll2, ll0]; omega) | (rfl; done) | exact rfl) | with_reducible assumption | (apply And.intro) | omega | (intro j hj; exact rfl) | fail))
theorem px_idx {i W C H : Nat} (hc : 3 ≤ C) (hw : 1 ≤ W) (h : i < H * (W * C)) : i % C < C ∧ i / C % W < W ∧ i / C / W < H ∧ i = i / C / W * (W * C) + (i / C % W * C + i % C) := by
  refine ⟨Nat.mod_lt _ (by omega), Nat.mod_lt _ (by omega), ?_, ?_⟩
  · rw [Nat.div_div_eq_div_mul, Nat.mul_comm C W]
    exact (Nat.div_lt_iff_lt_mul (Nat.mul_pos (by omega) (by omega))).2 h
  · have h1 := Nat.div_add_mod i C
    have h2 := Nat.div_add_mod (i / C) W
    have h3 : i / C / W * (W * C) + i / C % W * C = C * (i / C) := by
      rw [← Nat.mul_assoc, ← Nat.add_mul, Nat.mul_comm (i / C / W) W, h2, Nat.mul_comm]
    omega
theorem sx_at {C X K : Nat} (hc : 3 ≤ C) (hk : K < C) : sx C (X * C + K) = X * C + sw K := by
  unfold sx
  rw [mod_of hk, Nat.add_comm (X * C) K, Nat.add_mul_div_right _ _ (by omega), Nat.div_eq_of_lt hk, Nat.zero_add]
theorem set54 {E B : List Int} (hE : E.length = 54) (j : Nat) (v : Int) : (E ++ B).set (0 + (54 + j)) v = E ++ B.set j v := by
  rw [Nat.zero_add, List.set_append_right _ _ (by omega), hE, Nat.add_sub_cancel_left]
theorem wd_good {w h c : Int} {p : List Int} (hp : p.length ≤ 20000) (e : wrE w h c p.length = 0) : vcFn wdCx Try.f26 [.agg [.int .i64 w, .int .i64 h, .int .i64 c, .roi .u8 p]] ⟨0, []⟩ (Ret (.tup [.roi .u8 (wrL w h c p), .int .i64 (wrE w h c p.length)])) := by
  have hi := im_of e
  have z : wrL w h c p = wrHd w.toNat h.toNat c.toNat (up4 (w * c)).toNat ++ wrB p c.toNat w.toNat h.toNat (up4 (w * c)).toNat := if_pos e
  rw [z, e]
  obtain ⟨W, hW⟩ : ∃ W, w.toNat = W := ⟨_, rfl⟩
  obtain ⟨H, hH⟩ : ∃ H, h.toNat = H := ⟨_, rfl⟩
  obtain ⟨C, hC⟩ : ∃ C, c.toNat = C := ⟨_, rfl⟩
  obtain ⟨st, hst⟩ : ∃ st, (up4 (w * c)).toNat = st := ⟨_, rfl⟩
  rw [hW, hH, hC, hst] at hi ⊢
  clear z e hW hH hC hst
  obtain ⟨rfl, rfl, rfl, chk, c34, w1, w2, h1, h2, wh, len, st_, st1, st2⟩ := hi
  have hc1 : ¬ (C : Int) = 1 := by omega
  have cwc : ((W * C : Nat) : Int) = (W : Int) * (C : Int) := Int.natCast_mul _ _
  have chs : ((H * st : Nat) : Int) = (st : Int) * (H : Int) := by rw [Int.natCast_mul, Int.mul_comm]
  have wcb : 3 ≤ W * C ∧ W * C ≤ 131072 := by rcases c34 with k | k <;> subst k <;> omega
  have hn4 : H * st ≤ 200000 := by
    have q1 : H * (W * C) ≤ 20000 := by omega
    have q2 : H * st ≤ H * (W * C + 3) := Nat.mul_le_mul_left _ st2
    rw [Nat.mul_add] at q2
    omega
  have wc1 : 0 ≤ (W : Int) * (C : Int) := by omega
  have wc2 : (W : Int) * (C : Int) ≤ 4294967296 := by omega
  have un : up4 ((W : Int) * (C : Int)) * (H : Int) = ((H * st : Nat) : Int) := by rw [st_, chs]
  have r1 : rngI .i64 (up4 ((W : Int) * (C : Int)) * (H : Int)) := by rw [un]; exact rng64 (by omega) (by omega)
  have r2 : rngI .i64 (54 + up4 ((W : Int) * (C : Int)) * (H : Int)) := by rw [un]; exact rng64 (by omega) (by omega)
  have om : 0 ≤ 54 + up4 ((W : Int) * (C : Int)) * (H : Int) ∧ 54 + up4 ((W : Int) * (C : Int)) * (H : Int) ≤ 54 + up4 ((W : Int) * (C : Int)) * (H : Int) ∧ 54 + up4 ((W : Int) * (C : Int)) * (H : Int) ≤ 140737488355328 ∧ (54 + up4 ((W : Int) * (C : Int)) * (H : Int)) * ((1 : Nat) : Int) ≤ 140737488355328 := by rw [un]; omega
  have z1 : (54 + up4 ((W : Int) * (C : Int)) * (H : Int)).toNat = 54 + H * st := by rw [un]; omega
  have z2 : List.replicate (54 + up4 ((W : Int) * (C : Int)) * (H : Int)).toNat 0 = List.replicate 54 0 ++ List.replicate (H * st) (0 : Int) := by rw [z1, List.replicate_append_replicate]
  (repeat' (first | (refine And.intro (fun (hfk : _ = true) => ?_) (fun (hfk : _ = false) => ?_) <;> ((try (first | replace hfk := of_decide_eq_true hfk | replace hfk := of_decide_eq_false hfk | simp only [decide_eq_true_eq, decide_eq_false_iff_not, dh1, dh0, ne_eq, reduceCtorEq] at hfk)); (try (exfalso; first | omega | contradiction | exact Bool.noConfusion (Eq.trans (Eq.symm hfk) (by with_reducible assumption : _ = false)) | exact Bool.noConfusion (Eq.trans (Eq.symm hfk) (by with_reducible assumption : _ = true)))))) | (refine And.intro ?ob ?_; (case ob => (first | exact Chk.mk (by kernel_rfl) | exact True.intro | with_reducible assumption | exact rng64 (by omega) (by omega) | omega | (dsimp only; omega) | (show (_ : Nat) ≤ _; omega) | (simp only [ll1, ll2, ll0]; done) | (simp only [ll1, ll2, ll0]; omega) | (dsimp only; simp only [ll1, ll2, ll0]; omega)))) | exact True.intro | (show _ = _; first | with_reducible rfl | with_reducible assumption | omega | (simp only [ll1, ll2, ll0]; omega) | (exact om; done) | exact rfl) | with_reducible assumption | (apply And.intro) | omega | (intro j hj; exact rfl) | fail))
  obtain ⟨Z, hZ⟩ : ∃ Z, List.replicate (H * st) (0 : Int) = Z := ⟨_, rfl⟩
  have hZl : Z.length = H * st := by rw [← hZ]; simp
  obtain ⟨E0, q0⟩ : ∃ E, List.replicate 54 (0 : Int) = E := ⟨_, rfl⟩
  rw [hZ, q0] at z2
  refine ⟨[(1, .ptr 0 0), (5, .sl 1 1 0 (54 + H * st))], ⟨2, [(0, some (.cells 40 [.int .i64 (W : Int), .int .i64 (H : Int), .int .i64 (C : Int), .roi .u8 p])), (1, some (bE (E0 ++ Z)))]⟩, [some 0, some 1], ?_, ?_⟩
  · (repeat' (first | (refine And.intro ?_ ?_) | exact True.intro | (show _ = _; with_reducible rfl) | exact Chk.mk (by kernel_rfl)))
    all_goals first | exact z1 | exact z2 | rfl
  clear r1 r2 om z1 z2 wc1 wc2 un chs
  have e0l : E0.length = 54 := by rw [← q0]; rfl
  have l0 : (E0 ++ Z).length = 54 + H * st := by rw [List.length_append, hZl, e0l]
  obtain ⟨N, hN⟩ : ∃ N : Int, ((54 + H * st : Nat) : Int) = N := ⟨_, rfl⟩
  have hN0 : 0 ≤ N ∧ N < 4294967296 := by omega
  have r8 : rngI .i64 (8 * (C : Int)) := rng64 (by omega) (by omega)
  (repeat' (first | (refine And.intro (fun (hfk : _ = true) => ?_) (fun (hfk : _ = false) => ?_) <;> ((try (first | replace hfk := of_decide_eq_true hfk | replace hfk := of_decide_eq_false hfk | simp only [decide_eq_true_eq, decide_eq_false_iff_not, dh1, dh0, ne_eq, reduceCtorEq] at hfk)); (try (exfalso; first | omega | contradiction | exact Bool.noConfusion (Eq.trans (Eq.symm hfk) (by with_reducible assumption : _ = false)) | exact Bool.noConfusion (Eq.trans (Eq.symm hfk) (by with_reducible assumption : _ = true)))))) | (refine And.intro ?ob ?_; (case ob => (first | exact Chk.mk (by kernel_rfl) | exact True.intro | with_reducible assumption | exact rng64 (by omega) (by omega) | omega | (dsimp only; omega) | (show (_ : Nat) ≤ _; omega) | (simp only [ll1, ll2, ll0]; done) | (simp only [ll1, ll2, ll0]; omega) | (dsimp only; simp only [ll1, ll2, ll0]; omega)))) | exact True.intro | (show _ = _; first | with_reducible rfl | with_reducible assumption | omega | (simp only [ll1, ll2, ll0]; omega) | (skip; done) | exact rfl) | with_reducible assumption | (apply And.intro) | omega | (intro j hj; exact rfl) | fail))
  obtain ⟨E1, q1⟩ : ∃ E, spl E0 0 [66, 77] = E := ⟨_, rfl⟩
  have e1l : E1.length = 54 := by rw [← q1, spl_len (by rw [e0l]; decide), e0l]
  refine ⟨[(1, .ptr 0 0), (5, .sl 1 1 0 (54 + H * st))], ⟨2, [(0, some (.cells 40 [.int .i64 (W : Int), .int .i64 (H : Int), .int .i64 (C : Int), .roi .u8 p])), (1, some (bE (E1 ++ Z)))]⟩, [some 0, some 1], ?_, ?_⟩
  · have c7 := cpS (E := E0) (Z := Z) (o := 0) (q := (ByteArray.mk #[66, 77]).data.toList.map (fun c => (c.toNat : Int))) e0l (by decide)
    have c8 := congrArg (· ++ Z) q1
    (repeat' (first | (refine And.intro ?_ ?_) | exact True.intro | (show _ = _; with_reducible rfl) | exact Chk.mk (by kernel_rfl)))
    all_goals first | exact c7.trans c8 | rfl
  have l1 : (E1 ++ Z).length = 54 + H * st := by rw [List.length_append, hZl, e1l]
  (repeat' (first | (refine And.intro (fun (hfk : _ = true) => ?_) (fun (hfk : _ = false) => ?_) <;> ((try (first | replace hfk := of_decide_eq_true hfk | replace hfk := of_decide_eq_false hfk | simp only [decide_eq_true_eq, decide_eq_false_iff_not, dh1, dh0, ne_eq, reduceCtorEq] at hfk)); (try (exfalso; first | omega | contradiction | exact Bool.noConfusion (Eq.trans (Eq.symm hfk) (by with_reducible assumption : _ = false)) | exact Bool.noConfusion (Eq.trans (Eq.symm hfk) (by with_reducible assumption : _ = true)))))) | (refine And.intro ?ob ?_; (case ob => (first | exact Chk.mk (by kernel_rfl) | exact True.intro | with_reducible assumption | exact rng64 (by omega) (by omega) | omega | (dsimp only; omega) | (show (_ : Nat) ≤ _; omega) | (simp only [ll1, ll2, ll0]; done) | (simp only [ll1, ll2, ll0]; omega) | (dsimp only; simp only [ll1, ll2, ll0]; omega)))) | exact True.intro | (show _ = _; first | with_reducible rfl | with_reducible assumption | omega | (simp only [ll1, ll2, ll0]; omega) | (skip; done) | exact rfl) | with_reducible assumption | (apply And.intro) | omega | (intro j hj; exact rfl) | fail))
  obtain ⟨E2, q2⟩ : ∃ E, spl E1 2 (byts N 4) = E := ⟨_, rfl⟩
  have e2l : E2.length = 54 := by rw [← q2, spl_len (by rw [byts_len, e1l]; omega), e1l]
  have l2 : (E2 ++ Z).length = 54 + H * st := by rw [List.length_append, hZl, e2l]
  refine ⟨[(1, .ptr 0 0), (5, .sl 1 1 0 (54 + H * st))], ⟨2, [(0, some (.cells 40 [.int .i64 (W : Int), .int .i64 (H : Int), .int .i64 (C : Int), .roi .u8 p])), (1, some (bE (E2 ++ Z)))]⟩, [some 0, some 1], ?_, ?_⟩
  · (repeat' (first | (refine And.intro ?_ ?_) | exact True.intro | (show _ = _; with_reducible rfl) | exact Chk.mk (by kernel_rfl)))
    rw [hN]
    all_goals first | rfl | exact (cp54 e1l (by rw [byts_len]; omega) (by rw [byts_len]; omega)).trans (congrArg (· ++ Z) q2)
  clear l2
  have l2 : (E2 ++ Z).length = 54 + H * st := by rw [List.length_append, hZl, e2l]
  (repeat' (first | (refine And.intro (fun (hfk : _ = true) => ?_) (fun (hfk : _ = false) => ?_) <;> ((try (first | replace hfk := of_decide_eq_true hfk | replace hfk := of_decide_eq_false hfk | simp only [decide_eq_true_eq, decide_eq_false_iff_not, dh1, dh0, ne_eq, reduceCtorEq] at hfk)); (try (exfalso; first | omega | contradiction | exact Bool.noConfusion (Eq.trans (Eq.symm hfk) (by with_reducible assumption : _ = false)) | exact Bool.noConfusion (Eq.trans (Eq.symm hfk) (by with_reducible assumption : _ = true)))))) | (refine And.intro ?ob ?_; (case ob => (first | exact Chk.mk (by kernel_rfl) | exact True.intro | with_reducible assumption | exact rng64 (by omega) (by omega) | omega | (dsimp only; omega) | (show (_ : Nat) ≤ _; omega) | (simp only [ll1, ll2, ll0]; done) | (simp only [ll1, ll2, ll0]; omega) | (dsimp only; simp only [ll1, ll2, ll0]; omega)))) | exact True.intro | (show _ = _; first | with_reducible rfl | with_reducible assumption | omega | (simp only [ll1, ll2, ll0]; omega) | (skip; done) | exact rfl) | with_reducible assumption | (apply And.intro) | omega | (intro j hj; exact rfl) | fail))
  refine ⟨Nat, fun i => [(1, .ptr 0 0), (5, .sl 1 1 0 (54 + H * st)), (38, wantsA), (39, .int .i64 7), (40, .int .i64 (i : Int))], fun i => ⟨2, [(0, some (.cells 40 [.int .i64 (W : Int), .int .i64 (H : Int), .int .i64 (C : Int), .roi .u8 p])), (1, some (bE (wHd E2 i ++ Z)))]⟩, fun i => i ≤ 7, fun i => 7 - i, ⟨0, [some 0, some 1], Nat.zero_le _, ?_⟩, fun i hi => ?_⟩
  · (repeat' (first | (refine And.intro ?_ ?_) | exact True.intro | (show _ = _; with_reducible rfl) | exact Chk.mk (by kernel_rfl)))
    all_goals first | (intro j hj; rfl) | rfl
  have hi : i ≤ 7 := hi
  have ewl := wHd_len e2l i hi
  have lw7 : (wHd E2 i ++ Z).length = 54 + H * st := by rw [List.length_append, hZl, ewl]
  by_cases hlt : i < 7
  · obtain ⟨a1, a2, a3, a4⟩ := wt_in hlt
    have a5 := wt_x hlt
    have a1' : 0 ≤ (wtG (i : Int).toNat).1 := a1
    have a2' : 0 ≤ (wtG (i : Int).toNat).2.1 := a2
    have a3' : (wtG (i : Int).toNat).2.1 ≤ 4 := a3
    have a4' : (wtG (i : Int).toNat).1 + (wtG (i : Int).toNat).2.1 ≤ 54 := a4
    have a5' : 0 ≤ (wtG (i : Int).toNat).2.2 ∧ (wtG (i : Int).toNat).2.2 < 4294967296 := a5
    have ri : rngI .i64 ((i : Int) + 1) := rng64 (by omega) (by omega)
    have bl : (byts (wtG (i : Int).toNat).2.2 (wtG (i : Int).toNat).2.1.toNat).length = (wtG (i : Int).toNat).2.1.toNat := byts_len _ _
    (repeat' (first | (refine And.intro (fun (hfk : _ = true) => ?_) (fun (hfk : _ = false) => ?_) <;> ((try (first | replace hfk := of_decide_eq_true hfk | replace hfk := of_decide_eq_false hfk | simp only [decide_eq_true_eq, decide_eq_false_iff_not, dh1, dh0, ne_eq, reduceCtorEq] at hfk)); (try (exfalso; first | omega | contradiction | exact Bool.noConfusion (Eq.trans (Eq.symm hfk) (by with_reducible assumption : _ = false)) | exact Bool.noConfusion (Eq.trans (Eq.symm hfk) (by with_reducible assumption : _ = true)))))) | (refine And.intro ?ob ?_; (case ob => (first | exact Chk.mk (by kernel_rfl) | exact True.intro | with_reducible assumption | exact rng64 (by omega) (by omega) | omega | (dsimp only; omega) | (show (_ : Nat) ≤ _; omega) | (simp only [ll1, ll2, ll0]; done) | (simp only [ll1, ll2, ll0]; omega) | (dsimp only; simp only [ll1, ll2, ll0]; omega)))) | exact True.intro | (show _ = _; first | with_reducible rfl | with_reducible assumption | omega | (simp only [ll1, ll2, ll0]; omega) | (skip; done) | exact rfl) | with_reducible assumption | (apply And.intro) | omega | (intro j hj; exact rfl) | fail))
    refine ⟨[(1, .ptr 0 0), (5, .sl 1 1 0 (54 + H * st)), (38, wantsA), (39, .int .i64 7), (40, .int .i64 (i : Int))], ⟨2, [(0, some (.cells 40 [.int .i64 (W : Int), .int .i64 (H : Int), .int .i64 (C : Int), .roi .u8 p])), (1, some (bE (wHd E2 (i + 1) ++ Z)))]⟩, [some 0, some 1], ?_, ?_⟩
    · have cw : ∀ n : Nat, (wtG (i : Int).toNat).2.1.toNat ≤ n → List.take (0 + (wtG (i : Int).toNat).1.toNat) (wHd E2 i ++ Z) ++ (List.take (Nat.min (byts (wtG (i : Int).toNat).2.2 (wtG (i : Int).toNat).2.1.toNat).length n) (byts (wtG (i : Int).toNat).2.2 (wtG (i : Int).toNat).2.1.toNat) ++ List.drop (0 + (wtG (i : Int).toNat).1.toNat + Nat.min (byts (wtG (i : Int).toNat).2.2 (wtG (i : Int).toNat).2.1.toNat).length n) (wHd E2 i ++ Z)) = wHd E2 (i + 1) ++ Z := fun n hn => by
        rw [cp54 ewl (by rw [bl]; omega) (by rw [bl]; exact hn), Nat.zero_add]; rfl
      (repeat' (first | (refine And.intro ?_ ?_) | exact True.intro | (show _ = _; with_reducible rfl) | exact Chk.mk (by kernel_rfl)))
      all_goals first | (intro j hj; rfl) | rfl | exact cw _ (by omega)
    (repeat' (first | (refine And.intro (fun (hfk : _ = true) => ?_) (fun (hfk : _ = false) => ?_) <;> ((try (first | replace hfk := of_decide_eq_true hfk | replace hfk := of_decide_eq_false hfk | simp only [decide_eq_true_eq, decide_eq_false_iff_not, dh1, dh0, ne_eq, reduceCtorEq] at hfk)); (try (exfalso; first | omega | contradiction | exact Bool.noConfusion (Eq.trans (Eq.symm hfk) (by with_reducible assumption : _ = false)) | exact Bool.noConfusion (Eq.trans (Eq.symm hfk) (by with_reducible assumption : _ = true)))))) | (refine And.intro ?ob ?_; (case ob => (first | exact Chk.mk (by kernel_rfl) | exact True.intro | with_reducible assumption | exact rng64 (by omega) (by omega) | omega | (dsimp only; omega) | (show (_ : Nat) ≤ _; omega) | (simp only [ll1, ll2, ll0]; done) | (simp only [ll1, ll2, ll0]; omega) | (dsimp only; simp only [ll1, ll2, ll0]; omega)))) | exact True.intro | (show _ = _; first | with_reducible rfl | with_reducible assumption | omega | (simp only [ll1, ll2, ll0]; omega) | (skip; done) | exact rfl) | with_reducible assumption | (apply And.intro) | omega | (intro j hj; exact rfl) | fail))
    refine ⟨i + 1, [some 0, some 1], hlt, ?mu, ?_⟩
    case mu => (show 7 - (i + 1) < 7 - i; omega)
    (repeat' (first | (refine And.intro ?_ ?_) | exact True.intro | (show _ = _; with_reducible rfl) | exact Chk.mk (by kernel_rfl)))
    all_goals first | (intro j hj; rfl) | rfl | (show (_ : Int) = _; omega)
  obtain rfl : i = 7 := by omega
  (repeat' (first | (refine And.intro (fun (hfk : _ = true) => ?_) (fun (hfk : _ = false) => ?_) <;> ((try (first | replace hfk := of_decide_eq_true hfk | replace hfk := of_decide_eq_false hfk | simp only [decide_eq_true_eq, decide_eq_false_iff_not, dh1, dh0, ne_eq, reduceCtorEq] at hfk)); (try (exfalso; first | omega | contradiction | exact Bool.noConfusion (Eq.trans (Eq.symm hfk) (by with_reducible assumption : _ = false)) | exact Bool.noConfusion (Eq.trans (Eq.symm hfk) (by with_reducible assumption : _ = true)))))) | (refine And.intro ?ob ?_; (case ob => (first | exact Chk.mk (by kernel_rfl) | exact True.intro | with_reducible assumption | exact rng64 (by omega) (by omega) | omega | (dsimp only; omega) | (show (_ : Nat) ≤ _; omega) | (simp only [ll1, ll2, ll0]; done) | (simp only [ll1, ll2, ll0]; omega) | (dsimp only; simp only [ll1, ll2, ll0]; omega)))) | exact True.intro | (show _ = _; first | with_reducible rfl | with_reducible assumption | omega | (simp only [ll1, ll2, ll0]; omega) | (skip; done) | exact rfl) | with_reducible assumption | (apply And.intro) | omega | (intro j hj; exact rfl) | fail))
  obtain ⟨E4, q4⟩ : ∃ E, spl (wHd E2 7) 18 (byts (W : Int) 4) = E := ⟨_, rfl⟩
  have e4l : E4.length = 54 := by rw [← q4, spl_len (by rw [byts_len, ewl]; omega), ewl]
  have l4 : (E4 ++ Z).length = 54 + H * st := by rw [List.length_append, hZl, e4l]
  refine ⟨[(1, .ptr 0 0), (5, .sl 1 1 0 (54 + H * st))], ⟨2, [(0, some (.cells 40 [.int .i64 (W : Int), .int .i64 (H : Int), .int .i64 (C : Int), .roi .u8 p])), (1, some (bE (E4 ++ Z)))]⟩, [some 0, some 1], ?_, ?_⟩
  · (repeat' (first | (refine And.intro ?_ ?_) | exact True.intro | (show _ = _; with_reducible rfl) | exact Chk.mk (by kernel_rfl)))
    all_goals first | rfl | exact (cp54 ewl (by rw [byts_len]; omega) (by rw [byts_len]; omega)).trans (congrArg (· ++ Z) q4)
  clear l4
  have l4 : (E4 ++ Z).length = 54 + H * st := by rw [List.length_append, hZl, e4l]
  (repeat' (first | (refine And.intro (fun (hfk : _ = true) => ?_) (fun (hfk : _ = false) => ?_) <;> ((try (first | replace hfk := of_decide_eq_true hfk | replace hfk := of_decide_eq_false hfk | simp only [decide_eq_true_eq, decide_eq_false_iff_not, dh1, dh0, ne_eq, reduceCtorEq] at hfk)); (try (exfalso; first | omega | contradiction | exact Bool.noConfusion (Eq.trans (Eq.symm hfk) (by with_reducible assumption : _ = false)) | exact Bool.noConfusion (Eq.trans (Eq.symm hfk) (by with_reducible assumption : _ = true)))))) | (refine And.intro ?ob ?_; (case ob => (first | exact Chk.mk (by kernel_rfl) | exact True.intro | with_reducible assumption | exact rng64 (by omega) (by omega) | omega | (dsimp only; omega) | (show (_ : Nat) ≤ _; omega) | (simp only [ll1, ll2, ll0]; done) | (simp only [ll1, ll2, ll0]; omega) | (dsimp only; simp only [ll1, ll2, ll0]; omega)))) | exact True.intro | (show _ = _; first | with_reducible rfl | with_reducible assumption | omega | (simp only [ll1, ll2, ll0]; omega) | (skip; done) | exact rfl) | with_reducible assumption | (apply And.intro) | omega | (intro j hj; exact rfl) | fail))
  obtain ⟨E5, q5⟩ : ∃ E, spl E4 22 (byts (H : Int) 4) = E := ⟨_, rfl⟩
  have e5l : E5.length = 54 := by rw [← q5, spl_len (by rw [byts_len, e4l]; omega), e4l]
  have l5 : (E5 ++ Z).length = 54 + H * st := by rw [List.length_append, hZl, e5l]
  refine ⟨[(1, .ptr 0 0), (5, .sl 1 1 0 (54 + H * st))], ⟨2, [(0, some (.cells 40 [.int .i64 (W : Int), .int .i64 (H : Int), .int .i64 (C : Int), .roi .u8 p])), (1, some (bE (E5 ++ Z)))]⟩, [some 0, some 1], ?_, ?_⟩
  · (repeat' (first | (refine And.intro ?_ ?_) | exact True.intro | (show _ = _; with_reducible rfl) | exact Chk.mk (by kernel_rfl)))
    all_goals first | rfl | exact (cp54 e4l (by rw [byts_len]; omega) (by rw [byts_len]; omega)).trans (congrArg (· ++ Z) q5)
  clear l5
  have l5 : (E5 ++ Z).length = 54 + H * st := by rw [List.length_append, hZl, e5l]
  (repeat' (first | (refine And.intro (fun (hfk : _ = true) => ?_) (fun (hfk : _ = false) => ?_) <;> ((try (first | replace hfk := of_decide_eq_true hfk | replace hfk := of_decide_eq_false hfk | simp only [decide_eq_true_eq, decide_eq_false_iff_not, dh1, dh0, ne_eq, reduceCtorEq] at hfk)); (try (exfalso; first | omega | contradiction | exact Bool.noConfusion (Eq.trans (Eq.symm hfk) (by with_reducible assumption : _ = false)) | exact Bool.noConfusion (Eq.trans (Eq.symm hfk) (by with_reducible assumption : _ = true)))))) | (refine And.intro ?ob ?_; (case ob => (first | exact Chk.mk (by kernel_rfl) | exact True.intro | with_reducible assumption | exact rng64 (by omega) (by omega) | omega | (dsimp only; omega) | (show (_ : Nat) ≤ _; omega) | (simp only [ll1, ll2, ll0]; done) | (simp only [ll1, ll2, ll0]; omega) | (dsimp only; simp only [ll1, ll2, ll0]; omega)))) | exact True.intro | (show _ = _; first | with_reducible rfl | with_reducible assumption | omega | (simp only [ll1, ll2, ll0]; omega) | (skip; done) | exact rfl) | with_reducible assumption | (apply And.intro) | omega | (intro j hj; exact rfl) | fail))
  obtain ⟨E6, q6⟩ : ∃ E, spl E5 28 (byts (8 * (C : Int)) 2) = E := ⟨_, rfl⟩
  have e6l : E6.length = 54 := by rw [← q6, spl_len (by rw [byts_len, e5l]; omega), e5l]
  have l6 : (E6 ++ Z).length = 54 + H * st := by rw [List.length_append, hZl, e6l]
  refine ⟨[(1, .ptr 0 0), (5, .sl 1 1 0 (54 + H * st))], ⟨2, [(0, some (.cells 40 [.int .i64 (W : Int), .int .i64 (H : Int), .int .i64 (C : Int), .roi .u8 p])), (1, some (bE (E6 ++ Z)))]⟩, [some 0, some 1], ?_, ?_⟩
  · (repeat' (first | (refine And.intro ?_ ?_) | exact True.intro | (show _ = _; with_reducible rfl) | exact Chk.mk (by kernel_rfl)))
    all_goals first | rfl | exact (cp54 e5l (by rw [byts_len]; omega) (by rw [byts_len]; omega)).trans (congrArg (· ++ Z) q6)
  clear l6
  have l6 : (E6 ++ Z).length = 54 + H * st := by rw [List.length_append, hZl, e6l]
  (repeat' (first | (refine And.intro (fun (hfk : _ = true) => ?_) (fun (hfk : _ = false) => ?_) <;> ((try (first | replace hfk := of_decide_eq_true hfk | replace hfk := of_decide_eq_false hfk | simp only [decide_eq_true_eq, decide_eq_false_iff_not, dh1, dh0, ne_eq, reduceCtorEq] at hfk)); (try (exfalso; first | omega | contradiction | exact Bool.noConfusion (Eq.trans (Eq.symm hfk) (by with_reducible assumption : _ = false)) | exact Bool.noConfusion (Eq.trans (Eq.symm hfk) (by with_reducible assumption : _ = true)))))) | (refine And.intro ?ob ?_; (case ob => (first | exact Chk.mk (by kernel_rfl) | exact True.intro | with_reducible assumption | exact rng64 (by omega) (by omega) | omega | (dsimp only; omega) | (show (_ : Nat) ≤ _; omega) | (simp only [ll1, ll2, ll0]; done) | (simp only [ll1, ll2, ll0]; omega) | (dsimp only; simp only [ll1, ll2, ll0]; omega)))) | exact True.intro | (show _ = _; first | with_reducible rfl | with_reducible assumption | omega | (simp only [ll1, ll2, ll0]; omega) | (skip; done) | exact rfl) | with_reducible assumption | (apply And.intro) | omega | (intro j hj; exact rfl) | fail))
  have e6 : E6 = wrHd W H C st := by
    rw [← q6, ← q5, ← q4, ← q2, ← q1, ← q0]
    refine (hE6_is N W H (8 * (C : Int))).trans ?_
    rw [← hN, show (8 * (C : Int)) = ((8 * C : Nat) : Int) by omega]
  refine ⟨Nat × List Int, fun g => [(1, .ptr 0 0), (5, .sl 1 1 0 (54 + H * st)), (8, .int .i64 (g.1 : Int))], fun g => ⟨2, [(0, some (.cells 40 [.int .i64 (W : Int), .int .i64 (H : Int), .int .i64 (C : Int), .roi .u8 p])), (1, some (bE (E6 ++ g.2)))]⟩,
    fun g => g.1 ≤ H * (W * C) ∧ PxI p W C H st g.1 g.2, fun g => H * (W * C) - g.1, ⟨(0, Z), [some 0, some 1], ⟨Nat.zero_le _, by rw [← hZ]; exact px0 p W C H st⟩, ?_⟩, fun g hg => ?_⟩
  · (repeat' (first | (refine And.intro ?_ ?_) | exact True.intro | (show _ = _; with_reducible rfl) | exact Chk.mk (by kernel_rfl)))
    all_goals rfl
  obtain ⟨i, B⟩ := g
  obtain ⟨g1, g2⟩ := hg
  have g1 : i ≤ H * (W * C) := g1
  have g2 : PxI p W C H st i B := g2
  have hBl := g2.1
  dsimp only
  have c3 : 3 ≤ C := by omega
  by_cases hlt : i < H * (W * C)
  · clear q6 q5 q4 q2 q1 q0 e5l e4l e2l e1l e0l l6 l5 l4 l1 l0 r8 e6 hZ hZl hN hN0 chk ewl lw7
    have hi := px_idx c3 w1 hlt
    have eK : (i : Int).tmod (C : Int) = ((i % C : Nat) : Int) := rfl
    have eX : ((i : Int).tdiv (C : Int)).tmod (W : Int) = ((i / C % W : Nat) : Int) := rfl
    have eY : ((i : Int).tdiv (C : Int)).tdiv (W : Int) = ((i / C / W : Nat) : Int) := rfl
    obtain ⟨Q, eQ, dQ⟩ : ∃ Q : Nat, (i : Int).tdiv (C : Int) = (Q : Int) ∧ Q ≤ i := ⟨i / C, rfl, Nat.div_le_self i C⟩
    obtain ⟨K, hK⟩ : ∃ K, i % C = K := ⟨_, rfl⟩
    obtain ⟨X, hX⟩ : ∃ X, i / C % W = X := ⟨_, rfl⟩
    obtain ⟨Y, hY⟩ : ∃ Y, i / C / W = Y := ⟨_, rfl⟩
    rw [hK, hX, hY] at hi
    rw [hK] at eK
    rw [hX] at eX
    rw [hY] at eY
    clear hK hX hY
    obtain ⟨k1, k2, k3, k4⟩ := hi
    have ri : i < 4294967296 := by omega
    have rq : rngI .i64 ((i : Int).tdiv (C : Int)) := by rw [eQ]; exact rng64 (by omega) (by omega)
    have ry : rngI .i64 (((i : Int).tdiv (C : Int)).tdiv (W : Int)) := by rw [eY]; exact rng64 (by omega) (by omega)
    have nC : (C : Int) ≠ 0 := by omega
    have nW : (W : Int) ≠ 0 := by omega
    clear eQ dQ
    (repeat' (first | (refine And.intro (fun (hfk : _ = true) => ?_) (fun (hfk : _ = false) => ?_) <;> ((try (first | replace hfk := of_decide_eq_true hfk | replace hfk := of_decide_eq_false hfk | simp only [decide_eq_true_eq, decide_eq_false_iff_not, dh1, dh0, ne_eq, reduceCtorEq] at hfk)); (try (exfalso; first | omega | contradiction | exact Bool.noConfusion (Eq.trans (Eq.symm hfk) (by with_reducible assumption : _ = false)) | exact Bool.noConfusion (Eq.trans (Eq.symm hfk) (by with_reducible assumption : _ = true)))))) | (refine And.intro ?ob ?_; (case ob => (first | exact Chk.mk (by kernel_rfl) | exact True.intro | with_reducible assumption | exact rng64 (by omega) (by omega) | omega | (dsimp only; omega) | (show (_ : Nat) ≤ _; omega) | (simp only [ll1, ll2, ll0]; done) | (simp only [ll1, ll2, ll0]; omega) | (dsimp only; simp only [ll1, ll2, ll0]; omega)))) | exact True.intro | (show _ = _; first | with_reducible rfl | with_reducible assumption | omega | (simp only [ll1, ll2, ll0]; omega) | (skip; done) | exact rfl) | with_reducible assumption | (apply And.intro) | omega | (intro j hj; exact rfl) | fail))
    refine ⟨[(1, .ptr 0 0), (5, .sl 1 1 0 (54 + H * st)), (8, .int .i64 (i : Int)), (9, .int .i64 (K : Int)), (10, .int .i64 (X : Int)), (11, .int .i64 (Y : Int))], ⟨2, [(0, some (.cells 40 [.int .i64 (W : Int), .int .i64 (H : Int), .int .i64 (C : Int), .roi .u8 p])), (1, some (bE (E6 ++ B)))]⟩, [some 0, some 1], ?_, ?_⟩
    · (repeat' (first | (refine And.intro ?_ ?_) | exact True.intro | (show _ = _; with_reducible rfl) | exact Chk.mk (by kernel_rfl)))
      all_goals first | rfl | exact eK | exact eX | exact eY
    clear eK eX eY rq ry nC nW
    have eR : (((H - 1 - Y) * st : Nat) : Int) = ((H : Int) - 1 - (Y : Int)) * up4 ((W : Int) * (C : Int)) := by
      rw [st_, Int.natCast_mul, show ((H - 1 - Y : Nat) : Int) = (H : Int) - 1 - (Y : Int) by omega]
    have bR := prod_of (n := st) (show H - 1 - Y < H by omega)
    have eX : ((X * C : Nat) : Int) = (X : Int) * (C : Int) := Int.natCast_mul _ _
    have bX := prod_of (n := C) k2
    have hs := sx_at (X := X) c3 k1
    have hpx := px_next c3 g2 k3 (show X * C + K < W * C by omega) k4 st1
    have s1 : H * st ≤ 200000 := hn4
    have hlen : p.length = H * (W * C) := len
    have rh1 : rngI .i64 ((H : Int) - 1) := rng64 (by omega) (by omega)
    have rh2 : rngI .i64 ((H : Int) - 1 - (Y : Int)) := rng64 (by omega) (by omega)
    have wc1 : 0 ≤ (W : Int) * (C : Int) := by omega
    have wc2 : (W : Int) * (C : Int) ≤ 4294967296 := by omega
    have rh3 : rngI .i64 (((H : Int) - 1 - (Y : Int)) * up4 ((W : Int) * (C : Int))) := rng64 (by omega) (by omega)
    have rh4 : rngI .i64 (54 + ((H : Int) - 1 - (Y : Int)) * up4 ((W : Int) * (C : Int))) := rng64 (by omega) (by omega)
    have rh5 : rngI .i64 ((X : Int) * (C : Int)) := rng64 (by omega) (by omega)
    have rh6 : rngI .i64 (54 + ((H : Int) - 1 - (Y : Int)) * up4 ((W : Int) * (C : Int)) + (X : Int) * (C : Int)) := rng64 (by omega) (by omega)
    have rh8 : rngI .i64 ((i : Int) + 1) := rng64 (by omega) (by omega)
    have hlp : (i : Int) < (p.length : Int) := by omega
    have lB : (E6 ++ B).length = 54 + H * st := by rw [List.length_append, e6l, hBl]
    by_cases hk : K < 3
    · have hsw : sw K = 2 - K := by unfold sw; (repeat' split) <;> omega
      have rk : rngI .i64 (2 - (K : Int)) := rng64 (by omega) (by omega)
      have rh7 : rngI .i64 (54 + ((H : Int) - 1 - (Y : Int)) * up4 ((W : Int) * (C : Int)) + (X : Int) * (C : Int) + (2 - (K : Int))) := rng64 (by omega) (by omega)
      have b1 : 0 ≤ 54 + ((H : Int) - 1 - (Y : Int)) * up4 ((W : Int) * (C : Int)) + (X : Int) * (C : Int) + (2 - (K : Int)) := by omega
      have b2 : 54 + ((H : Int) - 1 - (Y : Int)) * up4 ((W : Int) * (C : Int)) + (X : Int) * (C : Int) + (2 - (K : Int)) < ((54 + H * st : Nat) : Int) := by omega
      have ix : (54 + ((H : Int) - 1 - (Y : Int)) * up4 ((W : Int) * (C : Int)) + (X : Int) * (C : Int) + (2 - (K : Int))).toNat = 54 + ((H - 1 - Y) * st + sx C (X * C + K)) := by rw [hs, hsw]; omega
      have eS : (E6 ++ B).set (0 + (54 + ((H : Int) - 1 - (Y : Int)) * up4 ((W : Int) * (C : Int)) + (X : Int) * (C : Int) + (2 - (K : Int))).toNat) (p.getD (i : Int).toNat 0) = E6 ++ B.set ((H - 1 - Y) * st + sx C (X * C + K)) (p.getD i 0) := by rw [ix, set54 e6l]; rfl
      clear hs hsw eR eX bR bX g2 c34 w1 w2 h1 h2 wh st_ st1 st2 cwc wcb hn4 hc1 ix
      (repeat' (first | (refine And.intro (fun (hfk : _ = true) => ?_) (fun (hfk : _ = false) => ?_) <;> ((try (first | replace hfk := of_decide_eq_true hfk | replace hfk := of_decide_eq_false hfk | simp only [decide_eq_true_eq, decide_eq_false_iff_not, dh1, dh0, ne_eq, reduceCtorEq] at hfk)); (try (exfalso; first | omega | contradiction | exact Bool.noConfusion (Eq.trans (Eq.symm hfk) (by with_reducible assumption : _ = false)) | exact Bool.noConfusion (Eq.trans (Eq.symm hfk) (by with_reducible assumption : _ = true)))))) | (refine And.intro ?ob ?_; (case ob => (first | exact Chk.mk (by kernel_rfl) | exact True.intro | with_reducible assumption | exact rng64 (by omega) (by omega) | omega | (dsimp only; omega) | (show (_ : Nat) ≤ _; omega) | (simp only [ll1, ll2, ll0]; done) | (simp only [ll1, ll2, ll0]; omega) | (dsimp only; simp only [ll1, ll2, ll0]; omega)))) | exact True.intro | (show _ = _; first | with_reducible rfl | with_reducible assumption | omega | (simp only [ll1, ll2, ll0]; omega) | (skip; done) | exact rfl) | with_reducible assumption | (apply And.intro) | omega | (intro j hj; exact rfl) | fail))
      refine ⟨(i + 1, B.set ((H - 1 - Y) * st + sx C (X * C + K)) (p.getD i 0)), [some 0, some 1], ⟨hlt, hpx⟩, ?mu, ?_⟩
      case mu => (show H * (W * C) - (i + 1) < H * (W * C) - i; omega)
      (repeat' (first | (refine And.intro ?_ ?_) | exact True.intro | (show _ = _; with_reducible rfl) | exact Chk.mk (by kernel_rfl)))
      all_goals first | rfl | exact eS | (show (_ : Int) = _; omega)
    · have hsw : sw K = K := by unfold sw; (repeat' split) <;> omega
      have rh7 : rngI .i64 (54 + ((H : Int) - 1 - (Y : Int)) * up4 ((W : Int) * (C : Int)) + (X : Int) * (C : Int) + (K : Int)) := rng64 (by omega) (by omega)
      have b1 : 0 ≤ 54 + ((H : Int) - 1 - (Y : Int)) * up4 ((W : Int) * (C : Int)) + (X : Int) * (C : Int) + (K : Int) := by omega
      have b2 : 54 + ((H : Int) - 1 - (Y : Int)) * up4 ((W : Int) * (C : Int)) + (X : Int) * (C : Int) + (K : Int) < ((54 + H * st : Nat) : Int) := by omega
      have ix : (54 + ((H : Int) - 1 - (Y : Int)) * up4 ((W : Int) * (C : Int)) + (X : Int) * (C : Int) + (K : Int)).toNat = 54 + ((H - 1 - Y) * st + sx C (X * C + K)) := by rw [hs, hsw]; omega
      have eS : (E6 ++ B).set (0 + (54 + ((H : Int) - 1 - (Y : Int)) * up4 ((W : Int) * (C : Int)) + (X : Int) * (C : Int) + (K : Int)).toNat) (p.getD (i : Int).toNat 0) = E6 ++ B.set ((H - 1 - Y) * st + sx C (X * C + K)) (p.getD i 0) := by rw [ix, set54 e6l]; rfl
      clear hs hsw eR eX bR bX g2 c34 w1 w2 h1 h2 wh st_ st1 st2 cwc wcb hn4 hc1 ix
      (repeat' (first | (refine And.intro (fun (hfk : _ = true) => ?_) (fun (hfk : _ = false) => ?_) <;> ((try (first | replace hfk := of_decide_eq_true hfk | replace hfk := of_decide_eq_false hfk | simp only [decide_eq_true_eq, decide_eq_false_iff_not, dh1, dh0, ne_eq, reduceCtorEq] at hfk)); (try (exfalso; first | omega | contradiction | exact Bool.noConfusion (Eq.trans (Eq.symm hfk) (by with_reducible assumption : _ = false)) | exact Bool.noConfusion (Eq.trans (Eq.symm hfk) (by with_reducible assumption : _ = true)))))) | (refine And.intro ?ob ?_; (case ob => (first | exact Chk.mk (by kernel_rfl) | exact True.intro | with_reducible assumption | exact rng64 (by omega) (by omega) | omega | (dsimp only; omega) | (show (_ : Nat) ≤ _; omega) | (simp only [ll1, ll2, ll0]; done) | (simp only [ll1, ll2, ll0]; omega) | (dsimp only; simp only [ll1, ll2, ll0]; omega)))) | exact True.intro | (show _ = _; first | with_reducible rfl | with_reducible assumption | omega | (simp only [ll1, ll2, ll0]; omega) | (skip; done) | exact rfl) | with_reducible assumption | (apply And.intro) | omega | (intro j hj; exact rfl) | fail))
      refine ⟨(i + 1, B.set ((H - 1 - Y) * st + sx C (X * C + K)) (p.getD i 0)), [some 0, some 1], ⟨hlt, hpx⟩, ?mu, ?_⟩
      case mu => (show H * (W * C) - (i + 1) < H * (W * C) - i; omega)
      (repeat' (first | (refine And.intro ?_ ?_) | exact True.intro | (show _ = _; with_reducible rfl) | exact Chk.mk (by kernel_rfl)))
      all_goals first | rfl | exact eS | (show (_ : Int) = _; omega)
  · obtain rfl : i = H * (W * C) := by omega
    have hB := px_end c3 g2 len st1
    have z9 : List.take (54 + H * st) (List.drop 0 (E6 ++ B)) = wrHd W H C st ++ wrB p C W H st := by
      rw [List.drop_zero, List.take_of_length_le (by rw [List.length_append]; omega), e6, hB]
    (repeat' (first | (refine And.intro (fun (hfk : _ = true) => ?_) (fun (hfk : _ = false) => ?_) <;> ((try (first | replace hfk := of_decide_eq_true hfk | replace hfk := of_decide_eq_false hfk | simp only [decide_eq_true_eq, decide_eq_false_iff_not, dh1, dh0, ne_eq, reduceCtorEq] at hfk)); (try (exfalso; first | omega | contradiction | exact Bool.noConfusion (Eq.trans (Eq.symm hfk) (by with_reducible assumption : _ = false)) | exact Bool.noConfusion (Eq.trans (Eq.symm hfk) (by with_reducible assumption : _ = true)))))) | (refine And.intro ?ob ?_; (case ob => (first | exact Chk.mk (by kernel_rfl) | exact True.intro | with_reducible assumption | exact rng64 (by omega) (by omega) | omega | (dsimp only; omega) | (show (_ : Nat) ≤ _; omega) | (simp only [ll1, ll2, ll0]; done) | (simp only [ll1, ll2, ll0]; omega) | (dsimp only; simp only [ll1, ll2, ll0]; omega)))) | exact True.intro | (show _ = _; first | with_reducible rfl | with_reducible assumption | omega | (simp only [ll1, ll2, ll0]; omega) | (exact z9; done) | exact rfl) | with_reducible assumption | (apply And.intro) | omega | (intro j hj; exact rfl) | fail))
theorem rwrite16_s : SOK Try.prog 26 bwS := by
  refine sok_of (C := wdCx) wdCx_ok rfl mixed ⟨Try.func26, by kernel_rfl, by kernel_rfl, by kernel_rfl⟩ fun l obs v h ho => ?_
  (unfold bwS at h; split at h; rotate_left; (focus (cases h)); rename_i w hh c p; simp only [Option.some.injEq, Prod.mk.injEq] at h; obtain ⟨rfl, rfl⟩ := h; simp only [List.mem_cons, List.not_mem_nil, or_false, forall_eq_or_imp, forall_eq, false_implies, implies_true] at ho)
  refine ⟨Nat.le_of_ble_eq_true rfl, ?_⟩
  by_cases e : wrE w hh c p.length = 0
  · exact wd_good ho e
  · exact wd_bad ho e
end Go.Proofs.Ytepjmnkleajibaa

/- Bitmaps (bmp): bytes there and back; plain. No condition. -/
namespace Go.Proofs.Ytepjmnkleajibaa
open Go Go.RowKit
set_option linter.unusedVariables false
set_option linter.unusedSimpArgs false
set_option maxRecDepth 100000
set_option maxHeartbeats 4000000

theorem bytes_app {A B : List Int} (ha : Bytes A) (hb : Bytes B) : Bytes (A ++ B) := fun x hx => (List.mem_append.1 hx).elim (ha x) (hb x)
theorem bytes_byts (x : Int) (n : Nat) : Bytes (byts x n) := fun y hy => by
  obtain ⟨t, _, rfl⟩ := List.mem_map.1 hy
  exact byt_bd x t
theorem bytes_zero (n : Nat) : Bytes (List.replicate n 0) := fun x hx => by rw [(List.mem_replicate.1 hx).2]; omega
theorem bytes_set {L : List Int} (h : Bytes L) (i : Nat) {v : Int} (hv : 0 ≤ v ∧ v ≤ 255) : Bytes (L.set i v) := fun x hx => (List.mem_or_eq_of_mem_set hx).elim (h x) (fun e => e ▸ hv)
theorem bytes_swap {L : List Int} (h : Bytes L) (o c : Nat) : ∀ k, Bytes (swapTo L o c k)
  | 0 => h
  | k + 1 => bytes_set (bytes_set (bytes_swap h o c k) _ ((bytes_swap h o c k).get _)) _ ((bytes_swap h o c k).get _)
theorem bytes_cat {f : Nat → List Int} (h : ∀ k, Bytes (f k)) : ∀ n, Bytes (catK f n)
  | 0 => fun x hx => by cases hx
  | n + 1 => bytes_app (bytes_cat h n) (h n)
theorem bytes_piece {p : List Int} (h : Bytes p) (c k : Nat) : Bytes (piece p c k) := fun x hx => h x (List.mem_of_mem_drop (List.mem_of_mem_take hx))
theorem bytes_wr {p : List Int} (hp : Bytes p) (W H C st : Nat) : Bytes (wrHd W H C st ++ wrB p C W H st) := by
  refine bytes_app ?_ (bytes_cat (fun k => bytes_app (bytes_swap (bytes_piece hp _ _) _ _ _) (bytes_zero _)) H)
  refine bytes_app (bytes_app (bytes_app (bytes_app (bytes_app (bytes_app (bytes_app (bytes_app (bytes_app (bytes_app (bytes_app (bytes_app (bytes_app (bytes_app ?_ ?_) ?_) ?_) ?_) ?_) ?_) ?_) ?_) ?_) ?_) ?_) ?_) ?_) ?_
  all_goals first | exact bytes_byts _ _ | (intro x hx; have : x = 66 ∨ x = 77 := by simpa using hx
                                            omega)
theorem bytes_wrL {w h c : Int} {p : List Int} (hp : Bytes p) : Bytes (wrL w h c p) := by
  unfold wrL
  split
  · exact bytes_wr hp _ _ _ _
  · intro x hx; cases hx
end Go.Proofs.Ytepjmnkleajibaa

/- The law BmpWrites. No condition. -/
namespace Go.Proofs.Ytepjmnkleajibaa
open Go Go.RowKit
set_option linter.unusedVariables false
set_option linter.unusedSimpArgs false
set_option maxRecDepth 100000
set_option maxHeartbeats 4000000

theorem walk_BmpWrites' (w h c : Int) (p : List Int) (s0 s1 s2 : Int) (hB : Bytes p) (W : World) {cl : List Value} (hcl : CRel noN W NoO [imA w h c p, .agg [.int .i64 s0, .int .i64 s1, .int .i64 s2]] cl) :
    Calls Try.prog 4 cl.toArray W fun e W' => e = .returned (.bool true) ∧ Below W.heap.size W W' := by
  refine law_of (C := mkC 0 [(24, fewS), (25, bwS), (26, bwS), (20, same14S), (27, rstrS), (28, fitsS), (29, strideS), (30, bsizeS), (31, sN (.bool true))] noG)
    (mkC_ok (pok_cons few_s (pok_cons bwrite_s (pok_cons rwrite16_s (pok_cons same14_s (pok_cons rstr_s (pok_cons rfits_s (pok_cons stride_s (pok_cons bsize_s (pok_cons alive16_s pok_nil))))))))) noG_ok) rfl ⟨Try.func4, by kernel_rfl, by kernel_rfl, by kernel_rfl⟩ (by exact Nat.le_of_ble_eq_true rfl) ?_ hcl
  by_cases hl : 20000 < p.length
  · (repeat' (first | (refine And.intro (fun (hfk : _ = true) => ?_) (fun (hfk : _ = false) => ?_) <;> ((try (first | replace hfk := of_decide_eq_true hfk | replace hfk := of_decide_eq_false hfk | simp only [decide_eq_true_eq, decide_eq_false_iff_not, dh1, dh0, ne_eq, reduceCtorEq] at hfk)); (try (exfalso; first | omega | contradiction | exact Bool.noConfusion (Eq.trans (Eq.symm hfk) (by with_reducible assumption : _ = false)) | exact Bool.noConfusion (Eq.trans (Eq.symm hfk) (by with_reducible assumption : _ = true)))))) | (refine And.intro ?ob ?_; (case ob => (first | exact Chk.mk (by kernel_rfl) | exact True.intro | with_reducible assumption | exact rng64 (by omega) (by omega) | omega | (dsimp only; omega) | (show (_ : Nat) ≤ _; omega) | (simp only [ll1, ll2, ll0]; done) | (simp only [ll1, ll2, ll0]; omega) | (dsimp only; simp only [ll1, ll2, ll0]; omega)))) | exact True.intro | (show _ = _; first | with_reducible rfl | with_reducible assumption | omega | (simp only [ll1, ll2, ll0]; omega) | (rfl; done) | exact rfl) | with_reducible assumption | (apply And.intro) | omega | (intro j hj; exact rfl) | fail))
  have hp : p.length ≤ 20000 := by omega
  have hbw := bytes_wrL (w := w) (h := h) (c := c) hB
  by_cases k1 : s0 < 1 ∨ 32768 < s0 ∨ (s2 ≠ 3 ∧ s2 ≠ 4)
  · have e1 : strV s0 s2 = 0 := if_pos k1
    have e2 : bszV s0 s1 s2 = 0 := if_pos (.inl e1)
    have e3 : fitsI s0 s1 s2 ≠ 0 ∨ s2 = 1 := by
      by_cases k : fitsI s0 s1 s2 = 0
      · have := fits_inv k; right; omega
      · exact .inl k
    (repeat' (first | (refine And.intro (fun (hfk : _ = true) => ?_) (fun (hfk : _ = false) => ?_) <;> ((try (first | replace hfk := of_decide_eq_true hfk | replace hfk := of_decide_eq_false hfk | simp only [decide_eq_true_eq, decide_eq_false_iff_not, dh1, dh0, ne_eq, reduceCtorEq] at hfk)); (try (exfalso; first | omega | contradiction | exact Bool.noConfusion (Eq.trans (Eq.symm hfk) (by with_reducible assumption : _ = false)) | exact Bool.noConfusion (Eq.trans (Eq.symm hfk) (by with_reducible assumption : _ = true)))))) | (refine And.intro ?ob ?_; (case ob => (first | exact Chk.mk (by kernel_rfl) | exact True.intro | with_reducible assumption | exact rng64 (by omega) (by omega) | omega | (dsimp only; omega) | (show (_ : Nat) ≤ _; omega) | (simp only [ll1, ll2, ll0]; done) | (simp only [ll1, ll2, ll0]; omega) | (dsimp only; simp only [ll1, ll2, ll0]; omega)))) | exact True.intro | (show _ = _; first | with_reducible rfl | with_reducible assumption | omega | (simp only [ll1, ll2, ll0]; omega) | (first | exact hbw | rfl; done) | exact rfl) | with_reducible assumption | (apply And.intro) | omega | (intro j hj; exact rfl) | fail))
  have e1 : strV s0 s2 = up4 (s0 * s2) := if_neg k1
  have k2 : 1 ≤ s0 ∧ s0 ≤ 32768 ∧ (s2 = 3 ∨ s2 = 4) := by omega
  have wcb : 3 ≤ s0 * s2 ∧ s0 * s2 ≤ 131072 := by rcases k2.2.2 with k | k <;> subst k <;> omega
  have ub := up4_bd (s0 * s2)
  by_cases k3 : fitsI s0 s1 s2 = 0
  · obtain ⟨_, _, _, f1, f2, f3, _⟩ := fits_inv k3
    have f5 : 0 ≤ up4 (s0 * s2) * s1 := Int.mul_nonneg (by omega) (by omega)
    have f6 : up4 (s0 * s2) * s1 ≤ 131075 * 32768 := Int.le_trans (Int.mul_le_mul_of_nonneg_right (show up4 (s0 * s2) ≤ 131075 by omega) (by omega)) (Int.mul_le_mul_of_nonneg_left (by omega) (by omega))
    have e2 : bszV s0 s1 s2 = 54 + up4 (s0 * s2) * s1 := by unfold bszV; rw [e1, if_neg (by omega)]
    have r1 : rngI .i64 (up4 (s0 * s2) * s1) := rng64 (by omega) (by omega)
    have r2 : rngI .i64 (54 + up4 (s0 * s2) * s1) := rng64 (by omega) (by omega)
    clear f6 f5
    (repeat' (first | (refine And.intro (fun (hfk : _ = true) => ?_) (fun (hfk : _ = false) => ?_) <;> ((try (first | replace hfk := of_decide_eq_true hfk | replace hfk := of_decide_eq_false hfk | simp only [decide_eq_true_eq, decide_eq_false_iff_not, dh1, dh0, ne_eq, reduceCtorEq] at hfk)); (try (exfalso; first | omega | contradiction | exact Bool.noConfusion (Eq.trans (Eq.symm hfk) (by with_reducible assumption : _ = false)) | exact Bool.noConfusion (Eq.trans (Eq.symm hfk) (by with_reducible assumption : _ = true)))))) | (refine And.intro ?ob ?_; (case ob => (first | exact Chk.mk (by kernel_rfl) | exact True.intro | with_reducible assumption | exact rng64 (by omega) (by omega) | omega | (dsimp only; omega) | (show (_ : Nat) ≤ _; omega) | (simp only [ll1, ll2, ll0]; done) | (simp only [ll1, ll2, ll0]; omega) | (dsimp only; simp only [ll1, ll2, ll0]; omega)))) | exact True.intro | (show _ = _; first | with_reducible rfl | with_reducible assumption | omega | (simp only [ll1, ll2, ll0]; omega) | (first | exact hbw | exact r1 | exact r2 | rfl; done) | exact rfl) | with_reducible assumption | (apply And.intro) | omega | (intro j hj; exact rfl) | fail))
  · have e2 : bszV s0 s1 s2 = 0 := by
      unfold bszV
      refine if_pos ?_
      by_cases a1 : s1 < 1
      · exact .inr (.inl a1)
      by_cases a2 : 32768 < s1
      · exact .inr (.inr (.inl a2))
      by_cases a3 : 4194304 < s0 * s1
      · exact .inr (.inr (.inr a3))
      · exfalso; apply k3; unfold fitsI; rw [if_neg (by omega), if_neg (by omega), if_neg (by omega)]
    (repeat' (first | (refine And.intro (fun (hfk : _ = true) => ?_) (fun (hfk : _ = false) => ?_) <;> ((try (first | replace hfk := of_decide_eq_true hfk | replace hfk := of_decide_eq_false hfk | simp only [decide_eq_true_eq, decide_eq_false_iff_not, dh1, dh0, ne_eq, reduceCtorEq] at hfk)); (try (exfalso; first | omega | contradiction | exact Bool.noConfusion (Eq.trans (Eq.symm hfk) (by with_reducible assumption : _ = false)) | exact Bool.noConfusion (Eq.trans (Eq.symm hfk) (by with_reducible assumption : _ = true)))))) | (refine And.intro ?ob ?_; (case ob => (first | exact Chk.mk (by kernel_rfl) | exact True.intro | with_reducible assumption | exact rng64 (by omega) (by omega) | omega | (dsimp only; omega) | (show (_ : Nat) ≤ _; omega) | (simp only [ll1, ll2, ll0]; done) | (simp only [ll1, ll2, ll0]; omega) | (dsimp only; simp only [ll1, ll2, ll0]; omega)))) | exact True.intro | (show _ = _; first | with_reducible rfl | with_reducible assumption | omega | (simp only [ll1, ll2, ll0]; omega) | (first | exact hbw | rfl; done) | exact rfl) | with_reducible assumption | (apply And.intro) | omega | (intro j hj; exact rfl) | fail))
end Go.Proofs.Ytepjmnkleajibaa

