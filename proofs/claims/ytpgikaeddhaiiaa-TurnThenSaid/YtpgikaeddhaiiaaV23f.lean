
/- Quarters of a turn: images. No condition. -/
import Derived.Test.YtpgikaeddhaiiaaV23e
import Derived.Test.YtpgikaeddhaiiaaLs
import Derived.Test.YtpgikaeddhaiiaaXN
namespace Go.Proofs.Ytpgikaeddhaiiaa
open Go Go.RowKit
set_option linter.unusedVariables false
set_option linter.unusedSimpArgs false
set_option maxRecDepth 100000
set_option maxHeartbeats 4000000

theorem sp_mulT {c y : Int} (hc0 : 0 ≤ c) (hc : c ≤ 32768) (hy0 : 0 ≤ y) (hy : y ≤ 32768) : 0 ≤ y * c ∧ y * c ≤ 1073741824 := by
  refine ⟨Int.mul_nonneg hy0 hc0, ?_⟩
  calc y * c ≤ 32768 * c := Int.mul_le_mul_of_nonneg_right hy hc0
    _ ≤ 1073741824 := by omega
/-- Pieces from anywhere. -/
def flatP (p : List Int) (c : Nat) (pos : Nat → Nat) : Nat → List Int
  | 0 => []
  | k + 1 => flatP p c pos k ++ piece p c (pos k)
theorem flatP_len {p : List Int} {c Q : Nat} {pos : Nat → Nat} (h : ∀ k, k < Q → pos k * c + c ≤ p.length) : ∀ k, k ≤ Q → (flatP p c pos k).length = k * c
  | 0, _ => by simp [flatP]
  | k + 1, hk => by rw [flatP, List.length_append, flatP_len h k (by omega), piece_len (h k hk), Nat.succ_mul]
/-- Of w columns and h rows (numbers): which pixel comes from which. -/
def wT (q : Int) (w h : Nat) : Nat := if q % 2 = 1 then h else w
def hT (q : Int) (w h : Nat) : Nat := if q % 2 = 1 then w else h
theorem sw_w (q : Int) (w h : Nat) : swV q w h = (wT q w h : Int) := by unfold swV wT; split <;> rfl
theorem sw_h (q : Int) (w h : Nat) : swV q h w = (hT q w h : Int) := by unfold swV hT; split <;> rfl
def posU (q : Int) (w h k : Nat) : Int := fromU q w h ((k % wT q w h : Nat) : Int) ((k / wT q w h : Nat) : Int) 1
def posV (q : Int) (w h k : Nat) : Int := fromV q w h ((k % wT q w h : Nat) : Int) ((k / wT q w h : Nat) : Int) 1
def posT (q : Int) (w h k : Nat) : Nat := (posV q w h k * w + posU q w h k).toNat
theorem from_in {q : Int} {w h x y : Nat} (hq : 0 ≤ q ∧ q ≤ 7) (hx : x < wT q w h) (hy : y < hT q w h) : (0 ≤ fromU q w h x y 1 ∧ fromU q w h x y 1 < w) ∧ (0 ≤ fromV q w h x y 1 ∧ fromV q w h x y 1 < h) := by
  have hq : q = 0 ∨ q = 1 ∨ q = 2 ∨ q = 3 ∨ q = 4 ∨ q = 5 ∨ q = 6 ∨ q = 7 := by omega
  rcases hq with rfl | rfl | rfl | rfl | rfl | rfl | rfl | rfl <;> simp [wT] at hx <;> simp [hT] at hy <;> simp [fromU, fromU0, fromV] <;> omega
theorem area_T (q : Int) (w h : Nat) : wT q w h * hT q w h = w * h := by
  unfold wT hT
  split
  · exact Nat.mul_comm h w
  · rfl
theorem pos_in {q : Int} {w h k : Nat} (hq : 0 ≤ q ∧ q ≤ 7) (hk : k < w * h) : (0 ≤ posU q w h k ∧ posU q w h k < w) ∧ (0 ≤ posV q w h k ∧ posV q w h k < h) ∧ posT q w h k < w * h ∧ ((posT q w h k : Nat) : Int) = posV q w h k * w + posU q w h k := by
  rw [← area_T q] at hk
  have hw : 0 < wT q w h := Nat.pos_of_ne_zero fun e => by rw [e] at hk; simp at hk
  have h1 : k % wT q w h < wT q w h := Nat.mod_lt _ hw
  have h2 : k / wT q w h < hT q w h := (Nat.div_lt_iff_lt_mul hw).2 (by rw [Nat.mul_comm]; exact hk)
  obtain ⟨⟨a1, a2⟩, a3, a4⟩ := from_in hq h1 h2
  have e1 : 0 ≤ posU q w h k := a1
  have e2 : posU q w h k < w := a2
  have e3 : 0 ≤ posV q w h k := a3
  have e4 : posV q w h k < h := a4
  have e5 : 0 ≤ posV q w h k * w := Int.mul_nonneg e3 (by omega)
  have e6 : ((posT q w h k : Nat) : Int) = posV q w h k * w + posU q w h k := Int.toNat_of_nonneg (by omega)
  refine ⟨⟨e1, e2⟩, ⟨e3, e4⟩, ?_, e6⟩
  have e7 : (posV q w h k + 1) * w ≤ (h : Int) * w := Int.mul_le_mul_of_nonneg_right (by omega) (by omega)
  rw [Int.add_mul, Int.one_mul] at e7
  have e8 : ((w * h : Nat) : Int) = (h : Int) * w := by rw [Int.natCast_mul, Int.mul_comm]
  omega
theorem copyE {L xs q : List Int} {o o' n c : Nat} (ho : o = o') (hn : n = c) (hxl : c ≤ xs.length) (hx : xs.take c = q) : L.take o ++ (xs.take (Nat.min xs.length n) ++ L.drop (o + Nat.min xs.length n)) = spl L o' q := by
  subst ho hn hx
  have hk : Nat.min xs.length n = n := Nat.min_eq_right hxl
  unfold spl
  rw [hk, take_len hxl]
def turnC (w h c : Int) (p : List Int) (q : Int) : Int := if imCheck w h c p.length ≠ 0 then imCheck w h c p.length else if 0 ≤ q ∧ q ≤ 7 then 0 else 10
def turnX (w h c : Int) (p : List Int) (q : Int) : Im := ⟨swV q w h, swV q h w, c, flatP p c.toNat (posT q w.toNat h.toNat) (w.toNat * h.toNat)⟩
abbrev imgBadS : PSpec := fun l => match l with
  | [.agg [.int .i64 w, .int .i64 h, .int .i64 c, .roi .u8 p], .int .i64 q] => some ([turnC w h c p q ≠ 0], .tup [Im.z.av, .int .i64 (turnC w h c p q)]) | _ => none
theorem imgBad_s : SOK Try.prog 49 imgBadS := by
  refine sok_of (C := mkC 0 [(86, checkS), (39, newBadS)] noG) (mkC_ok (pok_cons check_s (pok_cons newBad_s pok_nil)) noG_ok) rfl mixed ⟨Try.func49, by kernel_rfl, by kernel_rfl, by kernel_rfl⟩ fun l obs v h ho => ?_
  (unfold imgBadS at h; split at h; rotate_left; (focus (cases h)); rename_i w hh c p q; simp only [Option.some.injEq, Prod.mk.injEq] at h; obtain ⟨rfl, rfl⟩ := h; simp only [List.mem_cons, List.not_mem_nil, or_false, forall_eq_or_imp, forall_eq, false_implies, implies_true] at ho)
  refine ⟨Nat.le_of_ble_eq_true rfl, ?_⟩
  by_cases hc : imCheck w hh c p.length = 0
  rotate_left
  · have e : turnC w hh c p q = imCheck w hh c p.length := if_pos hc
    rw [e]
    (repeat' (first | (refine And.intro (fun (hfk : _ = true) => ?_) (fun (hfk : _ = false) => ?_) <;> ((try (first | replace hfk := of_decide_eq_true hfk | replace hfk := of_decide_eq_false hfk | simp only [decide_eq_true_eq, decide_eq_false_iff_not, dh1, dh0, ne_eq, reduceCtorEq] at hfk)); (try (exfalso; first | omega | contradiction | exact Bool.noConfusion (Eq.trans (Eq.symm hfk) (by with_reducible assumption : _ = false)) | exact Bool.noConfusion (Eq.trans (Eq.symm hfk) (by with_reducible assumption : _ = true)))))) | (refine And.intro ?ob ?_; (case ob => (first | exact Chk.mk (by kernel_rfl) | exact True.intro | with_reducible assumption | exact rng64 (by omega) (by omega) | omega | (dsimp only; omega) | (show (_ : Nat) ≤ _; omega) | (simp only [ll1, ll2, ll0]; done) | (simp only [ll1, ll2, ll0]; omega) | (dsimp only; simp only [ll1, ll2, ll0]; omega)))) | exact True.intro | (show _ = _; first | with_reducible rfl | with_reducible assumption | omega | (simp only [ll1, ll2, ll0]; omega) | (skip; done) | exact rfl) | with_reducible assumption | (apply And.intro) | omega | (intro j hj; exact rfl) | fail))
  have hq : ¬ (0 ≤ q ∧ q ≤ 7) := fun h => ho (by unfold turnC; rw [if_neg (not_not_intro hc), if_pos h])
  have e : turnC w hh c p q = 10 := by unfold turnC; rw [if_neg (not_not_intro hc), if_neg hq]
  rw [e]
  have e2 : code23 (List.take 3 (List.drop 0 [q, w, hh])) = 10 := by
    show code23 [q, w, hh] = 10
    unfold code23
    rw [if_neg (fun h => h rfl), if_pos]
    show q < 0 ∨ 7 < q
    omega
  have e3 : code23 (List.take 3 (List.drop 0 ((fun x => q :: x) ((fun x => w :: x) ((fun x => hh :: x) []))))) = 10 := e2
  (repeat' (first | (refine And.intro (fun (hfk : _ = true) => ?_) (fun (hfk : _ = false) => ?_) <;> ((try (first | replace hfk := of_decide_eq_true hfk | replace hfk := of_decide_eq_false hfk | simp only [decide_eq_true_eq, decide_eq_false_iff_not, dh1, dh0, ne_eq, reduceCtorEq] at hfk)); (try (exfalso; first | omega | contradiction | exact Bool.noConfusion (Eq.trans (Eq.symm hfk) (by with_reducible assumption : _ = false)) | exact Bool.noConfusion (Eq.trans (Eq.symm hfk) (by with_reducible assumption : _ = true)))))) | (refine And.intro ?ob ?_; (case ob => (first | exact Chk.mk (by kernel_rfl) | exact True.intro | with_reducible assumption | exact rng64 (by omega) (by omega) | omega | (dsimp only; omega) | (show (_ : Nat) ≤ _; omega) | (simp only [ll1, ll2, ll0]; done) | (simp only [ll1, ll2, ll0]; omega) | (dsimp only; simp only [ll1, ll2, ll0]; omega)))) | exact True.intro | (show _ = _; first | with_reducible rfl | with_reducible assumption | omega | (simp only [ll1, ll2, ll0]; omega) | (skip; done) | exact rfl) | with_reducible assumption | (apply And.intro) | omega | (intro j hj; exact rfl) | fail))
abbrev imgOkS : PSpec := fun l => match l with
  | [.agg [.int .i64 w, .int .i64 h, .int .i64 c, .roi .u8 p], .int .i64 q] => some ([turnC w h c p q = 0], .tup [(turnX w h c p q).av, .int .i64 0]) | _ => none
theorem turn_num {w h c : Int} {p : List Int} {q : Int} (ht : turnC w h c p q = 0) : imCheck w h c p.length = 0 ∧ (0 ≤ q ∧ q ≤ 7) ∧ ∃ W H C : Nat, w = W ∧ h = H ∧ c = C ∧ 1 ≤ W ∧ W ≤ 32768 ∧ 1 ≤ H ∧ H ≤ 32768 ∧ (C = 1 ∨ C = 3 ∨ C = 4) ∧ W * H ≤ 4194304 ∧ p.length = W * H * C := by
  unfold turnC at ht
  split at ht
  · rename_i h1; exact absurd ht h1
  rename_i h1
  have hc := Classical.not_not.1 h1
  split at ht
  rotate_left
  · cases ht
  rename_i hq
  obtain ⟨hfc, hpl⟩ := check_inv hc
  obtain ⟨a1, a2, a3, a4, a5, a6, a7, a8, a9⟩ := fits_inv hfc
  obtain ⟨W, rfl⟩ := Int.eq_ofNat_of_zero_le (show 0 ≤ w by omega)
  obtain ⟨H, rfl⟩ := Int.eq_ofNat_of_zero_le (show 0 ≤ h by omega)
  obtain ⟨C, rfl⟩ := Int.eq_ofNat_of_zero_le (show 0 ≤ c by omega)
  rw [← Int.natCast_mul] at a6
  refine ⟨hc, hq, W, H, C, rfl, rfl, rfl, by omega, by omega, by omega, by omega, by omega, by omega, ?_⟩
  rw [← Int.natCast_mul, ← Int.natCast_mul] at hpl
  exact Int.ofNat.inj hpl
theorem imgOk_s : SOK Try.prog 49 imgOkS := by
  refine sok_of (C := mkK 0 [(86, checkS), (42, sizeS), (81, fromS)] (glook [(39, fGv newMF), (22, fG newF)]) [4, 8]) (mkK_ok (pok_cons check_s (pok_cons size_s (pok_cons from_s pok_nil))) (gl_cons (gview newM_g) (gl_cons newI_g gl_nil))) rfl mixed ⟨Try.func49, by kernel_rfl, by kernel_rfl, by kernel_rfl⟩ fun l obs v h ho => ?_
  (unfold imgOkS at h; split at h; rotate_left; (focus (cases h)); rename_i w0 h0 c0 p q; simp only [Option.some.injEq, Prod.mk.injEq] at h; obtain ⟨rfl, rfl⟩ := h; simp only [List.mem_cons, List.not_mem_nil, or_false, forall_eq_or_imp, forall_eq, false_implies, implies_true] at ho)
  refine ⟨Nat.le_of_ble_eq_true rfl, ?_⟩
  obtain ⟨hc, hq, W, H, C, rfl, rfl, rfl, hW1, hW2, hH1, hH2, hC, hWH, hpl⟩ := turn_num ho
  obtain ⟨q1, q2⟩ := hq
  have e2 : code23 (List.take 3 (List.drop 0 [q, (W : Int), (H : Int)])) = 0 := by
    show code23 [q, (W : Int), (H : Int)] = 0
    unfold code23
    rw [if_neg (fun h => h rfl), if_neg (by show ¬ (q < 0 ∨ 7 < q); omega), if_neg (by show ¬ ((W : Int) < 1 ∨ 32768 < (W : Int) ∨ (H : Int) < 1 ∨ 32768 < (H : Int)); omega)]
  (repeat' (first | (refine And.intro (fun (hfk : _ = true) => ?_) (fun (hfk : _ = false) => ?_) <;> ((try (first | replace hfk := of_decide_eq_true hfk | replace hfk := of_decide_eq_false hfk | simp only [decide_eq_true_eq, decide_eq_false_iff_not, dh1, dh0, ne_eq, reduceCtorEq] at hfk)); (try (exfalso; first | omega | contradiction | exact Bool.noConfusion (Eq.trans (Eq.symm hfk) (by with_reducible assumption : _ = false)) | exact Bool.noConfusion (Eq.trans (Eq.symm hfk) (by with_reducible assumption : _ = true)))))) | (refine And.intro ?ob ?_; (case ob => (first | exact Chk.mk (by kernel_rfl) | exact True.intro | with_reducible assumption | exact rng64 (by omega) (by omega) | omega | (dsimp only; omega) | (show (_ : Nat) ≤ _; omega) | (simp only [ll1, ll2, ll0]; done) | (simp only [ll1, ll2, ll0]; omega) | (dsimp only; simp only [ll1, ll2, ll0]; omega)))) | exact True.intro | (show _ = _; first | with_reducible rfl | with_reducible assumption | omega | (simp only [ll1, ll2, ll0]; omega) | (skip; done) | exact rfl) | with_reducible assumption | (apply And.intro) | omega | (intro j hj; exact rfl) | fail))
  (refine ⟨[], [2], ⟨by kernel_rfl⟩, ?_⟩)
  (repeat' (first | (refine And.intro (fun (hfk : _ = true) => ?_) (fun (hfk : _ = false) => ?_) <;> ((try (first | replace hfk := of_decide_eq_true hfk | replace hfk := of_decide_eq_false hfk | simp only [decide_eq_true_eq, decide_eq_false_iff_not, dh1, dh0, ne_eq, reduceCtorEq] at hfk)); (try (exfalso; first | omega | contradiction | exact Bool.noConfusion (Eq.trans (Eq.symm hfk) (by with_reducible assumption : _ = false)) | exact Bool.noConfusion (Eq.trans (Eq.symm hfk) (by with_reducible assumption : _ = true)))))) | (refine And.intro ?ob ?_; (case ob => (first | exact Chk.mk (by kernel_rfl) | exact True.intro | with_reducible assumption | exact rng64 (by omega) (by omega) | omega | (dsimp only; omega) | (show (_ : Nat) ≤ _; omega) | (simp only [ll1, ll2, ll0]; done) | (simp only [ll1, ll2, ll0]; omega) | (dsimp only; simp only [ll1, ll2, ll0]; omega)))) | exact True.intro | (show _ = _; first | with_reducible rfl | with_reducible assumption | omega | (simp only [ll1, ll2, ll0]; omega) | (skip; done) | exact rfl) | with_reducible assumption | (apply And.intro) | omega | (intro j hj; exact rfl) | fail))
  refine ⟨[(2, .ptr 0 0), (4, .ptr 1 0), (5, .int .i64 0), (7, .ptr 2 0), (8, .int .i64 0)],
      ⟨3, [(0, some (.cells 32 [.int .i64 W, .int .i64 H, .int .i64 C, .roi .u8 p])), (1, some (.cells 32 [.int .i64 0, .int .i64 0, .int .i64 0, .nils])), (2, some (.cells 130 [.int .i64 q, .int .i64 W, .int .i64 H]))]⟩, [some 0, some 1, some 3], ?_, ?_⟩
  · (repeat' (first | (refine And.intro (fun (hfk : _ = true) => ?_) (fun (hfk : _ = false) => ?_) <;> ((try (first | replace hfk := of_decide_eq_true hfk | replace hfk := of_decide_eq_false hfk | simp only [decide_eq_true_eq, decide_eq_false_iff_not, dh1, dh0, ne_eq, reduceCtorEq] at hfk)); (try (exfalso; first | omega | contradiction | exact Bool.noConfusion (Eq.trans (Eq.symm hfk) (by with_reducible assumption : _ = false)) | exact Bool.noConfusion (Eq.trans (Eq.symm hfk) (by with_reducible assumption : _ = true)))))) | (refine And.intro ?ob ?_; (case ob => (first | exact Chk.mk (by kernel_rfl) | exact True.intro | with_reducible assumption | exact rng64 (by omega) (by omega) | omega | (dsimp only; omega) | (show (_ : Nat) ≤ _; omega) | (simp only [ll1, ll2, ll0]; done) | (simp only [ll1, ll2, ll0]; omega) | (dsimp only; simp only [ll1, ll2, ll0]; omega)))) | exact True.intro | (show _ = _; first | with_reducible rfl | with_reducible assumption | omega | (simp only [ll1, ll2, ll0]; omega) | (skip; done) | exact rfl) | with_reducible assumption | (apply And.intro) | omega | (intro j hj; exact rfl) | fail))
  have esw := sw_w q W H
  have esh := sw_h q W H
  have hA := area_T q W H
  obtain ⟨w', hw'⟩ : ∃ n, wT q W H = n := ⟨_, rfl⟩
  obtain ⟨h', hh'⟩ : ∃ n, hT q W H = n := ⟨_, rfl⟩
  rw [hw'] at esw hA
  rw [hh'] at esh hA
  have hw1 : 1 ≤ w' ∧ w' ≤ 32768 ∧ 1 ≤ h' ∧ h' ≤ 32768 := by
    rw [← hw', ← hh']; unfold wT hT; split <;> omega
  have hA2 : (w' : Int) * h' = ((W * H : Nat) : Int) := by rw [← Int.natCast_mul, hA]
  obtain ⟨N, hN⟩ : ∃ N, W * H = N := ⟨_, rfl⟩
  rw [hN] at hA2 hpl hWH
  have hf : fitsI w' h' C = 0 := by
    unfold fitsI
    rw [if_neg (by omega), if_neg (by omega), if_neg (by omega)]
  have eX : turnX W H C p q = ⟨w', h', C, flatP p C (posT q W H) N⟩ := by
    unfold turnX
    rw [esw, esh]
    simp only [Int.toNat_natCast]
    rw [hN]
  rw [eX]
  have eN : ((w' : Int) * h' * C).toNat = N * C := by rw [hA2, ← Int.natCast_mul, Int.toNat_natCast]
  have hf' : fitsI (swV q W H) (swV q H W) C = 0 := by rw [esw, esh]; exact hf
  have eN' : (swV q W H * swV q H W * C).toNat = N * C := by rw [esw, esh]; exact eN
  (repeat' (first | (refine And.intro (fun (hfk : _ = true) => ?_) (fun (hfk : _ = false) => ?_) <;> ((try (first | replace hfk := of_decide_eq_true hfk | replace hfk := of_decide_eq_false hfk | simp only [decide_eq_true_eq, decide_eq_false_iff_not, dh1, dh0, ne_eq, reduceCtorEq] at hfk)); (try (exfalso; first | omega | contradiction | exact Bool.noConfusion (Eq.trans (Eq.symm hfk) (by with_reducible assumption : _ = false)) | exact Bool.noConfusion (Eq.trans (Eq.symm hfk) (by with_reducible assumption : _ = true)))))) | (refine And.intro ?ob ?_; (case ob => (first | exact Chk.mk (by kernel_rfl) | exact True.intro | with_reducible assumption | exact rng64 (by omega) (by omega) | omega | (dsimp only; omega) | (show (_ : Nat) ≤ _; omega) | (simp only [ll1, ll2, ll0]; done) | (simp only [ll1, ll2, ll0]; omega) | (dsimp only; simp only [ll1, ll2, ll0]; omega)))) | exact True.intro | (show _ = _; first | with_reducible rfl | with_reducible assumption | omega | (simp only [ll1, ll2, ll0]; omega) | (skip; done) | exact rfl) | with_reducible assumption | (apply And.intro) | omega | (intro j hj; exact rfl) | fail))
  (refine ⟨[], ⟨by kernel_rfl⟩, ?_⟩)
  (repeat' (first | (refine And.intro (fun (hfk : _ = true) => ?_) (fun (hfk : _ = false) => ?_) <;> ((try (first | replace hfk := of_decide_eq_true hfk | replace hfk := of_decide_eq_false hfk | simp only [decide_eq_true_eq, decide_eq_false_iff_not, dh1, dh0, ne_eq, reduceCtorEq] at hfk)); (try (exfalso; first | omega | contradiction | exact Bool.noConfusion (Eq.trans (Eq.symm hfk) (by with_reducible assumption : _ = false)) | exact Bool.noConfusion (Eq.trans (Eq.symm hfk) (by with_reducible assumption : _ = true)))))) | (refine And.intro ?ob ?_; (case ob => (first | exact Chk.mk (by kernel_rfl) | exact True.intro | with_reducible assumption | exact rng64 (by omega) (by omega) | omega | (dsimp only; omega) | (show (_ : Nat) ≤ _; omega) | (simp only [ll1, ll2, ll0]; done) | (simp only [ll1, ll2, ll0]; omega) | (dsimp only; simp only [ll1, ll2, ll0]; omega)))) | exact True.intro | (show _ = _; first | with_reducible rfl | with_reducible assumption | omega | (simp only [ll1, ll2, ll0]; omega) | (skip; done) | exact rfl) | with_reducible assumption | (apply And.intro) | omega | (intro j hj; exact rfl) | fail))
  refine ⟨[(2, .ptr 0 0), (4, .ptr 1 0), (5, .int .i64 0), (7, .ptr 2 0), (8, .int .i64 0), (9, .int .i64 w'), (10, .int .i64 h'), (11, .ptr 4 0)],
      ⟨5, [(0, some (.cells 32 [.int .i64 W, .int .i64 H, .int .i64 C, .roi .u8 p])), (1, some (.cells 32 [.int .i64 0, .int .i64 0, .int .i64 0, .nils])), (2, some (.cells 130 [.int .i64 q, .int .i64 W, .int .i64 H])), (3, some (.ints 5 .u8 (List.replicate (N * C) 0))), (4, some (.cells 32 [.int .i64 w', .int .i64 h', .int .i64 C, .sl 3 1 0 (N * C)]))]⟩, [some 0, some 1, some 2, some 3, some 4], ?_, ?_⟩
  · rw [esw, esh, eN]
    (repeat' (first | (refine And.intro (fun (hfk : _ = true) => ?_) (fun (hfk : _ = false) => ?_) <;> ((try (first | replace hfk := of_decide_eq_true hfk | replace hfk := of_decide_eq_false hfk | simp only [decide_eq_true_eq, decide_eq_false_iff_not, dh1, dh0, ne_eq, reduceCtorEq] at hfk)); (try (exfalso; first | omega | contradiction | exact Bool.noConfusion (Eq.trans (Eq.symm hfk) (by with_reducible assumption : _ = false)) | exact Bool.noConfusion (Eq.trans (Eq.symm hfk) (by with_reducible assumption : _ = true)))))) | (refine And.intro ?ob ?_; (case ob => (first | exact Chk.mk (by kernel_rfl) | exact True.intro | with_reducible assumption | exact rng64 (by omega) (by omega) | omega | (dsimp only; omega) | (show (_ : Nat) ≤ _; omega) | (simp only [ll1, ll2, ll0]; done) | (simp only [ll1, ll2, ll0]; omega) | (dsimp only; simp only [ll1, ll2, ll0]; omega)))) | exact True.intro | (show _ = _; first | with_reducible rfl | with_reducible assumption | omega | (simp only [ll1, ll2, ll0]; omega) | (skip; done) | exact rfl) | with_reducible assumption | (apply And.intro) | omega | (intro j hj; exact rfl) | fail))
  clear esw esh hf' eN'
  have hpos : ∀ k, k < N → posT q W H k * C + C ≤ p.length := fun k hk => by
    have := (pos_in (q := q) (w := W) (h := H) (k := k) ⟨q1, q2⟩ (by omega)).2.2.1
    rw [hN] at this
    have := prod_of (n := C) this
    omega
  have hfl := flatP_len hpos
  have hp16 : N * C ≤ 16777216 := by
    calc N * C ≤ 4194304 * C := Nat.mul_le_mul_right _ hWH
      _ ≤ 16777216 := by omega
  (repeat' (first | (refine And.intro (fun (hfk : _ = true) => ?_) (fun (hfk : _ = false) => ?_) <;> ((try (first | replace hfk := of_decide_eq_true hfk | replace hfk := of_decide_eq_false hfk | simp only [decide_eq_true_eq, decide_eq_false_iff_not, dh1, dh0, ne_eq, reduceCtorEq] at hfk)); (try (exfalso; first | omega | contradiction | exact Bool.noConfusion (Eq.trans (Eq.symm hfk) (by with_reducible assumption : _ = false)) | exact Bool.noConfusion (Eq.trans (Eq.symm hfk) (by with_reducible assumption : _ = true)))))) | (refine And.intro ?ob ?_; (case ob => (first | exact Chk.mk (by kernel_rfl) | exact True.intro | with_reducible assumption | exact rng64 (by omega) (by omega) | omega | (dsimp only; omega) | (show (_ : Nat) ≤ _; omega) | (simp only [ll1, ll2, ll0]; done) | (simp only [ll1, ll2, ll0]; omega) | (dsimp only; simp only [ll1, ll2, ll0]; omega)))) | exact True.intro | (show _ = _; first | with_reducible rfl | with_reducible assumption | omega | (simp only [ll1, ll2, ll0]; omega) | (skip; done) | exact rfl) | with_reducible assumption | (apply And.intro) | omega | (intro j hj; exact rfl) | fail))
  refine ⟨Nat, fun (k : Nat) => [(2, .ptr 0 0), (4, .ptr 1 0), (5, .int .i64 0), (7, .ptr 2 0), (9, .int .i64 w'), (11, .ptr 4 0), (55, .int .i64 N), (56, .int .i64 k)],
      fun k => ⟨5, [(0, some (.cells 32 [.int .i64 W, .int .i64 H, .int .i64 C, .roi .u8 p])), (1, some (.cells 32 [.int .i64 0, .int .i64 0, .int .i64 0, .nils])), (2, some (.cells 130 [.int .i64 q, .int .i64 W, .int .i64 H])), (3, some (.ints 5 .u8 (flatP p C (posT q W H) k ++ List.replicate ((N - k) * C) 0))), (4, some (.cells 32 [.int .i64 w', .int .i64 h', .int .i64 C, .sl 3 1 0 (N * C)]))]⟩,
      fun k => k ≤ N, fun k => N - k, ⟨0, [some 0, some 1, some 2, some 3, some 4], Nat.zero_le _, ?_⟩, fun k hk => ?_⟩
  · (repeat' (first | (refine And.intro (fun (hfk : _ = true) => ?_) (fun (hfk : _ = false) => ?_) <;> ((try (first | replace hfk := of_decide_eq_true hfk | replace hfk := of_decide_eq_false hfk | simp only [decide_eq_true_eq, decide_eq_false_iff_not, dh1, dh0, ne_eq, reduceCtorEq] at hfk)); (try (exfalso; first | omega | contradiction | exact Bool.noConfusion (Eq.trans (Eq.symm hfk) (by with_reducible assumption : _ = false)) | exact Bool.noConfusion (Eq.trans (Eq.symm hfk) (by with_reducible assumption : _ = true)))))) | (refine And.intro ?ob ?_; (case ob => (first | exact Chk.mk (by kernel_rfl) | exact True.intro | with_reducible assumption | exact rng64 (by omega) (by omega) | omega | (dsimp only; omega) | (show (_ : Nat) ≤ _; omega) | (simp only [ll1, ll2, ll0]; done) | (simp only [ll1, ll2, ll0]; omega) | (dsimp only; simp only [ll1, ll2, ll0]; omega)))) | exact True.intro | (show _ = _; first | with_reducible rfl | with_reducible assumption | omega | (simp only [ll1, ll2, ll0]; omega) | ((first | exact hA2); done) | exact rfl) | with_reducible assumption | (apply And.intro) | omega | (intro j hj; exact rfl) | fail))
  have hk : k ≤ N := hk
  have hlk := hfl k hk
  by_cases hlt : k < N
  · obtain ⟨⟨b1, b2⟩, ⟨b3, b4⟩, b5, b6⟩ := pos_in (q := q) (w := W) (h := H) (k := k) ⟨q1, q2⟩ (by omega)
    have eu : fromU q W H ((k : Int).tmod w') ((k : Int).tdiv w') 1 = posU q W H k := by unfold posU; rw [hw']; rfl
    have ev : fromV q W H ((k : Int).tmod w') ((k : Int).tdiv w') 1 = posV q W H k := by unfold posV; rw [hw']; rfl
    have hm : 0 ≤ (k : Int).tmod w' ∧ (k : Int).tmod w' < w' := ⟨Int.natCast_nonneg (k % w'), Int.ofNat_lt.2 (Nat.mod_lt _ (by omega))⟩
    have hdn : k / w' < h' := (Nat.div_lt_iff_lt_mul (by omega)).2 (by rw [Nat.mul_comm, hA, hN]; exact hlt)
    have hd : 0 ≤ (k : Int).tdiv w' ∧ (k : Int).tdiv w' < h' := ⟨Int.natCast_nonneg (k / w'), Int.ofNat_lt.2 hdn⟩
    have hpl2 : plcB W H ((k : Int).tmod w') ((k : Int).tdiv w') 1 := ⟨by omega, by omega, by omega, by omega, by omega, by omega, by omega, by omega, by omega, by omega⟩
    have m1 := sp_mulT (c := (W : Int)) (y := posV q W H k) (by omega) (by omega) b3 (by omega)
    have m1' : 0 ≤ fromV q W H ((k : Int).tmod w') ((k : Int).tdiv w') 1 * (W : Int) ∧ fromV q W H ((k : Int).tmod w') ((k : Int).tdiv w') 1 * (W : Int) ≤ 1073741824 := by rw [ev]; exact m1
    have e7 : (fromV q W H ((k : Int).tmod w') ((k : Int).tdiv w') 1 * (W : Int) + fromU q W H ((k : Int).tmod w') ((k : Int).tdiv w') 1) * (C : Int) = ((posT q W H k * C : Nat) : Int) := by
      rw [eu, ev, ← b6, Int.natCast_mul]
    have e8 := hpos k hlt
    have e9 := prod_of (n := C) hlt
    have p1 : (k : Int) * (C : Int) = ((k * C : Nat) : Int) := (Int.natCast_mul k C).symm
    have p2 : ((k : Int) + 1) * (C : Int) = ((k * C + C : Nat) : Int) := by rw [← Nat.succ_mul]; exact (Int.natCast_mul (k + 1) C).symm
    have hlen : (flatP p C (posT q W H) k ++ List.replicate ((N - k) * C) 0).length = N * C := by
      rw [List.length_append, hlk, List.length_replicate, ← Nat.add_mul]
      congr 1; omega
    have eR : ∀ (xs : List Int) (o n : Nat), xs = (p.take p.length).drop (posT q W H k * C) → o = k * C → n = C → (flatP p C (posT q W H) k ++ List.replicate ((N - k) * C) 0).take o ++ (xs.take (Nat.min xs.length n) ++ (flatP p C (posT q W H) k ++ List.replicate ((N - k) * C) 0).drop (o + Nat.min xs.length n)) = flatP p C (posT q W H) (k + 1) ++ List.replicate ((N - (k + 1)) * C) 0 := by
      intro xs o n hx ho hn
      have hx2 : xs.take C = piece p C (posT q W H k) := by rw [hx, List.take_length]; rfl
      rw [copyE (o' := k * C) (c := C) ho hn (by rw [hx, List.take_length, List.length_drop]; omega) hx2]
      have := spl_next (A := flatP p C (posT q W H) k) (q := piece p C (posT q W H k)) (r := N - (k + 1)) (d := C) (piece_len e8)
      rw [hlk, show N - (k + 1) + 1 = N - k by omega] at this
      exact this
    rw [← eu] at b1 b2
    rw [← ev] at b3 b4
    (repeat' (first | (refine And.intro (fun (hfk : _ = true) => ?_) (fun (hfk : _ = false) => ?_) <;> ((try (first | replace hfk := of_decide_eq_true hfk | replace hfk := of_decide_eq_false hfk | simp only [decide_eq_true_eq, decide_eq_false_iff_not, dh1, dh0, ne_eq, reduceCtorEq] at hfk)); (try (exfalso; first | omega | contradiction | exact Bool.noConfusion (Eq.trans (Eq.symm hfk) (by with_reducible assumption : _ = false)) | exact Bool.noConfusion (Eq.trans (Eq.symm hfk) (by with_reducible assumption : _ = true)))))) | (refine And.intro ?ob ?_; (case ob => (first | exact Chk.mk (by kernel_rfl) | exact True.intro | with_reducible assumption | exact rng64 (by omega) (by omega) | omega | (dsimp only; omega) | (show (_ : Nat) ≤ _; omega) | (simp only [ll1, ll2, ll0]; done) | (simp only [ll1, ll2, ll0]; omega) | (dsimp only; simp only [ll1, ll2, ll0]; omega)))) | exact True.intro | (show _ = _; first | with_reducible rfl | with_reducible assumption | omega | (simp only [ll1, ll2, ll0]; omega) | (skip; done) | exact rfl) | with_reducible assumption | (apply And.intro) | omega | (intro j hj; exact rfl) | fail))
    (refine ⟨k + 1, [some 0, some 1, some 2, some 3, some 4], ?_, ?mu, ?_⟩; (case mu => ((try dsimp only); omega)))
    · exact hlt
    (repeat' (first | (refine And.intro (fun (hfk : _ = true) => ?_) (fun (hfk : _ = false) => ?_) <;> ((try (first | replace hfk := of_decide_eq_true hfk | replace hfk := of_decide_eq_false hfk | simp only [decide_eq_true_eq, decide_eq_false_iff_not, dh1, dh0, ne_eq, reduceCtorEq] at hfk)); (try (exfalso; first | omega | contradiction | exact Bool.noConfusion (Eq.trans (Eq.symm hfk) (by with_reducible assumption : _ = false)) | exact Bool.noConfusion (Eq.trans (Eq.symm hfk) (by with_reducible assumption : _ = true)))))) | (refine And.intro ?ob ?_; (case ob => (first | exact Chk.mk (by kernel_rfl) | exact True.intro | with_reducible assumption | exact rng64 (by omega) (by omega) | omega | (dsimp only; omega) | (show (_ : Nat) ≤ _; omega) | (simp only [ll1, ll2, ll0]; done) | (simp only [ll1, ll2, ll0]; omega) | (dsimp only; simp only [ll1, ll2, ll0]; omega)))) | exact True.intro | (show _ = _; first | with_reducible rfl | with_reducible assumption | omega | (simp only [ll1, ll2, ll0]; omega) | ((refine eR _ _ _ (congrArg (fun n => List.drop n (p.take p.length)) ?_) ?_ ?_ <;> omega); done) | exact rfl) | with_reducible assumption | (apply And.intro) | omega | (intro j hj; exact rfl) | fail))
  · obtain rfl : k = N := by omega
    have et : List.take (k * C) (List.drop 0 (flatP p C (posT q W H) k ++ List.replicate ((k - k) * C) 0)) = flatP p C (posT q W H) k := by
      rw [List.drop_zero, ← hlk, List.take_left]
    (repeat' (first | (refine And.intro (fun (hfk : _ = true) => ?_) (fun (hfk : _ = false) => ?_) <;> ((try (first | replace hfk := of_decide_eq_true hfk | replace hfk := of_decide_eq_false hfk | simp only [decide_eq_true_eq, decide_eq_false_iff_not, dh1, dh0, ne_eq, reduceCtorEq] at hfk)); (try (exfalso; first | omega | contradiction | exact Bool.noConfusion (Eq.trans (Eq.symm hfk) (by with_reducible assumption : _ = false)) | exact Bool.noConfusion (Eq.trans (Eq.symm hfk) (by with_reducible assumption : _ = true)))))) | (refine And.intro ?ob ?_; (case ob => (first | exact Chk.mk (by kernel_rfl) | exact True.intro | with_reducible assumption | exact rng64 (by omega) (by omega) | omega | (dsimp only; omega) | (show (_ : Nat) ≤ _; omega) | (simp only [ll1, ll2, ll0]; done) | (simp only [ll1, ll2, ll0]; omega) | (dsimp only; simp only [ll1, ll2, ll0]; omega)))) | exact True.intro | (show _ = _; first | with_reducible rfl | with_reducible assumption | omega | (simp only [ll1, ll2, ll0]; omega) | ((exact et); done) | exact rfl) | with_reducible assumption | (apply And.intro) | omega | (intro j hj; exact rfl) | fail))
end Go.Proofs.Ytpgikaeddhaiiaa
