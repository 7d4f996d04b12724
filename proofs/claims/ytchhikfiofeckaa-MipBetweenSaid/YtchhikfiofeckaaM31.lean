
/- Images of half the size, and pyramids: what the layer mip answers. No condition. -/
import Derived.Test.YtchhikfiofeckaaI8b
import Derived.Test.YtchhikfiofeckaaFi
import Derived.Test.YtchhikfiofeckaaT11
import Derived.Test.YtchhikfiofeckaaU
import Derived.Test.YtchhikfiofeckaaLs
namespace Go.Proofs.Ytchhikfiofeckaa
open Go Go.RowKit
set_option linter.unusedVariables false
set_option linter.unusedSimpArgs false
set_option maxRecDepth 100000
set_option maxHeartbeats 4000000

def hv (x : Int) : Int := (x + 1) / 2
abbrev hvS : PSpec := fun l => match l with | [.int .i64 x] => some ([0 ≤ x, x ≤ 100000], .int .i64 (hv x)) | _ => none
theorem hv_s : SOK Try.prog 106 hvS := by
  refine sok_of (C := mkC 0 [] noG) (mkC_ok pok_nil noG_ok) rfl mixed ⟨Try.func106, by kernel_rfl, by kernel_rfl, by kernel_rfl⟩ fun l obs v h ho => ?_
  (unfold hvS at h; split at h; rotate_left; (focus (cases h)); rename_i x; simp only [Option.some.injEq, Prod.mk.injEq] at h; obtain ⟨rfl, rfl⟩ := h; simp only [List.mem_cons, List.not_mem_nil, or_false, forall_eq_or_imp, forall_eq, false_implies, implies_true] at ho)
  obtain ⟨h0, h1⟩ := ho
  have e : Int.tdiv (x + 1) 2 = hv x := Int.tdiv_eq_ediv_of_nonneg (by omega)
  have r : rngI .i64 (Int.tdiv (x + 1) 2) := by rw [e]; unfold hv; exact rng64 (by omega) (by omega)
  refine ⟨Nat.le_of_ble_eq_true rfl, ?_⟩
  (repeat' (first | (refine And.intro (fun (hfk : _ = true) => ?_) (fun (hfk : _ = false) => ?_) <;> ((try (first | replace hfk := of_decide_eq_true hfk | replace hfk := of_decide_eq_false hfk | simp only [decide_eq_true_eq, decide_eq_false_iff_not, dh1, dh0, ne_eq, reduceCtorEq] at hfk)); (try (exfalso; first | omega | contradiction | exact Bool.noConfusion (Eq.trans (Eq.symm hfk) (by with_reducible assumption : _ = false)) | exact Bool.noConfusion (Eq.trans (Eq.symm hfk) (by with_reducible assumption : _ = true)))))) | (refine And.intro ?ob ?_; (case ob => (first | exact Chk.mk (by kernel_rfl) | exact True.intro | with_reducible assumption | exact rng64 (by omega) (by omega) | omega | (dsimp only; omega) | (show (_ : Nat) ≤ _; omega) | (simp only [ll1, ll2, ll0]; done) | (simp only [ll1, ll2, ll0]; omega) | (dsimp only; simp only [ll1, ll2, ll0]; omega)))) | exact True.intro | (show _ = _; first | with_reducible rfl | with_reducible assumption | omega | (simp only [ll1, ll2, ll0]; omega) | (exact e; done) | exact rfl) | with_reducible assumption | (apply And.intro) | omega | (intro j hj; exact rfl) | fail))

def col4 (w x n : Int) : Int := min (2 * x + n.tmod 2) (w - 1)
def row4 (h y n : Int) : Int := min (2 * y + n.tdiv 2) (h - 1)
def px4 (w h c : Int) (p : List Int) (x y k n : Int) : Int := p.getD ((row4 h y n * w + col4 w x n) * c + k).toNat 0
def sum4 (w h c : Int) (p : List Int) (x y k : Int) : Nat → Int
  | 0 => 2
  | n + 1 => sum4 w h c p x y k n + px4 w h c p x y k (n : Int)
def v4 (w h c : Int) (p : List Int) (x y k : Int) : Int := sum4 w h c p x y k 4 / 4
structure At31 (w h c : Int) (p : List Int) (x y k : Int) : Prop where
  fit : fitsI w h c = 0
  len : (p.length : Int) = w * h * c
  byt : Bytes p
  x0 : 0 ≤ x
  x1 : x < hv w
  y0 : 0 ≤ y
  y1 : y < hv h
  k0 : 0 ≤ k
  k1 : k < c
theorem At31.inI {w h c : Int} {p : List Int} {x y k : Int} (H : At31 w h c p x y k) {n : Nat} (hn : n < 4) : inI w h c (col4 w x n) (row4 h y n) k = true := by
  have hb := fits_inv H.fit
  have := H.x0; have := H.x1; have := H.y0; have := H.y1; have := H.k0; have := H.k1
  have m : Int.tmod (n : Int) 2 = ((n % 2 : Nat) : Int) := rfl
  have d : Int.tdiv (n : Int) 2 = ((n / 2 : Nat) : Int) := rfl
  unfold hv at *
  unfold Go.Proofs.Ytchhikfiofeckaa.inI col4 row4
  rw [m, d]
  simp only [Bool.and_eq_true, decide_eq_true_eq]
  omega
theorem At31.px {w h c : Int} {p : List Int} {x y k : Int} (H : At31 w h c p x y k) {n : Nat} (hn : n < 4) : px4 w h c p x y k n ∈ p := by
  have := pl_bd H.fit (H.inI hn)
  unfold plI at this
  have hl := H.len
  unfold px4
  have hlt : ((row4 h y n * w + col4 w x n) * c + k).toNat < p.length := by omega
  simp only [List.getD, List.getElem?_eq_getElem hlt, Option.getD_some]
  exact List.getElem_mem hlt
theorem At31.sum_bd {w h c : Int} {p : List Int} {x y k : Int} (H : At31 w h c p x y k) : ∀ {n : Nat}, n ≤ 4 → 2 ≤ sum4 w h c p x y k n ∧ sum4 w h c p x y k n ≤ 2 + 255 * n
  | 0, _ => by unfold sum4; omega
  | n + 1, hn => by
    have ih := H.sum_bd (n := n) (by omega)
    have := H.byt _ (H.px (n := n) (by omega))
    unfold sum4
    omega
abbrev at31S : PSpec := fun l => match l with | [.agg [.int .i64 w, .int .i64 h, .int .i64 c, .roi .u8 p], .int .i64 x, .int .i64 y, .int .i64 k] => some ([At31 w h c p x y k], .int .u8 (v4 w h c p x y k)) | _ => none
theorem at31_s : SOK Try.prog 107 at31S := by
  refine sok_of (C := mkC 0 [] noG) (mkC_ok pok_nil noG_ok) rfl mixed ⟨Try.func107, by kernel_rfl, by kernel_rfl, by kernel_rfl⟩ fun l obs v h ho => ?_
  (unfold at31S at h; split at h; rotate_left; (focus (cases h)); rename_i w hh c p x y k; simp only [Option.some.injEq, Prod.mk.injEq] at h; obtain ⟨rfl, rfl⟩ := h; simp only [List.mem_cons, List.not_mem_nil, or_false, forall_eq_or_imp, forall_eq, false_implies, implies_true] at ho)
  have H := ho
  have hb := fits_inv H.fit
  have b1 := H.x0; have b2 := H.x1; have b3 := H.y0; have b4 := H.y1; have b5 := H.k0; have b6 := H.k1
  have w1 : hv w ≤ 16384 := by unfold hv; omega
  have w2 : hv hh ≤ 16384 := by unfold hv; omega
  refine ⟨Nat.le_of_ble_eq_true rfl, ?_⟩
  (repeat' (first | (refine And.intro (fun (hfk : _ = true) => ?_) (fun (hfk : _ = false) => ?_) <;> ((try (first | replace hfk := of_decide_eq_true hfk | replace hfk := of_decide_eq_false hfk | simp only [decide_eq_true_eq, decide_eq_false_iff_not, dh1, dh0, ne_eq, reduceCtorEq] at hfk)); (try (exfalso; first | omega | contradiction | exact Bool.noConfusion (Eq.trans (Eq.symm hfk) (by with_reducible assumption : _ = false)) | exact Bool.noConfusion (Eq.trans (Eq.symm hfk) (by with_reducible assumption : _ = true)))))) | (refine And.intro ?ob ?_; (case ob => (first | exact Chk.mk (by kernel_rfl) | exact True.intro | with_reducible assumption | exact rng64 (by omega) (by omega) | omega | (dsimp only; omega) | (show (_ : Nat) ≤ _; omega) | (simp only [ll1, ll2, ll0]; done) | (simp only [ll1, ll2, ll0]; omega) | (dsimp only; simp only [ll1, ll2, ll0]; omega)))) | exact True.intro | (show _ = _; first | with_reducible rfl | with_reducible assumption | omega | (simp only [ll1, ll2, ll0]; omega) | (skip; done) | exact rfl) | with_reducible assumption | (apply And.intro) | omega | (intro j hj; exact rfl) | fail))
  refine ⟨Nat, fun i => [(2, .int .i64 y), (3, .int .i64 k), (1, .int .i64 x), (4, .ptr 0 0), (9, .int .i64 (sum4 w hh c p x y k i)), (13, .int .i64 (i : Int))],
      fun i => ⟨1, [(0, some (.cells 162 [.int .i64 w, .int .i64 hh, .int .i64 c, .roi .u8 p]))]⟩, fun i => i ≤ 4, fun i => 4 - i, ⟨0, [some 0], by omega, ?_⟩, fun i hi => ?_⟩
  · (repeat' (first | (refine And.intro (fun (hfk : _ = true) => ?_) (fun (hfk : _ = false) => ?_) <;> ((try (first | replace hfk := of_decide_eq_true hfk | replace hfk := of_decide_eq_false hfk | simp only [decide_eq_true_eq, decide_eq_false_iff_not, dh1, dh0, ne_eq, reduceCtorEq] at hfk)); (try (exfalso; first | omega | contradiction | exact Bool.noConfusion (Eq.trans (Eq.symm hfk) (by with_reducible assumption : _ = false)) | exact Bool.noConfusion (Eq.trans (Eq.symm hfk) (by with_reducible assumption : _ = true)))))) | (refine And.intro ?ob ?_; (case ob => (first | exact Chk.mk (by kernel_rfl) | exact True.intro | with_reducible assumption | exact rng64 (by omega) (by omega) | omega | (dsimp only; omega) | (show (_ : Nat) ≤ _; omega) | (simp only [ll1, ll2, ll0]; done) | (simp only [ll1, ll2, ll0]; omega) | (dsimp only; simp only [ll1, ll2, ll0]; omega)))) | exact True.intro | (show _ = _; first | with_reducible rfl | with_reducible assumption | omega | (simp only [ll1, ll2, ll0]; omega) | (skip; done) | exact rfl) | with_reducible assumption | (apply And.intro) | omega | (intro j hj; exact rfl) | fail))
  have hi : i ≤ 4 := hi
  have sb := H.sum_bd hi
  by_cases hlt : i < 4
  · have m : Int.tmod (i : Int) 2 = ((i % 2 : Nat) : Int) := rfl
    have d : Int.tdiv (i : Int) 2 = ((i / 2 : Nat) : Int) := rfl
    have hin := H.inI hlt
    have hbd := pl_bd H.fit hin
    have hrg := pl_rng H.fit hin
    obtain ⟨r1, r2, r3, r4⟩ := hrg
    unfold plI at hbd
    simp only [col4, row4] at hbd r1 r2 r3 r4
    have hl := H.len
    have pb := H.byt _ (H.px hlt)
    have pr : rngI .i64 (p.getD (((min (2 * y + Int.tdiv (i : Int) 2) (hh - 1)) * w + (min (2 * x + Int.tmod (i : Int) 2) (w - 1))) * c + k).toNat 0) := by
      unfold px4 col4 row4 at pb
      exact rng64 (by omega) (by omega)
    have sr : rngI .i64 (sum4 w hh c p x y k i + p.getD (((min (2 * y + Int.tdiv (i : Int) 2) (hh - 1)) * w + (min (2 * x + Int.tmod (i : Int) 2) (w - 1))) * c + k).toNat 0) := by
      unfold px4 col4 row4 at pb
      exact rng64 (by omega) (by omega)
    (repeat' (first | (refine And.intro (fun (hfk : _ = true) => ?_) (fun (hfk : _ = false) => ?_) <;> ((try (first | replace hfk := of_decide_eq_true hfk | replace hfk := of_decide_eq_false hfk | simp only [decide_eq_true_eq, decide_eq_false_iff_not, dh1, dh0, ne_eq, reduceCtorEq] at hfk)); (try (exfalso; first | omega | contradiction | exact Bool.noConfusion (Eq.trans (Eq.symm hfk) (by with_reducible assumption : _ = false)) | exact Bool.noConfusion (Eq.trans (Eq.symm hfk) (by with_reducible assumption : _ = true)))))) | (refine And.intro ?ob ?_; (case ob => (first | exact Chk.mk (by kernel_rfl) | exact True.intro | with_reducible assumption | exact rng64 (by omega) (by omega) | omega | (dsimp only; omega) | (show (_ : Nat) ≤ _; omega) | (simp only [ll1, ll2, ll0]; done) | (simp only [ll1, ll2, ll0]; omega) | (dsimp only; simp only [ll1, ll2, ll0]; omega)))) | exact True.intro | (show _ = _; first | with_reducible rfl | with_reducible assumption | omega | (simp only [ll1, ll2, ll0]; omega) | (skip; done) | exact rfl) | with_reducible assumption | (apply And.intro) | omega | (intro j hj; exact rfl) | fail))
    (refine ⟨i + 1, [some 0], ?_, ?mu, ?_⟩; (case mu => ((try dsimp only); omega)))
    · exact hlt
    (repeat' (first | (refine And.intro (fun (hfk : _ = true) => ?_) (fun (hfk : _ = false) => ?_) <;> ((try (first | replace hfk := of_decide_eq_true hfk | replace hfk := of_decide_eq_false hfk | simp only [decide_eq_true_eq, decide_eq_false_iff_not, dh1, dh0, ne_eq, reduceCtorEq] at hfk)); (try (exfalso; first | omega | contradiction | exact Bool.noConfusion (Eq.trans (Eq.symm hfk) (by with_reducible assumption : _ = false)) | exact Bool.noConfusion (Eq.trans (Eq.symm hfk) (by with_reducible assumption : _ = true)))))) | (refine And.intro ?ob ?_; (case ob => (first | exact Chk.mk (by kernel_rfl) | exact True.intro | with_reducible assumption | exact rng64 (by omega) (by omega) | omega | (dsimp only; omega) | (show (_ : Nat) ≤ _; omega) | (simp only [ll1, ll2, ll0]; done) | (simp only [ll1, ll2, ll0]; omega) | (dsimp only; simp only [ll1, ll2, ll0]; omega)))) | exact True.intro | (show _ = _; first | with_reducible rfl | with_reducible assumption | omega | (simp only [ll1, ll2, ll0]; omega) | (skip; done) | exact rfl) | with_reducible assumption | (apply And.intro) | omega | (intro j hj; exact rfl) | fail))
  · obtain rfl : i = 4 := by omega
    have e : Int.tdiv (sum4 w hh c p x y k 4) 4 = v4 w hh c p x y k := Int.tdiv_eq_ediv_of_nonneg (by omega)
    have r : rngI .i64 (Int.tdiv (sum4 w hh c p x y k 4) 4) := by rw [e]; unfold v4; exact rng64 (by omega) (by omega)
    have e2 : IntKind.u8.wrap (Int.tdiv (sum4 w hh c p x y k 4) 4) = v4 w hh c p x y k := by rw [e]; unfold v4; exact w8 (by omega) (by omega)
    (repeat' (first | (refine And.intro (fun (hfk : _ = true) => ?_) (fun (hfk : _ = false) => ?_) <;> ((try (first | replace hfk := of_decide_eq_true hfk | replace hfk := of_decide_eq_false hfk | simp only [decide_eq_true_eq, decide_eq_false_iff_not, dh1, dh0, ne_eq, reduceCtorEq] at hfk)); (try (exfalso; first | omega | contradiction | exact Bool.noConfusion (Eq.trans (Eq.symm hfk) (by with_reducible assumption : _ = false)) | exact Bool.noConfusion (Eq.trans (Eq.symm hfk) (by with_reducible assumption : _ = true)))))) | (refine And.intro ?ob ?_; (case ob => (first | exact Chk.mk (by kernel_rfl) | exact True.intro | with_reducible assumption | exact rng64 (by omega) (by omega) | omega | (dsimp only; omega) | (show (_ : Nat) ≤ _; omega) | (simp only [ll1, ll2, ll0]; done) | (simp only [ll1, ll2, ll0]; omega) | (dsimp only; simp only [ll1, ll2, ll0]; omega)))) | exact True.intro | (show _ = _; first | with_reducible rfl | with_reducible assumption | omega | (simp only [ll1, ll2, ll0]; omega) | (exact e2; done) | exact rfl) | with_reducible assumption | (apply And.intro) | omega | (intro j hj; exact rfl) | fail))

/-- The byte of half an image. -/
def hg (w h c : Int) (p : List Int) (i : Nat) : Int := v4 w h c p (Int.tmod (Int.tdiv (i : Int) c) (hv w)) (Int.tdiv (Int.tdiv (i : Int) c) (hv w)) (Int.tmod (i : Int) c)
def hN (w h c : Int) : Nat := (hv w * hv h * c).toNat
def halfP (w h c : Int) (p : List Int) : List Int := mapL (hg w h c p) (hN w h c)
def halfI (m : Im) : Im := ⟨hv m.w, hv m.h, m.c, halfP m.w m.h m.c m.p⟩
theorem hv_nat (n : Nat) : hv (n : Int) = (((n + 1) / 2 : Nat) : Int) := rfl
theorem half_fits {w h c : Int} (hf : fitsI w h c = 0) : fitsI (hv w) (hv h) c = 0 ∧ 1 ≤ hv w ∧ hv w ≤ 16384 ∧ 1 ≤ hv h ∧ hv h ≤ 16384 := by
  have hb := fits_inv hf
  have w0 : 1 ≤ hv w ∧ hv w ≤ w ∧ hv w ≤ 16384 := by unfold hv; omega
  have h0 : 1 ≤ hv h ∧ hv h ≤ h ∧ hv h ≤ 16384 := by unfold hv; omega
  refine ⟨?_, by omega, by omega, by omega, by omega⟩
  have hm : hv w * hv h ≤ w * h := Int.mul_le_mul w0.2.1 h0.2.1 (by omega) (by omega)
  unfold fitsI
  rw [if_neg (by omega), if_neg (by omega), if_neg (by omega)]
/-- The place that a byte of half an image has. -/
theorem half_at {w h c : Int} {p : List Int} (hf : fitsI w h c = 0) (hl : (p.length : Int) = w * h * c) (hp : Bytes p) {i : Nat} (hi : i < hN w h c) :
    At31 w h c p (Int.tmod (Int.tdiv (i : Int) c) (hv w)) (Int.tdiv (Int.tdiv (i : Int) c) (hv w)) (Int.tmod (i : Int) c) := by
  have hb := fits_inv hf
  obtain ⟨hf2, w1, w2, h1, h2⟩ := half_fits hf
  have hb2 := fits_inv hf2
  obtain ⟨C, rfl⟩ := Int.eq_ofNat_of_zero_le (show 0 ≤ c by omega)
  obtain ⟨U, hU⟩ := Int.eq_ofNat_of_zero_le (show 0 ≤ hv w by omega)
  obtain ⟨V, hV⟩ := Int.eq_ofNat_of_zero_le (show 0 ≤ hv h by omega)
  unfold hN at hi
  rw [hU, hV] at hi
  have e : ((U : Int) * (V : Int) * (C : Int)).toNat = U * V * C := by rw [← Int.natCast_mul, ← Int.natCast_mul, Int.toNat_natCast]
  rw [e] at hi
  have c0 : 0 < C := by omega
  have u0 : 0 < U := by omega
  have d1 : i / C < U * V := Nat.div_lt_of_lt_mul (by rw [Nat.mul_comm]; exact hi)
  have d2 : i / C / U < V := Nat.div_lt_of_lt_mul d1
  have e1 : Int.tdiv (i : Int) (C : Int) = ((i / C : Nat) : Int) := rfl
  rw [hU, e1]
  have e2 : Int.tmod ((i / C : Nat) : Int) (U : Int) = ((i / C % U : Nat) : Int) := rfl
  have e3 : Int.tdiv ((i / C : Nat) : Int) (U : Int) = ((i / C / U : Nat) : Int) := rfl
  have e4 : Int.tmod (i : Int) (C : Int) = ((i % C : Nat) : Int) := rfl
  rw [e2, e3, e4]
  have m1 := Nat.mod_lt (i / C) u0
  have m2 := Nat.mod_lt i c0
  exact ⟨hf, hl, hp, Int.natCast_nonneg _, by rw [hU]; exact Int.ofNat_lt.2 m1, Int.natCast_nonneg _, by rw [hV]; exact Int.ofNat_lt.2 d2, Int.natCast_nonneg _, Int.ofNat_lt.2 m2⟩
theorem halfP_len {w h c : Int} {p : List Int} : (halfP w h c p).length = hN w h c := mapL_len _ _
theorem set_next {g : Nat → Int} {i N : Nat} {v : Int} (hi : i < N) (hv : v = g i) : (mapL g i ++ List.replicate (N - i) 0).set i v = mapL g (i + 1) ++ List.replicate (N - (i + 1)) 0 := by
  obtain ⟨r, rfl⟩ : ∃ r, N = i + 1 + r := ⟨N - (i + 1), by omega⟩
  have e1 : i + 1 + r - i = r + 1 := by omega
  have e2 : i + 1 + r - (i + 1) = r := by omega
  rw [e1, e2, mapL_succ, List.replicate_succ, List.set_append_right _ _ (by rw [mapL_len]; exact Nat.le_refl _), mapL_len, Nat.sub_self, List.set_cons_zero, hv, List.append_assoc]
  rfl
end Go.Proofs.Ytchhikfiofeckaa
