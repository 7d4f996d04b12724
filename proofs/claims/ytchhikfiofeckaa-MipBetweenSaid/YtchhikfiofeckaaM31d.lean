
/- Pyramids: the answer of the layer mip, and what is known of all images. No condition. -/
import Derived.Test.YtchhikfiofeckaaM31c
namespace Go.Proofs.Ytchhikfiofeckaa
open Go Go.RowKit
set_option linter.unusedVariables false
set_option linter.unusedSimpArgs false
set_option maxRecDepth 100000
set_option maxHeartbeats 4000000

def pyrG : Nat → Im → List Im
  | 0, m => [m]
  | n + 1, m => if m.w = 1 ∧ m.h = 1 then [m] else m :: pyrG n (halfI m)
theorem pyrG_small {n : Nat} {m : Im} (h : m.w = 1 ∧ m.h = 1) : pyrG n m = [m] := by
  cases n with
  | zero => rfl
  | succ n => exact if_pos h
theorem pyrG_big {n : Nat} {m : Im} (h : ¬ (m.w = 1 ∧ m.h = 1)) : pyrG (n + 1) m = m :: pyrG n (halfI m) := if_neg h
theorem pyrG_len {n : Nat} {m : Im} : 1 ≤ (pyrG n m).length ∧ (pyrG n m).length ≤ n + 1 := by
  induction n generalizing m with
  | zero => simp [pyrG]
  | succ n ih =>
    unfold pyrG
    split
    · simp
    · have := ih (m := halfI m); simp only [List.length_cons]; omega

/-- What is known of all images above m: none is below lo, none above hi; if m is of one colour, so are they. -/
structure PyP (m : Im) (lo hi : Int) (x : Im) : Prop where
  chk : imCheck x.w x.h x.c x.p.length = 0
  byt : Bytes x.p
  c : x.c = m.c
  rng : ∀ v ∈ x.p, lo ≤ v ∧ v ≤ hi
  one : oneB m.c.toNat m.p = true → ∀ i, i < x.p.length → x.p.getD i 0 = m.p.getD (i % m.c.toNat) 0
theorem px_mem {w h c : Int} {p : List Int} {x y k : Int} (H : At31 w h c p x y k) : px4 w h c p x y k 0 ∈ p ∧ px4 w h c p x y k 1 ∈ p ∧ px4 w h c p x y k 2 ∈ p ∧ px4 w h c p x y k 3 ∈ p :=
  ⟨H.px (n := 0) (by omega), H.px (n := 1) (by omega), H.px (n := 2) (by omega), H.px (n := 3) (by omega)⟩
theorem v4_eq (w h c : Int) (p : List Int) (x y k : Int) : v4 w h c p x y k = (2 + px4 w h c p x y k 0 + px4 w h c p x y k 1 + px4 w h c p x y k 2 + px4 w h c p x y k 3) / 4 := rfl
theorem px_one {m : Im} {w h c : Int} {p : List Int} {x y : Int} {i C : Nat} (hc : c = C) (H : At31 w h c p x y ((i % C : Nat) : Int)) (ho : ∀ i, i < p.length → p.getD i 0 = m.p.getD (i % C) 0) {n : Nat} (hn : n < 4) :
    px4 w h c p x y ((i % C : Nat) : Int) n = m.p.getD (i % C) 0 := by
  subst hc
  have hb := fits_inv H.fit
  have hin := H.inI hn
  have hp := pl_bd H.fit hin
  unfold plI at hp
  have hl := H.len
  have hlt : ((row4 h y n * w + col4 w x n) * (C : Int) + ((i % C : Nat) : Int)).toNat < p.length := by omega
  unfold px4
  rw [ho _ hlt]
  unfold Go.Proofs.Ytchhikfiofeckaa.inI at hin
  simp only [Bool.and_eq_true, decide_eq_true_eq] at hin
  obtain ⟨R, hR⟩ := Int.eq_ofNat_of_zero_le (show 0 ≤ row4 h y n by omega)
  obtain ⟨U, hU⟩ := Int.eq_ofNat_of_zero_le (show 0 ≤ col4 w x n by omega)
  obtain ⟨W, hW⟩ := Int.eq_ofNat_of_zero_le (show 0 ≤ w by omega)
  rw [hR, hU, hW]
  have e : (((R : Int) * (W : Int) + (U : Int)) * (C : Int) + ((i % C : Nat) : Int)).toNat = (R * W + U) * C + i % C := by
    rw [← Int.natCast_mul, ← Int.natCast_add, ← Int.natCast_mul, ← Int.natCast_add, Int.toNat_natCast]
  rw [e]
  congr 1
  rw [Nat.add_comm, Nat.add_mul_mod_self_right, Nat.mod_mod]
theorem PyP.half {m x : Im} {lo hi : Int} (hlo : 0 ≤ lo) (hhi : hi ≤ 255) (H : PyP m lo hi x) : PyP m lo hi (halfI x) := by
  obtain ⟨hf, hl⟩ := check_inv H.chk
  have hb := fits_inv hf
  obtain ⟨hf2, w1, w2, h1, h2⟩ := half_fits hf
  have hb2 := fits_inv hf2
  have hr : ∀ v ∈ halfP x.w x.h x.c x.p, lo ≤ v ∧ v ≤ hi := fun v hv => by
    unfold halfP mapL at hv
    obtain ⟨i, hi, rfl⟩ := List.mem_map.1 hv
    have A := half_at hf hl H.byt (List.mem_range.1 hi)
    obtain ⟨m0, m1, m2, m3⟩ := px_mem A
    have r0 := H.rng _ m0; have r1 := H.rng _ m1; have r2 := H.rng _ m2; have r3 := H.rng _ m3
    unfold hg
    rw [v4_eq]
    omega
  refine ⟨?_, fun v hv => ?_, H.c, hr, fun ho i hi => ?_⟩
  · show imCheck (hv x.w) (hv x.h) x.c ((halfP x.w x.h x.c x.p).length : Nat) = 0
    unfold imCheck
    rw [if_neg (fun k => k hf2), if_neg]
    rw [halfP_len]
    unfold hN
    omega
  · have := hr v hv; omega
  · have hi : i < (halfP x.w x.h x.c x.p).length := hi
    rw [halfP_len] at hi
    have A := half_at hf hl H.byt hi
    have hc : x.c = ((m.c.toNat : Nat) : Int) := by rw [← H.c]; omega
    show (halfP x.w x.h x.c x.p).getD i 0 = _
    have e : (halfP x.w x.h x.c x.p).getD i 0 = hg x.w x.h x.c x.p i := by
      unfold halfP mapL
      simp [List.getD, List.getElem?_map, List.getElem?_range hi]
    rw [e]
    unfold hg
    have ek : Int.tmod (i : Int) x.c = ((i % m.c.toNat : Nat) : Int) := by rw [hc]; rfl
    rw [ek] at A ⊢
    have hO := H.one ho
    rw [v4_eq]
    have q0 := px_one (m := m) hc A hO (n := 0) (by omega)
    have q1 := px_one (m := m) hc A hO (n := 1) (by omega)
    have q2 := px_one (m := m) hc A hO (n := 2) (by omega)
    have q3 := px_one (m := m) hc A hO (n := 3) (by omega)
    have z0 : ((0 : Nat) : Int) = 0 := rfl
    have z1 : ((1 : Nat) : Int) = 1 := rfl
    have z2 : ((2 : Nat) : Int) = 2 := rfl
    have z3 : ((3 : Nat) : Int) = 3 := rfl
    rw [z0] at q0; rw [z1] at q1; rw [z2] at q2; rw [z3] at q3
    rw [q0, q1, q2, q3]
    omega
theorem pyrG_all {m : Im} {lo hi : Int} (hlo : 0 ≤ lo) (hhi : hi ≤ 255) : ∀ {n : Nat} {x : Im}, PyP m lo hi x → ∀ y ∈ pyrG n x, PyP m lo hi y
  | 0, x, h, y, hy => by
    simp only [pyrG, List.mem_singleton] at hy
    rw [hy]; exact h
  | n + 1, x, h, y, hy => by
    unfold pyrG at hy
    split at hy
    · rw [List.mem_singleton.1 hy]; exact h
    · rcases List.mem_cons.1 hy with rfl | hy
      · exact h
      · exact pyrG_all hlo hhi (h.half hlo hhi) y hy
abbrev pyrOk : PSpec := fun l => match l with
  | [.agg [.int .i64 w, .int .i64 h, .int .i64 c, .roi .u8 p], .int .i64 n] => some ([imCheck w h c p.length = 0, Bytes p, 0 ≤ n, n ≤ 15], .tup [imsA (pyrG n.toNat ⟨w, h, c, p⟩), .int .i64 0]) | _ => none
theorem okP (m : Im) (hm : imCheck m.w m.h m.c m.p.length = 0) (hp : Bytes m.p) : PyP m 0 255 m :=
  ⟨hm, hp, rfl, hp, fun ho => of_decide_eq_true ho⟩
theorem pyrOk_s : SOK Try.prog 39 pyrOk := by
  refine sok_of (C := mkK 0 [(91, checkS), (77, cloneS), (42, halfS)] noG [6, 8]) (mkK_ok (pok_cons check_s (pok_cons clone_s (pok_cons half_s pok_nil))) noG_ok) rfl mixed ⟨Try.func39, by kernel_rfl, by kernel_rfl, by kernel_rfl⟩ fun l obs v h ho => ?_
  (unfold pyrOk at h; split at h; rotate_left; (focus (cases h)); rename_i w hh c p n; simp only [Option.some.injEq, Prod.mk.injEq] at h; obtain ⟨rfl, rfl⟩ := h; simp only [List.mem_cons, List.not_mem_nil, or_false, forall_eq_or_imp, forall_eq, false_implies, implies_true] at ho)
  obtain ⟨hk, hp, h0, h1⟩ := ho
  obtain ⟨N, rfl⟩ := Int.eq_ofNat_of_zero_le h0
  obtain ⟨hf, hl⟩ := check_inv hk
  have hb := fits_inv hf
  refine ⟨Nat.le_of_ble_eq_true rfl, ?_⟩
  (repeat' (first | (refine And.intro (fun (hfk : _ = true) => ?_) (fun (hfk : _ = false) => ?_) <;> ((try (first | replace hfk := of_decide_eq_true hfk | replace hfk := of_decide_eq_false hfk | simp only [decide_eq_true_eq, decide_eq_false_iff_not, dh1, dh0, ne_eq, reduceCtorEq] at hfk)); (try (exfalso; first | omega | contradiction | exact Bool.noConfusion (Eq.trans (Eq.symm hfk) (by with_reducible assumption : _ = false)) | exact Bool.noConfusion (Eq.trans (Eq.symm hfk) (by with_reducible assumption : _ = true)))))) | (refine And.intro ?ob ?_; (case ob => (first | exact Chk.mk (by kernel_rfl) | exact True.intro | with_reducible assumption | exact rng64 (by omega) (by omega) | omega | (dsimp only; omega) | (show (_ : Nat) ≤ _; omega) | (simp only [ll1, ll2, ll0]; done) | (simp only [ll1, ll2, ll0]; omega) | (dsimp only; simp only [ll1, ll2, ll0]; omega)))) | exact True.intro | (show _ = _; first | with_reducible rfl | with_reducible assumption | omega | (simp only [ll1, ll2, ll0]; omega) | (skip; done) | exact rfl) | with_reducible assumption | (apply And.intro) | omega | (intro j hj; exact rfl) | fail))
  refine ⟨[(1, .int .i64 (N : Int)), (4, .nils), (5, .int .i64 0), (7, .sl 0 4 0 1)], ⟨1, [(0, some (.recs 26 4 1 (fun j => (([⟨w, hh, c, p⟩] : List Im).getD j Im.z).av)))]⟩, [some 1], ?_, ?_⟩
  · (repeat' (first | (refine And.intro ?_ ?_) | exact True.intro | (show _ = _; with_reducible rfl) | exact Chk.mk (by kernel_rfl)))
    intro j hj
    obtain rfl : j = 0 := by omega
    rfl
  (repeat' (first | (refine And.intro (fun (hfk : _ = true) => ?_) (fun (hfk : _ = false) => ?_) <;> ((try (first | replace hfk := of_decide_eq_true hfk | replace hfk := of_decide_eq_false hfk | simp only [decide_eq_true_eq, decide_eq_false_iff_not, dh1, dh0, ne_eq, reduceCtorEq] at hfk)); (try (exfalso; first | omega | contradiction | exact Bool.noConfusion (Eq.trans (Eq.symm hfk) (by with_reducible assumption : _ = false)) | exact Bool.noConfusion (Eq.trans (Eq.symm hfk) (by with_reducible assumption : _ = true)))))) | (refine And.intro ?ob ?_; (case ob => (first | exact Chk.mk (by kernel_rfl) | exact True.intro | with_reducible assumption | exact rng64 (by omega) (by omega) | omega | (dsimp only; omega) | (show (_ : Nat) ≤ _; omega) | (simp only [ll1, ll2, ll0]; done) | (simp only [ll1, ll2, ll0]; omega) | (dsimp only; simp only [ll1, ll2, ll0]; omega)))) | exact True.intro | (show _ = _; first | with_reducible rfl | with_reducible assumption | omega | (simp only [ll1, ll2, ll0]; omega) | (skip; done) | exact rfl) | with_reducible assumption | (apply And.intro) | omega | (intro j hj; exact rfl) | fail))
  refine ⟨List Im × Im, fun g => [(1, .int .i64 (N : Int)), (4, .nils), (5, .int .i64 0), (7, .sl 0 4 0 (g.1.length + 1))], fun g => ⟨1, [(0, some (.recs 26 4 (g.1.length + 1) (fun j => ((g.1 ++ [g.2]).getD j Im.z).av)))]⟩,
    fun g => g.1.length ≤ N ∧ g.1 ++ pyrG (N - g.1.length) g.2 = pyrG N ⟨w, hh, c, p⟩ ∧ PyP ⟨w, hh, c, p⟩ 0 255 g.2, fun g => N + 1 - g.1.length, ⟨([], ⟨w, hh, c, p⟩), [some 0], ⟨Nat.zero_le _, rfl, okP _ hk hp⟩, ?_⟩, fun g hg => ?_⟩
  · (repeat' (first | (refine And.intro ?_ ?_) | exact True.intro | (show _ = _; with_reducible rfl) | exact Chk.mk (by kernel_rfl)))
    · rfl
    · rfl
    · intro j hj
      rfl
  obtain ⟨pre, x⟩ := g
  obtain ⟨g1, g2, g3⟩ := hg
  have g1 : pre.length ≤ N := g1
  have g2 : pre ++ pyrG (N - pre.length) x = pyrG N ⟨w, hh, c, p⟩ := g2
  have g3 : PyP ⟨w, hh, c, p⟩ 0 255 x := g3
  have fin : pyrG N ⟨w, hh, c, p⟩ = pre ++ [x] → pre.length + 1 = (pyrG N ⟨w, hh, c, p⟩).length ∧ ∀ j, j < (pyrG N ⟨w, hh, c, p⟩).length → ((pre ++ [x]).getD (0 + j) Im.z).av = ((pyrG N ⟨w, hh, c, p⟩).getD j Im.z).av := fun E => by
    rw [E]
    exact ⟨by simp, fun j hj => by rw [Nat.zero_add]⟩
  refine ⟨fun hy => ?_, fun hy => ?_⟩
  · have hlt : pre.length < N := by
      have : ((pre.length + 1 : Nat) : Int) ≤ (N : Int) := of_decide_eq_true hy
      omega
    have gl : (pre ++ [x]).getD (0 + (((pre.length + 1 : Nat) : Int) - 1).toNat) Im.z = x := by
      have : 0 + (((pre.length + 1 : Nat) : Int) - 1).toNat = pre.length := by omega
      rw [this]; simp [List.getD]
    (repeat' (first | (refine And.intro (fun (hfk : _ = true) => ?_) (fun (hfk : _ = false) => ?_) <;> ((try (first | replace hfk := of_decide_eq_true hfk | replace hfk := of_decide_eq_false hfk | simp only [decide_eq_true_eq, decide_eq_false_iff_not, dh1, dh0, ne_eq, reduceCtorEq] at hfk)); (try (exfalso; first | omega | contradiction | exact Bool.noConfusion (Eq.trans (Eq.symm hfk) (by with_reducible assumption : _ = false)) | exact Bool.noConfusion (Eq.trans (Eq.symm hfk) (by with_reducible assumption : _ = true)))))) | (refine And.intro ?ob ?_; (case ob => (first | exact Chk.mk (by kernel_rfl) | exact True.intro | with_reducible assumption | exact rng64 (by omega) (by omega) | omega | (dsimp only; omega) | (show (_ : Nat) ≤ _; omega) | (simp only [ll1, ll2, ll0]; done) | (simp only [ll1, ll2, ll0]; omega) | (dsimp only; simp only [ll1, ll2, ll0]; omega)))) | exact True.intro | (show _ = _; first | with_reducible rfl | with_reducible assumption | omega | (simp only [ll1, ll2, ll0]; omega) | (skip; done) | exact rfl) | with_reducible assumption | (apply And.intro) | omega | (intro j hj; exact rfl) | fail))
    refine ⟨[(1, .int .i64 (N : Int)), (4, .nils), (5, .int .i64 0), (7, .sl 0 4 0 (pre.length + 1)), (8, .ptr 1 0)],
      ⟨2, [(0, some (.recs 26 4 (pre.length + 1) (fun j => ((pre ++ [x]).getD j Im.z).av))), (1, some (.cells 26 [.int .i64 x.w, .int .i64 x.h, .int .i64 x.c, .roi .u8 x.p]))]⟩, [some 0, some 1], ?_, ?_⟩
    · (repeat' (first | (refine And.intro ?_ ?_) | exact True.intro | (show _ = _; with_reducible rfl) | exact Chk.mk (by kernel_rfl)))
      · intro j hj
        rfl
      · exact congrArg Im.w gl
      · exact congrArg Im.h gl
      · exact congrArg Im.c gl
      · exact congrArg Im.p gl
    have c1 := g3.chk
    have c2 := g3.byt
    by_cases hs : x.w = 1 ∧ x.h = 1
    · obtain ⟨s1, s2⟩ := hs
      have E : pyrG N ⟨w, hh, c, p⟩ = pre ++ [x] := by rw [← g2, pyrG_small ⟨s1, s2⟩]
      obtain ⟨f1, f2⟩ := fin E
      (repeat' (first | (refine And.intro (fun (hfk : _ = true) => ?_) (fun (hfk : _ = false) => ?_) <;> ((try (first | replace hfk := of_decide_eq_true hfk | replace hfk := of_decide_eq_false hfk | simp only [decide_eq_true_eq, decide_eq_false_iff_not, dh1, dh0, ne_eq, reduceCtorEq] at hfk)); (try (exfalso; first | omega | contradiction | exact Bool.noConfusion (Eq.trans (Eq.symm hfk) (by with_reducible assumption : _ = false)) | exact Bool.noConfusion (Eq.trans (Eq.symm hfk) (by with_reducible assumption : _ = true)))))) | (refine And.intro ?ob ?_; (case ob => (first | exact Chk.mk (by kernel_rfl) | exact True.intro | with_reducible assumption | exact rng64 (by omega) (by omega) | omega | (dsimp only; omega) | (show (_ : Nat) ≤ _; omega) | (simp only [ll1, ll2, ll0]; done) | (simp only [ll1, ll2, ll0]; omega) | (dsimp only; simp only [ll1, ll2, ll0]; omega)))) | exact True.intro | (show _ = _; first | with_reducible rfl | with_reducible assumption | omega | (simp only [ll1, ll2, ll0]; omega) | (exact f1; done) | exact rfl) | with_reducible assumption | (apply And.intro) | omega | (intro j hj; exact rfl) | fail))
      exact f2
    · have gN : N - pre.length = N - (pre.length + 1) + 1 := by omega
      have g2' : (pre ++ [x]) ++ pyrG (N - (pre.length + 1)) (halfI x) = pyrG N ⟨w, hh, c, p⟩ := by
        rw [← g2, gN, pyrG_big hs, List.append_assoc]; rfl
      have gap : ∀ j, j < pre.length + 1 + 1 → (if j < pre.length + 1 then ((pre ++ [x]).getD j Im.z).av else (([halfI x] : List Im).getD (j - (pre.length + 1)) Im.z).av) = (((pre ++ [x]) ++ [halfI x]).getD j Im.z).av := fun j hj => by
        by_cases h : j < pre.length + 1
        · rw [if_pos h]
          have e : ((pre ++ [x]) ++ [halfI x])[j]? = (pre ++ [x])[j]? := List.getElem?_append_left (by simp; omega)
          simp only [List.getD, e]
        · rw [if_neg h]
          obtain rfl : j = pre.length + 1 := by omega
          simp [List.getD]
      (repeat' (first | (refine And.intro (fun (hfk : _ = true) => ?_) (fun (hfk : _ = false) => ?_) <;> ((try (first | replace hfk := of_decide_eq_true hfk | replace hfk := of_decide_eq_false hfk | simp only [decide_eq_true_eq, decide_eq_false_iff_not, dh1, dh0, ne_eq, reduceCtorEq] at hfk)); (try (exfalso; first | omega | contradiction | exact Bool.noConfusion (Eq.trans (Eq.symm hfk) (by with_reducible assumption : _ = false)) | exact Bool.noConfusion (Eq.trans (Eq.symm hfk) (by with_reducible assumption : _ = true)))))) | (refine And.intro ?ob ?_; (case ob => (first | exact Chk.mk (by kernel_rfl) | exact True.intro | with_reducible assumption | exact rng64 (by omega) (by omega) | omega | (dsimp only; omega) | (show (_ : Nat) ≤ _; omega) | (simp only [ll1, ll2, ll0]; done) | (simp only [ll1, ll2, ll0]; omega) | (dsimp only; simp only [ll1, ll2, ll0]; omega)))) | exact True.intro | (show _ = _; first | with_reducible rfl | with_reducible assumption | omega | (simp only [ll1, ll2, ll0]; omega) | (skip; done) | exact rfl) | with_reducible assumption | (apply And.intro) | omega | (intro j hj; exact rfl) | fail))
      all_goals
        refine ⟨(pre ++ [x], halfI x), [some 4], ?_, ?mu, ?_⟩
        case mu =>
          show N + 1 - (pre ++ [x]).length < N + 1 - pre.length
          rw [List.length_append, List.length_singleton]; omega
        · exact ⟨by simp; omega, by simpa using g2', g3.half (by decide) (by decide)⟩
        (repeat' (first | (refine And.intro (fun (hfk : _ = true) => ?_) (fun (hfk : _ = false) => ?_) <;> ((try (first | replace hfk := of_decide_eq_true hfk | replace hfk := of_decide_eq_false hfk | simp only [decide_eq_true_eq, decide_eq_false_iff_not, dh1, dh0, ne_eq, reduceCtorEq] at hfk)); (try (exfalso; first | omega | contradiction | exact Bool.noConfusion (Eq.trans (Eq.symm hfk) (by with_reducible assumption : _ = false)) | exact Bool.noConfusion (Eq.trans (Eq.symm hfk) (by with_reducible assumption : _ = true)))))) | (refine And.intro ?ob ?_; (case ob => (first | exact Chk.mk (by kernel_rfl) | exact True.intro | with_reducible assumption | exact rng64 (by omega) (by omega) | omega | (dsimp only; omega) | (show (_ : Nat) ≤ _; omega) | (simp only [ll1, ll2, ll0]; done) | (simp only [ll1, ll2, ll0]; omega) | (dsimp only; simp only [ll1, ll2, ll0]; omega)))) | exact True.intro | (show _ = _; first | with_reducible rfl | with_reducible assumption | omega | (simp only [ll1, ll2, ll0]; omega) | (skip; done) | exact rfl) | with_reducible assumption | (apply And.intro) | omega | (intro j hj; exact rfl) | fail))
        · show pre.length + 1 + 1 = (pre ++ [x]).length + 1
          rw [List.length_append, List.length_singleton]
        · intro j hj
          have hj1 : j < (pre ++ [x]).length + 1 := hj
          rw [List.length_append, List.length_singleton] at hj1
          refine Eq.trans ?_ (gap j hj1)
          by_cases h : j < pre.length + 1
          · simp only [if_pos h]
          · simp only [if_neg h]
            have e : j - (pre.length + 1) = 0 := by omega
            rw [e]
            rfl
  · have hN : pre.length = N := by
      have : ¬ ((pre.length + 1 : Nat) : Int) ≤ (N : Int) := of_decide_eq_false hy
      omega
    have E : pyrG N ⟨w, hh, c, p⟩ = pre ++ [x] := by rw [← g2, hN, Nat.sub_self]; rfl
    obtain ⟨f1, f2⟩ := fin E
    (repeat' (first | (refine And.intro (fun (hfk : _ = true) => ?_) (fun (hfk : _ = false) => ?_) <;> ((try (first | replace hfk := of_decide_eq_true hfk | replace hfk := of_decide_eq_false hfk | simp only [decide_eq_true_eq, decide_eq_false_iff_not, dh1, dh0, ne_eq, reduceCtorEq] at hfk)); (try (exfalso; first | omega | contradiction | exact Bool.noConfusion (Eq.trans (Eq.symm hfk) (by with_reducible assumption : _ = false)) | exact Bool.noConfusion (Eq.trans (Eq.symm hfk) (by with_reducible assumption : _ = true)))))) | (refine And.intro ?ob ?_; (case ob => (first | exact Chk.mk (by kernel_rfl) | exact True.intro | with_reducible assumption | exact rng64 (by omega) (by omega) | omega | (dsimp only; omega) | (show (_ : Nat) ≤ _; omega) | (simp only [ll1, ll2, ll0]; done) | (simp only [ll1, ll2, ll0]; omega) | (dsimp only; simp only [ll1, ll2, ll0]; omega)))) | exact True.intro | (show _ = _; first | with_reducible rfl | with_reducible assumption | omega | (simp only [ll1, ll2, ll0]; omega) | (exact f1; done) | exact rfl) | with_reducible assumption | (apply And.intro) | omega | (intro j hj; exact rfl) | fail))
    exact f2
end Go.Proofs.Ytchhikfiofeckaa
