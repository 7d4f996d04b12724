
/- Pyramids: no image is brighter or darker than the one below: the law MipBetween. No condition. -/
import Derived.Test.YtchhikfiofeckaaM31d
namespace Go.Proofs.Ytchhikfiofeckaa
open Go Go.RowKit
set_option linter.unusedVariables false
set_option linter.unusedSimpArgs false
set_option maxRecDepth 100000
set_option maxHeartbeats 4000000

def pyrE (w h c : Int) (p : List Int) : Int := if imCheck w h c p.length = 0 then 10 else imCheck w h c p.length
abbrev pyrBad : PSpec := fun l => match l with
  | [.agg [.int .i64 w, .int .i64 h, .int .i64 c, .roi .u8 p], .int .i64 n] => some ([imCheck w h c p.length ≠ 0 ∨ n < 0 ∨ 15 < n], .tup [.nils, .int .i64 (pyrE w h c p)]) | _ => none
theorem pyrBad_s : SOK Try.prog 39 pyrBad := by
  refine sok_of (C := mkC 0 [(91, checkS)] noG) (mkC_ok (pok_cons check_s pok_nil) noG_ok) rfl mixed ⟨Try.func39, by kernel_rfl, by kernel_rfl, by kernel_rfl⟩ fun l obs v h ho => ?_
  (unfold pyrBad at h; split at h; rotate_left; (focus (cases h)); rename_i w hh c p n; simp only [Option.some.injEq, Prod.mk.injEq] at h; obtain ⟨rfl, rfl⟩ := h; simp only [List.mem_cons, List.not_mem_nil, or_false, forall_eq_or_imp, forall_eq, false_implies, implies_true] at ho)
  refine ⟨Nat.le_of_ble_eq_true rfl, ?_⟩
  by_cases hk : imCheck w hh c p.length = 0
  · have e : pyrE w hh c p = 10 := if_pos hk
    have hn : n < 0 ∨ 15 < n := ho.resolve_left (fun k => k hk)
    (repeat' (first | (refine And.intro (fun (hfk : _ = true) => ?_) (fun (hfk : _ = false) => ?_) <;> ((try (first | replace hfk := of_decide_eq_true hfk | replace hfk := of_decide_eq_false hfk | simp only [decide_eq_true_eq, decide_eq_false_iff_not, dh1, dh0, ne_eq, reduceCtorEq] at hfk)); (try (exfalso; first | omega | contradiction | exact Bool.noConfusion (Eq.trans (Eq.symm hfk) (by with_reducible assumption : _ = false)) | exact Bool.noConfusion (Eq.trans (Eq.symm hfk) (by with_reducible assumption : _ = true)))))) | (refine And.intro ?ob ?_; (case ob => (first | exact Chk.mk (by kernel_rfl) | exact True.intro | with_reducible assumption | exact rng64 (by omega) (by omega) | omega | (dsimp only; omega) | (show (_ : Nat) ≤ _; omega) | (simp only [ll1, ll2, ll0]; done) | (simp only [ll1, ll2, ll0]; omega) | (dsimp only; simp only [ll1, ll2, ll0]; omega)))) | exact True.intro | (show _ = _; first | with_reducible rfl | with_reducible assumption | omega | (simp only [ll1, ll2, ll0]; omega) | (exact e.symm; done) | exact rfl) | with_reducible assumption | (apply And.intro) | omega | (intro j hj; exact rfl) | fail))
  · have e : pyrE w hh c p = imCheck w hh c p.length := if_neg hk
    (repeat' (first | (refine And.intro (fun (hfk : _ = true) => ?_) (fun (hfk : _ = false) => ?_) <;> ((try (first | replace hfk := of_decide_eq_true hfk | replace hfk := of_decide_eq_false hfk | simp only [decide_eq_true_eq, decide_eq_false_iff_not, dh1, dh0, ne_eq, reduceCtorEq] at hfk)); (try (exfalso; first | omega | contradiction | exact Bool.noConfusion (Eq.trans (Eq.symm hfk) (by with_reducible assumption : _ = false)) | exact Bool.noConfusion (Eq.trans (Eq.symm hfk) (by with_reducible assumption : _ = true)))))) | (refine And.intro ?ob ?_; (case ob => (first | exact Chk.mk (by kernel_rfl) | exact True.intro | with_reducible assumption | exact rng64 (by omega) (by omega) | omega | (dsimp only; omega) | (show (_ : Nat) ≤ _; omega) | (simp only [ll1, ll2, ll0]; done) | (simp only [ll1, ll2, ll0]; omega) | (dsimp only; simp only [ll1, ll2, ll0]; omega)))) | exact True.intro | (show _ = _; first | with_reducible rfl | with_reducible assumption | omega | (simp only [ll1, ll2, ll0]; omega) | (exact e.symm; done) | exact rfl) | with_reducible assumption | (apply And.intro) | omega | (intro j hj; exact rfl) | fail))

def mnL (p : List Int) : Nat → Int
  | 0 => 255
  | i + 1 => min (mnL p i) (p.getD i 0)
def mxL (p : List Int) : Nat → Int
  | 0 => 0
  | i + 1 => max (mxL p i) (p.getD i 0)
theorem mn_le (p : List Int) : ∀ i j, j < i → mnL p i ≤ p.getD j 0
  | i + 1, j, h => by
    unfold mnL
    by_cases e : j = i
    · subst e; omega
    · have := mn_le p i j (by omega); omega
theorem mx_ge (p : List Int) : ∀ i j, j < i → p.getD j 0 ≤ mxL p i
  | i + 1, j, h => by
    unfold mxL
    by_cases e : j = i
    · subst e; omega
    · have := mx_ge p i j (by omega); omega
theorem mn_0 {p : List Int} (hp : Bytes p) : ∀ i, 0 ≤ mnL p i
  | 0 => by unfold mnL; omega
  | i + 1 => by have := mn_0 hp i; have := (hp.get i).1; unfold mnL; omega
theorem mx_255 {p : List Int} (hp : Bytes p) : ∀ i, mxL p i ≤ 255
  | 0 => by unfold mxL; omega
  | i + 1 => by have := mx_255 hp i; have := (hp.get i).2; unfold mxL; omega
theorem mem_get {p : List Int} {v : Int} (h : v ∈ p) : ∃ i, i < p.length ∧ p.getD i 0 = v := by
  obtain ⟨i, hi, e⟩ := List.getElem_of_mem h
  exact ⟨i, hi, by simp [List.getD, hi, e]⟩
theorem startP (m : Im) (hm : imCheck m.w m.h m.c m.p.length = 0) (hp : Bytes m.p) : PyP m (mnL m.p m.p.length) (mxL m.p m.p.length) m :=
  ⟨hm, hp, rfl, fun v hv => by
    obtain ⟨i, hi, rfl⟩ := mem_get hv
    exact ⟨mn_le _ _ _ hi, mx_ge _ _ _ hi⟩, fun ho => of_decide_eq_true ho⟩
theorem PyP.one' {m x : Im} {lo hi : Int} (H : PyP m lo hi x) (ho : oneB m.c.toNat m.p = true) : oneB x.c.toNat x.p = true ∧ x.p.getD 0 0 = m.p.getD 0 0 := by
  obtain ⟨hf, hl⟩ := check_inv H.chk
  have hb := fits_inv hf
  have h := H.one ho
  have hpos : 0 < x.p.length := by
    have h1 : 1 ≤ x.w * x.h := by have := Int.mul_le_mul hb.2.1 hb.2.2.2.1 (by omega) (by omega); omega
    have h2 : 1 ≤ x.w * x.h * x.c := by have := Int.mul_le_mul h1 (show 1 ≤ x.c by omega) (by omega) (by omega); omega
    omega
  refine ⟨decide_eq_true fun i hi => ?_, ?_⟩
  · rw [H.c, h i hi]
    by_cases h0 : i % m.c.toNat < x.p.length
    · rw [h _ h0, Nat.mod_mod]
    · have := Nat.mod_le i m.c.toNat
      omega
  · have := h 0 hpos
    rw [this, Nat.zero_mod]
theorem PyP.pos {m x : Im} {lo hi : Int} (H : PyP m lo hi x) : 1 ≤ x.c ∧ x.c ≤ 4 ∧ x.c ≤ (x.p.length : Int) ∧ x.p.length ≤ 16777216 := by
  obtain ⟨hf, hl⟩ := check_inv H.chk
  have hb := fits_inv hf
  have h1 : 1 ≤ x.w * x.h := by have := Int.mul_le_mul hb.2.1 hb.2.2.2.1 (by omega) (by omega); omega
  have h2 : 1 * x.c ≤ x.w * x.h * x.c := Int.mul_le_mul_of_nonneg_right h1 (by omega)
  omega
theorem walk_MipBetween' (w h c : Int) (p : List Int) (n : Int) (hp : Bytes p) (W : World) {cl : List Value} (hc : CRel noN W NoO [imA w h c p, .int .i64 n] cl) :
    Calls Try.prog 9 cl.toArray W fun e W' => e = .returned (.bool true) ∧ Below W.heap.size W W' := by
  by_cases hbad : imCheck w h c p.length ≠ 0 ∨ n < 0 ∨ 15 < n
  · refine law_of (C := mkC 0 [(30, fewS), (39, pyrBad), (22, checkS), (40, sN (.bool true))] noG)
      (mkC_ok (pok_cons few_s (pok_cons pyrBad_s (pok_cons rcheck7_s (pok_cons alive31_s pok_nil)))) noG_ok) rfl ⟨Try.func9, by kernel_rfl, by kernel_rfl, by kernel_rfl⟩ (by exact Nat.le_of_ble_eq_true rfl) ?_ hc
    have e : pyrE w h c p ≠ 0 := by unfold pyrE; split <;> omega
    by_cases hfew : (p.length : Int) ≤ 20000
    · (repeat' (first | (refine And.intro (fun (hfk : _ = true) => ?_) (fun (hfk : _ = false) => ?_) <;> ((try (first | replace hfk := of_decide_eq_true hfk | replace hfk := of_decide_eq_false hfk | simp only [decide_eq_true_eq, decide_eq_false_iff_not, dh1, dh0, ne_eq, reduceCtorEq] at hfk)); (try (exfalso; first | omega | contradiction | exact Bool.noConfusion (Eq.trans (Eq.symm hfk) (by with_reducible assumption : _ = false)) | exact Bool.noConfusion (Eq.trans (Eq.symm hfk) (by with_reducible assumption : _ = true)))))) | (refine And.intro ?ob ?_; (case ob => (first | exact Chk.mk (by kernel_rfl) | exact True.intro | with_reducible assumption | exact rng64 (by omega) (by omega) | omega | (dsimp only; omega) | (show (_ : Nat) ≤ _; omega) | (simp only [ll1, ll2, ll0]; done) | (simp only [ll1, ll2, ll0]; omega) | (dsimp only; simp only [ll1, ll2, ll0]; omega)))) | exact True.intro | (show _ = _; first | with_reducible rfl | with_reducible assumption | omega | (simp only [ll1, ll2, ll0]; omega) | (skip; done) | exact rfl) | with_reducible assumption | (apply And.intro) | omega | (intro j hj; exact rfl) | fail))
    · (repeat' (first | (refine And.intro (fun (hfk : _ = true) => ?_) (fun (hfk : _ = false) => ?_) <;> ((try (first | replace hfk := of_decide_eq_true hfk | replace hfk := of_decide_eq_false hfk | simp only [decide_eq_true_eq, decide_eq_false_iff_not, dh1, dh0, ne_eq, reduceCtorEq] at hfk)); (try (exfalso; first | omega | contradiction | exact Bool.noConfusion (Eq.trans (Eq.symm hfk) (by with_reducible assumption : _ = false)) | exact Bool.noConfusion (Eq.trans (Eq.symm hfk) (by with_reducible assumption : _ = true)))))) | (refine And.intro ?ob ?_; (case ob => (first | exact Chk.mk (by kernel_rfl) | exact True.intro | with_reducible assumption | exact rng64 (by omega) (by omega) | omega | (dsimp only; omega) | (show (_ : Nat) ≤ _; omega) | (simp only [ll1, ll2, ll0]; done) | (simp only [ll1, ll2, ll0]; omega) | (dsimp only; simp only [ll1, ll2, ll0]; omega)))) | exact True.intro | (show _ = _; first | with_reducible rfl | with_reducible assumption | omega | (simp only [ll1, ll2, ll0]; omega) | (skip; done) | exact rfl) | with_reducible assumption | (apply And.intro) | omega | (intro j hj; exact rfl) | fail))
  have hk : imCheck w h c p.length = 0 := Classical.byContradiction fun k => hbad (.inl k)
  have hn0 : 0 ≤ n ∧ n ≤ 15 := by
    have : ¬ (n < 0 ∨ 15 < n) := fun k => hbad (.inr k)
    omega
  refine law_of (C := mkK 0 [(30, fewS), (39, pyrOk), (22, checkS), (41, oneS28), (40, sN (.bool true))] noG [6, 14])
      (mkK_ok (pok_cons few_s (pok_cons pyrOk_s (pok_cons rcheck7_s (pok_cons one28_s (pok_cons alive31_s pok_nil))))) noG_ok) rfl ⟨Try.func9, by kernel_rfl, by kernel_rfl, by kernel_rfl⟩ (by exact Nat.le_of_ble_eq_true rfl) ?_ hc
  by_cases hfew : (p.length : Int) ≤ 20000
  rotate_left
  · (repeat' (first | (refine And.intro (fun (hfk : _ = true) => ?_) (fun (hfk : _ = false) => ?_) <;> ((try (first | replace hfk := of_decide_eq_true hfk | replace hfk := of_decide_eq_false hfk | simp only [decide_eq_true_eq, decide_eq_false_iff_not, dh1, dh0, ne_eq, reduceCtorEq] at hfk)); (try (exfalso; first | omega | contradiction | exact Bool.noConfusion (Eq.trans (Eq.symm hfk) (by with_reducible assumption : _ = false)) | exact Bool.noConfusion (Eq.trans (Eq.symm hfk) (by with_reducible assumption : _ = true)))))) | (refine And.intro ?ob ?_; (case ob => (first | exact Chk.mk (by kernel_rfl) | exact True.intro | with_reducible assumption | exact rng64 (by omega) (by omega) | omega | (dsimp only; omega) | (show (_ : Nat) ≤ _; omega) | (simp only [ll1, ll2, ll0]; done) | (simp only [ll1, ll2, ll0]; omega) | (dsimp only; simp only [ll1, ll2, ll0]; omega)))) | exact True.intro | (show _ = _; first | with_reducible rfl | with_reducible assumption | omega | (simp only [ll1, ll2, ll0]; omega) | (skip; done) | exact rfl) | with_reducible assumption | (apply And.intro) | omega | (intro j hj; exact rfl) | fail))
  have st := startP ⟨w, h, c, p⟩ hk hp
  have sp := st.pos
  have sp1 : 1 ≤ c := sp.1
  have sp2 : c ≤ 4 := sp.2.1
  have sp3 : c ≤ (p.length : Int) := sp.2.2.1
  clear sp
  obtain ⟨hn0, hn1⟩ := hn0
  have hall := fun x hx => pyrG_all (mn_0 hp p.length) (mx_255 hp p.length) (n := n.toNat) st x hx
  have hlen := pyrG_len (n := n.toNat) (m := ⟨w, h, c, p⟩)
  have hone : ∀ x ∈ pyrG n.toNat ⟨w, h, c, p⟩, oneB c.toNat p = true → oneB x.c.toNat x.p = true ∧ x.p.getD 0 0 = p.getD 0 0 := fun x hx ho => (hall x hx).one' ho
  obtain ⟨L, hL⟩ : ∃ L, pyrG n.toNat ⟨w, h, c, p⟩ = L := ⟨_, rfl⟩
  rw [hL] at hlen hall hone
  obtain ⟨o, ho⟩ : ∃ o, oneB c.toNat p = o := ⟨_, rfl⟩
  rw [ho] at hone
  obtain ⟨lo, hlo⟩ : ∃ lo, mnL p p.length = lo := ⟨_, rfl⟩
  obtain ⟨up, hhi⟩ : ∃ up, mxL p p.length = up := ⟨_, rfl⟩
  have hall : ∀ x ∈ L, PyP ⟨w, h, c, p⟩ lo up x := fun x hx => by rw [← hlo, ← hhi]; exact hall x hx
  obtain ⟨N, hN⟩ : ∃ N, p.length = N := ⟨_, rfl⟩
  (repeat' (first | (refine And.intro (fun (hfk : _ = true) => ?_) (fun (hfk : _ = false) => ?_) <;> ((try (first | replace hfk := of_decide_eq_true hfk | replace hfk := of_decide_eq_false hfk | simp only [decide_eq_true_eq, decide_eq_false_iff_not, dh1, dh0, ne_eq, reduceCtorEq] at hfk)); (try (exfalso; first | omega | contradiction | exact Bool.noConfusion (Eq.trans (Eq.symm hfk) (by with_reducible assumption : _ = false)) | exact Bool.noConfusion (Eq.trans (Eq.symm hfk) (by with_reducible assumption : _ = true)))))) | (refine And.intro ?ob ?_; (case ob => (first | exact Chk.mk (by kernel_rfl) | exact True.intro | with_reducible assumption | exact rng64 (by omega) (by omega) | omega | (dsimp only; omega) | (show (_ : Nat) ≤ _; omega) | (simp only [ll1, ll2, ll0]; done) | (simp only [ll1, ll2, ll0]; omega) | (dsimp only; simp only [ll1, ll2, ll0]; omega)))) | exact True.intro | (show _ = _; first | with_reducible rfl | with_reducible assumption | omega | (simp only [ll1, ll2, ll0]; omega) | (skip; done) | exact rfl) | with_reducible assumption | (apply And.intro) | omega | (intro j hj; exact rfl) | fail))
  refine ⟨[(2, .ptr 0 0), (4, .fls), (5, imsA L), (7, .bool o)],
      ⟨1, [(0, some (.cells 26 [.int .i64 w, .int .i64 h, .int .i64 c, .roi .u8 p]))]⟩, [some 0], ?_, ?_⟩
  · have hL1 : (pyrG n.toNat ⟨w, h, c, p⟩).length = L.length := congrArg List.length hL
    (repeat' (first | (refine And.intro (fun (hfk : _ = true) => ?_) (fun (hfk : _ = false) => ?_) <;> ((try (first | replace hfk := of_decide_eq_true hfk | replace hfk := of_decide_eq_false hfk | simp only [decide_eq_true_eq, decide_eq_false_iff_not, dh1, dh0, ne_eq, reduceCtorEq] at hfk)); (try (exfalso; first | omega | contradiction | exact Bool.noConfusion (Eq.trans (Eq.symm hfk) (by with_reducible assumption : _ = false)) | exact Bool.noConfusion (Eq.trans (Eq.symm hfk) (by with_reducible assumption : _ = true)))))) | (refine And.intro ?ob ?_; (case ob => (first | exact Chk.mk (by kernel_rfl) | exact True.intro | with_reducible assumption | exact rng64 (by omega) (by omega) | omega | (dsimp only; omega) | (show (_ : Nat) ≤ _; omega) | (simp only [ll1, ll2, ll0]; done) | (simp only [ll1, ll2, ll0]; omega) | (dsimp only; simp only [ll1, ll2, ll0]; omega)))) | exact True.intro | (show _ = _; first | with_reducible rfl | with_reducible assumption | omega | (simp only [ll1, ll2, ll0]; omega) | ((first | exact hL1 | exact ho); done) | exact rfl) | with_reducible assumption | (apply And.intro) | omega | (intro j hj; exact rfl) | fail))
    intro j hj
    show ((pyrG n.toNat ⟨w, h, c, p⟩).getD j Im.z).av = _
    rw [hL]
  (repeat' (first | (refine And.intro (fun (hfk : _ = true) => ?_) (fun (hfk : _ = false) => ?_) <;> ((try (first | replace hfk := of_decide_eq_true hfk | replace hfk := of_decide_eq_false hfk | simp only [decide_eq_true_eq, decide_eq_false_iff_not, dh1, dh0, ne_eq, reduceCtorEq] at hfk)); (try (exfalso; first | omega | contradiction | exact Bool.noConfusion (Eq.trans (Eq.symm hfk) (by with_reducible assumption : _ = false)) | exact Bool.noConfusion (Eq.trans (Eq.symm hfk) (by with_reducible assumption : _ = true)))))) | (refine And.intro ?ob ?_; (case ob => (first | exact Chk.mk (by kernel_rfl) | exact True.intro | with_reducible assumption | exact rng64 (by omega) (by omega) | omega | (dsimp only; omega) | (show (_ : Nat) ≤ _; omega) | (simp only [ll1, ll2, ll0]; done) | (simp only [ll1, ll2, ll0]; omega) | (dsimp only; simp only [ll1, ll2, ll0]; omega)))) | exact True.intro | (show _ = _; first | with_reducible rfl | with_reducible assumption | omega | (simp only [ll1, ll2, ll0]; omega) | (skip; done) | exact rfl) | with_reducible assumption | (apply And.intro) | omega | (intro j hj; exact rfl) | fail))
  refine ⟨Nat, fun i => [(2, .ptr 0 0), (4, .fls), (5, imsA L), (7, .bool o), (8, .int .u8 (mnL p i)), (9, .int .u8 (mxL p i)), (10, .int .i64 (i : Int))],
      fun i => ⟨1, [(0, some (.cells 26 [.int .i64 w, .int .i64 h, .int .i64 c, .roi .u8 p]))]⟩, fun i => i ≤ N, fun i => N - i, ⟨0, [some 0], Nat.zero_le _, ?_⟩, fun i hi => ?_⟩
  · (repeat' (first | (refine And.intro (fun (hfk : _ = true) => ?_) (fun (hfk : _ = false) => ?_) <;> ((try (first | replace hfk := of_decide_eq_true hfk | replace hfk := of_decide_eq_false hfk | simp only [decide_eq_true_eq, decide_eq_false_iff_not, dh1, dh0, ne_eq, reduceCtorEq] at hfk)); (try (exfalso; first | omega | contradiction | exact Bool.noConfusion (Eq.trans (Eq.symm hfk) (by with_reducible assumption : _ = false)) | exact Bool.noConfusion (Eq.trans (Eq.symm hfk) (by with_reducible assumption : _ = true)))))) | (refine And.intro ?ob ?_; (case ob => (first | exact Chk.mk (by kernel_rfl) | exact True.intro | with_reducible assumption | exact rng64 (by omega) (by omega) | omega | (dsimp only; omega) | (show (_ : Nat) ≤ _; omega) | (simp only [ll1, ll2, ll0]; done) | (simp only [ll1, ll2, ll0]; omega) | (dsimp only; simp only [ll1, ll2, ll0]; omega)))) | exact True.intro | (show _ = _; first | with_reducible rfl | with_reducible assumption | omega | (simp only [ll1, ll2, ll0]; omega) | (skip; done) | exact rfl) | with_reducible assumption | (apply And.intro) | omega | (intro j hj; exact rfl) | fail))
  have hi' : i ≤ N := hi
  by_cases hlt : i < N
  · (repeat' (first | (refine And.intro (fun (hfk : _ = true) => ?_) (fun (hfk : _ = false) => ?_) <;> ((try (first | replace hfk := of_decide_eq_true hfk | replace hfk := of_decide_eq_false hfk | simp only [decide_eq_true_eq, decide_eq_false_iff_not, dh1, dh0, ne_eq, reduceCtorEq] at hfk)); (try (exfalso; first | omega | contradiction | exact Bool.noConfusion (Eq.trans (Eq.symm hfk) (by with_reducible assumption : _ = false)) | exact Bool.noConfusion (Eq.trans (Eq.symm hfk) (by with_reducible assumption : _ = true)))))) | (refine And.intro ?ob ?_; (case ob => (first | exact Chk.mk (by kernel_rfl) | exact True.intro | with_reducible assumption | exact rng64 (by omega) (by omega) | omega | (dsimp only; omega) | (show (_ : Nat) ≤ _; omega) | (simp only [ll1, ll2, ll0]; done) | (simp only [ll1, ll2, ll0]; omega) | (dsimp only; simp only [ll1, ll2, ll0]; omega)))) | exact True.intro | (show _ = _; first | with_reducible rfl | with_reducible assumption | omega | (simp only [ll1, ll2, ll0]; omega) | (skip; done) | exact rfl) | with_reducible assumption | (apply And.intro) | omega | (intro j hj; exact rfl) | fail))
    (refine ⟨i + 1, [some 0], ?_, ?mu, ?_⟩; (case mu => ((try dsimp only); omega)))
    · exact hlt
    (repeat' (first | (refine And.intro (fun (hfk : _ = true) => ?_) (fun (hfk : _ = false) => ?_) <;> ((try (first | replace hfk := of_decide_eq_true hfk | replace hfk := of_decide_eq_false hfk | simp only [decide_eq_true_eq, decide_eq_false_iff_not, dh1, dh0, ne_eq, reduceCtorEq] at hfk)); (try (exfalso; first | omega | contradiction | exact Bool.noConfusion (Eq.trans (Eq.symm hfk) (by with_reducible assumption : _ = false)) | exact Bool.noConfusion (Eq.trans (Eq.symm hfk) (by with_reducible assumption : _ = true)))))) | (refine And.intro ?ob ?_; (case ob => (first | exact Chk.mk (by kernel_rfl) | exact True.intro | with_reducible assumption | exact rng64 (by omega) (by omega) | omega | (dsimp only; omega) | (show (_ : Nat) ≤ _; omega) | (simp only [ll1, ll2, ll0]; done) | (simp only [ll1, ll2, ll0]; omega) | (dsimp only; simp only [ll1, ll2, ll0]; omega)))) | exact True.intro | (show _ = _; first | with_reducible rfl | with_reducible assumption | omega | (simp only [ll1, ll2, ll0]; omega) | (skip; done) | exact rfl) | with_reducible assumption | (apply And.intro) | omega | (intro j hj; exact rfl) | fail))
  obtain rfl : i = N := by omega
  subst hN
  (repeat' (first | (refine And.intro (fun (hfk : _ = true) => ?_) (fun (hfk : _ = false) => ?_) <;> ((try (first | replace hfk := of_decide_eq_true hfk | replace hfk := of_decide_eq_false hfk | simp only [decide_eq_true_eq, decide_eq_false_iff_not, dh1, dh0, ne_eq, reduceCtorEq] at hfk)); (try (exfalso; first | omega | contradiction | exact Bool.noConfusion (Eq.trans (Eq.symm hfk) (by with_reducible assumption : _ = false)) | exact Bool.noConfusion (Eq.trans (Eq.symm hfk) (by with_reducible assumption : _ = true)))))) | (refine And.intro ?ob ?_; (case ob => (first | exact Chk.mk (by kernel_rfl) | exact True.intro | with_reducible assumption | exact rng64 (by omega) (by omega) | omega | (dsimp only; omega) | (show (_ : Nat) ≤ _; omega) | (simp only [ll1, ll2, ll0]; done) | (simp only [ll1, ll2, ll0]; omega) | (dsimp only; simp only [ll1, ll2, ll0]; omega)))) | exact True.intro | (show _ = _; first | with_reducible rfl | with_reducible assumption | omega | (simp only [ll1, ll2, ll0]; omega) | (skip; done) | exact rfl) | with_reducible assumption | (apply And.intro) | omega | (intro j hj; exact rfl) | fail))
  refine ⟨Nat, fun k => [(2, .ptr 0 0), (4, .fls), (5, imsA L), (7, .bool o), (8, .int .u8 lo), (9, .int .u8 up), (68, imsA L), (69, .int .i64 (L.length : Int)), (70, .int .i64 (k : Int))],
      fun k => ⟨1, [(0, some (.cells 26 [.int .i64 w, .int .i64 h, .int .i64 c, .roi .u8 p]))]⟩, fun k => k ≤ L.length, fun k => L.length - k, ⟨0, [some 0], Nat.zero_le _, ?_⟩, fun k hk => ?_⟩
  · (repeat' (first | (refine And.intro (fun (hfk : _ = true) => ?_) (fun (hfk : _ = false) => ?_) <;> ((try (first | replace hfk := of_decide_eq_true hfk | replace hfk := of_decide_eq_false hfk | simp only [decide_eq_true_eq, decide_eq_false_iff_not, dh1, dh0, ne_eq, reduceCtorEq] at hfk)); (try (exfalso; first | omega | contradiction | exact Bool.noConfusion (Eq.trans (Eq.symm hfk) (by with_reducible assumption : _ = false)) | exact Bool.noConfusion (Eq.trans (Eq.symm hfk) (by with_reducible assumption : _ = true)))))) | (refine And.intro ?ob ?_; (case ob => (first | exact Chk.mk (by kernel_rfl) | exact True.intro | with_reducible assumption | exact rng64 (by omega) (by omega) | omega | (dsimp only; omega) | (show (_ : Nat) ≤ _; omega) | (simp only [ll1, ll2, ll0]; done) | (simp only [ll1, ll2, ll0]; omega) | (dsimp only; simp only [ll1, ll2, ll0]; omega)))) | exact True.intro | (show _ = _; first | with_reducible rfl | with_reducible assumption | omega | (simp only [ll1, ll2, ll0]; omega) | ((first | exact hlo | exact hhi); done) | exact rfl) | with_reducible assumption | (apply And.intro) | omega | (intro j hj; exact rfl) | fail))
  have hk : k ≤ L.length := hk
  by_cases hkl : k < L.length
  · obtain ⟨x, hx⟩ : ∃ x, L.getD (k : Int).toNat Im.z = x := ⟨_, rfl⟩
    have hm : x ∈ L := by
      rw [← hx, Int.toNat_natCast]
      simp only [List.getD, List.getElem?_eq_getElem hkl, Option.getD_some]
      exact List.getElem_mem hkl
    have X := hall x hm
    have X1 := hone x hm
    obtain ⟨x1, x2, x3, x4⟩ := X.pos
    have xr := X.rng
    (repeat' (first | (refine And.intro (fun (hfk : _ = true) => ?_) (fun (hfk : _ = false) => ?_) <;> ((try (first | replace hfk := of_decide_eq_true hfk | replace hfk := of_decide_eq_false hfk | simp only [decide_eq_true_eq, decide_eq_false_iff_not, dh1, dh0, ne_eq, reduceCtorEq] at hfk)); (try (exfalso; first | omega | contradiction | exact Bool.noConfusion (Eq.trans (Eq.symm hfk) (by with_reducible assumption : _ = false)) | exact Bool.noConfusion (Eq.trans (Eq.symm hfk) (by with_reducible assumption : _ = true)))))) | (refine And.intro ?ob ?_; (case ob => (first | exact Chk.mk (by kernel_rfl) | exact True.intro | with_reducible assumption | exact rng64 (by omega) (by omega) | omega | (dsimp only; omega) | (show (_ : Nat) ≤ _; omega) | (simp only [ll1, ll2, ll0]; done) | (simp only [ll1, ll2, ll0]; omega) | (dsimp only; simp only [ll1, ll2, ll0]; omega)))) | exact True.intro | (show _ = _; first | with_reducible rfl | with_reducible assumption | omega | (simp only [ll1, ll2, ll0]; omega) | (skip; done) | exact rfl) | with_reducible assumption | (apply And.intro) | omega | (intro j hj; exact rfl) | fail))
    refine ⟨[(2, .ptr 0 0), (4, .fls), (5, imsA L), (7, .bool o), (8, .int .u8 lo), (9, .int .u8 up), (12, .ptr 1 0), (68, imsA L), (69, .int .i64 (L.length : Int)), (70, .int .i64 (k : Int))],
      ⟨2, [(0, some (.cells 26 [.int .i64 w, .int .i64 h, .int .i64 c, .roi .u8 p])), (1, some (.cells 26 [.int .i64 x.w, .int .i64 x.h, .int .i64 x.c, .roi .u8 x.p]))]⟩, [some 0, some 1], ?_, ?_⟩
    · (repeat' (first | (refine And.intro ?_ ?_) | exact True.intro | (show _ = _; with_reducible rfl) | exact Chk.mk (by kernel_rfl)))
      all_goals first
        | exact congrArg Im.w hx
        | exact congrArg Im.h hx
        | exact congrArg Im.c hx
        | exact congrArg Im.p hx
        | (intro j hj; rfl)
    have x4' : x.p.length ≤ 1152921504606846975 := by omega
    cases o
    · skip
      (repeat' (first | (refine And.intro (fun (hfk : _ = true) => ?_) (fun (hfk : _ = false) => ?_) <;> ((try (first | replace hfk := of_decide_eq_true hfk | replace hfk := of_decide_eq_false hfk | simp only [decide_eq_true_eq, decide_eq_false_iff_not, dh1, dh0, ne_eq, reduceCtorEq] at hfk)); (try (exfalso; first | omega | contradiction | exact Bool.noConfusion (Eq.trans (Eq.symm hfk) (by with_reducible assumption : _ = false)) | exact Bool.noConfusion (Eq.trans (Eq.symm hfk) (by with_reducible assumption : _ = true)))))) | (refine And.intro ?ob ?_; (case ob => (first | exact Chk.mk (by kernel_rfl) | exact True.intro | with_reducible assumption | exact rng64 (by omega) (by omega) | omega | (dsimp only; omega) | (show (_ : Nat) ≤ _; omega) | (simp only [ll1, ll2, ll0]; done) | (simp only [ll1, ll2, ll0]; omega) | (dsimp only; simp only [ll1, ll2, ll0]; omega)))) | exact True.intro | (show _ = _; first | with_reducible rfl | with_reducible assumption | omega | (simp only [ll1, ll2, ll0]; omega) | (skip; done) | exact rfl) | with_reducible assumption | (apply And.intro) | omega | (intro j hj; exact rfl) | fail))
      refine ⟨Nat, fun i => [(2, .ptr 0 0), (4, .fls), (5, imsA L), (7, .bool false), (8, .int .u8 lo), (9, .int .u8 up), (12, .ptr 1 0), (13, .int .i64 (i : Int)), (68, imsA L), (69, .int .i64 (L.length : Int)), (70, .int .i64 (k : Int))],
        fun i => ⟨2, [(0, some (.cells 26 [.int .i64 w, .int .i64 h, .int .i64 c, .roi .u8 p])), (1, some (.cells 26 [.int .i64 x.w, .int .i64 x.h, .int .i64 x.c, .roi .u8 x.p]))]⟩,
        fun i => i ≤ x.p.length, fun i => x.p.length - i, ⟨0, [some 0, some 1], Nat.zero_le _, ?_⟩, fun i hi => ?_⟩
      · (repeat' (first | (refine And.intro ?_ ?_) | exact True.intro | (show _ = _; with_reducible rfl) | exact Chk.mk (by kernel_rfl)))
        all_goals first | (intro j hj; rfl) | (show (_ : Int) = _; omega) | rfl
      have hi : i ≤ x.p.length := hi
      by_cases hix : i < x.p.length
      · have xm : x.p.getD (i : Int).toNat 0 ∈ x.p := by
          rw [Int.toNat_natCast]
          simp only [List.getD, List.getElem?_eq_getElem hix, Option.getD_some]
          exact List.getElem_mem hix
        have xb := xr _ xm
        (repeat' (first | (refine And.intro (fun (hfk : _ = true) => ?_) (fun (hfk : _ = false) => ?_) <;> ((try (first | replace hfk := of_decide_eq_true hfk | replace hfk := of_decide_eq_false hfk | simp only [decide_eq_true_eq, decide_eq_false_iff_not, dh1, dh0, ne_eq, reduceCtorEq] at hfk)); (try (exfalso; first | omega | contradiction | exact Bool.noConfusion (Eq.trans (Eq.symm hfk) (by with_reducible assumption : _ = false)) | exact Bool.noConfusion (Eq.trans (Eq.symm hfk) (by with_reducible assumption : _ = true)))))) | (refine And.intro ?ob ?_; (case ob => (first | exact Chk.mk (by kernel_rfl) | exact True.intro | with_reducible assumption | exact rng64 (by omega) (by omega) | omega | (dsimp only; omega) | (show (_ : Nat) ≤ _; omega) | (simp only [ll1, ll2, ll0]; done) | (simp only [ll1, ll2, ll0]; omega) | (dsimp only; simp only [ll1, ll2, ll0]; omega)))) | exact True.intro | (show _ = _; first | with_reducible rfl | with_reducible assumption | omega | (simp only [ll1, ll2, ll0]; omega) | (skip; done) | exact rfl) | with_reducible assumption | (apply And.intro) | omega | (intro j hj; exact rfl) | fail))
        (refine ⟨i + 1, [some 0, some 1], ?_, ?mu, ?_⟩; (case mu => ((try dsimp only); omega)))
        · exact hix
        (repeat' (first | (refine And.intro ?_ ?_) | exact True.intro | (show _ = _; with_reducible rfl) | exact Chk.mk (by kernel_rfl)))
        all_goals first | (intro j hj; rfl) | (show (_ : Int) = _; omega) | rfl
      · (repeat' (first | (refine And.intro (fun (hfk : _ = true) => ?_) (fun (hfk : _ = false) => ?_) <;> ((try (first | replace hfk := of_decide_eq_true hfk | replace hfk := of_decide_eq_false hfk | simp only [decide_eq_true_eq, decide_eq_false_iff_not, dh1, dh0, ne_eq, reduceCtorEq] at hfk)); (try (exfalso; first | omega | contradiction | exact Bool.noConfusion (Eq.trans (Eq.symm hfk) (by with_reducible assumption : _ = false)) | exact Bool.noConfusion (Eq.trans (Eq.symm hfk) (by with_reducible assumption : _ = true)))))) | (refine And.intro ?ob ?_; (case ob => (first | exact Chk.mk (by kernel_rfl) | exact True.intro | with_reducible assumption | exact rng64 (by omega) (by omega) | omega | (dsimp only; omega) | (show (_ : Nat) ≤ _; omega) | (simp only [ll1, ll2, ll0]; done) | (simp only [ll1, ll2, ll0]; omega) | (dsimp only; simp only [ll1, ll2, ll0]; omega)))) | exact True.intro | (show _ = _; first | with_reducible rfl | with_reducible assumption | omega | (simp only [ll1, ll2, ll0]; omega) | (skip; done) | exact rfl) | with_reducible assumption | (apply And.intro) | omega | (intro j hj; exact rfl) | fail))
        (refine ⟨k + 1, [some 0], ?_, ?mu, ?_⟩; (case mu => ((try dsimp only); omega)))
        · exact hkl
        (repeat' (first | (refine And.intro ?_ ?_) | exact True.intro | (show _ = _; with_reducible rfl) | exact Chk.mk (by kernel_rfl)))
        all_goals first | (intro j hj; rfl) | (show (_ : Int) = _; omega) | rfl
    · obtain ⟨y1, y2⟩ := X1 rfl
      have y3 : x.p.getD (Int.toNat 0) 0 = p.getD (Int.toNat 0) 0 := y2
      (repeat' (first | (refine And.intro (fun (hfk : _ = true) => ?_) (fun (hfk : _ = false) => ?_) <;> ((try (first | replace hfk := of_decide_eq_true hfk | replace hfk := of_decide_eq_false hfk | simp only [decide_eq_true_eq, decide_eq_false_iff_not, dh1, dh0, ne_eq, reduceCtorEq] at hfk)); (try (exfalso; first | omega | contradiction | exact Bool.noConfusion (Eq.trans (Eq.symm hfk) (by with_reducible assumption : _ = false)) | exact Bool.noConfusion (Eq.trans (Eq.symm hfk) (by with_reducible assumption : _ = true)))))) | (refine And.intro ?ob ?_; (case ob => (first | exact Chk.mk (by kernel_rfl) | exact True.intro | with_reducible assumption | exact rng64 (by omega) (by omega) | omega | (dsimp only; omega) | (show (_ : Nat) ≤ _; omega) | (simp only [ll1, ll2, ll0]; done) | (simp only [ll1, ll2, ll0]; omega) | (dsimp only; simp only [ll1, ll2, ll0]; omega)))) | exact True.intro | (show _ = _; first | with_reducible rfl | with_reducible assumption | omega | (simp only [ll1, ll2, ll0]; omega) | (skip; done) | exact rfl) | with_reducible assumption | (apply And.intro) | omega | (intro j hj; exact rfl) | fail))
      refine ⟨Nat, fun i => [(2, .ptr 0 0), (4, .fls), (5, imsA L), (7, .bool true), (8, .int .u8 lo), (9, .int .u8 up), (12, .ptr 1 0), (13, .int .i64 (i : Int)), (68, imsA L), (69, .int .i64 (L.length : Int)), (70, .int .i64 (k : Int))],
        fun i => ⟨2, [(0, some (.cells 26 [.int .i64 w, .int .i64 h, .int .i64 c, .roi .u8 p])), (1, some (.cells 26 [.int .i64 x.w, .int .i64 x.h, .int .i64 x.c, .roi .u8 x.p]))]⟩,
        fun i => i ≤ x.p.length, fun i => x.p.length - i, ⟨0, [some 0, some 1], Nat.zero_le _, ?_⟩, fun i hi => ?_⟩
      · (repeat' (first | (refine And.intro ?_ ?_) | exact True.intro | (show _ = _; with_reducible rfl) | exact Chk.mk (by kernel_rfl)))
        all_goals first | (intro j hj; rfl) | (show (_ : Int) = _; omega) | rfl
      have hi : i ≤ x.p.length := hi
      by_cases hix : i < x.p.length
      · have xm : x.p.getD (i : Int).toNat 0 ∈ x.p := by
          rw [Int.toNat_natCast]
          simp only [List.getD, List.getElem?_eq_getElem hix, Option.getD_some]
          exact List.getElem_mem hix
        have xb := xr _ xm
        (repeat' (first | (refine And.intro (fun (hfk : _ = true) => ?_) (fun (hfk : _ = false) => ?_) <;> ((try (first | replace hfk := of_decide_eq_true hfk | replace hfk := of_decide_eq_false hfk | simp only [decide_eq_true_eq, decide_eq_false_iff_not, dh1, dh0, ne_eq, reduceCtorEq] at hfk)); (try (exfalso; first | omega | contradiction | exact Bool.noConfusion (Eq.trans (Eq.symm hfk) (by with_reducible assumption : _ = false)) | exact Bool.noConfusion (Eq.trans (Eq.symm hfk) (by with_reducible assumption : _ = true)))))) | (refine And.intro ?ob ?_; (case ob => (first | exact Chk.mk (by kernel_rfl) | exact True.intro | with_reducible assumption | exact rng64 (by omega) (by omega) | omega | (dsimp only; omega) | (show (_ : Nat) ≤ _; omega) | (simp only [ll1, ll2, ll0]; done) | (simp only [ll1, ll2, ll0]; omega) | (dsimp only; simp only [ll1, ll2, ll0]; omega)))) | exact True.intro | (show _ = _; first | with_reducible rfl | with_reducible assumption | omega | (simp only [ll1, ll2, ll0]; omega) | (skip; done) | exact rfl) | with_reducible assumption | (apply And.intro) | omega | (intro j hj; exact rfl) | fail))
        (refine ⟨i + 1, [some 0, some 1], ?_, ?mu, ?_⟩; (case mu => ((try dsimp only); omega)))
        · exact hix
        (repeat' (first | (refine And.intro ?_ ?_) | exact True.intro | (show _ = _; with_reducible rfl) | exact Chk.mk (by kernel_rfl)))
        all_goals first | (intro j hj; rfl) | (show (_ : Int) = _; omega) | rfl
      · (repeat' (first | (refine And.intro (fun (hfk : _ = true) => ?_) (fun (hfk : _ = false) => ?_) <;> ((try (first | replace hfk := of_decide_eq_true hfk | replace hfk := of_decide_eq_false hfk | simp only [decide_eq_true_eq, decide_eq_false_iff_not, dh1, dh0, ne_eq, reduceCtorEq] at hfk)); (try (exfalso; first | omega | contradiction | exact Bool.noConfusion (Eq.trans (Eq.symm hfk) (by with_reducible assumption : _ = false)) | exact Bool.noConfusion (Eq.trans (Eq.symm hfk) (by with_reducible assumption : _ = true)))))) | (refine And.intro ?ob ?_; (case ob => (first | exact Chk.mk (by kernel_rfl) | exact True.intro | with_reducible assumption | exact rng64 (by omega) (by omega) | omega | (dsimp only; omega) | (show (_ : Nat) ≤ _; omega) | (simp only [ll1, ll2, ll0]; done) | (simp only [ll1, ll2, ll0]; omega) | (dsimp only; simp only [ll1, ll2, ll0]; omega)))) | exact True.intro | (show _ = _; first | with_reducible rfl | with_reducible assumption | omega | (simp only [ll1, ll2, ll0]; omega) | (skip; done) | exact rfl) | with_reducible assumption | (apply And.intro) | omega | (intro j hj; exact rfl) | fail))
        (refine ⟨k + 1, [some 0], ?_, ?mu, ?_⟩; (case mu => ((try dsimp only); omega)))
        · exact hkl
        (repeat' (first | (refine And.intro ?_ ?_) | exact True.intro | (show _ = _; with_reducible rfl) | exact Chk.mk (by kernel_rfl)))
        all_goals first | (intro j hj; rfl) | (show (_ : Int) = _; omega) | rfl
  · (repeat' (first | (refine And.intro (fun (hfk : _ = true) => ?_) (fun (hfk : _ = false) => ?_) <;> ((try (first | replace hfk := of_decide_eq_true hfk | replace hfk := of_decide_eq_false hfk | simp only [decide_eq_true_eq, decide_eq_false_iff_not, dh1, dh0, ne_eq, reduceCtorEq] at hfk)); (try (exfalso; first | omega | contradiction | exact Bool.noConfusion (Eq.trans (Eq.symm hfk) (by with_reducible assumption : _ = false)) | exact Bool.noConfusion (Eq.trans (Eq.symm hfk) (by with_reducible assumption : _ = true)))))) | (refine And.intro ?ob ?_; (case ob => (first | exact Chk.mk (by kernel_rfl) | exact True.intro | with_reducible assumption | exact rng64 (by omega) (by omega) | omega | (dsimp only; omega) | (show (_ : Nat) ≤ _; omega) | (simp only [ll1, ll2, ll0]; done) | (simp only [ll1, ll2, ll0]; omega) | (dsimp only; simp only [ll1, ll2, ll0]; omega)))) | exact True.intro | (show _ = _; first | with_reducible rfl | with_reducible assumption | omega | (simp only [ll1, ll2, ll0]; omega) | (skip; done) | exact rfl) | with_reducible assumption | (apply And.intro) | omega | (intro j hj; exact rfl) | fail))
end Go.Proofs.Ytchhikfiofeckaa
