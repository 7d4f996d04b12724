
/- The law TintBack. No condition. -/
import Derived.Test.YtjnkjjojkfemoaaT12c
import Derived.Test.YtjnkjjojkfemoaaT11c
namespace Go.Proofs.Ytjnkjjojkfemoaa
open Go Go.RowKit
set_option linter.unusedVariables false
set_option linter.unusedSimpArgs false
set_option maxRecDepth 100000
set_option maxHeartbeats 4000000

/-- All pieces, one behind the other, are all. -/
theorem flatK_take {p : List Int} {c : Nat} : ∀ k, k * c ≤ p.length → flatK p c (fun q => q) k = p.take (k * c)
  | 0, _ => by simp [flatK]
  | k + 1, h => by
    rw [Nat.succ_mul] at h ⊢
    show flatK p c (fun q => q) k ++ (p.drop (k * c)).take c = _
    rw [flatK_take k (by omega), List.take_add]
theorem flatK_all {p : List Int} {c Q : Nat} (h : p.length = Q * c) : flatK p c (fun q => q) Q = p := by
  rw [flatK_take Q (by omega), List.take_of_length_le (by omega)]
theorem flatK_piece {p : List Int} {c : Nat} {f : List Int → List Int} {d Q : Nat} (hf : ∀ k, k < Q → (f (piece p c k)).length = d) {k : Nat} (hk : k < Q) : piece (flatK p c f Q) d k = f (piece p c k) := by
  have hl := flatK_len hf Q (Nat.le_refl _)
  have h1 := prod_of (n := d) hk
  refine list_getD (by rw [piece_len (by omega), hf k hk]) fun j hj => ?_
  rw [piece_len (by omega)] at hj
  rw [piece_get hj]
  exact flatK_get hf Q (Nat.le_refl _) k j hk hj
theorem flatK_comp {p : List Int} {c : Nat} {f g : List Int → List Int} {d Q : Nat} (hf : ∀ k, k < Q → (f (piece p c k)).length = d) : flatK (flatK p c f Q) d g Q = flatK p c (fun q => g (f q)) Q := by
  have key : ∀ m, m ≤ Q → flatK (flatK p c f Q) d g m = flatK p c (fun q => g (f q)) m := by
    intro m
    induction m with
    | zero => intro _; rfl
    | succ m ih =>
      intro hm
      show flatK (flatK p c f Q) d g m ++ g (piece (flatK p c f Q) d m) = flatK p c (fun q => g (f q)) m ++ g (f (piece p c m))
      rw [ih (by omega), flatK_piece hf hm]
  exact key Q (Nat.le_refl _)
theorem inv_inv {C : Nat} {q : List Int} (hq : q.length = C) (hb : Bytes q) : invL' C (invL' C q) = q := by
  have h1 := invL'_len (n := C) (p := q) (by omega)
  refine list_getD (by rw [invL'_len (by omega), hq]) fun j hj => ?_
  rw [invL'_len (by omega)] at hj
  unfold invL' at h1 ⊢
  rw [invK_get _ _ _ (by rw [List.length_take]; omega) _ (by rw [List.length_take]; omega), List.take_of_length_le (by omega : (invK (List.take C q) q (min C 3)).length ≤ C), List.take_of_length_le (by omega : q.length ≤ C), invK_get _ _ _ (by omega) _ (by omega)]
  have := hb.get j
  by_cases h3 : j < min C 3
  · rw [if_pos h3, if_pos h3, w8 (n := 255 - q.getD j 0) (by omega) (by omega), w8 (by omega) (by omega)]
    omega
  · rw [if_neg h3, if_neg h3]
theorem swp_swp {C : Nat} {q : List Int} (hq : q.length = C) : swpL C (swpL C q) = q := by
  have h0 : q.take C = q := List.take_of_length_le (by omega)
  unfold swpL
  by_cases h2 : 2 < C
  · rw [if_pos h2, if_pos h2, h0]
    have hl : (swp2 q).length = C := by simp [swp2, hq]
    rw [List.take_of_length_le (by omega)]
    refine list_getD (by simp [swp2]) fun j hj => ?_
    rw [swp2_get (by omega), swp2_get (by omega), swp2_get (by omega), swp2_get (by omega)]
    by_cases j2 : j = 2
    · subst j2; rw [if_pos rfl, if_neg (by decide), if_pos rfl]
    · rw [if_neg j2, if_neg j2]
      by_cases j0 : j = 0
      · subst j0; rw [if_pos rfl, if_pos rfl]
      · rw [if_neg j0, if_neg j0]
  · rw [if_neg h2, if_neg h2, h0, h0]
theorem gry_spr {D : Nat} {q : List Int} (hq : q.length = 1) (hD : D = 3 ∨ D = 4) : gryL 1 (sprL D q) = q := by
  match q, hq with
  | [a], _ =>
    rcases hD with rfl | rfl
    · show [(128 + 77 * a + 150 * a + 29 * a) / 256] = [a]
      congr 1; omega
    · show [(128 + 77 * a + 150 * a + 29 * a) / 256] = [a]
      congr 1; omega
def chI (w h : Int) (C Q : Nat) (p : List Int) (j : Nat) : Im := ⟨w, h, 1, flatK p C (chnL j 1) Q⟩
def chIs (w h : Int) (C Q : Nat) (p : List Int) : List Im := (List.range C).map (chI w h C Q p)
theorem chIs_get {w h : Int} {C Q : Nat} {p : List Int} {j : Nat} (hj : j < C) : Lg (chIs w h C Q p) j = chI w h C Q p j := by
  unfold Lg chIs
  rw [List.getD_eq_getElem?_getD, List.getElem?_map, List.getElem?_range hj]; rfl
theorem chIs_len (w h : Int) (C Q : Nat) (p : List Int) : (chIs w h C Q p).length = C := by simp [chIs]
theorem flatK_bytes {p : List Int} {c : Nat} {f : List Int → List Int} (h : ∀ k, Bytes (f (piece p c k))) : ∀ k, Bytes (flatK p c f k)
  | 0 => fun x hx => by simp [flatK] at hx
  | k + 1 => fun x hx => by
    rcases List.mem_append.1 hx with hx | hx
    · exact flatK_bytes h k x hx
    · exact h k x hx
theorem spr_bytes {D : Nat} {q : List Int} (hq : Bytes q) : Bytes (sprL D q) := fun x hx => by
  have h0 := hq.get 0
  unfold sprL at hx
  split at hx
  · rcases List.mem_or_eq_of_mem_set hx with hx | rfl
    · have := List.eq_of_mem_replicate hx; omega
    · decide
  · have := List.eq_of_mem_replicate hx; omega
theorem check_flat {w h c d : Int} {n : Int} {Q D : Nat} (hf : fitsI w h c = 0) (hd : d = 1 ∨ d = 3 ∨ d = 4) (hQ : w * h = (Q : Int)) (hD : d = (D : Int)) {l : List Int} (hl : l.length = Q * D) : imCheck w h d l.length = 0 := by
  have h1 : fitsI w h d = 0 := by
    rcases fits_other (d := d) hf with h | h
    · exact h.2
    · omega
  unfold imCheck
  rw [if_neg (not_not_intro h1), if_neg]
  rw [hQ, hD, hl, ← Int.natCast_mul]
  exact fun h => h rfl
theorem chIs_code {w h : Int} {C Q : Nat} {p : List Int} (hf : fitsI w h C = 0) (hQ : w * h = (Q : Int)) (hC : C = 1 ∨ C = 3 ∨ C = 4) : joinC (chIs w h C Q p) = 0 := by
  have hl := chIs_len w h C Q p
  have one : ∀ j, j < C → oneC (Lg (chIs w h C Q p) j) (Lg (chIs w h C Q p) 0) = 0 := fun j hj => by
    rw [chIs_get hj, chIs_get (by omega)]
    have : imCheck w h 1 ((flatK p C (chnL j 1) Q).length : Int) = 0 := check_flat (n := 0) (Q := Q) (D := 1) hf (.inl rfl) hQ rfl (flatK_len (d := 1) (Q := Q) (fun _ _ => rfl) Q (Nat.le_refl _))
    unfold oneC chI
    rw [if_neg (not_not_intro this), if_neg (fun h => h rfl), if_neg (by simp)]
  have bad : ∀ k, k ≤ C → badC (chIs w h C Q p) k = 0 := by
    intro k
    induction k with
    | zero => intro _; rfl
    | succ k ih => intro hk; exact badC_next (ih (by omega)) (one k hk)
  unfold joinC
  rw [hl, if_pos hC, bad C (Nat.le_refl _)]
theorem chIs_join {w h : Int} {C Q : Nat} {p : List Int} (hC0 : 0 < C) (hpl : p.length = Q * C) : joinL (chIs w h C Q p) (joinN (chIs w h C Q p)) = p := by
  have hl := chIs_len w h C Q p
  have h0 : (Lg (chIs w h C Q p) 0).p.length = Q := by
    rw [chIs_get hC0]
    exact (flatK_len (d := 1) (Q := Q) (fun _ _ => rfl) Q (Nat.le_refl _)).trans (Nat.mul_one Q)
  unfold joinN
  rw [h0, hl]
  refine list_getD (by rw [joinL_len, hpl]) fun i hi => ?_
  rw [joinL_len] at hi
  have h1 : i / C < Q := (Nat.div_lt_iff_lt_mul hC0).2 hi
  have h2 : i % C < C := Nat.mod_lt _ hC0
  have h3 : i / C * C + i % C = i := by rw [Nat.mul_comm]; exact Nat.div_add_mod i C
  have e : (joinL (chIs w h C Q p) (Q * C)).getD i 0 = joinP (chIs w h C Q p) i := by unfold joinL; simp [List.getD, hi]
  rw [e]
  unfold joinP
  rw [hl, chIs_get h2]
  have g := flatK_get (p := p) (c := C) (f := chnL ((i % C : Nat) : Int) 1) (d := 1) (Q := Q) (fun _ _ => rfl) Q (Nat.le_refl _) (i / C) 0 h1 (by decide)
  rw [Nat.mul_one, Nat.add_zero] at g
  refine g.trans ?_
  show (piece p C (i / C)).getD (i % C) 0 = _
  rw [piece_get h2, h3]
theorem walk_TintBack' (w h c : Int) (m : List Int) (cc : Int) (hb : Bytes m) (W : World) {cl : List Value} (hcl : CRel noN W NoO [imA w h c m, .int .i64 cc] cl) :
    Calls Try.prog 5 cl.toArray W fun e W' => e = .returned (.bool true) ∧ Below W.heap.size W W' := by
  by_cases hcd : imCheck w h c m.length = 0
  rotate_left
  · refine law_of (C := mkC 0 [(19, fewS), (32, checkS)] noG)
      (mkC_ok (pok_cons few_s (pok_cons rcheck7_s pok_nil)) noG_ok) rfl ⟨Try.func5, by kernel_rfl, by kernel_rfl, by kernel_rfl⟩ (by exact Nat.le_of_ble_eq_true rfl) ?_ hcl
    by_cases hl : (m.length : Int) ≤ 20000
    · (repeat' (first | (refine And.intro (fun (hfk : _ = true) => ?_) (fun (hfk : _ = false) => ?_) <;> ((try (first | replace hfk := of_decide_eq_true hfk | replace hfk := of_decide_eq_false hfk | simp only [decide_eq_true_eq, decide_eq_false_iff_not, dh1, dh0, ne_eq, reduceCtorEq] at hfk)); (try (exfalso; first | omega | contradiction | exact Bool.noConfusion (Eq.trans (Eq.symm hfk) (by with_reducible assumption : _ = false)) | exact Bool.noConfusion (Eq.trans (Eq.symm hfk) (by with_reducible assumption : _ = true)))))) | (refine And.intro ?ob ?_; (case ob => (first | exact Chk.mk (by kernel_rfl) | exact True.intro | with_reducible assumption | exact rng64 (by omega) (by omega) | omega | (dsimp only; omega) | (show (_ : Nat) ≤ _; omega) | (simp only [ll1, ll2, ll0]; done) | (simp only [ll1, ll2, ll0]; omega) | (dsimp only; simp only [ll1, ll2, ll0]; omega)))) | exact True.intro | (show _ = _; first | with_reducible rfl | with_reducible assumption | omega | (simp only [ll1, ll2, ll0]; omega) | (skip; done) | exact rfl) | with_reducible assumption | (apply And.intro) | omega | (intro j hj; exact rfl) | fail))
    · (repeat' (first | (refine And.intro (fun (hfk : _ = true) => ?_) (fun (hfk : _ = false) => ?_) <;> ((try (first | replace hfk := of_decide_eq_true hfk | replace hfk := of_decide_eq_false hfk | simp only [decide_eq_true_eq, decide_eq_false_iff_not, dh1, dh0, ne_eq, reduceCtorEq] at hfk)); (try (exfalso; first | omega | contradiction | exact Bool.noConfusion (Eq.trans (Eq.symm hfk) (by with_reducible assumption : _ = false)) | exact Bool.noConfusion (Eq.trans (Eq.symm hfk) (by with_reducible assumption : _ = true)))))) | (refine And.intro ?ob ?_; (case ob => (first | exact Chk.mk (by kernel_rfl) | exact True.intro | with_reducible assumption | exact rng64 (by omega) (by omega) | omega | (dsimp only; omega) | (show (_ : Nat) ≤ _; omega) | (simp only [ll1, ll2, ll0]; done) | (simp only [ll1, ll2, ll0]; omega) | (dsimp only; simp only [ll1, ll2, ll0]; omega)))) | exact True.intro | (show _ = _; first | with_reducible rfl | with_reducible assumption | omega | (simp only [ll1, ll2, ll0]; omega) | (skip; done) | exact rfl) | with_reducible assumption | (apply And.intro) | omega | (intro j hj; exact rfl) | fail))
  obtain ⟨C, Q, rfl, hQ, hpl, hC0, hQ1, hp16, hC, hQ4⟩ := image_num hcd
  have eQ : (w * h).toNat = Q := by rw [hQ]; rfl
  have eC : (C : Int).toNat = C := rfl
  have hpc : ∀ k, k < Q → (piece m C k).length = C := fun k hk => piece_len (by have := prod_of (n := C) hk; omega)
  have hfi := (check_inv hcd).1
  -- all channels, joined
  have hJc := chIs_code (p := m) hfi hQ hC
  have hJj := chIs_join (w := w) (h := h) hC0 hpl
  have hJl := chIs_len w h C Q m
  have hJ0 := chIs_get (w := w) (h := h) (Q := Q) (p := m) hC0
  have sJ : sameM (Lg (chIs w h C Q m) 0).w (Lg (chIs w h C Q m) 0).h (chIs w h C Q m).length (joinL (chIs w h C Q m) (joinN (chIs w h C Q m))) w h C m = true := by
    rw [hJj, hJl, hJ0]; exact sameM_self _ _ _ _
  -- inverted twice, swapped twice
  have hf1 : ∀ k, k < Q → (invL' C (piece m C k)).length = C := fun k hk => invL'_len (by rw [hpc k hk]; omega)
  have hf2 : ∀ k, k < Q → (swpL C (piece m C k)).length = C := fun k hk => swpL_len (by rw [hpc k hk]; omega)
  have twice : ∀ f : Nat → List Int → List Int, (∀ k, k < Q → (f C (piece m C k)).length = C) → (∀ k, k < Q → f C (f C (piece m C k)) = piece m C k) → chgX f w h C m C = ⟨w, h, C, flatK m C (f C) Q⟩ ∧ imCheck w h C (flatK m C (f C) Q).length = 0 ∧ chgX f w h C (flatK m C (f C) Q) C = ⟨w, h, C, m⟩ := by
    intro f h1 h2
    have hl := flatK_len h1 Q (Nat.le_refl _)
    have e2 : imCheck w h C (flatK m C (f C) Q).length = 0 := check_flat (n := 0) (Q := Q) (D := C) hfi (by omega) hQ rfl hl
    refine ⟨?_, e2, ?_⟩
    · unfold chgX; rw [if_pos (by rw [self_code, hcd]), eQ, eC]
    · unfold chgX; rw [if_pos (by rw [self_code, e2]), eQ, eC, flatK_comp h1, flatK_congr (g := fun q => q) h2 Q (Nat.le_refl _), flatK_all hpl]
  obtain ⟨i1, i2, i3⟩ := twice invL' hf1 (fun k hk => inv_inv (hpc k hk) fun x hx => hb x (piece_mem hx))
  obtain ⟨w1, w2, w3⟩ := twice swpL hf2 (fun k hk => swp_swp (hpc k hk))
  clear twice
  have lI := inv_len w h C m
  have lW := swp_len w h C m
  have cI : imCheck (chgX invL' w h C m C).w (chgX invL' w h C m C).h (chgX invL' w h C m C).c ((chgX invL' w h C m C).p.length : Int) = 0 := by rw [i1]; exact i2
  have cW : imCheck (chgX swpL w h C m C).w (chgX swpL w h C m C).h (chgX swpL w h C m C).c ((chgX swpL w h C m C).p.length : Int) = 0 := by rw [w1]; exact w2
  obtain ⟨I1, hI1⟩ : ∃ I1, chgX invL' w h C m C = I1 := ⟨_, rfl⟩
  obtain ⟨W1, hW1⟩ : ∃ W1, chgX swpL w h C m C = W1 := ⟨_, rfl⟩
  have i4 : chgX invL' I1.w I1.h I1.c I1.p I1.c = ⟨w, h, C, m⟩ := by rw [← hI1, i1]; exact i3
  have w4 : chgX swpL W1.w W1.h W1.c W1.p W1.c = ⟨w, h, C, m⟩ := by rw [← hW1, w1]; exact w3
  have sI : sameM (chgX invL' I1.w I1.h I1.c I1.p I1.c).w (chgX invL' I1.w I1.h I1.c I1.p I1.c).h (chgX invL' I1.w I1.h I1.c I1.p I1.c).c (chgX invL' I1.w I1.h I1.c I1.p I1.c).p w h C m = true := by rw [i4]; exact sameM_self _ _ _ _
  have sW : sameM (chgX swpL W1.w W1.h W1.c W1.p W1.c).w (chgX swpL W1.w W1.h W1.c W1.p W1.c).h (chgX swpL W1.w W1.h W1.c W1.p W1.c).c (chgX swpL W1.w W1.h W1.c W1.p W1.c).p w h C m = true := by rw [w4]; exact sameM_self _ _ _ _
  have l4 : (chgX invL' I1.w I1.h I1.c I1.p I1.c).p.length ≤ 16777216 := by rw [i4]; exact hp16
  have l5 : (chgX swpL W1.w W1.h W1.c W1.p W1.c).p.length ≤ 16777216 := by rw [w4]; exact hp16
  -- gray and back
  have hG : C = 1 → (cc = 3 ∨ cc = 4) → chgC w h C m cc = 0 ∧ Bytes (chgX (toFn C cc) w h C m cc).p ∧ chgC (chgX (toFn C cc) w h C m cc).w (chgX (toFn C cc) w h C m cc).h (chgX (toFn C cc) w h C m cc).c (chgX (toFn C cc) w h C m cc).p 1 = 0 ∧
      chgX (toFn (chgX (toFn C cc) w h C m cc).c 1) (chgX (toFn C cc) w h C m cc).w (chgX (toFn C cc) w h C m cc).h (chgX (toFn C cc) w h C m cc).c (chgX (toFn C cc) w h C m cc).p 1 = ⟨w, h, C, m⟩ := by
    intro hC1 hcc
    subst hC1
    obtain ⟨D, rfl⟩ := Int.eq_ofNat_of_zero_le (show 0 ≤ cc by omega)
    have hD : D = 3 ∨ D = 4 := by omega
    have eD : (D : Int).toNat = D := rfl
    have g1 : chgC w h (1 : Nat) m D = 0 := by
      unfold chgC; rw [if_neg (not_not_intro hcd)]
      rcases fits_other (d := (D : Int)) hfi with k | k
      · exact k.2
      · omega
    have g2 : toFn (1 : Nat) D = sprL := if_pos ⟨rfl, by omega⟩
    have g3 : chgX (toFn (1 : Nat) D) w h (1 : Nat) m D = ⟨w, h, D, flatK m 1 (sprL D) Q⟩ := by
      unfold chgX; rw [if_pos g1, eQ, g2]; rfl
    have hf3 : ∀ k, k < Q → (sprL D (piece m 1 k)).length = D := fun k _ => sprL_len _ _
    have g4 : imCheck w h D (flatK m 1 (sprL D) Q).length = 0 := check_flat (n := 0) (Q := Q) (D := D) hfi (by omega) hQ rfl (flatK_len hf3 Q (Nat.le_refl _))
    rw [g3]
    dsimp only
    have g5 : chgC w h D (flatK m 1 (sprL D) Q) 1 = 0 := by
      unfold chgC; rw [if_neg (not_not_intro g4)]; exact one_fits hfi
    have g6 : toFn (D : Int) 1 = gryL := by unfold toFn; rw [if_neg (by omega), if_pos ⟨by omega, rfl⟩]
    refine ⟨g1, flatK_bytes (fun k => spr_bytes fun x hx => hb x (piece_mem hx)) Q, g5, ?_⟩
    unfold chgX
    rw [if_pos g5, eQ, eD, g6]
    show Im.mk w h 1 (flatK (flatK m 1 (sprL D) Q) D (gryL 1) Q) = _
    rw [flatK_comp hf3, flatK_congr (g := fun q => q) (fun k hk => gry_spr (hpc k hk) hD) Q (Nat.le_refl _), flatK_all hpl]
    rfl
  refine law_of (C := mkK 0 [(19, fewS), (32, checkS), (26, channelS), (22, invertS), (24, swapS), (20, toS), (28, sameS), (31, sN (.bool true))] (glook [(33, fGv (joinF (chIs w h C Q m)))]) [11])
    (mkK_ok (pok_cons few_s (pok_cons rcheck7_s (pok_cons channel_s (pok_cons invert_s (pok_cons swap_s (pok_cons to_s (pok_cons rsame_s (pok_cons alive11_s pok_nil)))))))) (gl_cons (gview (join_g _)) gl_nil)) rfl ⟨Try.func5, by kernel_rfl, by kernel_rfl, by kernel_rfl⟩ (by exact Nat.le_of_ble_eq_true rfl) ?_ hcl
  by_cases hl : (m.length : Int) ≤ 20000
  rotate_left
  · (repeat' (first | (refine And.intro (fun (hfk : _ = true) => ?_) (fun (hfk : _ = false) => ?_) <;> ((try (first | replace hfk := of_decide_eq_true hfk | replace hfk := of_decide_eq_false hfk | simp only [decide_eq_true_eq, decide_eq_false_iff_not, dh1, dh0, ne_eq, reduceCtorEq] at hfk)); (try (exfalso; first | omega | contradiction | exact Bool.noConfusion (Eq.trans (Eq.symm hfk) (by with_reducible assumption : _ = false)) | exact Bool.noConfusion (Eq.trans (Eq.symm hfk) (by with_reducible assumption : _ = true)))))) | (refine And.intro ?ob ?_; (case ob => (first | exact Chk.mk (by kernel_rfl) | exact True.intro | with_reducible assumption | exact rng64 (by omega) (by omega) | omega | (dsimp only; omega) | (show (_ : Nat) ≤ _; omega) | (simp only [ll1, ll2, ll0]; done) | (simp only [ll1, ll2, ll0]; omega) | (dsimp only; simp only [ll1, ll2, ll0]; omega)))) | exact True.intro | (show _ = _; first | with_reducible rfl | with_reducible assumption | omega | (simp only [ll1, ll2, ll0]; omega) | (skip; done) | exact rfl) | with_reducible assumption | (apply And.intro) | omega | (intro j hj; exact rfl) | fail))
  (repeat' (first | (refine And.intro (fun (hfk : _ = true) => ?_) (fun (hfk : _ = false) => ?_) <;> ((try (first | replace hfk := of_decide_eq_true hfk | replace hfk := of_decide_eq_false hfk | simp only [decide_eq_true_eq, decide_eq_false_iff_not, dh1, dh0, ne_eq, reduceCtorEq] at hfk)); (try (exfalso; first | omega | contradiction | exact Bool.noConfusion (Eq.trans (Eq.symm hfk) (by with_reducible assumption : _ = false)) | exact Bool.noConfusion (Eq.trans (Eq.symm hfk) (by with_reducible assumption : _ = true)))))) | (refine And.intro ?ob ?_; (case ob => (first | exact Chk.mk (by kernel_rfl) | exact True.intro | with_reducible assumption | exact rng64 (by omega) (by omega) | omega | (dsimp only; omega) | (show (_ : Nat) ≤ _; omega) | (simp only [ll1, ll2, ll0]; done) | (simp only [ll1, ll2, ll0]; omega) | (dsimp only; simp only [ll1, ll2, ll0]; omega)))) | exact True.intro | (show _ = _; first | with_reducible rfl | with_reducible assumption | omega | (simp only [ll1, ll2, ll0]; omega) | (skip; done) | exact rfl) | with_reducible assumption | (apply And.intro) | omega | (intro j hj; exact rfl) | fail))
  refine ⟨Nat, fun (k : Nat) => [(1, .int .i64 cc), (2, .ptr 0 0), (4, .fls), (5, .sl 1 4 0 k), (6, .int .i64 k)], fun k => ⟨2, [(0, some (.cells 33 [.int .i64 w, .int .i64 h, .int .i64 C, .roi .u8 m])), (1, some (.recs 33 4 k (fun j => (chI w h C Q m j).av)))]⟩, fun k => k ≤ C, fun k => C - k, ⟨0, [some 0, none], Nat.zero_le _, ?_⟩, fun k hk => ?_⟩
  · (repeat' (first | (refine And.intro (fun (hfk : _ = true) => ?_) (fun (hfk : _ = false) => ?_) <;> ((try (first | replace hfk := of_decide_eq_true hfk | replace hfk := of_decide_eq_false hfk | simp only [decide_eq_true_eq, decide_eq_false_iff_not, dh1, dh0, ne_eq, reduceCtorEq] at hfk)); (try (exfalso; first | omega | contradiction | exact Bool.noConfusion (Eq.trans (Eq.symm hfk) (by with_reducible assumption : _ = false)) | exact Bool.noConfusion (Eq.trans (Eq.symm hfk) (by with_reducible assumption : _ = true)))))) | (refine And.intro ?ob ?_; (case ob => (first | exact Chk.mk (by kernel_rfl) | exact True.intro | with_reducible assumption | exact rng64 (by omega) (by omega) | omega | (dsimp only; omega) | (show (_ : Nat) ≤ _; omega) | (simp only [ll1, ll2, ll0]; done) | (simp only [ll1, ll2, ll0]; omega) | (dsimp only; simp only [ll1, ll2, ll0]; omega)))) | exact True.intro | (show _ = _; first | with_reducible rfl | with_reducible assumption | omega | (simp only [ll1, ll2, ll0]; omega) | (skip; done) | exact rfl) | with_reducible assumption | (apply And.intro) | omega | (intro j hj; exact rfl) | fail))
  have hk : k ≤ C := hk
  by_cases hlt : k < C
  · have e1 : chanC w h C m k = 0 := by unfold chanC; rw [if_neg (not_not_intro hcd), if_neg (by omega)]
    have eX : chanX w h C m k = chI w h C Q m k := by unfold chanX; rw [if_pos e1, eQ]; rfl
    (repeat' (first | (refine And.intro (fun (hfk : _ = true) => ?_) (fun (hfk : _ = false) => ?_) <;> ((try (first | replace hfk := of_decide_eq_true hfk | replace hfk := of_decide_eq_false hfk | simp only [decide_eq_true_eq, decide_eq_false_iff_not, dh1, dh0, ne_eq, reduceCtorEq] at hfk)); (try (exfalso; first | omega | contradiction | exact Bool.noConfusion (Eq.trans (Eq.symm hfk) (by with_reducible assumption : _ = false)) | exact Bool.noConfusion (Eq.trans (Eq.symm hfk) (by with_reducible assumption : _ = true)))))) | (refine And.intro ?ob ?_; (case ob => (first | exact Chk.mk (by kernel_rfl) | exact True.intro | with_reducible assumption | exact rng64 (by omega) (by omega) | omega | (dsimp only; omega) | (show (_ : Nat) ≤ _; omega) | (simp only [ll1, ll2, ll0]; done) | (simp only [ll1, ll2, ll0]; omega) | (dsimp only; simp only [ll1, ll2, ll0]; omega)))) | exact True.intro | (show _ = _; first | with_reducible rfl | with_reducible assumption | omega | (simp only [ll1, ll2, ll0]; omega) | (skip; done) | exact rfl) | with_reducible assumption | (apply And.intro) | omega | (intro j hj; exact rfl) | fail))
    (refine ⟨k + 1, [some 0, some 4], ?_, ?mu, ?_⟩; (case mu => ((try dsimp only); omega)))
    · exact hlt
    (repeat' (first | (refine And.intro (fun (hfk : _ = true) => ?_) (fun (hfk : _ = false) => ?_) <;> ((try (first | replace hfk := of_decide_eq_true hfk | replace hfk := of_decide_eq_false hfk | simp only [decide_eq_true_eq, decide_eq_false_iff_not, dh1, dh0, ne_eq, reduceCtorEq] at hfk)); (try (exfalso; first | omega | contradiction | exact Bool.noConfusion (Eq.trans (Eq.symm hfk) (by with_reducible assumption : _ = false)) | exact Bool.noConfusion (Eq.trans (Eq.symm hfk) (by with_reducible assumption : _ = true)))))) | (refine And.intro ?ob ?_; (case ob => (first | exact Chk.mk (by kernel_rfl) | exact True.intro | with_reducible assumption | exact rng64 (by omega) (by omega) | omega | (dsimp only; omega) | (show (_ : Nat) ≤ _; omega) | (simp only [ll1, ll2, ll0]; done) | (simp only [ll1, ll2, ll0]; omega) | (dsimp only; simp only [ll1, ll2, ll0]; omega)))) | exact True.intro | (show _ = _; first | with_reducible rfl | with_reducible assumption | omega | (simp only [ll1, ll2, ll0]; omega) | (skip; done) | exact rfl) | with_reducible assumption | (apply And.intro) | omega | (intro j hj; exact rfl) | fail))
    intro j hj
    by_cases hjk : j < k
    · show (if j < k then (chI w h C Q m j).av else _) = (chI w h C Q m j).av
      rw [if_pos hjk]
    · obtain rfl : j = k := by omega
      dsimp only
      rw [if_neg (Nat.lt_irrefl j), Nat.sub_self]
      show AV.agg [.int .i64 (chanX w h C m j).w, .int .i64 (chanX w h C m j).h, .int .i64 (chanX w h C m j).c, .roi .u8 (chanX w h C m j).p] = (chI w h C Q m j).av
      rw [eX]
  · obtain rfl : k = C := by omega
    have hJL : (chIs w h k Q m).length ≤ 1152921504606846975 := by omega
    (repeat' (first | (refine And.intro (fun (hfk : _ = true) => ?_) (fun (hfk : _ = false) => ?_) <;> ((try (first | replace hfk := of_decide_eq_true hfk | replace hfk := of_decide_eq_false hfk | simp only [decide_eq_true_eq, decide_eq_false_iff_not, dh1, dh0, ne_eq, reduceCtorEq] at hfk)); (try (exfalso; first | omega | contradiction | exact Bool.noConfusion (Eq.trans (Eq.symm hfk) (by with_reducible assumption : _ = false)) | exact Bool.noConfusion (Eq.trans (Eq.symm hfk) (by with_reducible assumption : _ = true)))))) | (refine And.intro ?ob ?_; (case ob => (first | exact Chk.mk (by kernel_rfl) | exact True.intro | with_reducible assumption | exact rng64 (by omega) (by omega) | omega | (dsimp only; omega) | (show (_ : Nat) ≤ _; omega) | (simp only [ll1, ll2, ll0]; done) | (simp only [ll1, ll2, ll0]; omega) | (dsimp only; simp only [ll1, ll2, ll0]; omega)))) | exact True.intro | (show _ = _; first | with_reducible rfl | with_reducible assumption | omega | (simp only [ll1, ll2, ll0]; omega) | (skip; done) | exact rfl) | with_reducible assumption | (apply And.intro) | omega | (intro j hj; exact rfl) | fail))
    (refine ⟨[], [1], ⟨by kernel_rfl⟩, ?_⟩)
    (repeat' (first | (refine And.intro (fun (hfk : _ = true) => ?_) (fun (hfk : _ = false) => ?_) <;> ((try (first | replace hfk := of_decide_eq_true hfk | replace hfk := of_decide_eq_false hfk | simp only [decide_eq_true_eq, decide_eq_false_iff_not, dh1, dh0, ne_eq, reduceCtorEq] at hfk)); (try (exfalso; first | omega | contradiction | exact Bool.noConfusion (Eq.trans (Eq.symm hfk) (by with_reducible assumption : _ = false)) | exact Bool.noConfusion (Eq.trans (Eq.symm hfk) (by with_reducible assumption : _ = true)))))) | (refine And.intro ?ob ?_; (case ob => (first | exact Chk.mk (by kernel_rfl) | exact True.intro | with_reducible assumption | exact rng64 (by omega) (by omega) | omega | (dsimp only; omega) | (show (_ : Nat) ≤ _; omega) | (simp only [ll1, ll2, ll0]; done) | (simp only [ll1, ll2, ll0]; omega) | (dsimp only; simp only [ll1, ll2, ll0]; omega)))) | exact True.intro | (show _ = _; first | with_reducible rfl | with_reducible assumption | omega | (simp only [ll1, ll2, ll0]; omega) | (skip; done) | exact rfl) | with_reducible assumption | (apply And.intro) | omega | (intro j hj; exact rfl) | fail))
    · intro j hj
      show (chI w h k Q m (0 + j)).av = _
      rw [Nat.zero_add, chIs_get hj]
    have hJn : joinN (chIs w h k Q m) = m.length := by
      have := joinL_len (chIs w h k Q m) (joinN (chIs w h k Q m))
      rw [hJj] at this
      exact this.symm
    have hJw : (Lg (chIs w h k Q m) 0).w = w := by rw [hJ0]; rfl
    have hJh : (Lg (chIs w h k Q m) 0).h = h := by rw [hJ0]; rfl
    refine ⟨[(1, .int .i64 cc), (2, .ptr 0 0), (4, .fls), (9, .ptr 2 0), (10, .int .i64 0)],
      ⟨3, [(0, some (.cells 33 [.int .i64 w, .int .i64 h, .int .i64 k, .roi .u8 m])), (1, some (.ints 5 .u8 m)), (2, some (.cells 33 [.int .i64 w, .int .i64 h, .int .i64 k, .sl 1 1 0 m.length]))]⟩, [some 0, some 2, some 3], ?_, ?_⟩
    · (repeat' (first | (refine And.intro (fun (hfk : _ = true) => ?_) (fun (hfk : _ = false) => ?_) <;> ((try (first | replace hfk := of_decide_eq_true hfk | replace hfk := of_decide_eq_false hfk | simp only [decide_eq_true_eq, decide_eq_false_iff_not, dh1, dh0, ne_eq, reduceCtorEq] at hfk)); (try (exfalso; first | omega | contradiction | exact Bool.noConfusion (Eq.trans (Eq.symm hfk) (by with_reducible assumption : _ = false)) | exact Bool.noConfusion (Eq.trans (Eq.symm hfk) (by with_reducible assumption : _ = true)))))) | (refine And.intro ?ob ?_; (case ob => (first | exact Chk.mk (by kernel_rfl) | exact True.intro | with_reducible assumption | exact rng64 (by omega) (by omega) | omega | (dsimp only; omega) | (show (_ : Nat) ≤ _; omega) | (simp only [ll1, ll2, ll0]; done) | (simp only [ll1, ll2, ll0]; omega) | (dsimp only; simp only [ll1, ll2, ll0]; omega)))) | exact True.intro | (show _ = _; first | with_reducible rfl | with_reducible assumption | omega | (simp only [ll1, ll2, ll0]; omega) | ((first | exact hJj | exact hJn | exact hJw | exact hJh | exact congrArg Int.ofNat hJl); done) | exact rfl) | with_reducible assumption | (apply And.intro) | omega | (intro j hj; exact rfl) | fail))
    have tm : List.take m.length (List.drop 0 m) = m := by simp
    have sJ2 : sameM w h k (List.take m.length (List.drop 0 m)) w h k m = true := by rw [tm]; exact sameM_self _ _ _ _
    have ltm : (List.take m.length (List.drop 0 m)).length = m.length := by rw [tm]
    clear hJn hJw hJh sJ hJc hJj hJl hJ0 hJL
    rw [← hI1] at i4 sI l4
    rw [← hW1] at w4 sW l5
    by_cases hg : k = 1 ∧ (cc = 3 ∨ cc = 4)
    · obtain ⟨g1, g2, g3, g4⟩ := hG hg.1 hg.2
      have g1' : chgC w h k m cc = 0 := g1
      have lX := to_len w h k m cc
      have lY : (chgX (toFn (chgX (toFn k cc) w h k m cc).c 1) (chgX (toFn k cc) w h k m cc).w (chgX (toFn k cc) w h k m cc).h (chgX (toFn k cc) w h k m cc).c (chgX (toFn k cc) w h k m cc).p 1).p.length ≤ 16777216 := by rw [g4]; exact hp16
      have sG : sameM (chgX (toFn (chgX (toFn k cc) w h k m cc).c 1) (chgX (toFn k cc) w h k m cc).w (chgX (toFn k cc) w h k m cc).h (chgX (toFn k cc) w h k m cc).c (chgX (toFn k cc) w h k m cc).p 1).w (chgX (toFn (chgX (toFn k cc) w h k m cc).c 1) (chgX (toFn k cc) w h k m cc).w (chgX (toFn k cc) w h k m cc).h (chgX (toFn k cc) w h k m cc).c (chgX (toFn k cc) w h k m cc).p 1).h (chgX (toFn (chgX (toFn k cc) w h k m cc).c 1) (chgX (toFn k cc) w h k m cc).w (chgX (toFn k cc) w h k m cc).h (chgX (toFn k cc) w h k m cc).c (chgX (toFn k cc) w h k m cc).p 1).c (chgX (toFn (chgX (toFn k cc) w h k m cc).c 1) (chgX (toFn k cc) w h k m cc).w (chgX (toFn k cc) w h k m cc).h (chgX (toFn k cc) w h k m cc).c (chgX (toFn k cc) w h k m cc).p 1).p w h k m = true := by rw [g4]; exact sameM_self _ _ _ _
      obtain ⟨hk1, hcc⟩ := hg
      clear hG
      (repeat' (first | (refine And.intro (fun (hfk : _ = true) => ?_) (fun (hfk : _ = false) => ?_) <;> ((try (first | replace hfk := of_decide_eq_true hfk | replace hfk := of_decide_eq_false hfk | simp only [decide_eq_true_eq, decide_eq_false_iff_not, dh1, dh0, ne_eq, reduceCtorEq] at hfk)); (try (exfalso; first | omega | contradiction | exact Bool.noConfusion (Eq.trans (Eq.symm hfk) (by with_reducible assumption : _ = false)) | exact Bool.noConfusion (Eq.trans (Eq.symm hfk) (by with_reducible assumption : _ = true)))))) | (refine And.intro ?ob ?_; (case ob => (first | exact Chk.mk (by kernel_rfl) | exact True.intro | with_reducible assumption | exact rng64 (by omega) (by omega) | omega | (dsimp only; omega) | (show (_ : Nat) ≤ _; omega) | (simp only [ll1, ll2, ll0]; done) | (simp only [ll1, ll2, ll0]; omega) | (dsimp only; simp only [ll1, ll2, ll0]; omega)))) | exact True.intro | (show _ = _; first | with_reducible rfl | with_reducible assumption | omega | (simp only [ll1, ll2, ll0]; omega) | (skip; done) | exact rfl) | with_reducible assumption | (apply And.intro) | omega | (intro j hj; exact rfl) | fail))
      all_goals exact absurd (of_decide_eq_true sG) (by assumption)
    · clear hG
      (repeat' (first | (refine And.intro (fun (hfk : _ = true) => ?_) (fun (hfk : _ = false) => ?_) <;> ((try (first | replace hfk := of_decide_eq_true hfk | replace hfk := of_decide_eq_false hfk | simp only [decide_eq_true_eq, decide_eq_false_iff_not, dh1, dh0, ne_eq, reduceCtorEq] at hfk)); (try (exfalso; first | omega | contradiction | exact Bool.noConfusion (Eq.trans (Eq.symm hfk) (by with_reducible assumption : _ = false)) | exact Bool.noConfusion (Eq.trans (Eq.symm hfk) (by with_reducible assumption : _ = true)))))) | (refine And.intro ?ob ?_; (case ob => (first | exact Chk.mk (by kernel_rfl) | exact True.intro | with_reducible assumption | exact rng64 (by omega) (by omega) | omega | (dsimp only; omega) | (show (_ : Nat) ≤ _; omega) | (simp only [ll1, ll2, ll0]; done) | (simp only [ll1, ll2, ll0]; omega) | (dsimp only; simp only [ll1, ll2, ll0]; omega)))) | exact True.intro | (show _ = _; first | with_reducible rfl | with_reducible assumption | omega | (simp only [ll1, ll2, ll0]; omega) | (skip; done) | exact rfl) | with_reducible assumption | (apply And.intro) | omega | (intro j hj; exact rfl) | fail))
end Go.Proofs.Ytjnkjjojkfemoaa
