/- Texts laid together. No condition. -/
import Derived.Test.YtocboijpmmlegaaDoorS2
set_option maxRecDepth 100000
set_option linter.unusedVariables false
set_option linter.unusedSimpArgs false
namespace Go.Proofs.YtocboijpmmlegaaDoor
open Go Go.RowKit
set_option maxHeartbeats 4000000
theorem nD_le : ∀ (k u : Nat), u < 10 ^ (k + 1) → Lib.nDigits u ≤ k + 1
  | 0, u, h => by rw [Lib.nDigits_small (by simpa using h)]; exact Nat.le_refl _
  | k + 1, u, h => by
    by_cases h1 : u < 10
    · rw [Lib.nDigits_small h1]; omega
    · rw [Lib.nDigits_big h1]
      have := nD_le k (u / 10) (by rw [Nat.div_lt_iff_lt_mul (by decide)]; rw [Nat.pow_succ] at h; exact h)
      omega
theorem nD_pos (u : Nat) : 1 ≤ Lib.nDigits u := by
  by_cases h1 : u < 10
  · rw [Lib.nDigits_small h1]; exact Nat.le_refl _
  · rw [Lib.nDigits_big h1]; omega
def decI (u : Nat) : List Int := (Lib.decDigits u).map fun c => (c.toNat : Int)
theorem decI_len (u : Nat) : (decI u).length = Lib.nDigits u := by unfold decI; rw [List.length_map, Lib.decDigits_length]
theorem dg_byte {d : Nat} (h : d < 10) : (((UInt8.ofNat (48 + d)).toNat : Nat) : Int) = 48 + (d : Int) := by
  rw [UInt8.toNat_ofNat', Nat.mod_eq_of_lt (show 48 + d < 2 ^ 8 by omega)]; omega
theorem decI_small {u : Nat} (h : u < 10) : decI u = [48 + (u : Int)] := by
  unfold decI
  rw [Lib.decDigits, dif_pos h, List.map_cons, dg_byte h]; rfl
theorem decI_big {u : Nat} (h : ¬ u < 10) : decI u = decI (u / 10) ++ [48 + ((u % 10 : Nat) : Int)] := by
  unfold decI
  rw [Lib.decDigits, dif_neg h, List.map_append, List.map_cons, dg_byte (Nat.mod_lt _ (by decide))]; rfl
theorem decI_dg (u : Nat) : ∀ x ∈ decI u, 48 ≤ x ∧ x ≤ 57 := by
  induction u using Nat.strongRecOn with
  | ind u ih =>
    by_cases h : u < 10
    · rw [decI_small h]; intro x hx; simp only [List.mem_singleton] at hx; omega
    · rw [decI_big h]; intro x hx
      rcases List.mem_append.1 hx with k | k
      · exact ih (u / 10) (by omega) x k
      · simp only [List.mem_singleton] at k; omega
theorem numV_dec (u : Nat) : numV (decI u) = u := by
  induction u using Nat.strongRecOn with
  | ind u ih =>
    by_cases h : u < 10
    · rw [decI_small h]; show 10 * 0 + (48 + (u : Int) - 48) = u; omega
    · rw [decI_big h, numV_snoc, ih (u / 10) (by omega)]; omega
theorem decI_head {u : Nat} (h1 : 1 ≤ u) : (decI u).getD 0 0 ≠ 48 := by
  induction u using Nat.strongRecOn with
  | ind u ih =>
    by_cases h : u < 10
    · rw [decI_small h]; show 48 + (u : Int) ≠ 48; omega
    · rw [decI_big h]
      have e : (decI (u / 10) ++ [48 + ((u % 10 : Nat) : Int)]).getD 0 0 = (decI (u / 10)).getD 0 0 := by
        have := nD_pos (u / 10)
        rw [List.getD_eq_getElem?_getD, List.getElem?_append_left (by rw [decI_len]; omega), ← List.getD_eq_getElem?_getD]
      rw [e]
      exact ih (u / 10) (by omega) (by omega)
theorem dgN_app : ∀ {l : List Int} {y : Int} {r : List Int}, (∀ x ∈ l, 48 ≤ x ∧ x ≤ 57) → ¬ (48 ≤ y ∧ y ≤ 57) → dgN (l ++ y :: r) = l.length
  | [], y, r, _, hy => if_neg hy
  | x :: l, y, r, h, hy => by
    have ih := dgN_app (l := l) (y := y) (r := r) (fun z hz => h z (List.mem_cons_of_mem _ hz)) hy
    show (if 48 ≤ x ∧ x ≤ 57 then dgN (l ++ y :: r) + 1 else 0) = _
    rw [if_pos (h x List.mem_cons_self), ih]; rfl
theorem nb_dec {x y : Int} {u : Nat} {rest : List Int} {m : Int} (hx : isBl x = true) (hy : ¬ (48 ≤ y ∧ y ≤ 57)) (h1 : 1 ≤ u) (hm : (u : Int) ≤ m) (hu : u < 100000) :
    nbC (x :: (decI u ++ y :: rest)) m = 0 ∧ nbP (x :: (decI u ++ y :: rest)) m = 1 + Lib.nDigits u ∧ nbV (x :: (decI u ++ y :: rest)) m = u := by
  have hl := decI_len u
  have hp := nD_pos u
  have hq := nD_le 4 u hu
  obtain ⟨d, r, hd⟩ : ∃ d r, decI u = d :: r := by
    cases h : decI u with
    | nil => rw [h] at hl; simp at hl; omega
    | cons d r => exact ⟨d, r, rfl⟩
  have hdd := decI_dg u d (by rw [hd]; exact List.mem_cons_self)
  have hb : bkG false (x :: (decI u ++ y :: rest)) = 1 := by
    have e : bkG false (decI u ++ y :: rest) = 0 := by
      rw [hd]
      show (if isBl d = true then _ else if d = 35 then _ else 0) = 0
      rw [if_neg, if_neg (by omega)]
      unfold isBl
      intro k
      simp at k
      omega
    show (if isBl x = true then bkG false (decI u ++ y :: rest) + 1 else _) = 1
    rw [if_pos hx, e]
  have hbl : blC (x :: (decI u ++ y :: rest)) = 0 := by
    unfold blC
    rw [if_neg (by simp), if_neg (by rw [hb]; decide)]
  have hdr : (x :: (decI u ++ y :: rest)).drop 1 = decI u ++ y :: rest := rfl
  have hg : dgN (decI u ++ y :: rest) = Lib.nDigits u := by rw [dgN_app (decI_dg u) hy, hl]
  have ht : (decI u ++ y :: rest).take (Lib.nDigits u) = decI u := by rw [← hl]; simp
  have hh : (decI u ++ y :: rest).getD 0 0 ≠ 48 := by
    have := decI_head h1
    rw [hd] at this ⊢
    exact this
  have hC : nbC (x :: (decI u ++ y :: rest)) m = 0 := by
    unfold nbC
    rw [if_neg (by rw [hbl]; decide), hb, hdr]
    unfold numC
    rw [if_neg (by simp), hg, if_neg (by rintro (k | k); omega; exact hh k.2), if_neg (by omega), ht, numV_dec, if_neg (by omega)]
  refine ⟨hC, ?_, ?_⟩
  · unfold nbP nbN
    rw [if_pos hC, hb, hdr, hg]
  · unfold nbV
    rw [if_pos hC, hb, hdr, hg, ht, numV_dec]
theorem drop_dec {x y : Int} {u : Nat} {rest : List Int} : (x :: (decI u ++ y :: rest)).drop (1 + Lib.nDigits u) = y :: rest := by
  rw [Nat.add_comm, List.drop_succ_cons, ← decI_len]; simp
theorem dec255 : decI 255 = [50, 53, 53] := by
  rw [decI_big (by decide), decI_big (by decide), decI_small (by decide)]; rfl
def hdI (k w h : Nat) : List Int := 80 :: (if k = 1 then 53 else 54) :: 10 :: (decI w ++ 32 :: (decI h ++ [10, 50, 53, 53, 10]))
theorem hdI_len (k w h : Nat) : (hdI k w h).length = 9 + Lib.nDigits w + Lib.nDigits h := by
  unfold hdI
  simp only [List.length_cons, List.length_append, decI_len, List.length_nil]; omega
theorem hdI_app (k w h : Nat) (p : List Int) : hdI k w h ++ p = 80 :: (if k = 1 then 53 else 54) :: 10 :: (decI w ++ 32 :: (decI h ++ 10 :: (decI 255 ++ 10 :: p))) := by
  rw [dec255]; unfold hdI; simp
theorem rd_hd {k w h : Nat} {p : List Int} (hk : k = 1 ∨ k = 3) (w1 : 1 ≤ w) (w2 : w ≤ 32768) (h1 : 1 ≤ h) (h2 : h ≤ 32768) (hm : w * h ≤ 4194304) :
    pgE (hdI k w h ++ p) = 0 ∧ pgW (hdI k w h ++ p) = w ∧ pgH (hdI k w h ++ p) = h ∧ kdV (hdI k w h ++ p) = k ∧ pgP (hdI k w h ++ p) = ((hdI k w h).length : Int) := by
  rw [hdI_len, hdI_app]
  obtain ⟨R, hR⟩ : ∃ R, decI h ++ 10 :: (decI 255 ++ 10 :: p) = R := ⟨_, rfl⟩
  have hkd : kdC (80 :: (if k = 1 then 53 else 54) :: 10 :: (decI w ++ 32 :: R)) = 0 ∧ kdV (80 :: (if k = 1 then 53 else 54) :: 10 :: (decI w ++ 32 :: R)) = k := by
    rcases hk with rfl | rfl
    · exact ⟨rfl, rfl⟩
    · exact ⟨rfl, rfl⟩
  have hd2 : (80 :: (if k = 1 then (53 : Int) else 54) :: 10 :: (decI w ++ 32 :: R)).drop 2 = 10 :: (decI w ++ 32 :: R) := rfl
  obtain ⟨a1, a2, a3⟩ := nb_dec (x := 10) (y := 32) (u := w) (rest := R) (m := 32768) rfl (by decide) w1 (by omega) (by omega)
  have d1 : (10 :: (decI w ++ 32 :: R) : List Int).drop (1 + Lib.nDigits w) = 32 :: R := drop_dec
  obtain ⟨b1, b2, b3⟩ := nb_dec (x := 32) (y := 10) (u := h) (rest := decI 255 ++ 10 :: p) (m := 32768) rfl (by decide) h1 (by omega) (by omega)
  have d2 : (32 :: (decI h ++ 10 :: (decI 255 ++ 10 :: p)) : List Int).drop (1 + Lib.nDigits h) = 10 :: (decI 255 ++ 10 :: p) := drop_dec
  obtain ⟨c1, c2, c3⟩ := nb_dec (x := 10) (y := 10) (u := 255) (rest := p) (m := 255) rfl (by decide) (by decide) (by decide) (by decide)
  have d3 : (10 :: (decI 255 ++ 10 :: p) : List Int).drop (1 + Lib.nDigits 255) = 10 :: p := drop_dec
  have n255 : Lib.nDigits 255 = 3 := by rw [← decI_len, dec255]; rfl
  rw [hR] at b1 b2 b3 d2
  have cm : ((w * h : Nat) : Int) = (w : Int) * (h : Int) := Int.natCast_mul w h
  have sC : szC (10 :: (decI w ++ 32 :: R)) = 0 := by
    unfold szC
    rw [a2, d1, a1, b1, a3, b3, if_neg (by decide), if_neg (by decide), if_neg (by omega), if_neg (by rw [← cm]; omega)]
  have sW : szW (10 :: (decI w ++ 32 :: R)) = w := by unfold szW; rw [if_pos sC, a3]
  have sH : szH (10 :: (decI w ++ 32 :: R)) = h := by unfold szH; rw [if_pos sC, a2, d1, b3]
  have sP : szP (10 :: (decI w ++ 32 :: R)) = (1 + Lib.nDigits w) + (1 + Lib.nDigits h) := by unfold szP; rw [if_pos a1, a2, d1, b2]
  have dP : (10 :: (decI w ++ 32 :: R) : List Int).drop ((1 + Lib.nDigits w) + (1 + Lib.nDigits h)) = 10 :: (decI 255 ++ 10 :: p) := by rw [← List.drop_drop, d1, d2]
  have o1 : oneV (10 :: p) = (1, 0) := by unfold oneV; rw [if_neg (by simp), if_pos (show isBl ((10 :: p : List Int).getD 0 0) = true from rfl)]
  have eC : dpC (10 :: (decI 255 ++ 10 :: p)) = 0 := by
    unfold dpC
    rw [c1, c3, c2, d3, o1]; rfl
  have eP : dpP (10 :: (decI 255 ++ 10 :: p)) = 5 := by
    unfold dpP
    rw [c1, c3, c2, d3, o1, n255]; rfl
  rw [hR]
  refine ⟨?_, ?_, ?_, hkd.2, ?_⟩
  · unfold pgE
    rw [if_neg (by rw [hkd.1]; decide), hd2, if_neg (by rw [sC]; decide), sP, dP, eC]
  · unfold pgW
    rw [if_pos hkd.1, hd2, sW]
  · unfold pgH
    rw [if_pos hkd.1, hd2, sH]
  · unfold pgP
    rw [if_neg (by rw [hkd.1]; decide), hd2, if_neg (by rw [sC]; decide), sP, dP, eP]
    omega
theorem rd_pw {k w h : Nat} {p : List Int} (hk : k = 1 ∨ k = 3) (w1 : 1 ≤ w) (w2 : w ≤ 32768) (h1 : 1 ≤ h) (h2 : h ≤ 32768) (hm : w * h ≤ 4194304) (hp : p.length = w * h * k) :
    pnE (hdI k w h ++ p) = 0 ∧ pnK (hdI k w h ++ p) (pgW (hdI k w h ++ p)) = w ∧ pnK (hdI k w h ++ p) (pgH (hdI k w h ++ p)) = h ∧ pnK (hdI k w h ++ p) (kdV (hdI k w h ++ p)) = k ∧ pnL (hdI k w h ++ p) = p := by
  obtain ⟨e1, e2, e3, e4, e5⟩ := rd_hd (p := p) hk w1 w2 h1 h2 hm
  have eN : pnN (hdI k w h ++ p) = (p.length : Int) := by
    unfold pnN
    rw [e2, e3, e4, hp, Int.natCast_mul, Int.natCast_mul]
  have hl : ((hdI k w h ++ p).length : Int) = ((hdI k w h).length : Int) + (p.length : Int) := by rw [List.length_append]; omega
  have E : pnE (hdI k w h ++ p) = 0 := by
    unfold pnE
    rw [if_neg (by rw [e1]; decide), eN, e5, hl, if_neg (by omega), if_neg (by omega)]
  refine ⟨E, ?_, ?_, ?_, ?_⟩
  · unfold pnK; rw [if_pos E, e2]
  · unfold pnK; rw [if_pos E, e3]
  · unfold pnK; rw [if_pos E, e4]
  · unfold pnL; rw [if_pos E, e5, Int.toNat_natCast]; simp
end Go.Proofs.YtocboijpmmlegaaDoor
namespace Go.Proofs.YtocboijpmmlegaaDoor
open Go Go.RowKit
set_option maxHeartbeats 4000000
theorem itoa_len {x : Int} (h0 : -9223372036854775808 ≤ x) (h1 : x ≤ 9223372036854775807) : (Lib.itoa x).length ≤ 20 := by
  have key : ∀ u : Nat, u < 10 ^ 19 → (Lib.decDigits u).length ≤ 19 := fun u hu => by rw [Lib.decDigits_length]; exact nD_le 18 u hu
  unfold Lib.itoa
  split
  · have := key x.natAbs (by omega)
    rw [List.length_cons]; omega
  · have := key x.toNat (by omega)
    omega
def hdS (w h c : Int) : List UInt8 :=
  if c = 1 then (ByteArray.mk #[80, 53, 10]).data.toList ++ Lib.itoa w ++ (ByteArray.mk #[32]).data.toList ++ Lib.itoa h ++ (ByteArray.mk #[10, 50, 53, 53, 10]).data.toList
  else if c = 3 then (ByteArray.mk #[80, 54, 10]).data.toList ++ Lib.itoa w ++ (ByteArray.mk #[32]).data.toList ++ Lib.itoa h ++ (ByteArray.mk #[10, 50, 53, 53, 10]).data.toList
  else (ByteArray.mk #[]).data.toList
abbrev headS : PSpec := fun l => match l with | [.int .i64 w, .int .i64 h, .int .i64 c] => some ([-9223372036854775808 ≤ w, w ≤ 9223372036854775807, -9223372036854775808 ≤ h, h ≤ 9223372036854775807], .str (hdS w h c)) | _ => none
theorem len_i64 {n : Nat} (h : n ≤ 1000) : ((n : Nat) : Int) ≤ IntKind.i64.max := by
  show (n : Int) ≤ 9223372036854775807
  omega
theorem head_s : SOK Tryd.prog 13 headS := by
  refine sok_of (C := mkC 0 [(26, itoaS)] noG) (mkC_ok (pok_cons itoa_s pok_nil) noG_ok) rfl mixed ⟨Tryd.func13, by kernel_rfl, by kernel_rfl, by kernel_rfl⟩ fun l obs v h ho => ?_
  (unfold headS at h; split at h; rotate_left; (focus (cases h)); rename_i w hh c; simp only [Option.some.injEq, Prod.mk.injEq] at h; obtain ⟨rfl, rfl⟩ := h; simp only [List.mem_cons, List.not_mem_nil, or_false, forall_eq_or_imp, forall_eq, false_implies, implies_true] at ho)
  obtain ⟨w0, w1, h0, h1⟩ := ho
  refine ⟨Nat.le_of_ble_eq_true rfl, ?_⟩
  have lw := itoa_len w0 w1
  have lh := itoa_len h0 h1
  have q1 : (ByteArray.mk #[80, 53, 10]).data.toList.length = 3 := rfl
  have q2 : (ByteArray.mk #[80, 54, 10]).data.toList.length = 3 := rfl
  have q3 : (ByteArray.mk #[32]).data.toList.length = 1 := rfl
  have q4 : (ByteArray.mk #[10, 50, 53, 53, 10]).data.toList.length = 5 := rfl
  by_cases c1 : c = 1
  · subst c1
    have e : hdS w hh 1 = (ByteArray.mk #[80, 53, 10]).data.toList ++ Lib.itoa w ++ (ByteArray.mk #[32]).data.toList ++ Lib.itoa hh ++ (ByteArray.mk #[10, 50, 53, 53, 10]).data.toList := if_pos rfl
    rw [e]
    clear e
    (repeat' (first | (refine xI (fun hfk => ?_) (fun hfk => ?_) <;> ((try (first | replace hfk := oT hfk | replace hfk := oF hfk | simp only [oA, oB, dh1, dh0, ne_eq, reduceCtorEq] at hfk)); (try (exfalso; first | omega | contradiction | exact xF hfk (by with_reducible assumption) | exact xT hfk (by with_reducible assumption))))) | (refine And.intro ?ob ?_; (case ob => (first | exact Chk.mk (by kernel_rfl) | exact True.intro | with_reducible assumption | exact rng64 (by omega) (by omega) | omega | (dsimp only; omega) | (show (_ : Nat) ≤ _; omega) | (simp only [ll1, ll2, ll0]; first | done | omega) | (dsimp only; simp only [ll1, ll2, ll0]; omega)))) | exact True.intro | (show _ = _; first | with_reducible rfl | with_reducible assumption | omega | (simp only [ll1, ll2, ll0]; omega) | (rfl; done) | exact rfl) | with_reducible assumption | (apply And.intro) | omega | (intro j hj; exact rfl)))
    all_goals (refine len_i64 ?_; (repeat rw [List.length_append]); omega)
  · by_cases c3 : c = 3
    · subst c3
      have e : hdS w hh 3 = (ByteArray.mk #[80, 54, 10]).data.toList ++ Lib.itoa w ++ (ByteArray.mk #[32]).data.toList ++ Lib.itoa hh ++ (ByteArray.mk #[10, 50, 53, 53, 10]).data.toList := by
        unfold hdS; rw [if_neg (by decide), if_pos rfl]
      rw [e]
      clear e
      (repeat' (first | (refine xI (fun hfk => ?_) (fun hfk => ?_) <;> ((try (first | replace hfk := oT hfk | replace hfk := oF hfk | simp only [oA, oB, dh1, dh0, ne_eq, reduceCtorEq] at hfk)); (try (exfalso; first | omega | contradiction | exact xF hfk (by with_reducible assumption) | exact xT hfk (by with_reducible assumption))))) | (refine And.intro ?ob ?_; (case ob => (first | exact Chk.mk (by kernel_rfl) | exact True.intro | with_reducible assumption | exact rng64 (by omega) (by omega) | omega | (dsimp only; omega) | (show (_ : Nat) ≤ _; omega) | (simp only [ll1, ll2, ll0]; first | done | omega) | (dsimp only; simp only [ll1, ll2, ll0]; omega)))) | exact True.intro | (show _ = _; first | with_reducible rfl | with_reducible assumption | omega | (simp only [ll1, ll2, ll0]; omega) | (rfl; done) | exact rfl) | with_reducible assumption | (apply And.intro) | omega | (intro j hj; exact rfl)))
      all_goals (refine len_i64 ?_; (repeat rw [List.length_append]); omega)
    · have e : hdS w hh c = (ByteArray.mk #[]).data.toList := by unfold hdS; rw [if_neg c1, if_neg c3]
      rw [e]
      clear e
      (repeat' (first | (refine xI (fun hfk => ?_) (fun hfk => ?_) <;> ((try (first | replace hfk := oT hfk | replace hfk := oF hfk | simp only [oA, oB, dh1, dh0, ne_eq, reduceCtorEq] at hfk)); (try (exfalso; first | omega | contradiction | exact xF hfk (by with_reducible assumption) | exact xT hfk (by with_reducible assumption))))) | (refine And.intro ?ob ?_; (case ob => (first | exact Chk.mk (by kernel_rfl) | exact True.intro | with_reducible assumption | exact rng64 (by omega) (by omega) | omega | (dsimp only; omega) | (show (_ : Nat) ≤ _; omega) | (simp only [ll1, ll2, ll0]; first | done | omega) | (dsimp only; simp only [ll1, ll2, ll0]; omega)))) | exact True.intro | (show _ = _; first | with_reducible rfl | with_reducible assumption | omega | (simp only [ll1, ll2, ll0]; omega) | (rfl; done) | exact rfl) | with_reducible assumption | (apply And.intro) | omega | (intro j hj; exact rfl)))
def pwE (w h c n : Int) : Int := if imCheck w h c n ≠ 0 then imCheck w h c n else if c = 4 then 10 else 0
def pwL (w h c : Int) (p : List Int) : List Int := if pwE w h c p.length = 0 then strI (hdS w h c) ++ p else []
abbrev pwS : PSpec := fun l => match l with
  | [.agg [.int .i64 w, .int .i64 h, .int .i64 c, .roi .u8 p]] => some ([p.length ≤ 20000], .tup [.roi .u8 (pwL w h c p), .int .i64 (pwE w h c p.length)])
  | _ => none
theorem hdS_len {w h c : Int} (w0 : -9223372036854775808 ≤ w) (w1 : w ≤ 9223372036854775807) (h0 : -9223372036854775808 ≤ h) (h1 : h ≤ 9223372036854775807) : (hdS w h c).length ≤ 50 := by
  have lw := itoa_len w0 w1
  have lh := itoa_len h0 h1
  unfold hdS
  split
  · simp only [List.length_append]
    show 3 + (Lib.itoa w).length + 1 + (Lib.itoa h).length + 5 ≤ 50
    omega
  · split
    · simp only [List.length_append]
      show 3 + (Lib.itoa w).length + 1 + (Lib.itoa h).length + 5 ≤ 50
      omega
    · exact Nat.zero_le _
theorem pwrite_s : SOK Tryd.prog 8 pwS := by
  refine sok_of (C := mkE 0 [(22, checkS), (13, headS)] noG [] [] []) (mkE_ok (pok_cons check_s (pok_cons head_s pok_nil)) noG_ok dl_nil) rfl mixed ⟨Tryd.func8, by kernel_rfl, by kernel_rfl, by kernel_rfl⟩ fun l obs v h ho => ?_
  (unfold pwS at h; split at h; rotate_left; (focus (cases h)); rename_i w hh c p; simp only [Option.some.injEq, Prod.mk.injEq] at h; obtain ⟨rfl, rfl⟩ := h; simp only [List.mem_cons, List.not_mem_nil, or_false, forall_eq_or_imp, forall_eq, false_implies, implies_true] at ho)
  refine ⟨Nat.le_of_ble_eq_true rfl, ?_⟩
  by_cases e : imCheck w hh c p.length = 0
  · obtain ⟨c1, w1, w2, h1, h2, wh, _⟩ := fits_inv (check_inv e).1
    have lh := hdS_len (w := w) (h := hh) (c := c) (by omega) (by omega) (by omega) (by omega)
    by_cases c4 : c = 4
    · have e1 : pwE w hh c p.length = 10 := by unfold pwE; rw [if_neg (fun k => k e), if_pos c4]
      have e2 : pwL w hh c p = [] := if_neg (by rw [e1]; decide)
      have e3 : hdS w hh c = (ByteArray.mk #[]).data.toList := by unfold hdS; rw [if_neg (by omega), if_neg (by omega)]
      rw [e1, e2]
      (repeat' (first | (refine xI (fun hfk => ?_) (fun hfk => ?_) <;> ((try (first | replace hfk := oT hfk | replace hfk := oF hfk | simp only [oA, oB, dh1, dh0, ne_eq, reduceCtorEq] at hfk)); (try (exfalso; first | omega | contradiction | exact xF hfk (by with_reducible assumption) | exact xT hfk (by with_reducible assumption))))) | (refine And.intro ?ob ?_; (case ob => (first | exact Chk.mk (by kernel_rfl) | exact True.intro | with_reducible assumption | exact rng64 (by omega) (by omega) | omega | (dsimp only; omega) | (show (_ : Nat) ≤ _; omega) | (simp only [ll1, ll2, ll0]; first | done | omega) | (dsimp only; simp only [ll1, ll2, ll0]; omega)))) | exact True.intro | (show _ = _; first | with_reducible rfl | with_reducible assumption | omega | (simp only [ll1, ll2, ll0]; omega) | (rfl; done) | exact rfl) | with_reducible assumption | (apply And.intro) | omega | (intro j hj; exact rfl)))
    · have e1 : pwE w hh c p.length = 0 := by unfold pwE; rw [if_neg (fun k => k e), if_neg c4]
      have e2 : pwL w hh c p = strI (hdS w hh c) ++ p := if_pos e1
      have e3 : ¬ hdS w hh c = (ByteArray.mk #[]).data.toList := by
        unfold hdS
        rcases c1 with k | k | k
        · rw [if_pos k]; exact fun q => by cases q
        · rw [if_neg (by omega), if_pos k]; exact fun q => by cases q
        · exact absurd k c4
      rw [e1, e2]
      have lm : (List.map (fun c : UInt8 => (c.toNat : Int)) (hdS w hh c)).length = (hdS w hh c).length := List.length_map _
      have z1 : List.take ((List.map (fun c : UInt8 => (c.toNat : Int)) (hdS w hh c)).length + p.length) (List.drop 0 (List.map (fun c : UInt8 => (c.toNat : Int)) (hdS w hh c) ++ p)) = strI (hdS w hh c) ++ p := by
        rw [List.drop_zero, List.take_of_length_le (by rw [List.length_append]; exact Nat.le_refl _)]
      (repeat' (first | (refine xI (fun hfk => ?_) (fun hfk => ?_) <;> ((try (first | replace hfk := oT hfk | replace hfk := oF hfk | simp only [oA, oB, dh1, dh0, ne_eq, reduceCtorEq] at hfk)); (try (exfalso; first | omega | contradiction | exact xF hfk (by with_reducible assumption) | exact xT hfk (by with_reducible assumption))))) | (refine And.intro ?ob ?_; (case ob => (first | exact Chk.mk (by kernel_rfl) | exact True.intro | with_reducible assumption | exact rng64 (by omega) (by omega) | omega | (dsimp only; omega) | (show (_ : Nat) ≤ _; omega) | (simp only [ll1, ll2, ll0]; first | done | omega) | (dsimp only; simp only [ll1, ll2, ll0]; omega)))) | exact True.intro | (show _ = _; first | with_reducible rfl | with_reducible assumption | omega | (simp only [ll1, ll2, ll0]; omega) | (first | exact z1 | rfl; done) | exact rfl) | with_reducible assumption | (apply And.intro) | omega | (intro j hj; exact rfl)))
  · have e1 : pwE w hh c p.length = imCheck w hh c p.length := if_pos e
    have e2 : pwL w hh c p = [] := if_neg (by rw [e1]; exact e)
    rw [e1, e2]
    (repeat' (first | (refine xI (fun hfk => ?_) (fun hfk => ?_) <;> ((try (first | replace hfk := oT hfk | replace hfk := oF hfk | simp only [oA, oB, dh1, dh0, ne_eq, reduceCtorEq] at hfk)); (try (exfalso; first | omega | contradiction | exact xF hfk (by with_reducible assumption) | exact xT hfk (by with_reducible assumption))))) | (refine And.intro ?ob ?_; (case ob => (first | exact Chk.mk (by kernel_rfl) | exact True.intro | with_reducible assumption | exact rng64 (by omega) (by omega) | omega | (dsimp only; omega) | (show (_ : Nat) ≤ _; omega) | (simp only [ll1, ll2, ll0]; first | done | omega) | (dsimp only; simp only [ll1, ll2, ll0]; omega)))) | exact True.intro | (show _ = _; first | with_reducible rfl | with_reducible assumption | omega | (simp only [ll1, ll2, ll0]; omega) | (rfl; done) | exact rfl) | with_reducible assumption | (apply And.intro) | omega | (intro j hj; exact rfl)))
def pszV (w h c : Int) : Int := if (c = 1 ∨ c = 3) ∧ 1 ≤ w ∧ w ≤ 32768 ∧ 1 ≤ h ∧ h ≤ 32768 ∧ w * h ≤ 4194304 then ((hdS w h c).length : Int) + w * h * c else 0
end Go.Proofs.YtocboijpmmlegaaDoor
namespace Go.Proofs.YtocboijpmmlegaaDoor
open Go Go.RowKit
set_option maxHeartbeats 4000000
theorem strI_app (a b : List UInt8) : strI (a ++ b) = strI a ++ strI b := List.map_append
theorem strI_itoa (u : Nat) : strI (Lib.itoa (u : Int)) = decI u := by rw [Lib.itoa_nonneg]; rfl
theorem strI_hd {k w h : Nat} (hk : k = 1 ∨ k = 3) : strI (hdS w h k) = hdI k w h := by
  rcases hk with rfl | rfl
  · have e : hdS w h ((1 : Nat) : Int) = (ByteArray.mk #[80, 53, 10]).data.toList ++ Lib.itoa w ++ (ByteArray.mk #[32]).data.toList ++ Lib.itoa h ++ (ByteArray.mk #[10, 50, 53, 53, 10]).data.toList := if_pos rfl
    rw [e, strI_app, strI_app, strI_app, strI_app, strI_itoa, strI_itoa]
    unfold hdI
    rw [if_pos rfl]
    simp [strI]
  · have e : hdS w h ((3 : Nat) : Int) = (ByteArray.mk #[80, 54, 10]).data.toList ++ Lib.itoa w ++ (ByteArray.mk #[32]).data.toList ++ Lib.itoa h ++ (ByteArray.mk #[10, 50, 53, 53, 10]).data.toList := by
      unfold hdS; rw [if_neg (by decide), if_pos (by decide)]
    rw [e, strI_app, strI_app, strI_app, strI_app, strI_itoa, strI_itoa]
    unfold hdI
    rw [if_neg (by decide)]
    simp [strI]
theorem hdI_le (k : Nat) {w h : Nat} (w2 : w ≤ 32768) (h2 : h ≤ 32768) : (hdI k w h).length ≤ 19 := by
  rw [hdI_len]
  have := nD_le 4 w (by omega)
  have := nD_le 4 h (by omega)
  omega
theorem hdI_bytes (k w h : Nat) : Bytes (hdI k w h) := by
  have d : ∀ u, Bytes (decI u) := fun u x hx => by have := decI_dg u x hx; omega
  intro x hx
  unfold hdI at hx
  rcases List.mem_cons.1 hx with e | hx
  · omega
  rcases List.mem_cons.1 hx with e | hx
  · split at e <;> omega
  rcases List.mem_cons.1 hx with e | hx
  · omega
  rcases List.mem_append.1 hx with hx | hx
  · exact d w x hx
  rcases List.mem_cons.1 hx with e | hx
  · omega
  rcases List.mem_append.1 hx with hx | hx
  · exact d h x hx
  · simp only [List.mem_cons, List.not_mem_nil, or_false] at hx
    omega
structure PwOK (w h c : Int) (p q : List Int) (K W H : Nat) : Prop where
  hk : K = 1 ∨ K = 3
  w1 : 1 ≤ W
  w2 : W ≤ 32768
  h1 : 1 ≤ H
  h2 : H ≤ 32768
  hm : W * H ≤ 4194304
  hp : p.length = W * H * K
  ew : w = W
  eh : h = H
  ec : c = K
  eq : q = hdI K W H ++ p
theorem pw_im {w h c : Int} {p : List Int} (e : pwE w h c p.length = 0) : ∃ K W H : Nat, PwOK w h c p (pwL w h c p) K W H := by
  have e0 : imCheck w h c p.length = 0 := by
    unfold pwE at e
    split at e
    · rename_i k; exact absurd e k
    · rename_i k; exact Classical.not_not.1 k
  have e4 : c ≠ 4 := fun k => by unfold pwE at e; rw [if_neg (fun q => q e0), if_pos k] at e; cases e
  obtain ⟨hf, hn⟩ := check_inv e0
  obtain ⟨c1, w1, w2, h1, h2, wh, _⟩ := fits_inv hf
  obtain ⟨W, rfl⟩ : ∃ W : Nat, w = W := ⟨w.toNat, by omega⟩
  obtain ⟨H, rfl⟩ : ∃ H : Nat, h = H := ⟨h.toNat, by omega⟩
  obtain ⟨K, rfl⟩ : ∃ K : Nat, c = K := ⟨c.toNat, by omega⟩
  have hk : K = 1 ∨ K = 3 := by omega
  have cm : ((W * H : Nat) : Int) = (W : Int) * (H : Int) := Int.natCast_mul W H
  have hp : p.length = W * H * K := by
    have : ((W * H * K : Nat) : Int) = (W : Int) * (H : Int) * (K : Int) := by rw [Int.natCast_mul, cm]
    omega
  refine ⟨K, W, H, hk, by omega, by omega, by omega, by omega, by rw [← cm] at wh; omega, hp, rfl, rfl, rfl, ?_⟩
  unfold pwL
  rw [if_pos e, strI_hd hk]
structure PwRd (w h c : Int) (p q : List Int) : Prop where
  byt : Byt q
  e : pnE q = 0
  eW : pnK q (pgW q) = w
  eH : pnK q (pgH q) = h
  eC : pnK q (kdV q) = c
  eL : pnL q = p
  sz : (q.length : Int) = pszV w h c
  le : q.length ≤ 20019
  pos : 1 ≤ q.length
theorem psz_im {w h c : Int} {p q : List Int} {K W H : Nat} (o : PwOK w h c p q K W H) : (q.length : Int) = pszV w h c := by
  obtain ⟨hk, w1, w2, h1, h2, hm, hp, rfl, rfl, rfl, rfl⟩ := o
  have cm : ((W * H : Nat) : Int) = (W : Int) * (H : Int) := Int.natCast_mul W H
  have cm2 : ((W * H * K : Nat) : Int) = (W : Int) * (H : Int) * (K : Int) := by rw [Int.natCast_mul, cm]
  unfold pszV
  rw [if_pos ⟨by omega, by omega, by omega, by omega, by omega, by rw [← cm]; omega⟩, List.length_append, hp, ← strI_hd hk, List.length_map]
  omega
theorem pw_ok {w h c : Int} {p : List Int} (e : pwE w h c p.length = 0) (hp : p.length ≤ 20000) (hB : Bytes p) : PwRd w h c p (pwL w h c p) := by
  obtain ⟨K, W, H, o⟩ := pw_im e
  have sz := psz_im o
  obtain ⟨hk, w1, w2, h1, h2, hm, hp2, rfl, rfl, rfl, eq⟩ := o
  rw [eq] at sz ⊢
  obtain ⟨r1, r2, r3, r4, r5⟩ := rd_pw hk w1 w2 h1 h2 hm hp2
  have hl := hdI_le K w2 h2
  have hl2 := hdI_len K W H
  have hb : Bytes (hdI K W H ++ p) := fun x hx => (List.mem_append.1 hx).elim (hdI_bytes K W H x) (hB x)
  exact ⟨⟨by rw [List.length_append]; omega, fun i => hb.get i⟩, r1, r2, r3, r4, r5, sz, by rw [List.length_append]; omega, by rw [List.length_append]; omega⟩
theorem hd321 : hdS 3 2 1 = (ByteArray.mk #[80, 53, 10, 51, 32, 50, 10, 50, 53, 53, 10]).data.toList := by
  have e : hdS 3 2 1 = (ByteArray.mk #[80, 53, 10]).data.toList ++ Lib.itoa ((3 : Nat) : Int) ++ (ByteArray.mk #[32]).data.toList ++ Lib.itoa ((2 : Nat) : Int) ++ (ByteArray.mk #[10, 50, 53, 53, 10]).data.toList := if_pos rfl
  rw [e, Lib.itoa_nonneg, Lib.itoa_nonneg, Lib.decDigits_one (by decide), Lib.decDigits_one (by decide)]
  rfl
end Go.Proofs.YtocboijpmmlegaaDoor
namespace Go.Proofs.YtocboijpmmlegaaDoor
open Go Go.RowKit
set_option maxHeartbeats 4000000
theorem dgN_all : ∀ {l : List Int}, (∀ x ∈ l, 48 ≤ x ∧ x ≤ 57) → dgN l = l.length
  | [], _ => rfl
  | x :: l, h => by
    have ih := dgN_all (l := l) (fun z hz => h z (List.mem_cons_of_mem _ hz))
    show (if 48 ≤ x ∧ x ≤ 57 then dgN l + 1 else 0) = _
    rw [if_pos (h x List.mem_cons_self), ih]; rfl
theorem bk_dg {l : List Int} (h : ∀ x ∈ l, 48 ≤ x ∧ x ≤ 57) : bkG false l = 0 := by
  cases l with
  | nil => rfl
  | cons d r =>
    have hdd := h d List.mem_cons_self
    show (if isBl d = true then _ else if d = 35 then _ else 0) = 0
    rw [if_neg, if_neg (by omega)]
    unfold isBl
    intro k
    simp at k
    omega
theorem nb_cut {x : Int} {l : List Int} {m : Int} (hx : isBl x = true) (h : ∀ y ∈ l, 48 ≤ y ∧ y ≤ 57) : nbC (x :: l) m ≠ 0 ∨ (x :: l).drop (nbP (x :: l) m) = [] := by
  by_cases e : nbC (x :: l) m = 0
  · right
    have hb : bkG false (x :: l) = 1 := by
      show (if isBl x = true then bkG false l + 1 else _) = 1
      rw [if_pos hx, bk_dg h]
    have e2 : nbP (x :: l) m = bkG false (x :: l) + dgN ((x :: l).drop (bkG false (x :: l))) := if_pos e
    rw [e2, hb, show (x :: l).drop 1 = l from rfl, dgN_all h]
    apply List.drop_eq_nil_of_le
    rw [List.length_cons]; omega
  · exact .inl e
theorem nb_nil {m : Int} : nbC [] m = 20 := rfl
theorem take_dg {u j : Nat} : ∀ x ∈ (decI u).take j, 48 ≤ x ∧ x ≤ 57 := fun x hx => decI_dg u x (List.mem_of_mem_take hx)
theorem sz_cut1 {l : List Int} (h : ∀ y ∈ l, 48 ≤ y ∧ y ≤ 57) : szC (10 :: l) ≠ 0 := by
  unfold szC
  by_cases e : nbC (10 :: l) 32768 = 0
  · rcases nb_cut (x := 10) (m := 32768) rfl h with k | k
    · exact absurd e k
    · rw [if_neg (fun q => q e), k, nb_nil, if_pos (by decide)]; decide
  · rw [if_pos e]; exact e
theorem dp_cut {l : List Int} (h : ∀ y ∈ l, 48 ≤ y ∧ y ≤ 57) : dpC (10 :: l) ≠ 0 := by
  unfold dpC
  by_cases e : nbC (10 :: l) 255 = 0
  · rcases nb_cut (x := 10) (m := 255) rfl h with k | k
    · exact absurd e k
    · rw [if_neg (fun q => q e), k]
      split
      · decide
      · decide
  · rw [if_pos e]; exact e
theorem pgE_sz {k1 k2 : Int} {r : List Int} (h : szC r ≠ 0) : pgE (k1 :: k2 :: r) ≠ 0 := by
  unfold pgE
  split
  · assumption
  · rw [show (k1 :: k2 :: r).drop 2 = r from rfl, if_pos h]; exact h
theorem pgE_dp {k1 k2 : Int} {r : List Int} (h : dpC (r.drop (szP r)) ≠ 0) : pgE (k1 :: k2 :: r) ≠ 0 := by
  unfold pgE
  split
  · assumption
  · rw [show (k1 :: k2 :: r).drop 2 = r from rfl]
    split
    · assumption
    · exact h
theorem pnE_pg {b : List Int} (h : pgE b ≠ 0) : pnE b ≠ 0 := by unfold pnE; rw [if_pos h]; exact h
theorem pg_pre {k w h n : Nat} {p : List Int} (hk : k = 1 ∨ k = 3) (w1 : 1 ≤ w) (w2 : w ≤ 32768) (h1 : 1 ≤ h) (h2 : h ≤ 32768) (hn : n < (hdI k w h).length) :
    pgE ((hdI k w h ++ p).take n) ≠ 0 := by
  rw [hdI_len] at hn
  rw [List.take_append_of_le_length (by rw [hdI_len]; omega)]
  have lw := decI_len w
  have lh := decI_len h
  have e0 : hdI k w h = 80 :: (if k = 1 then 53 else 54) :: 10 :: (decI w ++ 32 :: (decI h ++ 10 :: (decI 255 ++ [10]))) := by rw [dec255]; rfl
  rw [e0]
  generalize (if k = 1 then (53 : Int) else 54) = kk
  match n with
  | 0 => show pgE [] ≠ 0; decide
  | 1 => show pgE [80] ≠ 0; decide
  | 2 => exact pgE_sz (r := []) (by decide)
  | n + 3 =>
    show pgE (80 :: kk :: 10 :: (decI w ++ 32 :: (decI h ++ 10 :: (decI 255 ++ [10]))).take n) ≠ 0
    rw [List.take_append, lw]
    by_cases c1 : n ≤ Lib.nDigits w
    · rw [show n - Lib.nDigits w = 0 by omega, List.take_zero, List.append_nil]
      exact pgE_sz (sz_cut1 take_dg)
    rw [List.take_of_length_le (by omega : (decI w).length ≤ n)]
    obtain ⟨j, hj⟩ : ∃ j, n - Lib.nDigits w = j + 1 := ⟨n - Lib.nDigits w - 1, by omega⟩
    rw [hj, List.take_succ_cons]
    rw [List.take_append, lh]
    by_cases c2 : j ≤ Lib.nDigits h
    · rw [show j - Lib.nDigits h = 0 by omega, List.take_zero, List.append_nil]
      have hd := take_dg (u := h) (j := j)
      generalize (decI h).take j = T at hd
      obtain ⟨a1, a2, a3⟩ := nb_dec (x := 10) (y := 32) (u := w) (rest := T) (m := 32768) rfl (by decide) w1 (by omega) (by omega)
      have d1 : (10 :: (decI w ++ 32 :: T) : List Int).drop (1 + Lib.nDigits w) = 32 :: T := drop_dec
      rcases nb_cut (x := 32) (m := 32768) rfl hd with q | q
      · refine pgE_sz ?_
        unfold szC
        rw [if_neg (fun z => z a1), a2, d1, if_pos q]; exact q
      · refine pgE_dp ?_
        unfold szP
        rw [if_pos a1, a2, d1, ← List.drop_drop, d1, q]; decide
    rw [List.take_of_length_le (by omega : (decI h).length ≤ j)]
    obtain ⟨i, hi⟩ : ∃ i, j - Lib.nDigits h = i + 1 := ⟨j - Lib.nDigits h - 1, by omega⟩
    have l255 : (decI 255).length = 3 := by rw [dec255]; rfl
    rw [hi, List.take_succ_cons, List.take_append_of_le_length (by omega)]
    have hd := take_dg (u := 255) (j := i)
    generalize (decI 255).take i = T at hd
    obtain ⟨a1, a2, a3⟩ := nb_dec (x := 10) (y := 32) (u := w) (rest := decI h ++ 10 :: T) (m := 32768) rfl (by decide) w1 (by omega) (by omega)
    have d1 : (10 :: (decI w ++ 32 :: (decI h ++ 10 :: T)) : List Int).drop (1 + Lib.nDigits w) = 32 :: (decI h ++ 10 :: T) := drop_dec
    obtain ⟨b1, b2, b3⟩ := nb_dec (x := 32) (y := 10) (u := h) (rest := T) (m := 32768) rfl (by decide) h1 (by omega) (by omega)
    have d2 : (32 :: (decI h ++ 10 :: T) : List Int).drop (1 + Lib.nDigits h) = 10 :: T := drop_dec
    refine pgE_dp ?_
    unfold szP
    rw [if_pos a1, a2, d1, b2, ← List.drop_drop, d1, d2]
    exact dp_cut hd
theorem pn_pre {w h c : Int} {p : List Int} (e : pwE w h c p.length = 0) {n : Nat} (hn : n < (pwL w h c p).length) :
    pnE ((pwL w h c p).take n) ≠ 0 ∧ ((hdS w h c).length ≤ n → pnE ((pwL w h c p).take n) = 20) := by
  obtain ⟨K, W, H, hk, w1, w2, h1, h2, hm, hp, rfl, rfl, rfl, eq⟩ := pw_im e
  rw [eq] at hn ⊢
  rw [List.length_append] at hn
  have hl : (hdS W H K).length = (hdI K W H).length := by rw [← strI_hd hk, List.length_map]
  rw [hl]
  by_cases c : (hdI K W H).length ≤ n
  · have et : (hdI K W H ++ p).take n = hdI K W H ++ p.take (n - (hdI K W H).length) := by rw [List.take_append, List.take_of_length_le c]
    have : pnE ((hdI K W H ++ p).take n) = 20 := by
      rw [et]
      have lt : (p.take (n - (hdI K W H).length)).length = n - (hdI K W H).length := by rw [List.length_take]; omega
      generalize p.take (n - (hdI K W H).length) = q at lt
      obtain ⟨e1, e2, e3, e4, e5⟩ := rd_hd (p := q) hk w1 w2 h1 h2 hm
      have eN : pnN (hdI K W H ++ q) = (p.length : Int) := by
        unfold pnN
        rw [e2, e3, e4, hp, Int.natCast_mul, Int.natCast_mul]
      unfold pnE
      rw [if_neg (by rw [e1]; decide), eN, e5, List.length_append, if_pos (by omega)]
    exact ⟨by rw [this]; decide, fun _ => this⟩
  · exact ⟨pnE_pg (pg_pre hk w1 w2 h1 h2 (by omega)), fun k => absurd k c⟩
theorem pn_more {w h c : Int} {p : List Int} (e : pwE w h c p.length = 0) (v : Int) : pnE (pwL w h c p ++ [v]) = 22 := by
  obtain ⟨K, W, H, hk, w1, w2, h1, h2, hm, hp, rfl, rfl, rfl, eq⟩ := pw_im e
  rw [eq, List.append_assoc]
  obtain ⟨e1, e2, e3, e4, e5⟩ := rd_hd (p := p ++ [v]) hk w1 w2 h1 h2 hm
  have eN : pnN (hdI K W H ++ (p ++ [v])) = (p.length : Int) := by
    unfold pnN
    rw [e2, e3, e4, hp, Int.natCast_mul, Int.natCast_mul]
  unfold pnE
  rw [if_neg (by rw [e1]; decide), eN, e5, List.length_append, List.length_append, if_neg (by omega), if_pos (by simp only [List.length_cons, List.length_nil]; omega)]
end Go.Proofs.YtocboijpmmlegaaDoor
namespace Go.Proofs.YtocboijpmmlegaaDoor
open Go Go.RowKit
set_option maxHeartbeats 4000000
theorem dgs_top : ∀ {n : Nat}, n ≠ 0 → 1 ≤ dgAt (dgs n) ((dgs n).length - 1 : Int) := by
  intro n
  induction n using Nat.strongRecOn with
  | ind n ih =>
    intro hn
    rw [dgs_pos hn]
    by_cases hq : n / 32768 = 0
    · rw [hq, dgs_0]
      show 1 ≤ dgAt [((n % 32768 : Nat) : Int)] (((1 : Nat) : Int) - 1)
      have : ((1 : Nat) : Int) - 1 = ((0 : Nat) : Int) := rfl
      rw [this, dgAt_in (show 0 < ([((n % 32768 : Nat) : Int)] : List Int).length from Nat.zero_lt_one)]
      show (1 : Int) ≤ ((n % 32768 : Nat) : Int)
      omega
    · have h1 := ih (n / 32768) (by omega) hq
      have hl : 1 ≤ (dgs (n / 32768)).length := by
        rw [dgs_pos hq, List.length_cons]; omega
      have e1 : (((((n % 32768 : Nat) : Int) :: dgs (n / 32768)).length : Int) - 1) = (((dgs (n / 32768)).length - 1 + 1 : Nat) : Int) := by rw [List.length_cons]; omega
      have e2 : ((dgs (n / 32768)).length : Int) - 1 = (((dgs (n / 32768)).length - 1 : Nat) : Int) := by omega
      rw [e2, dgAt_in (by omega)] at h1
      rw [e1, dgAt_in (by rw [List.length_cons]; omega)]
      exact h1
abbrev shortS : PSpec := gB2 (fun s d t e => [Bg s d, Bg t e, s = false, t = false, valD d < 18446744073709551616, valD e < 18446744073709551616, 0 < valD e]) fun s d t e => bigA (valD d / valD e)
theorem short_s : SOK Tryd.prog 64 shortS := by
  refine sok_of (C := mkC 0 [(40, unsignedS), (43, unsS), (69, madeS)] noG) (mkC_ok (pok_cons unsigned_s (pok_cons uns_s (pok_cons made_s pok_nil))) noG_ok) rfl mixed ⟨Tryd.func64, by kernel_rfl, by kernel_rfl, by kernel_rfl⟩ fun l obs v h ho => ?_
  unfold shortS at h
  (unfold gB2 at h; split at h; rotate_left; (focus (cases h)); rename_i s d t e; simp only [Option.some.injEq, Prod.mk.injEq] at h; obtain ⟨rfl, rfl⟩ := h; simp only [List.mem_cons, List.not_mem_nil, or_false, forall_eq_or_imp, forall_eq, false_implies, implies_true] at ho)
  obtain ⟨b1, b2, rfl, rfl, h3, h4, h5⟩ := ho
  have n1 := valD_nn b1.dig
  have q0 : 0 ≤ valD d / valD e := Int.ediv_nonneg n1 (by omega)
  have q1 : valD d / valD e ≤ valD d := Int.ediv_le_self _ n1
  have e0 : (valD d).tdiv (valD e) = valD d / valD e := Int.tdiv_eq_ediv_of_nonneg n1
  have z1 : (false && decide (0 < ((dgs (valD d / valD e).natAbs).length : Int))) = decide (valD d / valD e < 0) := by rw [Bool.false_and]; exact (decide_eq_false (by omega)).symm
  have ew : IntKind.u64.wrap ((valD d).tdiv (valD e)) = valD d / valD e := by rw [e0]; exact u64_id q0 (by omega)
  have z2 : dgs (IntKind.u64.wrap ((valD d).tdiv (valD e))).natAbs = dgs (valD d / valD e).natAbs := by rw [ew]
  have z3 : 0 ≤ IntKind.u64.wrap ((valD d).tdiv (valD e)) := by omega
  have z4 : IntKind.u64.wrap ((valD d).tdiv (valD e)) < 18446744073709551616 := by omega
  have z5 : (false && decide (0 < ((dgs (IntKind.u64.wrap ((valD d).tdiv (valD e))).natAbs).length : Int))) = decide (valD d / valD e < 0) := by rw [ew]; exact z1
  refine ⟨Nat.le_of_ble_eq_true rfl, ?_⟩
  (repeat' (first | (refine xI (fun hfk => ?_) (fun hfk => ?_) <;> ((try (first | replace hfk := oT hfk | replace hfk := oF hfk | simp only [oA, oB, dh1, dh0, ne_eq, reduceCtorEq] at hfk)); (try (exfalso; first | omega | contradiction | exact xF hfk (by with_reducible assumption) | exact xT hfk (by with_reducible assumption))))) | (refine And.intro ?ob ?_; (case ob => (first | exact Chk.mk (by kernel_rfl) | exact True.intro | with_reducible assumption | exact rng64 (by omega) (by omega) | omega | (dsimp only; omega) | (show (_ : Nat) ≤ _; omega) | (simp only [ll1, ll2, ll0]; first | done | omega) | (dsimp only; simp only [ll1, ll2, ll0]; omega)))) | exact True.intro | (show _ = _; first | with_reducible rfl | with_reducible assumption | omega | (simp only [ll1, ll2, ll0]; omega) | (first | exact b1 | exact b2 | exact z1 | exact z5 | exact z2 | rfl; done) | exact rfl) | with_reducible assumption | (apply And.intro) | omega | (intro j hj; exact rfl)))
def fz0 : AV → AV | .fls => .bool false | .tru => .bool true | x => x
def fzA : AV → AV | .agg l => .agg (l.map fz0) | x => fz0 x
theorem fz0_rep {R : PN} {w : World} {O : Nat → Prop} {x : AV} {v : Value} (h : Rep R w O x v) : Rep R w O (fz0 x) v := by
  unfold fz0
  split
  · cases h; exact .bool _
  · cases h; exact .bool _
  · exact h
theorem fzA_rep {R : PN} {w : World} {O : Nat → Prop} {x : AV} {v : Value} (h : Rep R w O x v) : Rep R w O (fzA x) v := by
  unfold fzA
  split
  · cases h with
    | agg l vs hl h =>
      refine .agg _ _ (by simpa using hl) fun j x v hx hv => ?_
      simp only [List.getElem?_map, Option.map_eq_some_iff] at hx
      obtain ⟨y, hy, rfl⟩ := hx
      exact fz0_rep (h j y v hy hv)
  · exact fz0_rep h
theorem sok_fz {P : Program} {g : FuncId} {s : PSpec} (h : SOK P g s) : SOK P g (fun l => s (l.map fzA)) :=
  ⟨h.1, fun l obs v h1 h2 w O cl h3 h4 => h.2 _ obs v h1 h2 w O cl h3 ⟨by simpa using h4.1, fun j x v hx hv => by
    simp only [List.getElem?_map, Option.map_eq_some_iff] at hx
    obtain ⟨y, hy, rfl⟩ := hx
    exact fzA_rep (h4.2 j y v hy hv)⟩⟩
abbrev floorS : PSpec := gB2 (fun s d t e => [Bg s d, Bg t e, s = false, t = false, valD d < 1152921504606846976, 0 < valD e, valD e < 18446744073709551616]) fun s d t e => bigA (valD d / valD e)
theorem Bg.dg {s : Bool} {l : List Int} (h : Bg s l) : l = dgs (valD l).toNat := h.can.symm
theorem len4 {d : List Int} {s : Bool} (h : Bg s d) (k : valD d < 1152921504606846976) : d.length ≤ 4 := by
  have n1 := valD_nn h.dig
  rw [h.dg]
  exact dgs_len (k := 4) (by have : (32768 : Nat) ^ 4 = 1152921504606846976 := rfl
                             omega)
theorem len5 {d : List Int} {s : Bool} (h : Bg s d) (k : 4 < d.length) : 1152921504606846976 ≤ valD d := by
  have n1 := valD_nn h.dig
  by_cases z : 1152921504606846976 ≤ valD d
  · exact z
  · have := len4 h (by omega); omega
theorem floor_s : SOK Tryd.prog 39 floorS := by
  refine sok_of (C := mkE 0 [(64, shortS), (65, digitS), (66, trimS), (25, ofS), (42, fun l => mulS (l.map fzA)), (67, lessS), (68, restS01), (69, madeS)] (glook [(66, frzP trimS)]) [] [] [10, 11, 14, 1000019])
    (mkE_ok (pok_cons short_s (pok_cons digit_s (pok_cons trim_s (pok_cons of_s (pok_cons (sok_fz mul_s) (pok_cons less_s (pok_cons rest01_s (pok_cons made_s pok_nil)))))))) (gl_cons (gfrzP trim_s) gl_nil) dl_nil) rfl mixed ⟨Tryd.func39, by kernel_rfl, by kernel_rfl, by kernel_rfl⟩ fun l obs v h ho => ?_
  unfold floorS at h
  (unfold gB2 at h; split at h; rotate_left; (focus (cases h)); rename_i s d t e; simp only [Option.some.injEq, Prod.mk.injEq] at h; obtain ⟨rfl, rfl⟩ := h; simp only [List.mem_cons, List.not_mem_nil, or_false, forall_eq_or_imp, forall_eq, false_implies, implies_true] at ho)
  obtain ⟨b1, b2, rfl, rfl, h3, h4, h5⟩ := ho
  have n1 := valD_nn b1.dig
  have l4 := len4 b1 h3
  refine ⟨Nat.le_of_ble_eq_true rfl, ?_⟩
  by_cases k4 : e.length ≤ 4
  · (repeat' (first | (refine xI (fun hfk => ?_) (fun hfk => ?_) <;> ((try (first | replace hfk := oT hfk | replace hfk := oF hfk | simp only [oA, oB, dh1, dh0, ne_eq, reduceCtorEq] at hfk)); (try (exfalso; first | omega | contradiction | exact xF hfk (by with_reducible assumption) | exact xT hfk (by with_reducible assumption))))) | (refine And.intro ?ob ?_; (case ob => (first | exact Chk.mk (by kernel_rfl) | exact True.intro | with_reducible assumption | exact rng64 (by omega) (by omega) | omega | (dsimp only; omega) | (show (_ : Nat) ≤ _; omega) | (simp only [ll1, ll2, ll0]; first | done | omega) | (dsimp only; simp only [ll1, ll2, ll0]; omega)))) | exact True.intro | (show _ = _; first | with_reducible rfl | with_reducible assumption | omega | (simp only [ll1, ll2, ll0]; omega) | (first | exact b1 | exact b2 | rfl; done) | exact rfl) | with_reducible assumption | (apply And.intro) | omega | (intro j hj; exact rfl)))
  have hbig := len5 b2 (by omega)
  have q0 : valD d / valD e = 0 := Int.ediv_eq_zero_of_lt n1 (by omega)
  rw [q0]
  have el : 5 ≤ e.length := by omega
  have sh := b2.sh.le
  have te1 := dgAt_bd b2.dig ((e.length : Int) - 1)
  have te2 := dgAt_bd b2.dig ((e.length : Int) - 2)
  have top : 1 ≤ dgAt e ((e.length : Int) - 1) := by
    have := dgs_top (n := (valD e).toNat) (by omega)
    rwa [b2.can] at this
  have rt1 : rngI .i64 (dgAt e ((e.length : Int) - 1) * 32768) := rng64 (by omega) (by omega)
  have rt2 : rngI .i64 (dgAt e ((e.length : Int) - 1) * 32768 + dgAt e ((e.length : Int) - 2)) := rng64 (by omega) (by omega)
  (repeat' (first | (refine xI (fun hfk => ?_) (fun hfk => ?_) <;> ((try (first | replace hfk := oT hfk | replace hfk := oF hfk | simp only [oA, oB, dh1, dh0, ne_eq, reduceCtorEq] at hfk)); (try (exfalso; first | omega | contradiction | exact xF hfk (by with_reducible assumption) | exact xT hfk (by with_reducible assumption))))) | (refine And.intro ?ob ?_; (case ob => (first | exact Chk.mk (by kernel_rfl) | exact True.intro | with_reducible assumption | exact rng64 (by omega) (by omega) | omega | (dsimp only; omega) | (show (_ : Nat) ≤ _; omega) | (simp only [ll1, ll2, ll0]; first | done | omega) | (dsimp only; simp only [ll1, ll2, ll0]; omega)))) | exact True.intro | (show _ = _; first | with_reducible rfl | with_reducible assumption | omega | (simp only [ll1, ll2, ll0]; omega) | (first | exact rt1 | exact rt2; done) | exact rfl) | with_reducible assumption | (apply And.intro) | omega | (intro j hj; exact rfl)))
  obtain ⟨T, hT⟩ : ∃ T, dgAt e ((e.length : Int) - 1) * 32768 + dgAt e ((e.length : Int) - 2) = T := ⟨_, rfl⟩
  have hT0 : 32768 ≤ T ∧ T ≤ 1073741823 := by omega
  have r0 : ([] : List Int) = dgs (valD (d.drop (d.length - 0))).toNat := by
    rw [Nat.sub_zero, List.drop_of_length_le (Nat.le_refl _)]
    exact dgs_0.symm
  refine ⟨Nat × List Int × List Int, fun g => [(2, .ptr 0 0), (3, .ptr 1 0), (4, .ptr 2 0), (5, .roi .i64 g.2.1), (6, .roi .i64 g.2.2), (7, .int .i64 (e.length : Int)), (8, .int .i64 T), (9, .int .i64 ((d.length : Int) - 1 - (g.1 : Int)))],
      fun g => ⟨3, [(0, some (.cells 49 [.bool false, .roi .i64 d])), (1, some (.cells 49 [.bool false, .roi .i64 e])), (2, some (.cells 49 [.fls, .nils]))]⟩,
      fun g => g.1 ≤ d.length ∧ g.2.1 = List.replicate g.1 0 ∧ g.2.2 = dgs (valD (d.drop (d.length - g.1))).toNat, fun g => d.length - g.1, ⟨(0, [], []), [some 0, some 1, some 2], ⟨Nat.zero_le _, rfl, r0⟩, ?_⟩, fun g hg => ?_⟩
  · (repeat' (first | (refine And.intro ?_ ?_) | exact True.intro | (show _ = _; with_reducible rfl) | exact Chk.mk (by kernel_rfl)))
    all_goals first | exact hT | rfl | (show (_ : Int) = _; omega)
  obtain ⟨m, q, r⟩ := g
  obtain ⟨g1, g2, g3⟩ := hg
  have g1 : m ≤ d.length := g1
  have g2 : q = List.replicate m 0 := g2
  have g3 : r = dgs (valD (d.drop (d.length - m))).toNat := g3
  dsimp only
  clear r0 hT te1 te2 top rt1 rt2
  have ql : q.length = m := by rw [g2, List.length_replicate]
  by_cases hlt : m < d.length
  · have rl4 : r.length ≤ 4 := by
      have h1 := valD_drop_le (d.length - m) b1.dig
      have h2 := valD_nn (b1.dig.drop (d.length - m))
      rw [g3]
      exact dgs_len (k := 4) (by have : (32768 : Nat) ^ 4 = 1152921504606846976 := rfl
                                 omega)
    have rr : rngI .i64 ((d.length : Int) - 1 - (m : Int) - 1) := rng64 (by omega) (by omega)
    obtain ⟨R, hR⟩ : ∃ R, dgs (valD (d.drop (d.length - (m + 1)))).toNat = R := ⟨_, rfl⟩
    have ei : ((d.length : Int) - 1 - (m : Int)).toNat = d.length - (m + 1) := by omega
    have hcons : d.getD ((d.length : Int) - 1 - (m : Int)).toNat 0 :: r = d.getD (d.length - (m + 1)) 0 :: dgs (valD (d.drop (d.length - m))).toNat := by rw [ei, g3]
    have hdr : d.drop (d.length - (m + 1)) = d.getD (d.length - (m + 1)) 0 :: d.drop (d.length - m) := by
      rw [drop_dg (by omega), dgAt_in (by omega), show d.length - (m + 1) + 1 = d.length - m by omega]
    have hdg : Dig (d.getD (d.length - (m + 1)) 0 :: dgs (valD (d.drop (d.length - m))).toNat) := by
      refine Dig.cons ?_ (Dig_dgs _)
      have := b1.dig.drop (d.length - (m + 1))
      rw [hdr] at this
      exact this.head
    have nn := valD_nn (b1.dig.drop (d.length - m))
    have hv : valD (d.getD (d.length - (m + 1)) 0 :: dgs (valD (d.drop (d.length - m))).toNat) = valD (d.drop (d.length - (m + 1))) := by
      rw [hdr]
      show _ + 32768 * valD (dgs _) = _ + 32768 * valD _
      rw [valD_dgs, Int.toNat_of_nonneg nn]
    have htr : trimL (List.take (((fun x => d.getD ((d.length : Int) - 1 - (m : Int)).toNat 0 :: x) ([] : List Int)).length + r.length) (List.drop 0 ((fun x => d.getD ((d.length : Int) - 1 - (m : Int)).toNat 0 :: x) ([] : List Int) ++ r))) = R := by
      have e1 : List.take (((fun x => d.getD ((d.length : Int) - 1 - (m : Int)).toNat 0 :: x) ([] : List Int)).length + r.length) (List.drop 0 ((fun x => d.getD ((d.length : Int) - 1 - (m : Int)).toNat 0 :: x) ([] : List Int) ++ r)) = d.getD ((d.length : Int) - 1 - (m : Int)).toNat 0 :: r := by
        show List.take (1 + r.length) (d.getD ((d.length : Int) - 1 - (m : Int)).toNat 0 :: r) = _
        rw [List.take_of_length_le (by rw [List.length_cons]; omega)]
      rw [e1, hcons, trim_dgs hdg, hv, hR]
    have hst : ShT (List.take (((fun x => d.getD ((d.length : Int) - 1 - (m : Int)).toNat 0 :: x) ([] : List Int)).length + r.length) (List.drop 0 ((fun x => d.getD ((d.length : Int) - 1 - (m : Int)).toNat 0 :: x) ([] : List Int) ++ r))) := by
      refine ⟨?_⟩
      show (List.take (1 + r.length) (d.getD ((d.length : Int) - 1 - (m : Int)).toNat 0 :: r)).length ≤ 4000000
      rw [List.length_take, List.length_cons]; omega
    (repeat' (first | (refine xI (fun hfk => ?_) (fun hfk => ?_) <;> ((try (first | replace hfk := oT hfk | replace hfk := oF hfk | simp only [oA, oB, dh1, dh0, ne_eq, reduceCtorEq] at hfk)); (try (exfalso; first | omega | contradiction | exact xF hfk (by with_reducible assumption) | exact xT hfk (by with_reducible assumption))))) | (refine And.intro ?ob ?_; (case ob => (first | exact Chk.mk (by kernel_rfl) | exact True.intro | with_reducible assumption | exact rng64 (by omega) (by omega) | omega | (dsimp only; omega) | (show (_ : Nat) ≤ _; omega) | (simp only [ll1, ll2, ll0]; first | done | omega) | (dsimp only; simp only [ll1, ll2, ll0]; omega)))) | exact True.intro | (show _ = _; first | with_reducible rfl | with_reducible assumption | omega | (simp only [ll1, ll2, ll0]; omega) | (first | exact hst | skip; done) | exact rfl) | with_reducible assumption | (apply And.intro) | omega | (intro j hj; exact rfl)))
    refine ⟨[(2, .ptr 0 0), (3, .ptr 1 0), (4, .ptr 2 0), (5, .roi .i64 q), (6, .roi .i64 R), (7, .int .i64 (e.length : Int)), (8, .int .i64 T), (9, .int .i64 ((d.length : Int) - 1 - (m : Int)))],
      ⟨3, [(0, some (.cells 49 [.bool false, .roi .i64 d])), (1, some (.cells 49 [.bool false, .roi .i64 e])), (2, some (.cells 49 [.fls, .nils]))]⟩, [some 0, some 1, some 2], ?_, ?_⟩
    · (repeat' (first | (refine And.intro ?_ ?_) | exact True.intro | (show _ = _; with_reducible rfl) | exact Chk.mk (by kernel_rfl)))
      all_goals first | exact htr | rfl
    clear htr hst hv hdg hdr hcons g3 ei nn
    have Rn : valD R < 1152921504606846976 ∧ 0 ≤ valD R := by
      have h1 := valD_drop_le (d.length - (m + 1)) b1.dig
      have h2 := valD_nn (b1.dig.drop (d.length - (m + 1)))
      rw [← hR, valD_dgs]
      omega
    have RD : Dig R := by rw [← hR]; exact Dig_dgs _
    have Rl : R.length ≤ 4 := by
      rw [← hR]
      refine dgs_len (k := 4) ?_
      rw [← hR, valD_dgs] at Rn
      have : (32768 : Nat) ^ 4 = 1152921504606846976 := rfl
      omega
    have z1 : dgAt R (e.length : Int) = 0 := dgAt_out (by omega)
    have z2 : dgAt R ((e.length : Int) - 1) = 0 := if_neg (by omega)
    have z3 := dgAt_bd RD ((e.length : Int) - 2)
    obtain ⟨f, hf⟩ : ∃ f, dgAt R ((e.length : Int) - 2) = f := ⟨_, rfl⟩
    rw [hf] at z3
    (repeat' (first | (refine xI (fun hfk => ?_) (fun hfk => ?_) <;> ((try (first | replace hfk := oT hfk | replace hfk := oF hfk | simp only [oA, oB, dh1, dh0, ne_eq, reduceCtorEq] at hfk)); (try (exfalso; first | omega | contradiction | exact xF hfk (by with_reducible assumption) | exact xT hfk (by with_reducible assumption))))) | (refine And.intro ?ob ?_; (case ob => (first | exact Chk.mk (by kernel_rfl) | exact True.intro | with_reducible assumption | exact rng64 (by omega) (by omega) | omega | (dsimp only; omega) | (show (_ : Nat) ≤ _; omega) | (simp only [ll1, ll2, ll0]; first | done | omega) | (dsimp only; simp only [ll1, ll2, ll0]; omega)))) | exact True.intro | (show _ = _; first | with_reducible rfl | with_reducible assumption | omega | (simp only [ll1, ll2, ll0]; omega) | (skip; done) | exact rfl) | with_reducible assumption | (apply And.intro) | omega | (intro j hj; exact rfl)))
    refine ⟨[(2, .ptr 0 0), (3, .ptr 1 0), (4, .ptr 2 0), (5, .roi .i64 q), (6, .roi .i64 R), (7, .int .i64 (e.length : Int)), (8, .int .i64 T), (9, .int .i64 ((d.length : Int) - 1 - (m : Int))), (10, .int .i64 f)],
      ⟨3, [(0, some (.cells 49 [.bool false, .roi .i64 d])), (1, some (.cells 49 [.bool false, .roi .i64 e])), (2, some (.cells 49 [.fls, .nils]))]⟩, [some 0, some 1, some 2], ?_, ?_⟩
    · have ef : (dgAt R (e.length : Int) * 32768 + dgAt R ((e.length : Int) - 1)) * 32768 + dgAt R ((e.length : Int) - 2) = f := by rw [z1, z2, hf]; omega
      (repeat' (first | (refine And.intro ?_ ?_) | exact True.intro | (show _ = _; with_reducible rfl) | exact Chk.mk (by kernel_rfl)))
      all_goals first | exact ef | rfl
    clear z1 z2 hf
    have d1 : f.tdiv (T + 1) = 0 := by rw [Int.tdiv_eq_ediv_of_nonneg (by omega)]; exact Int.ediv_eq_zero_of_lt (by omega) (by omega)
    obtain ⟨hi, hhi⟩ : ∃ hi, min 32767 ((f + 1).tdiv T) = hi := ⟨_, rfl⟩
    have hq : (f + 1).tdiv T = 0 ∨ (f + 1).tdiv T = 1 := by
      rw [Int.tdiv_eq_ediv_of_nonneg (by omega)]
      have h1 : 0 ≤ (f + 1) / T := Int.ediv_nonneg (by omega) (by omega)
      have h2 : (f + 1) / T < 2 := Int.ediv_lt_of_lt_mul (by omega) (by omega)
      omega
    have hh : hi = 0 ∨ hi = 1 := by omega
    have dr1 : rngI .i64 (f.tdiv (T + 1)) := by rw [d1]; exact rng64 (by omega) (by omega)
    have dr2 : rngI .i64 ((f + 1).tdiv T) := rng64 (by omega) (by omega)
    (repeat' (first | (refine xI (fun hfk => ?_) (fun hfk => ?_) <;> ((try (first | replace hfk := oT hfk | replace hfk := oF hfk | simp only [oA, oB, dh1, dh0, ne_eq, reduceCtorEq] at hfk)); (try (exfalso; first | omega | contradiction | exact xF hfk (by with_reducible assumption) | exact xT hfk (by with_reducible assumption))))) | (refine And.intro ?ob ?_; (case ob => (first | exact Chk.mk (by kernel_rfl) | exact True.intro | with_reducible assumption | exact rng64 (by omega) (by omega) | omega | (dsimp only; omega) | (show (_ : Nat) ≤ _; omega) | (simp only [ll1, ll2, ll0]; first | done | omega) | (dsimp only; simp only [ll1, ll2, ll0]; omega)))) | exact True.intro | (show _ = _; first | with_reducible rfl | with_reducible assumption | omega | (simp only [ll1, ll2, ll0]; omega) | (first | exact dr1 | exact dr2 | skip; done) | exact rfl) | with_reducible assumption | (apply And.intro) | omega | (intro j hj; exact rfl)))
    have hh0 : min 32767 ((f + 1).tdiv T) = ((hi.toNat : Nat) : Int) := by omega
    refine ⟨Nat, fun h => [(2, .ptr 0 0), (3, .ptr 1 0), (4, .ptr 2 0), (5, .roi .i64 q), (6, .roi .i64 R), (7, .int .i64 (e.length : Int)), (8, .int .i64 T), (9, .int .i64 ((d.length : Int) - 1 - (m : Int))), (11, .int .i64 0), (12, .int .i64 (h : Int))],
      fun h => ⟨3, [(0, some (.cells 49 [.bool false, .roi .i64 d])), (1, some (.cells 49 [.bool false, .roi .i64 e])), (2, some (.cells 49 [.fls, .nils]))]⟩,
      fun h => h ≤ 1, fun h => h, ⟨hi.toNat, [some 0, some 1, some 2], by show hi.toNat ≤ 1; omega, ?_⟩, fun h hh2 => ?_⟩
    · (repeat' (first | (refine And.intro ?_ ?_) | exact True.intro | (show _ = _; with_reducible rfl) | exact Chk.mk (by kernel_rfl)))
      all_goals first | exact d1 | exact hh0 | rfl
    clear dr1 dr2 hq hh hhi hh0 d1 z3
    have hh2 : h ≤ 1 := hh2
    have be : bzv false e = valD e := rfl
    have BgO : ∀ z : Int, z = 0 ∨ z = 1 → Bg (decide (z < 0)) (dgs z.natAbs) := fun z hz => Bg_i64 (by omega) (by omega)
    by_cases h1 : h = 1
    · subst h1
      have m1 : Int.tdiv (0 + ((1 : Nat) : Int) + 1) 2 = 1 := by decide
      have rm : rngI .i64 (Int.tdiv (0 + ((1 : Nat) : Int) + 1) 2) := by rw [m1]; exact rng64 (by omega) (by omega)
      (repeat' (first | (refine xI (fun hfk => ?_) (fun hfk => ?_) <;> ((try (first | replace hfk := oT hfk | replace hfk := oF hfk | simp only [oA, oB, dh1, dh0, ne_eq, reduceCtorEq] at hfk)); (try (exfalso; first | omega | contradiction | exact xF hfk (by with_reducible assumption) | exact xT hfk (by with_reducible assumption))))) | (refine And.intro ?ob ?_; (case ob => (first | exact Chk.mk (by kernel_rfl) | exact True.intro | with_reducible assumption | exact rng64 (by omega) (by omega) | omega | (dsimp only; omega) | (show (_ : Nat) ≤ _; omega) | (simp only [ll1, ll2, ll0]; first | done | omega) | (dsimp only; simp only [ll1, ll2, ll0]; omega)))) | exact True.intro | (show _ = _; first | with_reducible rfl | with_reducible assumption | omega | (simp only [ll1, ll2, ll0]; omega) | (first | exact rm | skip; done) | exact rfl) | with_reducible assumption | (apply And.intro) | omega | (intro j hj; exact rfl)))
      refine ⟨[(2, .ptr 0 0), (3, .ptr 1 0), (4, .ptr 2 0), (5, .roi .i64 q), (6, .roi .i64 R), (7, .int .i64 (e.length : Int)), (8, .int .i64 T), (9, .int .i64 ((d.length : Int) - 1 - (m : Int))), (11, .int .i64 0), (12, .int .i64 ((1 : Nat) : Int)), (13, .int .i64 1)],
        ⟨3, [(0, some (.cells 49 [.bool false, .roi .i64 d])), (1, some (.cells 49 [.bool false, .roi .i64 e])), (2, some (.cells 49 [.fls, .nils]))]⟩, [some 0, some 1, some 2], ?_, ?_⟩
      · (repeat' (first | (refine And.intro ?_ ?_) | exact True.intro | (show _ = _; with_reducible rfl) | exact Chk.mk (by kernel_rfl)))
        all_goals first | exact m1 | rfl
      clear m1 rm
      have B1 := BgO 1 (.inr rfl)
      have ev : bzv (decide ((1 : Int) < 0)) (dgs (Int.natAbs 1)) * bzv false e = valD e := by rw [bzv_big, be, Int.one_mul]
      have hd : dgs (bzv (decide ((1 : Int) < 0)) (dgs (Int.natAbs 1)) * bzv false e).natAbs = e := by
        rw [ev]
        refine Eq.trans ?_ b2.can
        congr 1; omega
      have hc : cmpV (valD (dgs (bzv (decide ((1 : Int) < 0)) (dgs (Int.natAbs 1)) * bzv false e).natAbs)) (valD R) = 1 := by
        rw [hd]; unfold cmpV; rw [if_neg (by omega), if_pos (by omega)]
      have sh1 : Sh (dgs (bzv (decide ((1 : Int) < 0)) (dgs (Int.natAbs 1)) * bzv false e).natAbs) := by rw [hd]; exact b2.sh
      have dg1 : Dig (dgs (bzv (decide ((1 : Int) < 0)) (dgs (Int.natAbs 1)) * bzv false e).natAbs) := Dig_dgs _
      have shR : Sh R := ⟨by omega⟩
      clear ev hd
      (repeat' (first | (refine xI (fun hfk => ?_) (fun hfk => ?_) <;> ((try (first | replace hfk := oT hfk | replace hfk := oF hfk | simp only [oA, oB, dh1, dh0, ne_eq, reduceCtorEq] at hfk)); (try (exfalso; first | omega | contradiction | exact xF hfk (by with_reducible assumption) | exact xT hfk (by with_reducible assumption))))) | (refine And.intro ?ob ?_; (case ob => (first | exact Chk.mk (by kernel_rfl) | exact True.intro | with_reducible assumption | exact rng64 (by omega) (by omega) | omega | (dsimp only; omega) | (show (_ : Nat) ≤ _; omega) | (simp only [ll1, ll2, ll0]; first | done | omega) | (dsimp only; simp only [ll1, ll2, ll0]; omega)))) | exact True.intro | (show _ = _; first | with_reducible rfl | with_reducible assumption | omega | (simp only [ll1, ll2, ll0]; omega) | (first | exact B1 | exact b2 | exact sh1 | exact dg1 | exact shR | exact RD | skip; done) | exact rfl) | with_reducible assumption | (apply And.intro) | omega | (intro j hj; exact rfl)))
      refine ⟨0, [some 0, some 1, some 2], Nat.zero_le _, Nat.zero_lt_one, ?_⟩
      (repeat' (first | (refine And.intro ?_ ?_) | exact True.intro | (show _ = _; with_reducible rfl) | exact Chk.mk (by kernel_rfl)))
      all_goals first | rfl | (show (_ : Int) = _; omega)
    · obtain rfl : h = 0 := by omega
      have B0 := BgO 0 (.inl rfl)
      have ev : bzv (decide ((0 : Int) < 0)) (dgs (Int.natAbs 0)) * bzv false e = 0 := by rw [bzv_big, Int.zero_mul]
      have hd : dgs (bzv (decide ((0 : Int) < 0)) (dgs (Int.natAbs 0)) * bzv false e).natAbs = [] := by rw [ev]; exact dgs_0
      have hr : dgs (valD R - valD (dgs (bzv (decide ((0 : Int) < 0)) (dgs (Int.natAbs 0)) * bzv false e).natAbs)).toNat = R := by
        rw [hd]
        show dgs (valD R - 0).toNat = R
        rw [Int.sub_zero, ← hR, valD_dgs, Int.toNat_natCast]
      have sh1 : Sh (dgs (bzv (decide ((0 : Int) < 0)) (dgs (Int.natAbs 0)) * bzv false e).natAbs) := by rw [hd]; exact ⟨Nat.zero_le _⟩
      have dg1 : Dig (dgs (bzv (decide ((0 : Int) < 0)) (dgs (Int.natAbs 0)) * bzv false e).natAbs) := Dig_dgs _
      have le1 : valD (dgs (bzv (decide ((0 : Int) < 0)) (dgs (Int.natAbs 0)) * bzv false e).natAbs) ≤ valD R := by rw [hd]; exact Rn.2
      have shR : Sh R := ⟨by omega⟩
      clear ev hd
      (repeat' (first | (refine xI (fun hfk => ?_) (fun hfk => ?_) <;> ((try (first | replace hfk := oT hfk | replace hfk := oF hfk | simp only [oA, oB, dh1, dh0, ne_eq, reduceCtorEq] at hfk)); (try (exfalso; first | omega | contradiction | exact xF hfk (by with_reducible assumption) | exact xT hfk (by with_reducible assumption))))) | (refine And.intro ?ob ?_; (case ob => (first | exact Chk.mk (by kernel_rfl) | exact True.intro | with_reducible assumption | exact rng64 (by omega) (by omega) | omega | (dsimp only; omega) | (show (_ : Nat) ≤ _; omega) | (simp only [ll1, ll2, ll0]; first | done | omega) | (dsimp only; simp only [ll1, ll2, ll0]; omega)))) | exact True.intro | (show _ = _; first | with_reducible rfl | with_reducible assumption | omega | (simp only [ll1, ll2, ll0]; omega) | (first | exact B0 | exact b2 | exact sh1 | exact dg1 | exact le1 | exact shR | exact RD | skip; done) | exact rfl) | with_reducible assumption | (apply And.intro) | omega | (intro j hj; exact rfl)))
      refine ⟨[5], ?_⟩
      (repeat' (first | (refine xI (fun hfk => ?_) (fun hfk => ?_) <;> ((try (first | replace hfk := oT hfk | replace hfk := oF hfk | simp only [oA, oB, dh1, dh0, ne_eq, reduceCtorEq] at hfk)); (try (exfalso; first | omega | contradiction | exact xF hfk (by with_reducible assumption) | exact xT hfk (by with_reducible assumption))))) | (refine And.intro ?ob ?_; (case ob => (first | exact Chk.mk (by kernel_rfl) | exact True.intro | with_reducible assumption | exact rng64 (by omega) (by omega) | omega | (dsimp only; omega) | (show (_ : Nat) ≤ _; omega) | (simp only [ll1, ll2, ll0]; first | done | omega) | (dsimp only; simp only [ll1, ll2, ll0]; omega)))) | exact True.intro | (show _ = _; first | with_reducible rfl | with_reducible assumption | omega | (simp only [ll1, ll2, ll0]; omega) | (skip; done) | exact rfl) | with_reducible assumption | (apply And.intro) | omega | (intro j hj; exact rfl)))
      have q1 : List.take (((fun x => (0 : Int) :: x) ([] : List Int)).length + q.length) (List.drop 0 ((fun x => (0 : Int) :: x) ([] : List Int) ++ q)) = 0 :: q := by
        show List.take (1 + q.length) ((0 : Int) :: q) = _
        rw [List.take_of_length_le (by rw [List.length_cons]; omega)]
      refine ⟨[(2, .ptr 0 0), (3, .ptr 1 0), (4, .ptr 2 0), (5, .roi .i64 (0 :: q)), (6, .roi .i64 R), (7, .int .i64 (e.length : Int)), (8, .int .i64 T), (9, .int .i64 ((d.length : Int) - 1 - (m : Int)))],
        ⟨3, [(0, some (.cells 49 [.bool false, .roi .i64 d])), (1, some (.cells 49 [.bool false, .roi .i64 e])), (2, some (.cells 49 [.fls, .nils]))]⟩, [some 0, some 1, some 2], ?_, ?_⟩
      · (repeat' (first | (refine And.intro ?_ ?_) | exact True.intro | (show _ = _; with_reducible rfl) | exact Chk.mk (by kernel_rfl)))
        all_goals first | exact q1 | exact hr | rfl
      clear q1 hr B0 sh1 dg1 le1 shR BgO
      (repeat' (first | (refine xI (fun hfk => ?_) (fun hfk => ?_) <;> ((try (first | replace hfk := oT hfk | replace hfk := oF hfk | simp only [oA, oB, dh1, dh0, ne_eq, reduceCtorEq] at hfk)); (try (exfalso; first | omega | contradiction | exact xF hfk (by with_reducible assumption) | exact xT hfk (by with_reducible assumption))))) | (refine And.intro ?ob ?_; (case ob => (first | exact Chk.mk (by kernel_rfl) | exact True.intro | with_reducible assumption | exact rng64 (by omega) (by omega) | omega | (dsimp only; omega) | (show (_ : Nat) ≤ _; omega) | (simp only [ll1, ll2, ll0]; first | done | omega) | (dsimp only; simp only [ll1, ll2, ll0]; omega)))) | exact True.intro | (show _ = _; first | with_reducible rfl | with_reducible assumption | omega | (simp only [ll1, ll2, ll0]; omega) | (skip; done) | exact rfl) | with_reducible assumption | (apply And.intro) | omega | (intro j hj; exact rfl)))
      refine ⟨(m + 1, 0 :: q, R), [some 0, some 1, some 2], ⟨hlt, by rw [g2]; rfl, hR.symm⟩, ?mu2, ?_⟩
      case mu2 => (show d.length - (m + 1) < d.length - m; omega)
      (repeat' (first | (refine And.intro ?_ ?_) | exact True.intro | (show _ = _; with_reducible rfl) | exact Chk.mk (by kernel_rfl)))
      all_goals first | rfl | (show (_ : Int) = _; omega)
  · obtain rfl : m = d.length := by omega
    have tz : trimL q = [] := by
      rw [g2]
      have : Dig (List.replicate d.length 0) := fun x hx => by rw [(List.mem_replicate.1 hx).2]; exact ⟨by decide, by decide⟩
      rw [trim_dgs this, valD_zero]; exact dgs_0
    have sq : ShT q := ⟨by omega⟩
    have e0 : dgs (Int.natAbs 0) = [] := dgs_0
    (repeat' (first | (refine xI (fun hfk => ?_) (fun hfk => ?_) <;> ((try (first | replace hfk := oT hfk | replace hfk := oF hfk | simp only [oA, oB, dh1, dh0, ne_eq, reduceCtorEq] at hfk)); (try (exfalso; first | omega | contradiction | exact xF hfk (by with_reducible assumption) | exact xT hfk (by with_reducible assumption))))) | (refine And.intro ?ob ?_; (case ob => (first | exact Chk.mk (by kernel_rfl) | exact True.intro | with_reducible assumption | exact rng64 (by omega) (by omega) | omega | (dsimp only; omega) | (show (_ : Nat) ≤ _; omega) | (simp only [ll1, ll2, ll0]; first | done | omega) | (dsimp only; simp only [ll1, ll2, ll0]; omega)))) | exact True.intro | (show _ = _; first | with_reducible rfl | with_reducible assumption | omega | (simp only [ll1, ll2, ll0]; omega) | (first | exact sq | exact tz | exact tz.trans e0.symm | rfl; done) | exact rfl) | with_reducible assumption | (apply And.intro) | omega | (intro j hj; exact rfl)))
end Go.Proofs.YtocboijpmmlegaaDoor
namespace Go.Proofs.YtocboijpmmlegaaDoor
open Go Go.RowKit
def dstr (T : TypeId → Option TI) (o : Op) (e : Env) (H : AH) : DR := match o with
  | .convert s d x => (match tdq T s, tdq T d, evA e x with
    | .slice es, .str, some v => (match tdq T es, intsOfA H .u8 v with
      | .int .u8, some (obs, l) => some (obs, .str (l.map fun n => UInt8.ofNat n.toNat), [], H.nx)
      | _, _ => none)
    | _, _, _ => none)
  | _ => none
def dX5 (T : TypeId → Option TI) (o : Op) (e : Env) (H : AH) : DR := match dstr T o e H with | some r => some r | none => dX4 T o e H
theorem dstr_congr {T : TypeId → Option TI} {o : Op} {e e' : Env} {H : AH} (h : ∀ x ∈ o.operands.toList, evA e x = evA e' x) : dstr T o e H = dstr T o e' H := by
  unfold dstr
  split
  · rename_i s d x
    rw [h x (by simp [Op.operands])]
  · rfl
theorem copyok5 {C : Ctx} (hC : C.X = xop4 C.T) (hD : C.DX = dX5 C.T) : CopyOK C := by
  have c4 := copyok4 (C := { C with X := xop4 C.T, DX := dX4 C.T }) rfl rfl
  refine ⟨fun o e e' H h => by
    have := c4.congr o e e' H h
    rw [hD]; unfold dX5; rw [dstr_congr h]
    show _ = (match dstr C.T o e' H with | some r => some r | none => dX4 C.T o e' H)
    rw [show dX4 C.T o e H = dX4 C.T o e' H from this], ?_⟩
  intro o e H obs v δ nx K h ho hK
  rw [hC]
  rw [hD] at h
  unfold dX5 at h
  split at h
  · rename_i r hr
    cases h
    unfold dstr at hr
    split at hr
    · rename_i s d x
      split at hr
      · rename_i es u hs hd hx
        split at hr
        · rename_i obs' l he hi
          cases hr
          have hb : rowB C.T (.convert s d x) e H = false := by
            unfold rowB
            simp only [hs, hd, hx]
          show xop4 C.T _ e H K
          unfold xop4
          rw [hb]
          show xop2 C.T _ e H K
          unfold xop2
          simp only [xsB2]
          unfold xop
          simp only [hx]
          unfold aconvX
          simp only [hs, hd, he, hi]
          exact obl_intro ho hK
        · cases hr
      · cases hr
    · cases hr
  · exact c4.out o e H obs v δ nx K h ho hK
noncomputable def mkT (p : Nat) (S : List (FuncId × PSpec)) (G : FuncId → Option GSpec) (D0 D : List (FuncId × FSpec)) (cuts : List Nat) : Ctx := ⟨p, tlook tt, slook S, dG (D0 ++ D) G, xsE (tlook tt), xop4 (tlook tt), fun i => cuts.any (Nat.beq i), dXD (D0 ++ D), dXN0 D0 D, dX5 (tlook tt)⟩
theorem mkT_ok {p : Nat} {S : List (FuncId × PSpec)} {G : FuncId → Option GSpec} {D0 D : List (FuncId × FSpec)} {cuts : List Nat} (hS : POK Tryd.prog (slook S)) (hG : ∀ g s, G g = some s → GSOK Tryd.prog g s) (hD : ∀ g FS, dlook (D0 ++ D) g = some FS → GSOK Tryd.prog g (fG FS)) : COK Tryd.prog (mkT p S G D0 D cuts) :=
  ⟨ttok, hS, gok_of ttok (xok4 ttok rfl) (fun g s h => by
    simp only [mkT, dG] at h
    split at h
    · rename_i FS hd
      cases h
      exact hD g FS hd
    · exact hG g s h), dok_of (D0 ++ D), copyok5 rfl rfl⟩
end Go.Proofs.YtocboijpmmlegaaDoor
namespace Go.Proofs.YtocboijpmmlegaaDoor
open Go Go.RowKit
set_option maxHeartbeats 4000000
theorem dec_step {n : Nat} (h : 0 < n) (s : List UInt8) : (if n < 10 then [] else Lib.decDigits (n / 10)) ++ (UInt8.ofNat (48 + n % 10) :: s) = Lib.decDigits n ++ s := by
  by_cases k : n < 10
  · rw [if_pos k, Lib.decDigits_one k, Nat.mod_eq_of_lt k]; rfl
  · rw [if_neg k]
    conv => rhs; rw [Lib.decDigits, dif_neg k]
    simp
structure TxI (N n : Nat) (s : List UInt8) : Prop where
  le : n ≤ N
  pos : 0 < n → Lib.decDigits n ++ s = Lib.decDigits N
  nil : n = 0 → s = if N = 0 then [] else Lib.decDigits N
theorem tx_0 (N : Nat) : TxI N N [] := ⟨Nat.le_refl _, fun _ => List.append_nil _, fun h => by rw [h]; rfl⟩
theorem tx_next {N n : Nat} {s : List UInt8} (h : TxI N n s) (hn : 0 < n) : TxI N (n / 10) (UInt8.ofNat (48 + n % 10) :: s) := by
  have hN := h.le
  have hp := h.pos hn
  rw [← dec_step hn] at hp
  refine ⟨by omega, fun k => ?_, fun k => ?_⟩
  · rw [if_neg (by omega)] at hp; exact hp
  · rw [if_pos (by omega)] at hp; rw [if_neg (by omega)]; exact hp
theorem tx_len {N n : Nat} {s : List UInt8} (h : TxI N n s) (hN : N < 10 ^ 20) : s.length ≤ 20 := by
  have hl : (Lib.decDigits N).length ≤ 20 := by rw [Lib.decDigits_length]; exact nD_le 19 N hN
  by_cases k : n = 0
  · rw [h.nil k]; split
    · exact Nat.zero_le _
    · exact hl
  · rw [← h.pos (by omega), List.length_append] at hl; omega
structure TxOK (d : List Int) : Prop where
  lt : valD d < 1152921504606846976
theorem len_i64' {n : Nat} (h : n ≤ 1000) : ((n : Nat) : Int) ≤ IntKind.i64.max := by
  show (n : Int) ≤ 9223372036854775807
  omega
theorem Bg_nat {n : Nat} (h : n < 37778931862957161709568) : Bg false (dgs n) :=
  ⟨Dig_dgs _, by rw [valD_dgs, Int.toNat_natCast], ⟨by
    have := dgs_len (k := 5) (n := n) (by have : (32768 : Nat) ^ 5 = 37778931862957161709568 := rfl
                                          omega)
    omega⟩, fun k => by cases k⟩
theorem Bg10 : Bg (decide ((10 : Int) < 0)) (dgs (Int.natAbs 10)) := Bg_i64 (by omega) (by omega)
theorem val10 : valD (dgs (Int.natAbs 10)) = 10 := by rw [valD_dgs]; rfl
theorem bzv10 : bzv (decide ((10 : Int) < 0)) (dgs (Int.natAbs 10)) = 10 := bzv_big 10
def txV (s : Bool) (d : List Int) : List UInt8 := Lib.itoa (bzv s d)
abbrev textS : PSpec := gB1 (fun s d => [Bg s d, TxOK d]) fun s d => .str (txV s d)
theorem text_s : SOK Tryd.prog 24 textS := by
  refine sok_of (C := mkT 0 [(25, ofS), (39, fun l => floorS (l.map fzA)), (42, fun l => mulS (l.map fzA)), (41, fun l => subS (l.map fzA)), (40, unsignedS)] noG [] [] [2, 4, 5])
    (mkT_ok (pok_cons of_s (pok_cons (sok_fz floor_s) (pok_cons (sok_fz mul_s) (pok_cons (sok_fz sub_s) (pok_cons unsigned_s pok_nil))))) noG_ok dl_nil) rfl mixed ⟨Tryd.func24, by kernel_rfl, by kernel_rfl, by kernel_rfl⟩ fun l obs v h ho => ?_
  unfold textS at h
  (unfold gB1 at h; split at h; rotate_left; (focus (cases h)); rename_i sg d; simp only [Option.some.injEq, Prod.mk.injEq] at h; obtain ⟨rfl, rfl⟩ := h; simp only [List.mem_cons, List.not_mem_nil, or_false, forall_eq_or_imp, forall_eq, false_implies, implies_true] at ho)
  obtain ⟨b1, hok⟩ := ho
  have hlt := hok.lt
  have n1 := valD_nn b1.dig
  obtain ⟨N, hN⟩ : ∃ N : Nat, valD d = N := ⟨(valD d).toNat, by omega⟩
  have hd : d = dgs N := by rw [b1.dg, hN, Int.toNat_natCast]
  refine ⟨Nat.le_of_ble_eq_true rfl, ?_⟩
  (repeat' (first | (refine xI (fun hfk => ?_) (fun hfk => ?_) <;> ((try (first | replace hfk := oT hfk | replace hfk := oF hfk | simp only [oA, oB, dh1, dh0, ne_eq, reduceCtorEq] at hfk)); (try (exfalso; first | omega | contradiction | exact xF hfk (by with_reducible assumption) | exact xT hfk (by with_reducible assumption))))) | (refine And.intro ?ob ?_; (case ob => (first | exact Chk.mk (by kernel_rfl) | exact True.intro | with_reducible assumption | exact rng64 (by omega) (by omega) | omega | (dsimp only; omega) | (show (_ : Nat) ≤ _; omega) | (simp only [ll1, ll2, ll0]; first | done | omega) | (dsimp only; simp only [ll1, ll2, ll0]; omega)))) | exact True.intro | (show _ = _; first | with_reducible rfl | with_reducible assumption | omega | (simp only [ll1, ll2, ll0]; omega) | (skip; done) | exact rfl) | with_reducible assumption | (apply And.intro) | omega | (intro j hj; exact rfl)))
  refine ⟨[(1, .ptr 0 0), (2, .str []), (3, .str []), (4, .ptr 1 0)],
    ⟨2, [(0, some (.cells 49 [.bool sg, .roi .i64 d])), (1, some (.cells 49 [.bool false, .roi .i64 (dgs N)]))]⟩, [some 0, some 1], ?_, ?_⟩
  · (repeat' (first | (refine And.intro ?_ ?_) | exact True.intro | (show _ = _; with_reducible rfl) | exact Chk.mk (by kernel_rfl)))
    all_goals first | exact hd | rfl
  (repeat' (first | (refine xI (fun hfk => ?_) (fun hfk => ?_) <;> ((try (first | replace hfk := oT hfk | replace hfk := oF hfk | simp only [oA, oB, dh1, dh0, ne_eq, reduceCtorEq] at hfk)); (try (exfalso; first | omega | contradiction | exact xF hfk (by with_reducible assumption) | exact xT hfk (by with_reducible assumption))))) | (refine And.intro ?ob ?_; (case ob => (first | exact Chk.mk (by kernel_rfl) | exact True.intro | with_reducible assumption | exact rng64 (by omega) (by omega) | omega | (dsimp only; omega) | (show (_ : Nat) ≤ _; omega) | (simp only [ll1, ll2, ll0]; first | done | omega) | (dsimp only; simp only [ll1, ll2, ll0]; omega)))) | exact True.intro | (show _ = _; first | with_reducible rfl | with_reducible assumption | omega | (simp only [ll1, ll2, ll0]; omega) | (skip; done) | exact rfl) | with_reducible assumption | (apply And.intro) | omega | (intro j hj; exact rfl)))
  refine ⟨Nat × List UInt8, fun g => [(1, .ptr 0 0), (2, .str []), (3, .str g.2), (4, .ptr 1 0)], fun g => ⟨2, [(0, some (.cells 49 [.bool sg, .roi .i64 d])), (1, some (.cells 49 [.bool false, .roi .i64 (dgs g.1)]))]⟩,
    fun g => TxI N g.1 g.2, fun g => g.1, ⟨(N, []), [some 0, some 1], tx_0 N, ?_⟩, fun g hg => ?_⟩
  · (repeat' (first | (refine And.intro ?_ ?_) | exact True.intro | (show _ = _; with_reducible rfl) | exact Chk.mk (by kernel_rfl)))
    all_goals rfl
  obtain ⟨n, s⟩ := g
  have hg : TxI N n s := hg
  dsimp only
  have hle := hg.le
  by_cases hn : n = 0
  · have hs := hg.nil hn
    subst hn
    have l0 : (dgs 0).length = 0 := by rw [dgs_0]; rfl
    by_cases hN0 : N = 0
    · rw [if_pos hN0] at hs
      subst hs
      have e : txV sg d = [48] := by
        unfold txV bzv
        rw [hN, hN0]
        have : (if sg = true then -((0 : Nat) : Int) else ((0 : Nat) : Int)) = ((0 : Nat) : Int) := by split <;> rfl
        rw [this, Lib.itoa_nonneg, Lib.decDigits_one (by decide)]; rfl
      (repeat' (first | (refine xI (fun hfk => ?_) (fun hfk => ?_) <;> ((try (first | replace hfk := oT hfk | replace hfk := oF hfk | simp only [oA, oB, dh1, dh0, ne_eq, reduceCtorEq] at hfk)); (try (exfalso; first | omega | contradiction | exact xF hfk (by with_reducible assumption) | exact xT hfk (by with_reducible assumption))))) | (refine And.intro ?ob ?_; (case ob => (first | exact Chk.mk (by kernel_rfl) | exact True.intro | with_reducible assumption | exact rng64 (by omega) (by omega) | omega | (dsimp only; omega) | (show (_ : Nat) ≤ _; omega) | (simp only [ll1, ll2, ll0]; first | done | omega) | (dsimp only; simp only [ll1, ll2, ll0]; omega)))) | exact True.intro | (show _ = _; first | with_reducible rfl | with_reducible assumption | omega | (simp only [ll1, ll2, ll0]; omega) | (exact e.symm; done) | exact rfl) | with_reducible assumption | (apply And.intro) | omega | (intro j hj; exact rfl)))
    · rw [if_neg hN0] at hs
      subst hs
      have hp := nD_pos N
      have hl := Lib.decDigits_length N
      have ne : ¬ Lib.decDigits N = [] := fun k => by rw [k] at hl; simp at hl; omega
      have l20 : (Lib.decDigits N).length ≤ 20 := by rw [hl]; exact nD_le 19 N (by omega)
      cases sg with
      | true =>
        have e : txV true d = 45 :: Lib.decDigits N := by
          unfold txV bzv
          rw [if_pos rfl, hN, Lib.itoa_neg N (by omega)]
        have q1 : (ByteArray.mk #[45]).data.toList.length = 1 := rfl
        have q2 : ((((ByteArray.mk #[45]).data.toList.length + (Lib.decDigits N).length : Nat)) : Int) ≤ IntKind.i64.max := len_i64' (by omega)
        (repeat' (first | (refine xI (fun hfk => ?_) (fun hfk => ?_) <;> ((try (first | replace hfk := oT hfk | replace hfk := oF hfk | simp only [oA, oB, dh1, dh0, ne_eq, reduceCtorEq] at hfk)); (try (exfalso; first | omega | contradiction | exact xF hfk (by with_reducible assumption) | exact xT hfk (by with_reducible assumption))))) | (refine And.intro ?ob ?_; (case ob => (first | exact Chk.mk (by kernel_rfl) | exact True.intro | with_reducible assumption | exact rng64 (by omega) (by omega) | omega | (dsimp only; omega) | (show (_ : Nat) ≤ _; omega) | (simp only [ll1, ll2, ll0]; first | done | omega) | (dsimp only; simp only [ll1, ll2, ll0]; omega)))) | exact True.intro | (show _ = _; first | with_reducible rfl | with_reducible assumption | omega | (simp only [ll1, ll2, ll0]; omega) | (first | exact e.symm | exact q2; done) | exact rfl) | with_reducible assumption | (apply And.intro) | omega | (intro j hj; exact rfl)))
      | false =>
        have e : txV false d = Lib.decDigits N := by
          unfold txV bzv
          rw [if_neg (by decide), hN, Lib.itoa_nonneg]
        (repeat' (first | (refine xI (fun hfk => ?_) (fun hfk => ?_) <;> ((try (first | replace hfk := oT hfk | replace hfk := oF hfk | simp only [oA, oB, dh1, dh0, ne_eq, reduceCtorEq] at hfk)); (try (exfalso; first | omega | contradiction | exact xF hfk (by with_reducible assumption) | exact xT hfk (by with_reducible assumption))))) | (refine And.intro ?ob ?_; (case ob => (first | exact Chk.mk (by kernel_rfl) | exact True.intro | with_reducible assumption | exact rng64 (by omega) (by omega) | omega | (dsimp only; omega) | (show (_ : Nat) ≤ _; omega) | (simp only [ll1, ll2, ll0]; first | done | omega) | (dsimp only; simp only [ll1, ll2, ll0]; omega)))) | exact True.intro | (show _ = _; first | with_reducible rfl | with_reducible assumption | omega | (simp only [ll1, ll2, ll0]; omega) | (exact e.symm; done) | exact rfl) | with_reducible assumption | (apply And.intro) | omega | (intro j hj; exact rfl)))
  · have hn0 : 0 < n := by omega
    have hnx := tx_next hg hn0
    have ls := tx_len hg (by omega)
    have l1 : 0 < ((dgs n).length : Int) := dgs_len0.2 hn0
    have vn : valD (dgs n) = n := valD_dgs n
    have BN : Bg false (dgs n) := Bg_nat (by omega)
    have B10 := Bg10
    have v10 := val10
    have f10 : decide ((10 : Int) < 0) = false := rfl
    (repeat' (first | (refine xI (fun hfk => ?_) (fun hfk => ?_) <;> ((try (first | replace hfk := oT hfk | replace hfk := oF hfk | simp only [oA, oB, dh1, dh0, ne_eq, reduceCtorEq] at hfk)); (try (exfalso; first | omega | contradiction | exact xF hfk (by with_reducible assumption) | exact xT hfk (by with_reducible assumption))))) | (refine And.intro ?ob ?_; (case ob => (first | exact Chk.mk (by kernel_rfl) | exact True.intro | with_reducible assumption | exact rng64 (by omega) (by omega) | omega | (dsimp only; omega) | (show (_ : Nat) ≤ _; omega) | (simp only [ll1, ll2, ll0]; first | done | omega) | (dsimp only; simp only [ll1, ll2, ll0]; omega)))) | exact True.intro | (show _ = _; first | with_reducible rfl | with_reducible assumption | omega | (simp only [ll1, ll2, ll0]; omega) | (first | exact BN | exact B10 | exact f10; done) | exact rfl) | with_reducible assumption | (apply And.intro) | omega | (intro j hj; exact rfl)))
    refine ⟨[(1, .ptr 0 0), (2, .str []), (3, .str s), (4, .ptr 1 0), (5, .ptr 2 0)],
      ⟨3, [(0, some (.cells 49 [.bool sg, .roi .i64 d])), (1, some (.cells 49 [.bool false, .roi .i64 (dgs n)])), (2, some (.cells 49 [.bool false, .roi .i64 (dgs (n / 10))]))]⟩, [some 0, some 1, some 2], ?_, ?_⟩
    · have eq : valD (dgs n) / valD (dgs (Int.natAbs 10)) = ((n / 10 : Nat) : Int) := by rw [vn, v10]; rfl
      have e1 : decide (valD (dgs n) / valD (dgs (Int.natAbs 10)) < 0) = false := by rw [eq]; exact decide_eq_false (by omega)
      have e2 : dgs (valD (dgs n) / valD (dgs (Int.natAbs 10))).natAbs = dgs (n / 10) := by rw [eq, Int.natAbs_natCast]
      (repeat' (first | (refine And.intro ?_ ?_) | exact True.intro | (show _ = _; with_reducible rfl) | exact Chk.mk (by kernel_rfl)))
      all_goals first | exact e1 | exact e2 | rfl
    have BQ : Bg false (dgs (n / 10)) := Bg_nat (by omega)
    have vq : bzv false (dgs (n / 10)) = (n / 10 : Nat) := valD_dgs _
    have vn' : bzv false (dgs n) = n := valD_dgs _
    have v10' := bzv10
    have em : bzv false (dgs (n / 10)) * bzv (decide ((10 : Int) < 0)) (dgs (Int.natAbs 10)) = ((n / 10 * 10 : Nat) : Int) := by rw [vq, v10']; omega
    have BM : Bg (decide (bzv false (dgs (n / 10)) * bzv (decide ((10 : Int) < 0)) (dgs (Int.natAbs 10)) < 0)) (dgs (bzv false (dgs (n / 10)) * bzv (decide ((10 : Int) < 0)) (dgs (Int.natAbs 10))).natAbs) := by
      rw [em, decide_eq_false (by omega), Int.natAbs_natCast]; exact Bg_nat (by omega)
    have es : (bzv false (dgs n) - bzv (decide (bzv false (dgs (n / 10)) * bzv (decide ((10 : Int) < 0)) (dgs (Int.natAbs 10)) < 0)) (dgs (bzv false (dgs (n / 10)) * bzv (decide ((10 : Int) < 0)) (dgs (Int.natAbs 10))).natAbs)) = ((n % 10 : Nat) : Int) := by rw [bzv_big, em, vn']; omega
    have BS : Bg (decide ((bzv false (dgs n) - bzv (decide (bzv false (dgs (n / 10)) * bzv (decide ((10 : Int) < 0)) (dgs (Int.natAbs 10)) < 0)) (dgs (bzv false (dgs (n / 10)) * bzv (decide ((10 : Int) < 0)) (dgs (Int.natAbs 10))).natAbs)) < 0)) (dgs (bzv false (dgs n) - bzv (decide (bzv false (dgs (n / 10)) * bzv (decide ((10 : Int) < 0)) (dgs (Int.natAbs 10)) < 0)) (dgs (bzv false (dgs (n / 10)) * bzv (decide ((10 : Int) < 0)) (dgs (Int.natAbs 10))).natAbs)).natAbs) := by
      rw [es, decide_eq_false (by omega), Int.natAbs_natCast]; exact Bg_nat (by omega)
    have vs : valD (dgs (bzv false (dgs n) - bzv (decide (bzv false (dgs (n / 10)) * bzv (decide ((10 : Int) < 0)) (dgs (Int.natAbs 10)) < 0)) (dgs (bzv false (dgs (n / 10)) * bzv (decide ((10 : Int) < 0)) (dgs (Int.natAbs 10))).natAbs)).natAbs) = ((n % 10 : Nat) : Int) := by rw [es, Int.natAbs_natCast, valD_dgs]
    have vs2 : valD (dgs (bzv false (dgs n) - bzv (decide (bzv false (dgs (n / 10)) * bzv (decide ((10 : Int) < 0)) (dgs (Int.natAbs 10)) < 0)) (dgs (bzv false (dgs (n / 10)) * bzv (decide ((10 : Int) < 0)) (dgs (Int.natAbs 10))).natAbs)).natAbs) < 18446744073709551616 := by omega
    have hL : (List.map (fun n : Int => UInt8.ofNat n.toNat) (List.take 1 (List.drop 0 ((fun x => (IntKind.u8.wrap (IntKind.u64.wrap (48 + valD (dgs (bzv false (dgs n) - bzv (decide (bzv false (dgs (n / 10)) * bzv (decide ((10 : Int) < 0)) (dgs (Int.natAbs 10)) < 0)) (dgs (bzv false (dgs (n / 10)) * bzv (decide ((10 : Int) < 0)) (dgs (Int.natAbs 10))).natAbs)).natAbs)))) :: x) ([] : List Int))))) = [UInt8.ofNat (48 + n % 10)] := by
      rw [vs]
      have w1 : IntKind.u64.wrap (48 + ((n % 10 : Nat) : Int)) = ((48 + n % 10 : Nat) : Int) := by rw [u64_id (by omega) (by omega)]; omega
      have w2 : IntKind.u8.wrap ((48 + n % 10 : Nat) : Int) = ((48 + n % 10 : Nat) : Int) := wrap_rng ⟨by show (0 : Int) ≤ _; omega, by show _ ≤ (255 : Int); omega⟩
      rw [w1, w2]; rfl
    have hl2 : ((((List.map (fun n : Int => UInt8.ofNat n.toNat) (List.take 1 (List.drop 0 ((fun x => (IntKind.u8.wrap (IntKind.u64.wrap (48 + valD (dgs (bzv false (dgs n) - bzv (decide (bzv false (dgs (n / 10)) * bzv (decide ((10 : Int) < 0)) (dgs (Int.natAbs 10)) < 0)) (dgs (bzv false (dgs (n / 10)) * bzv (decide ((10 : Int) < 0)) (dgs (Int.natAbs 10))).natAbs)).natAbs)))) :: x) ([] : List Int))))).length + s.length : Nat)) : Int) ≤ IntKind.i64.max := by
      rw [hL]; exact len_i64' (by show 1 + s.length ≤ 1000; omega)
    (repeat' (first | (refine xI (fun hfk => ?_) (fun hfk => ?_) <;> ((try (first | replace hfk := oT hfk | replace hfk := oF hfk | simp only [oA, oB, dh1, dh0, ne_eq, reduceCtorEq] at hfk)); (try (exfalso; first | omega | contradiction | exact xF hfk (by with_reducible assumption) | exact xT hfk (by with_reducible assumption))))) | (refine And.intro ?ob ?_; (case ob => (first | exact Chk.mk (by kernel_rfl) | exact True.intro | with_reducible assumption | exact rng64 (by omega) (by omega) | omega | (dsimp only; omega) | (show (_ : Nat) ≤ _; omega) | (simp only [ll1, ll2, ll0]; first | done | omega) | (dsimp only; simp only [ll1, ll2, ll0]; omega)))) | exact True.intro | (show _ = _; first | with_reducible rfl | with_reducible assumption | omega | (simp only [ll1, ll2, ll0]; omega) | (first | exact BN | exact B10 | exact BQ | exact BM | exact BS | exact vs2 | exact hl2; done) | exact rfl) | with_reducible assumption | (apply And.intro) | omega | (intro j hj; exact rfl)))
    refine ⟨[(1, .ptr 0 0), (2, .str []), (3, .str (UInt8.ofNat (48 + n % 10) :: s)), (4, .ptr 1 0), (5, .ptr 2 0)],
      ⟨3, [(0, some (.cells 49 [.bool sg, .roi .i64 d])), (1, some (.cells 49 [.bool false, .roi .i64 (dgs n)])), (2, some (.cells 49 [.bool false, .roi .i64 (dgs (n / 10))]))]⟩, [some 0, some 1, some 2], ?_, ?_⟩
    · have e3 : (List.map (fun n : Int => UInt8.ofNat n.toNat) (List.take 1 (List.drop 0 ((fun x => (IntKind.u8.wrap (IntKind.u64.wrap (48 + valD (dgs (bzv false (dgs n) - bzv (decide (bzv false (dgs (n / 10)) * bzv (decide ((10 : Int) < 0)) (dgs (Int.natAbs 10)) < 0)) (dgs (bzv false (dgs (n / 10)) * bzv (decide ((10 : Int) < 0)) (dgs (Int.natAbs 10))).natAbs)).natAbs)))) :: x) ([] : List Int))))) ++ s = UInt8.ofNat (48 + n % 10) :: s := by rw [hL]; rfl
      (repeat' (first | (refine And.intro ?_ ?_) | exact True.intro | (show _ = _; with_reducible rfl) | exact Chk.mk (by kernel_rfl)))
      all_goals first | exact e3 | rfl
    clear hL hl2 vs2 vs BS es BM em
    (repeat' (first | (refine xI (fun hfk => ?_) (fun hfk => ?_) <;> ((try (first | replace hfk := oT hfk | replace hfk := oF hfk | simp only [oA, oB, dh1, dh0, ne_eq, reduceCtorEq] at hfk)); (try (exfalso; first | omega | contradiction | exact xF hfk (by with_reducible assumption) | exact xT hfk (by with_reducible assumption))))) | (refine And.intro ?ob ?_; (case ob => (first | exact Chk.mk (by kernel_rfl) | exact True.intro | with_reducible assumption | exact rng64 (by omega) (by omega) | omega | (dsimp only; omega) | (show (_ : Nat) ≤ _; omega) | (simp only [ll1, ll2, ll0]; first | done | omega) | (dsimp only; simp only [ll1, ll2, ll0]; omega)))) | exact True.intro | (show _ = _; first | with_reducible rfl | with_reducible assumption | omega | (simp only [ll1, ll2, ll0]; omega) | (skip; done) | exact rfl) | with_reducible assumption | (apply And.intro) | omega | (intro j hj; exact rfl)))
    refine ⟨(n / 10, UInt8.ofNat (48 + n % 10) :: s), [some 0, some 1], hnx, ?mu, ?_⟩
    case mu => (show n / 10 < n; omega)
    (repeat' (first | (refine And.intro ?_ ?_) | exact True.intro | (show _ = _; with_reducible rfl) | exact Chk.mk (by kernel_rfl)))
    all_goals rfl
end Go.Proofs.YtocboijpmmlegaaDoor
namespace Go.Proofs.YtocboijpmmlegaaDoor
open Go Go.RowKit
set_option maxHeartbeats 4000000
theorem txV_big (z : Int) : txV (decide (z < 0)) (dgs z.natAbs) = Lib.itoa z := by unfold txV; rw [bzv_big]
structure TxZ (z : Int) : Prop where
  lo : -1152921504606846976 < z
  hi : z < 1152921504606846976
theorem TxZ.ok {z : Int} (h : TxZ z) : TxOK (dgs z.natAbs) := ⟨by have := h.lo; have := h.hi; rw [valD_dgs]; omega⟩
theorem TxZ.bg {z : Int} (h : TxZ z) : Bg (decide (z < 0)) (dgs z.natAbs) := by have := h.lo; have := h.hi; exact Bg_i64 (by omega) (by omega)
abbrev rheadS : PSpec := fun l => match l with | [.int .i64 w, .int .i64 h, .int .i64 c] => some ([TxZ w, TxZ h], .str (hdS w h c)) | _ => none
theorem rhead15_s : SOK Tryd.prog 11 rheadS := by
  refine sok_of (C := mkC 0 [(25, ofS), (24, textS)] noG) (mkC_ok (pok_cons of_s (pok_cons text_s pok_nil)) noG_ok) rfl mixed ⟨Tryd.func11, by kernel_rfl, by kernel_rfl, by kernel_rfl⟩ fun l obs v h ho => ?_
  (unfold rheadS at h; split at h; rotate_left; (focus (cases h)); rename_i w hh c; simp only [Option.some.injEq, Prod.mk.injEq] at h; obtain ⟨rfl, rfl⟩ := h; simp only [List.mem_cons, List.not_mem_nil, or_false, forall_eq_or_imp, forall_eq, false_implies, implies_true] at ho)
  obtain ⟨tw, th⟩ := ho
  refine ⟨Nat.le_of_ble_eq_true rfl, ?_⟩
  have w0 := tw.lo
  have w1 := tw.hi
  have h0 := th.lo
  have h1 := th.hi
  have bw := tw.bg
  have bh := th.bg
  have ow := tw.ok
  have oh := th.ok
  have vw := txV_big w
  have vh := txV_big hh
  have lw := itoa_len (x := w) (by omega) (by omega)
  have lh := itoa_len (x := hh) (by omega) (by omega)
  rw [← vw] at lw
  rw [← vh] at lh
  unfold hdS
  rw [← vw, ← vh]
  clear vw vh
  have q0 : (ByteArray.mk #[80, 53]).data.toList.length = 2 := rfl
  have q1 : (ByteArray.mk #[80, 54]).data.toList.length = 2 := rfl
  have q2 : (ByteArray.mk #[10]).data.toList.length = 1 := rfl
  have q3 : (ByteArray.mk #[32]).data.toList.length = 1 := rfl
  have q4 : (ByteArray.mk #[10, 50, 53, 53, 10]).data.toList.length = 5 := rfl
  by_cases c1 : c = 1
  · subst c1
    rw [if_pos rfl]
    (repeat' (first | (refine xI (fun hfk => ?_) (fun hfk => ?_) <;> ((try (first | replace hfk := oT hfk | replace hfk := oF hfk | simp only [oA, oB, dh1, dh0, ne_eq, reduceCtorEq] at hfk)); (try (exfalso; first | omega | contradiction | exact xF hfk (by with_reducible assumption) | exact xT hfk (by with_reducible assumption))))) | (refine And.intro ?ob ?_; (case ob => (first | exact Chk.mk (by kernel_rfl) | exact True.intro | with_reducible assumption | exact rng64 (by omega) (by omega) | omega | (dsimp only; omega) | (show (_ : Nat) ≤ _; omega) | (simp only [ll1, ll2, ll0]; first | done | omega) | (dsimp only; simp only [ll1, ll2, ll0]; omega)))) | exact True.intro | (show _ = _; first | with_reducible rfl | with_reducible assumption | omega | (simp only [ll1, ll2, ll0]; omega) | (first | exact bw | exact bh | exact ow | exact oh | rfl; done) | exact rfl) | with_reducible assumption | (apply And.intro) | omega | (intro j hj; exact rfl)))
    all_goals first | (refine len_i64 ?_; (repeat rw [List.length_append]); omega) | skip
  · by_cases c3 : c = 3
    · subst c3
      rw [if_neg (by decide), if_pos rfl]
      (repeat' (first | (refine xI (fun hfk => ?_) (fun hfk => ?_) <;> ((try (first | replace hfk := oT hfk | replace hfk := oF hfk | simp only [oA, oB, dh1, dh0, ne_eq, reduceCtorEq] at hfk)); (try (exfalso; first | omega | contradiction | exact xF hfk (by with_reducible assumption) | exact xT hfk (by with_reducible assumption))))) | (refine And.intro ?ob ?_; (case ob => (first | exact Chk.mk (by kernel_rfl) | exact True.intro | with_reducible assumption | exact rng64 (by omega) (by omega) | omega | (dsimp only; omega) | (show (_ : Nat) ≤ _; omega) | (simp only [ll1, ll2, ll0]; first | done | omega) | (dsimp only; simp only [ll1, ll2, ll0]; omega)))) | exact True.intro | (show _ = _; first | with_reducible rfl | with_reducible assumption | omega | (simp only [ll1, ll2, ll0]; omega) | (first | exact bw | exact bh | exact ow | exact oh | rfl; done) | exact rfl) | with_reducible assumption | (apply And.intro) | omega | (intro j hj; exact rfl)))
      all_goals first | (refine len_i64 ?_; (repeat rw [List.length_append]); omega) | skip
    · rw [if_neg c1, if_neg c3]
      (repeat' (first | (refine xI (fun hfk => ?_) (fun hfk => ?_) <;> ((try (first | replace hfk := oT hfk | replace hfk := oF hfk | simp only [oA, oB, dh1, dh0, ne_eq, reduceCtorEq] at hfk)); (try (exfalso; first | omega | contradiction | exact xF hfk (by with_reducible assumption) | exact xT hfk (by with_reducible assumption))))) | (refine And.intro ?ob ?_; (case ob => (first | exact Chk.mk (by kernel_rfl) | exact True.intro | with_reducible assumption | exact rng64 (by omega) (by omega) | omega | (dsimp only; omega) | (show (_ : Nat) ≤ _; omega) | (simp only [ll1, ll2, ll0]; first | done | omega) | (dsimp only; simp only [ll1, ll2, ll0]; omega)))) | exact True.intro | (show _ = _; first | with_reducible rfl | with_reducible assumption | omega | (simp only [ll1, ll2, ll0]; omega) | (rfl; done) | exact rfl) | with_reducible assumption | (apply And.intro) | omega | (intro j hj; exact rfl)))
end Go.Proofs.YtocboijpmmlegaaDoor
namespace Go.Proofs.YtocboijpmmlegaaDoor
open Go Go.RowKit
set_option maxHeartbeats 4000000
theorem pwL_bytes {w h c : Int} {p : List Int} (e : pwE w h c p.length = 0) (hB : Bytes p) : Bytes (pwL w h c p) := by
  obtain ⟨K, W, H, o⟩ := pw_im e
  rw [o.eq]
  exact fun x hx => (List.mem_append.1 hx).elim (hdI_bytes K W H x) (hB x)
theorem alive15b_s : SOK Tryd.prog 15 (sN (.bool true)) := by
  refine sok_of (C := mkC 0 [(13, headS)] noG) (mkC_ok (pok_cons head_s pok_nil) noG_ok) rfl mixed ⟨Tryd.func15, by kernel_rfl, by kernel_rfl, by kernel_rfl⟩ fun l obs v h ho => ?_
  obtain ⟨rfl, rfl, rfl⟩ := sN_inv h
  refine ⟨Nat.le_of_ble_eq_true rfl, ?_⟩
  have e : decide (hdS 3 2 1 = (ByteArray.mk #[80, 53, 10, 51, 32, 50, 10, 50, 53, 53, 10]).data.toList) = true := decide_eq_true hd321
  (repeat' (first | (refine xI (fun hfk => ?_) (fun hfk => ?_) <;> ((try (first | replace hfk := oT hfk | replace hfk := oF hfk | simp only [oA, oB, dh1, dh0, ne_eq, reduceCtorEq] at hfk)); (try (exfalso; first | omega | contradiction | exact xF hfk (by with_reducible assumption) | exact xT hfk (by with_reducible assumption))))) | (refine And.intro ?ob ?_; (case ob => (first | exact Chk.mk (by kernel_rfl) | exact True.intro | with_reducible assumption | exact rng64 (by omega) (by omega) | omega | (dsimp only; omega) | (show (_ : Nat) ≤ _; omega) | (simp only [ll1, ll2, ll0]; first | done | omega) | (dsimp only; simp only [ll1, ll2, ll0]; omega)))) | exact True.intro | (show _ = _; first | with_reducible rfl | with_reducible assumption | omega | (simp only [ll1, ll2, ll0]; omega) | (first | exact e | exact e.symm; done) | exact rfl) | with_reducible assumption | (apply And.intro) | omega | (intro j hj; exact rfl)))
attribute [local irreducible] pnE pnK pnL pgW pgH kdV pwE pwL hdS
theorem walk_PnmSpoiled' (w h c : Int) (p : List Int) (n v : Int) (hB : Bytes p) (hv : 0 ≤ v ∧ v ≤ 255) (W : World) (hgl : GL W NoO) {cl : List Value} (hcl : CRel noN W NoO [imA w h c p, .int .i64 n, .int .u8 v] cl) :
    Calls Tryd.prog 4 cl.toArray W fun e W' => e = .returned (.bool true) ∧ Below W.heap.size W W' := by
  refine law_of (C := mkC 0 [(7, fewS), (8, pwS), (16, pnmS), (11, rheadS), (15, sN (.bool true))] (glook [(16, frzP pnmS)]))
    (mkC_ok (pok_cons few_s (pok_cons pwrite_s (pok_cons pread_s (pok_cons rhead15_s (pok_cons alive15b_s pok_nil))))) (gl_cons (gfrzP pread_s) gl_nil)) rfl ⟨Tryd.func4, by kernel_rfl, by kernel_rfl, by kernel_rfl⟩ (by exact Nat.le_of_ble_eq_true rfl) ?_ hcl (hg := hgl)
  by_cases hl : 20000 < p.length
  · (repeat' (first | (refine xI (fun hfk => ?_) (fun hfk => ?_) <;> ((try (first | replace hfk := oT hfk | replace hfk := oF hfk | simp only [oA, oB, dh1, dh0, ne_eq, reduceCtorEq] at hfk)); (try (exfalso; first | omega | contradiction | exact xF hfk (by with_reducible assumption) | exact xT hfk (by with_reducible assumption))))) | (refine And.intro ?ob ?_; (case ob => (first | exact Chk.mk (by kernel_rfl) | exact True.intro | with_reducible assumption | exact rng64 (by omega) (by omega) | omega | (dsimp only; omega) | (show (_ : Nat) ≤ _; omega) | (simp only [ll1, ll2, ll0]; first | done | omega) | (dsimp only; simp only [ll1, ll2, ll0]; omega)))) | exact True.intro | (show _ = _; first | with_reducible rfl | with_reducible assumption | omega | (simp only [ll1, ll2, ll0]; omega) | (rfl; done) | exact rfl) | with_reducible assumption | (apply And.intro) | omega | (intro j hj; exact rfl)))
  have hp : p.length ≤ 20000 := by omega
  by_cases e : pwE w h c p.length = 0
  · have o := pw_ok e hp hB
    have ob := o.byt
    have ole := o.le
    have opos := o.pos
    obtain ⟨K, W1, H1, im⟩ := pw_im e
    have tw : TxZ w := by have := im.ew; have := im.w2; exact ⟨by omega, by omega⟩
    have th : TxZ h := by have := im.eh; have := im.h2; exact ⟨by omega, by omega⟩
    have lq : (min (max n 0) (((pwL w h c p).length : Int) - 1)).toNat < (pwL w h c p).length := by omega
    have eA : (List.take (([] ++ (pwL w h c p)).length + (List.take 1 (List.drop 0 ((fun x => v :: x) ([] : List Int)))).length) (List.drop 0 ([] ++ (pwL w h c p) ++ List.take 1 (List.drop 0 ((fun x => v :: x) ([] : List Int)))))) = (pwL w h c p) ++ [v] := by
      show List.take ((pwL w h c p).length + 1) (pwL w h c p ++ [v]) = pwL w h c p ++ [v]
      exact List.take_of_length_le (by rw [List.length_append]; exact Nat.le_refl _)
    have bA : Byt (List.take (([] ++ (pwL w h c p)).length + (List.take 1 (List.drop 0 ((fun x => v :: x) ([] : List Int)))).length) (List.drop 0 ([] ++ (pwL w h c p) ++ List.take 1 (List.drop 0 ((fun x => v :: x) ([] : List Int)))))) := by
      rw [eA]
      have hb : Bytes ((pwL w h c p) ++ [v]) := fun x hx => (List.mem_append.1 hx).elim (pwL_bytes e hB x) (fun k => by rw [List.mem_singleton.1 k]; exact hv)
      exact ⟨by rw [List.length_append, List.length_singleton]; omega, fun i => hb.get i⟩
    have bT : Byt (List.drop 0 (List.take (min (max n 0) (((pwL w h c p).length : Int) - 1)).toNat (pwL w h c p))) := by
      rw [List.drop_zero]
      have hb : Bytes (List.take (min (max n 0) (((pwL w h c p).length : Int) - 1)).toNat (pwL w h c p)) := fun x hx => pwL_bytes e hB x (List.mem_of_mem_take hx)
      exact ⟨by rw [List.length_take]; omega, fun i => hb.get i⟩
    have nT : pnE (List.drop 0 (List.take (min (max n 0) (((pwL w h c p).length : Int) - 1)).toNat (pwL w h c p))) ≠ 0 := by rw [List.drop_zero]; exact (pn_pre e lq).1
    have tT : ¬ min (max n 0) (((pwL w h c p).length : Int) - 1) < ((hdS w h c).length : Int) → pnE (List.drop 0 (List.take (min (max n 0) (((pwL w h c p).length : Int) - 1)).toNat (pwL w h c p))) = 20 := fun k => by rw [List.drop_zero]; exact (pn_pre e lq).2 (by omega)
    have mA : pnE (List.take (([] ++ (pwL w h c p)).length + (List.take 1 (List.drop 0 ((fun x => v :: x) ([] : List Int)))).length) (List.drop 0 ([] ++ (pwL w h c p) ++ List.take 1 (List.drop 0 ((fun x => v :: x) ([] : List Int)))))) = 22 := by rw [eA]; exact pn_more e v
    clear im o eA
    (repeat' (first | (refine xI (fun hfk => ?_) (fun hfk => ?_) <;> ((try (first | replace hfk := oT hfk | replace hfk := oF hfk | simp only [oA, oB, dh1, dh0, ne_eq, reduceCtorEq] at hfk)); (try (exfalso; first | omega | contradiction | exact xF hfk (by with_reducible assumption) | exact xT hfk (by with_reducible assumption))))) | (refine And.intro ?ob ?_; (case ob => (first | exact Chk.mk (by kernel_rfl) | exact True.intro | with_reducible assumption | exact rng64 (by omega) (by omega) | omega | (dsimp only; omega) | (show (_ : Nat) ≤ _; omega) | (simp only [ll1, ll2, ll0]; first | done | omega) | (dsimp only; simp only [ll1, ll2, ll0]; omega)))) | exact True.intro | (show _ = _; first | with_reducible rfl | with_reducible assumption | omega | (simp only [ll1, ll2, ll0]; omega) | (first | exact tw | exact th | exact bA | exact bT | exact absurd mA ‹_› | exact absurd nT ‹_› | exact absurd (tT ‹_›) ‹_› | rfl; done) | exact rfl) | with_reducible assumption | (apply And.intro) | omega | (intro j hj; exact rfl)))
  · have e2 : (pwL w h c p).length = 0 := by rw [show pwL w h c p = [] from by unfold pwL; exact if_neg e]; rfl
    (repeat' (first | (refine xI (fun hfk => ?_) (fun hfk => ?_) <;> ((try (first | replace hfk := oT hfk | replace hfk := oF hfk | simp only [oA, oB, dh1, dh0, ne_eq, reduceCtorEq] at hfk)); (try (exfalso; first | omega | contradiction | exact xF hfk (by with_reducible assumption) | exact xT hfk (by with_reducible assumption))))) | (refine And.intro ?ob ?_; (case ob => (first | exact Chk.mk (by kernel_rfl) | exact True.intro | with_reducible assumption | exact rng64 (by omega) (by omega) | omega | (dsimp only; omega) | (show (_ : Nat) ≤ _; omega) | (simp only [ll1, ll2, ll0]; first | done | omega) | (dsimp only; simp only [ll1, ll2, ll0]; omega)))) | exact True.intro | (show _ = _; first | with_reducible rfl | with_reducible assumption | omega | (simp only [ll1, ll2, ll0]; omega) | (rfl; done) | exact rfl) | with_reducible assumption | (apply And.intro) | omega | (intro j hj; exact rfl)))
end Go.Proofs.YtocboijpmmlegaaDoor

