/- Texts laid together. No condition. -/
import Derived.Test.YtocboijpmmlegaaDoorS6
import Derived.Shelf.Strconv.Itoa0
import Derived.Shelf.Strconv.Itoa1
import Derived.Shelf.LaysM
import Derived.Shelf.Strconv.Itoa2
import Derived.Shelf.Strconv.Itoa3
import Derived.Shelf.Strings.Prefix
import Derived.Test.YtocboijpmmlegaaDoorProg
set_option maxRecDepth 100000
set_option linter.unusedVariables false
set_option linter.unusedSimpArgs false
namespace Go.Proofs.YtocboijpmmlegaaDoor
open Go Go.Shelf
def sh_laysM171_ren : Go.Shelf.Ren := ⟨fun | 171 => 26 | 243 => 44 | 246 => 73 | 283 => 85 | 284 => 86 | 285 => 87 | 286 => 88 | 129 => 94 | 317 => 93 | 318 => 95 | 319 => 96 | 320 => 97 | 337 => 100 | 338 => 101 | n => n, fun | 3 => 3 | 9 => 9 | 2 => 2 | 4 => 4 | 171 => 116 | 0 => 0 | 53 => 64 | 37 => 22 | 5 => 5 | 173 => 119 | 212 => 126 | 51 => 87 | 20 => 20 | 213 => 127 | 46 => 123 | 232 => 131 | 233 => 132 | n => n, fun | 17 => 0 | 18 => 1 | 19 => 2 | n => n⟩
theorem sh_laysM171 : Go.Proofs.LaysM.n171 Tryd.prog sh_laysM171_ren := {
  mixed := by kernel_rfl
  f129 := Tryd.func94.trans (congrArg some (by kernel_rfl))
  f171 := Tryd.func26.trans (congrArg some (by kernel_rfl))
  f243 := Tryd.func44.trans (congrArg some (by kernel_rfl))
  f246 := Tryd.func73.trans (congrArg some (by kernel_rfl))
  f283 := Tryd.func85.trans (congrArg some (by kernel_rfl))
  f284 := Tryd.func86.trans (congrArg some (by kernel_rfl))
  f285 := Tryd.func87.trans (congrArg some (by kernel_rfl))
  f286 := Tryd.func88.trans (congrArg some (by kernel_rfl))
  f317 := Tryd.func93.trans (congrArg some (by kernel_rfl))
  f318 := Tryd.func95.trans (congrArg some (by kernel_rfl))
  f319 := Tryd.func96.trans (congrArg some (by kernel_rfl))
  f320 := Tryd.func97.trans (congrArg some (by kernel_rfl))
  f337 := Tryd.func100.trans (congrArg some (by kernel_rfl))
  f338 := Tryd.func101.trans (congrArg some (by kernel_rfl))
  t0 := Tryd.underlying0
  a0 := Tryd.isAgg0
  z0 := Tryd.sizeOf0
  v0 := Tryd.zeroValue0
  t2 := Tryd.underlying2
  a2 := Tryd.isAgg2
  z2 := Tryd.sizeOf2
  v2 := Tryd.zeroValue2
  t3 := Tryd.underlying3
  a3 := Tryd.isAgg3
  z3 := Tryd.sizeOf3
  v3 := Tryd.zeroValue3
  t4 := Tryd.underlying4
  a4 := Tryd.isAgg4
  z4 := Tryd.sizeOf4
  v4 := Tryd.zeroValue4
  t5 := Tryd.underlying5
  a5 := Tryd.isAgg5
  z5 := Tryd.sizeOf5
  v5 := Tryd.zeroValue5
  t9 := Tryd.underlying9
  a9 := Tryd.isAgg9
  z9 := Tryd.sizeOf9
  v9 := Tryd.zeroValue9
  t20 := Tryd.underlying20
  a20 := Tryd.isAgg20
  z20 := Tryd.sizeOf20
  v20 := Tryd.zeroValue20
  t37 := Tryd.underlying22
  a37 := Tryd.isAgg22
  z37 := Tryd.sizeOf22
  v37 := Tryd.zeroValue22
  t46 := Tryd.underlying123
  a46 := Tryd.isAgg123
  z46 := Tryd.sizeOf123
  v46 := Tryd.zeroValue123
  t51 := Tryd.underlying87
  a51 := Tryd.isAgg87
  z51 := Tryd.sizeOf87
  v51 := Tryd.zeroValue87
  t53 := Tryd.underlying64
  a53 := Tryd.isAgg64
  z53 := Tryd.sizeOf64
  v53 := Tryd.zeroValue64
  t171 := Tryd.underlying116
  a171 := Tryd.isAgg116
  z171 := Tryd.sizeOf116
  v171 := Tryd.zeroValue116
  t173 := Tryd.underlying119
  a173 := Tryd.isAgg119
  z173 := Tryd.sizeOf119
  v173 := Tryd.zeroValue119
  t212 := Tryd.underlying126
  a212 := Tryd.isAgg126
  z212 := Tryd.sizeOf126
  v212 := Tryd.zeroValue126
  t213 := Tryd.underlying127
  a213 := Tryd.isAgg127
  z213 := Tryd.sizeOf127
  t232 := Tryd.underlying131
  a232 := Tryd.isAgg131
  z232 := Tryd.sizeOf131
  v232 := Tryd.zeroValue131
  t233 := Tryd.underlying132
  a233 := Tryd.isAgg132
  z233 := Tryd.sizeOf132
  v233 := Tryd.zeroValue132
  g17 := by kernel_rfl
  g18 := by kernel_rfl
  g19 := by kernel_rfl
  i0 := by kernel_rfl
  i2 := by kernel_rfl
  i3 := by kernel_rfl
  i4 := by kernel_rfl
  i5 := by kernel_rfl
  i9 := by kernel_rfl
  i20 := by kernel_rfl
  i37 := by kernel_rfl
  i46 := by kernel_rfl
  i51 := by kernel_rfl
  i53 := by kernel_rfl
  i171 := by kernel_rfl
  i173 := by kernel_rfl
  i212 := by kernel_rfl
  i232 := by kernel_rfl
  i233 := by kernel_rfl
  m17 := by kernel_rfl
  m18 := by kernel_rfl
  m19 := by kernel_rfl }
open Go.RowKit Go.Sort Go.Lib in
theorem sh_strconv_Itoa (n : Int) (h0 : -9223372036854775808 ≤ n) (h1 : n ≤ 9223372036854775807) (w : World) (htab : Lib.TabIs Tryd.prog w "internal/strconv.uint64pow10" .u64 Lib.pow10Tab) :
    Calls Tryd.prog 26 #[.int .i64 n] w fun e w' => e = .returned (.string ⟨(Lib.itoa n).toArray⟩) ∧ ∃ k os, w' = grow (w.drewN k) os := Any.strconv_Itoa sh_laysM171 n h0 h1 w htab
end Go.Proofs.YtocboijpmmlegaaDoor
namespace Go.Proofs.YtocboijpmmlegaaDoor
open Go Go.RowKit
set_option maxHeartbeats 4000000
theorem ext_below {w w' : World} (h : Below w.heap.size w w') : Ext (fun _ => False) w w' :=
  ⟨h.os, h.tape, h.output, h.size, fun b hb _ => h.block b hb, fun b s hs => by
    have hb : b < w.heap.size := by
      unfold World.shape? at hs
      split at hs
      · rename_i e; exact (Array.getElem?_eq_some_iff.1 e).1
      · cases hs
    unfold World.shape? at hs ⊢
    rw [h.block b hb]; exact hs⟩
theorem below_grown (w : World) (k : Nat) (os : Array Obj) : Below w.heap.size w (Go.Sort.grow (w.drewN k) os) := by
  refine ⟨rfl, ?_, rfl, ?_, fun b hb => ?_⟩
  · simp [Go.Sort.grow]
  · simp [Go.Sort.grow]
  · exact Go.Sort.heap_grow_old (w.drewN k) os hb
theorem tab_pow10 {w : World} {O : Nat → Prop} (h : GL w O) : Lib.TabIs Tryd.prog w "internal/strconv.uint64pow10" .u64 Lib.pow10Tab := by
  obtain ⟨_, _, ty, fr, e⟩ := h _ List.mem_cons_self
  unfold Lib.TabIs World.var?
  rw [show Tryd.prog.globalNamed "internal/strconv.uint64pow10" = some 0 by kernel_rfl]
  simp only [Option.bind_some]
  rw [e]
  rfl
abbrev itoaS : PSpec := fun l => match l with | [.int .i64 x] => some ([-9223372036854775808 ≤ x, x ≤ 9223372036854775807], .str (Lib.itoa x)) | _ => none
theorem itoa_s : SOK Tryd.prog 26 itoaS := by
  refine ⟨⟨_, Tryd.func26, by kernel_rfl, by kernel_rfl⟩, fun l obs v h ho w O cl hf hc => ?_⟩
  (unfold itoaS at h; split at h; rotate_left; (focus (cases h)); rename_i x; simp only [Option.some.injEq, Prod.mk.injEq] at h; obtain ⟨rfl, rfl⟩ := h; simp only [List.mem_cons, List.not_mem_nil, or_false, forall_eq_or_imp, forall_eq, false_implies, implies_true] at ho)
  obtain ⟨h0, h1⟩ := ho
  obtain ⟨hl, hr⟩ := hc
  match cl, hl with
  | [c], _ =>
    have hc := hr 0 _ _ rfl rfl
    cases hc
    refine (sh_strconv_Itoa x h0 h1 w (tab_pow10 hf.2)).mono fun en w' ⟨he, k, os, hw⟩ => ?_
    subst hw
    exact ⟨_, he, ext_below (below_grown w k os), .str _⟩
end Go.Proofs.YtocboijpmmlegaaDoor
namespace Go.Proofs.YtocboijpmmlegaaDoor
open Go Go.RowKit
set_option maxHeartbeats 4000000
theorem nD_le : ∀ (k u : Nat), u < 10 ^ (k + 1) → Lib.nDigits u ≤ k + 1
  | 0, u, h => by rw [Lib.nDigits_small (by simpa using h)]; exact Nat.le_refl _
  | k + 1, u, h => by
    by_cases h1 : u < 10
    · rw [Lib.nDigits_small h1]; omega
    · rw [Lib.nDigits_big h1]
      have := nD_le k (u / 10) (by rw [Nat.div_lt_iff_lt_mul (by decide)]; rw [Nat.pow_succ] at h; exact h)
      omega
theorem nD_pos (u : Nat) : 1 ≤ Lib.nDigits u := by
  by_cases h1 : u < 10
  · rw [Lib.nDigits_small h1]; exact Nat.le_refl _
  · rw [Lib.nDigits_big h1]; omega
def decI (u : Nat) : List Int := (Lib.decDigits u).map fun c => (c.toNat : Int)
theorem decI_len (u : Nat) : (decI u).length = Lib.nDigits u := by unfold decI; rw [List.length_map, Lib.decDigits_length]
theorem dg_byte {d : Nat} (h : d < 10) : (((UInt8.ofNat (48 + d)).toNat : Nat) : Int) = 48 + (d : Int) := by
  rw [UInt8.toNat_ofNat', Nat.mod_eq_of_lt (show 48 + d < 2 ^ 8 by omega)]; omega
theorem decI_small {u : Nat} (h : u < 10) : decI u = [48 + (u : Int)] := by
  unfold decI
  rw [Lib.decDigits, dif_pos h, List.map_cons, dg_byte h]; rfl
theorem decI_big {u : Nat} (h : ¬ u < 10) : decI u = decI (u / 10) ++ [48 + ((u % 10 : Nat) : Int)] := by
  unfold decI
  rw [Lib.decDigits, dif_neg h, List.map_append, List.map_cons, dg_byte (Nat.mod_lt _ (by decide))]; rfl
theorem decI_dg (u : Nat) : ∀ x ∈ decI u, 48 ≤ x ∧ x ≤ 57 := by
  induction u using Nat.strongRecOn with
  | ind u ih =>
    by_cases h : u < 10
    · rw [decI_small h]; intro x hx; simp only [List.mem_singleton] at hx; omega
    · rw [decI_big h]; intro x hx
      rcases List.mem_append.1 hx with k | k
      · exact ih (u / 10) (by omega) x k
      · simp only [List.mem_singleton] at k; omega
theorem numV_dec (u : Nat) : numV (decI u) = u := by
  induction u using Nat.strongRecOn with
  | ind u ih =>
    by_cases h : u < 10
    · rw [decI_small h]; show 10 * 0 + (48 + (u : Int) - 48) = u; omega
    · rw [decI_big h, numV_snoc, ih (u / 10) (by omega)]; omega
theorem decI_head {u : Nat} (h1 : 1 ≤ u) : (decI u).getD 0 0 ≠ 48 := by
  induction u using Nat.strongRecOn with
  | ind u ih =>
    by_cases h : u < 10
    · rw [decI_small h]; show 48 + (u : Int) ≠ 48; omega
    · rw [decI_big h]
      have e : (decI (u / 10) ++ [48 + ((u % 10 : Nat) : Int)]).getD 0 0 = (decI (u / 10)).getD 0 0 := by
        have := nD_pos (u / 10)
        rw [List.getD_eq_getElem?_getD, List.getElem?_append_left (by rw [decI_len]; omega), ← List.getD_eq_getElem?_getD]
      rw [e]
      exact ih (u / 10) (by omega) (by omega)
theorem dgN_app : ∀ {l : List Int} {y : Int} {r : List Int}, (∀ x ∈ l, 48 ≤ x ∧ x ≤ 57) → ¬ (48 ≤ y ∧ y ≤ 57) → dgN (l ++ y :: r) = l.length
  | [], y, r, _, hy => if_neg hy
  | x :: l, y, r, h, hy => by
    have ih := dgN_app (l := l) (y := y) (r := r) (fun z hz => h z (List.mem_cons_of_mem _ hz)) hy
    show (if 48 ≤ x ∧ x ≤ 57 then dgN (l ++ y :: r) + 1 else 0) = _
    rw [if_pos (h x List.mem_cons_self), ih]; rfl
theorem nb_dec {x y : Int} {u : Nat} {rest : List Int} {m : Int} (hx : isBl x = true) (hy : ¬ (48 ≤ y ∧ y ≤ 57)) (h1 : 1 ≤ u) (hm : (u : Int) ≤ m) (hu : u < 100000) :
    nbC (x :: (decI u ++ y :: rest)) m = 0 ∧ nbP (x :: (decI u ++ y :: rest)) m = 1 + Lib.nDigits u ∧ nbV (x :: (decI u ++ y :: rest)) m = u := by
  have hl := decI_len u
  have hp := nD_pos u
  have hq := nD_le 4 u hu
  obtain ⟨d, r, hd⟩ : ∃ d r, decI u = d :: r := by
    cases h : decI u with
    | nil => rw [h] at hl; simp at hl; omega
    | cons d r => exact ⟨d, r, rfl⟩
  have hdd := decI_dg u d (by rw [hd]; exact List.mem_cons_self)
  have hb : bkG false (x :: (decI u ++ y :: rest)) = 1 := by
    have e : bkG false (decI u ++ y :: rest) = 0 := by
      rw [hd]
      show (if isBl d = true then _ else if d = 35 then _ else 0) = 0
      rw [if_neg, if_neg (by omega)]
      unfold isBl
      intro k
      simp at k
      omega
    show (if isBl x = true then bkG false (decI u ++ y :: rest) + 1 else _) = 1
    rw [if_pos hx, e]
  have hbl : blC (x :: (decI u ++ y :: rest)) = 0 := by
    unfold blC
    rw [if_neg (by simp), if_neg (by rw [hb]; decide)]
  have hdr : (x :: (decI u ++ y :: rest)).drop 1 = decI u ++ y :: rest := rfl
  have hg : dgN (decI u ++ y :: rest) = Lib.nDigits u := by rw [dgN_app (decI_dg u) hy, hl]
  have ht : (decI u ++ y :: rest).take (Lib.nDigits u) = decI u := by rw [← hl]; simp
  have hh : (decI u ++ y :: rest).getD 0 0 ≠ 48 := by
    have := decI_head h1
    rw [hd] at this ⊢
    exact this
  have hC : nbC (x :: (decI u ++ y :: rest)) m = 0 := by
    unfold nbC
    rw [if_neg (by rw [hbl]; decide), hb, hdr]
    unfold numC
    rw [if_neg (by simp), hg, if_neg (by rintro (k | k); omega; exact hh k.2), if_neg (by omega), ht, numV_dec, if_neg (by omega)]
  refine ⟨hC, ?_, ?_⟩
  · unfold nbP nbN
    rw [if_pos hC, hb, hdr, hg]
  · unfold nbV
    rw [if_pos hC, hb, hdr, hg, ht, numV_dec]
theorem drop_dec {x y : Int} {u : Nat} {rest : List Int} : (x :: (decI u ++ y :: rest)).drop (1 + Lib.nDigits u) = y :: rest := by
  rw [Nat.add_comm, List.drop_succ_cons, ← decI_len]; simp
theorem dec255 : decI 255 = [50, 53, 53] := by
  rw [decI_big (by decide), decI_big (by decide), decI_small (by decide)]; rfl
def hdI (k w h : Nat) : List Int := 80 :: (if k = 1 then 53 else 54) :: 10 :: (decI w ++ 32 :: (decI h ++ [10, 50, 53, 53, 10]))
theorem hdI_len (k w h : Nat) : (hdI k w h).length = 9 + Lib.nDigits w + Lib.nDigits h := by
  unfold hdI
  simp only [List.length_cons, List.length_append, decI_len, List.length_nil]; omega
theorem hdI_app (k w h : Nat) (p : List Int) : hdI k w h ++ p = 80 :: (if k = 1 then 53 else 54) :: 10 :: (decI w ++ 32 :: (decI h ++ 10 :: (decI 255 ++ 10 :: p))) := by
  rw [dec255]; unfold hdI; simp
theorem rd_hd {k w h : Nat} {p : List Int} (hk : k = 1 ∨ k = 3) (w1 : 1 ≤ w) (w2 : w ≤ 32768) (h1 : 1 ≤ h) (h2 : h ≤ 32768) (hm : w * h ≤ 4194304) :
    pgE (hdI k w h ++ p) = 0 ∧ pgW (hdI k w h ++ p) = w ∧ pgH (hdI k w h ++ p) = h ∧ kdV (hdI k w h ++ p) = k ∧ pgP (hdI k w h ++ p) = ((hdI k w h).length : Int) := by
  rw [hdI_len, hdI_app]
  obtain ⟨R, hR⟩ : ∃ R, decI h ++ 10 :: (decI 255 ++ 10 :: p) = R := ⟨_, rfl⟩
  have hkd : kdC (80 :: (if k = 1 then 53 else 54) :: 10 :: (decI w ++ 32 :: R)) = 0 ∧ kdV (80 :: (if k = 1 then 53 else 54) :: 10 :: (decI w ++ 32 :: R)) = k := by
    rcases hk with rfl | rfl
    · exact ⟨rfl, rfl⟩
    · exact ⟨rfl, rfl⟩
  have hd2 : (80 :: (if k = 1 then (53 : Int) else 54) :: 10 :: (decI w ++ 32 :: R)).drop 2 = 10 :: (decI w ++ 32 :: R) := rfl
  obtain ⟨a1, a2, a3⟩ := nb_dec (x := 10) (y := 32) (u := w) (rest := R) (m := 32768) rfl (by decide) w1 (by omega) (by omega)
  have d1 : (10 :: (decI w ++ 32 :: R) : List Int).drop (1 + Lib.nDigits w) = 32 :: R := drop_dec
  obtain ⟨b1, b2, b3⟩ := nb_dec (x := 32) (y := 10) (u := h) (rest := decI 255 ++ 10 :: p) (m := 32768) rfl (by decide) h1 (by omega) (by omega)
  have d2 : (32 :: (decI h ++ 10 :: (decI 255 ++ 10 :: p)) : List Int).drop (1 + Lib.nDigits h) = 10 :: (decI 255 ++ 10 :: p) := drop_dec
  obtain ⟨c1, c2, c3⟩ := nb_dec (x := 10) (y := 10) (u := 255) (rest := p) (m := 255) rfl (by decide) (by decide) (by decide) (by decide)
  have d3 : (10 :: (decI 255 ++ 10 :: p) : List Int).drop (1 + Lib.nDigits 255) = 10 :: p := drop_dec
  have n255 : Lib.nDigits 255 = 3 := by rw [← decI_len, dec255]; rfl
  rw [hR] at b1 b2 b3 d2
  have cm : ((w * h : Nat) : Int) = (w : Int) * (h : Int) := Int.natCast_mul w h
  have sC : szC (10 :: (decI w ++ 32 :: R)) = 0 := by
    unfold szC
    rw [a2, d1, a1, b1, a3, b3, if_neg (by decide), if_neg (by decide), if_neg (by omega), if_neg (by rw [← cm]; omega)]
  have sW : szW (10 :: (decI w ++ 32 :: R)) = w := by unfold szW; rw [if_pos sC, a3]
  have sH : szH (10 :: (decI w ++ 32 :: R)) = h := by unfold szH; rw [if_pos sC, a2, d1, b3]
  have sP : szP (10 :: (decI w ++ 32 :: R)) = (1 + Lib.nDigits w) + (1 + Lib.nDigits h) := by unfold szP; rw [if_pos a1, a2, d1, b2]
  have dP : (10 :: (decI w ++ 32 :: R) : List Int).drop ((1 + Lib.nDigits w) + (1 + Lib.nDigits h)) = 10 :: (decI 255 ++ 10 :: p) := by rw [← List.drop_drop, d1, d2]
  have o1 : oneV (10 :: p) = (1, 0) := by unfold oneV; rw [if_neg (by simp), if_pos (show isBl ((10 :: p : List Int).getD 0 0) = true from rfl)]
  have eC : dpC (10 :: (decI 255 ++ 10 :: p)) = 0 := by
    unfold dpC
    rw [c1, c3, c2, d3, o1]; rfl
  have eP : dpP (10 :: (decI 255 ++ 10 :: p)) = 5 := by
    unfold dpP
    rw [c1, c3, c2, d3, o1, n255]; rfl
  rw [hR]
  refine ⟨?_, ?_, ?_, hkd.2, ?_⟩
  · unfold pgE
    rw [if_neg (by rw [hkd.1]; decide), hd2, if_neg (by rw [sC]; decide), sP, dP, eC]
  · unfold pgW
    rw [if_pos hkd.1, hd2, sW]
  · unfold pgH
    rw [if_pos hkd.1, hd2, sH]
  · unfold pgP
    rw [if_neg (by rw [hkd.1]; decide), hd2, if_neg (by rw [sC]; decide), sP, dP, eP]
    omega
theorem rd_pw {k w h : Nat} {p : List Int} (hk : k = 1 ∨ k = 3) (w1 : 1 ≤ w) (w2 : w ≤ 32768) (h1 : 1 ≤ h) (h2 : h ≤ 32768) (hm : w * h ≤ 4194304) (hp : p.length = w * h * k) :
    pnE (hdI k w h ++ p) = 0 ∧ pnK (hdI k w h ++ p) (pgW (hdI k w h ++ p)) = w ∧ pnK (hdI k w h ++ p) (pgH (hdI k w h ++ p)) = h ∧ pnK (hdI k w h ++ p) (kdV (hdI k w h ++ p)) = k ∧ pnL (hdI k w h ++ p) = p := by
  obtain ⟨e1, e2, e3, e4, e5⟩ := rd_hd (p := p) hk w1 w2 h1 h2 hm
  have eN : pnN (hdI k w h ++ p) = (p.length : Int) := by
    unfold pnN
    rw [e2, e3, e4, hp, Int.natCast_mul, Int.natCast_mul]
  have hl : ((hdI k w h ++ p).length : Int) = ((hdI k w h).length : Int) + (p.length : Int) := by rw [List.length_append]; omega
  have E : pnE (hdI k w h ++ p) = 0 := by
    unfold pnE
    rw [if_neg (by rw [e1]; decide), eN, e5, hl, if_neg (by omega), if_neg (by omega)]
  refine ⟨E, ?_, ?_, ?_, ?_⟩
  · unfold pnK; rw [if_pos E, e2]
  · unfold pnK; rw [if_pos E, e3]
  · unfold pnK; rw [if_pos E, e4]
  · unfold pnL; rw [if_pos E, e5, Int.toNat_natCast]; simp
end Go.Proofs.YtocboijpmmlegaaDoor
namespace Go.Proofs.YtocboijpmmlegaaDoor
open Go Go.RowKit
set_option maxHeartbeats 4000000
theorem itoa_len {x : Int} (h0 : -9223372036854775808 ≤ x) (h1 : x ≤ 9223372036854775807) : (Lib.itoa x).length ≤ 20 := by
  have key : ∀ u : Nat, u < 10 ^ 19 → (Lib.decDigits u).length ≤ 19 := fun u hu => by rw [Lib.decDigits_length]; exact nD_le 18 u hu
  unfold Lib.itoa
  split
  · have := key x.natAbs (by omega)
    rw [List.length_cons]; omega
  · have := key x.toNat (by omega)
    omega
def hdS (w h c : Int) : List UInt8 :=
  if c = 1 then (ByteArray.mk #[80, 53, 10]).data.toList ++ Lib.itoa w ++ (ByteArray.mk #[32]).data.toList ++ Lib.itoa h ++ (ByteArray.mk #[10, 50, 53, 53, 10]).data.toList
  else if c = 3 then (ByteArray.mk #[80, 54, 10]).data.toList ++ Lib.itoa w ++ (ByteArray.mk #[32]).data.toList ++ Lib.itoa h ++ (ByteArray.mk #[10, 50, 53, 53, 10]).data.toList
  else (ByteArray.mk #[]).data.toList
abbrev headS : PSpec := fun l => match l with | [.int .i64 w, .int .i64 h, .int .i64 c] => some ([-9223372036854775808 ≤ w, w ≤ 9223372036854775807, -9223372036854775808 ≤ h, h ≤ 9223372036854775807], .str (hdS w h c)) | _ => none
theorem len_i64 {n : Nat} (h : n ≤ 1000) : ((n : Nat) : Int) ≤ IntKind.i64.max := by
  show (n : Int) ≤ 9223372036854775807
  omega
theorem head_s : SOK Tryd.prog 13 headS := by
  refine sok_of (C := mkC 0 [(26, itoaS)] noG) (mkC_ok (pok_cons itoa_s pok_nil) noG_ok) rfl mixed ⟨Tryd.func13, by kernel_rfl, by kernel_rfl, by kernel_rfl⟩ fun l obs v h ho => ?_
  (unfold headS at h; split at h; rotate_left; (focus (cases h)); rename_i w hh c; simp only [Option.some.injEq, Prod.mk.injEq] at h; obtain ⟨rfl, rfl⟩ := h; simp only [List.mem_cons, List.not_mem_nil, or_false, forall_eq_or_imp, forall_eq, false_implies, implies_true] at ho)
  obtain ⟨w0, w1, h0, h1⟩ := ho
  refine ⟨Nat.le_of_ble_eq_true rfl, ?_⟩
  have lw := itoa_len w0 w1
  have lh := itoa_len h0 h1
  have q1 : (ByteArray.mk #[80, 53, 10]).data.toList.length = 3 := rfl
  have q2 : (ByteArray.mk #[80, 54, 10]).data.toList.length = 3 := rfl
  have q3 : (ByteArray.mk #[32]).data.toList.length = 1 := rfl
  have q4 : (ByteArray.mk #[10, 50, 53, 53, 10]).data.toList.length = 5 := rfl
  by_cases c1 : c = 1
  · subst c1
    have e : hdS w hh 1 = (ByteArray.mk #[80, 53, 10]).data.toList ++ Lib.itoa w ++ (ByteArray.mk #[32]).data.toList ++ Lib.itoa hh ++ (ByteArray.mk #[10, 50, 53, 53, 10]).data.toList := if_pos rfl
    rw [e]
    clear e
    (repeat' (first | (refine xI (fun hfk => ?_) (fun hfk => ?_) <;> ((try (first | replace hfk := oT hfk | replace hfk := oF hfk | simp only [oA, oB, dh1, dh0, ne_eq, reduceCtorEq] at hfk)); (try exact oX))) | (refine And.intro ?ob ?_; (case ob => (exact oZ))) | exact True.intro | (show _ = _; first | exact oY | (rfl; done) | exact rfl) | exact oW | (apply And.intro)))
    all_goals (refine len_i64 ?_; (repeat rw [List.length_append]); omega)
  · by_cases c3 : c = 3
    · subst c3
      have e : hdS w hh 3 = (ByteArray.mk #[80, 54, 10]).data.toList ++ Lib.itoa w ++ (ByteArray.mk #[32]).data.toList ++ Lib.itoa hh ++ (ByteArray.mk #[10, 50, 53, 53, 10]).data.toList := by
        unfold hdS; rw [if_neg (by decide), if_pos rfl]
      rw [e]
      clear e
      (repeat' (first | (refine xI (fun hfk => ?_) (fun hfk => ?_) <;> ((try (first | replace hfk := oT hfk | replace hfk := oF hfk | simp only [oA, oB, dh1, dh0, ne_eq, reduceCtorEq] at hfk)); (try exact oX))) | (refine And.intro ?ob ?_; (case ob => (exact oZ))) | exact True.intro | (show _ = _; first | exact oY | (rfl; done) | exact rfl) | exact oW | (apply And.intro)))
      all_goals (refine len_i64 ?_; (repeat rw [List.length_append]); omega)
    · have e : hdS w hh c = (ByteArray.mk #[]).data.toList := by unfold hdS; rw [if_neg c1, if_neg c3]
      rw [e]
      clear e
      (repeat' (first | (refine xI (fun hfk => ?_) (fun hfk => ?_) <;> ((try (first | replace hfk := oT hfk | replace hfk := oF hfk | simp only [oA, oB, dh1, dh0, ne_eq, reduceCtorEq] at hfk)); (try exact oX))) | (refine And.intro ?ob ?_; (case ob => (exact oZ))) | exact True.intro | (show _ = _; first | exact oY | (rfl; done) | exact rfl) | exact oW | (apply And.intro)))
def pwE (w h c n : Int) : Int := if imCheck w h c n ≠ 0 then imCheck w h c n else if c = 4 then 10 else 0
def pwL (w h c : Int) (p : List Int) : List Int := if pwE w h c p.length = 0 then strI (hdS w h c) ++ p else []
abbrev pwS : PSpec := fun l => match l with
  | [.agg [.int .i64 w, .int .i64 h, .int .i64 c, .roi .u8 p]] => some ([p.length ≤ 20000], .tup [.roi .u8 (pwL w h c p), .int .i64 (pwE w h c p.length)])
  | _ => none
theorem hdS_len {w h c : Int} (w0 : -9223372036854775808 ≤ w) (w1 : w ≤ 9223372036854775807) (h0 : -9223372036854775808 ≤ h) (h1 : h ≤ 9223372036854775807) : (hdS w h c).length ≤ 50 := by
  have lw := itoa_len w0 w1
  have lh := itoa_len h0 h1
  unfold hdS
  split
  · simp only [List.length_append]
    show 3 + (Lib.itoa w).length + 1 + (Lib.itoa h).length + 5 ≤ 50
    omega
  · split
    · simp only [List.length_append]
      show 3 + (Lib.itoa w).length + 1 + (Lib.itoa h).length + 5 ≤ 50
      omega
    · exact Nat.zero_le _
theorem pwrite_s : SOK Tryd.prog 8 pwS := by
  refine sok_of (C := mkE 0 [(22, checkS), (13, headS)] noG [] [] []) (mkE_ok (pok_cons check_s (pok_cons head_s pok_nil)) noG_ok dl_nil) rfl mixed ⟨Tryd.func8, by kernel_rfl, by kernel_rfl, by kernel_rfl⟩ fun l obs v h ho => ?_
  (unfold pwS at h; split at h; rotate_left; (focus (cases h)); rename_i w hh c p; simp only [Option.some.injEq, Prod.mk.injEq] at h; obtain ⟨rfl, rfl⟩ := h; simp only [List.mem_cons, List.not_mem_nil, or_false, forall_eq_or_imp, forall_eq, false_implies, implies_true] at ho)
  refine ⟨Nat.le_of_ble_eq_true rfl, ?_⟩
  by_cases e : imCheck w hh c p.length = 0
  · obtain ⟨c1, w1, w2, h1, h2, wh, _⟩ := fits_inv (check_inv e).1
    have lh := hdS_len (w := w) (h := hh) (c := c) (by omega) (by omega) (by omega) (by omega)
    by_cases c4 : c = 4
    · have e1 : pwE w hh c p.length = 10 := by unfold pwE; rw [if_neg (fun k => k e), if_pos c4]
      have e2 : pwL w hh c p = [] := if_neg (by rw [e1]; decide)
      have e3 : hdS w hh c = (ByteArray.mk #[]).data.toList := by unfold hdS; rw [if_neg (by omega), if_neg (by omega)]
      rw [e1, e2]
      (repeat' (first | (refine xI (fun hfk => ?_) (fun hfk => ?_) <;> ((try (first | replace hfk := oT hfk | replace hfk := oF hfk | simp only [oA, oB, dh1, dh0, ne_eq, reduceCtorEq] at hfk)); (try exact oX))) | (refine And.intro ?ob ?_; (case ob => (exact oZ))) | exact True.intro | (show _ = _; first | exact oY | (rfl; done) | exact rfl) | exact oW | (apply And.intro)))
    · have e1 : pwE w hh c p.length = 0 := by unfold pwE; rw [if_neg (fun k => k e), if_neg c4]
      have e2 : pwL w hh c p = strI (hdS w hh c) ++ p := if_pos e1
      have e3 : ¬ hdS w hh c = (ByteArray.mk #[]).data.toList := by
        unfold hdS
        rcases c1 with k | k | k
        · rw [if_pos k]; exact fun q => by cases q
        · rw [if_neg (by omega), if_pos k]; exact fun q => by cases q
        · exact absurd k c4
      rw [e1, e2]
      have lm : (List.map (fun c : UInt8 => (c.toNat : Int)) (hdS w hh c)).length = (hdS w hh c).length := List.length_map _
      have z1 : List.take ((List.map (fun c : UInt8 => (c.toNat : Int)) (hdS w hh c)).length + p.length) (List.drop 0 (List.map (fun c : UInt8 => (c.toNat : Int)) (hdS w hh c) ++ p)) = strI (hdS w hh c) ++ p := by
        rw [List.drop_zero, List.take_of_length_le (by rw [List.length_append]; exact Nat.le_refl _)]
      (repeat' (first | (refine xI (fun hfk => ?_) (fun hfk => ?_) <;> ((try (first | replace hfk := oT hfk | replace hfk := oF hfk | simp only [oA, oB, dh1, dh0, ne_eq, reduceCtorEq] at hfk)); (try exact oX))) | (refine And.intro ?ob ?_; (case ob => (exact oZ))) | exact True.intro | (show _ = _; first | exact oY | (first | exact z1 | rfl; done) | exact rfl) | exact oW | (apply And.intro)))
  · have e1 : pwE w hh c p.length = imCheck w hh c p.length := if_pos e
    have e2 : pwL w hh c p = [] := if_neg (by rw [e1]; exact e)
    rw [e1, e2]
    (repeat' (first | (refine xI (fun hfk => ?_) (fun hfk => ?_) <;> ((try (first | replace hfk := oT hfk | replace hfk := oF hfk | simp only [oA, oB, dh1, dh0, ne_eq, reduceCtorEq] at hfk)); (try exact oX))) | (refine And.intro ?ob ?_; (case ob => (exact oZ))) | exact True.intro | (show _ = _; first | exact oY | (rfl; done) | exact rfl) | exact oW | (apply And.intro)))
def pszV (w h c : Int) : Int := if (c = 1 ∨ c = 3) ∧ 1 ≤ w ∧ w ≤ 32768 ∧ 1 ≤ h ∧ h ≤ 32768 ∧ w * h ≤ 4194304 then ((hdS w h c).length : Int) + w * h * c else 0
end Go.Proofs.YtocboijpmmlegaaDoor
namespace Go.Proofs.YtocboijpmmlegaaDoor
open Go Go.RowKit
set_option maxHeartbeats 4000000
theorem dec_step {n : Nat} (h : 0 < n) (s : List UInt8) : (if n < 10 then [] else Lib.decDigits (n / 10)) ++ (UInt8.ofNat (48 + n % 10) :: s) = Lib.decDigits n ++ s := by
  by_cases k : n < 10
  · rw [if_pos k, Lib.decDigits_one k, Nat.mod_eq_of_lt k]; rfl
  · rw [if_neg k]
    conv => rhs; rw [Lib.decDigits, dif_neg k]
    simp
structure TxI (N n : Nat) (s : List UInt8) : Prop where
  le : n ≤ N
  pos : 0 < n → Lib.decDigits n ++ s = Lib.decDigits N
  nil : n = 0 → s = if N = 0 then [] else Lib.decDigits N
theorem tx_0 (N : Nat) : TxI N N [] := ⟨Nat.le_refl _, fun _ => List.append_nil _, fun h => by rw [h]; rfl⟩
theorem tx_next {N n : Nat} {s : List UInt8} (h : TxI N n s) (hn : 0 < n) : TxI N (n / 10) (UInt8.ofNat (48 + n % 10) :: s) := by
  have hN := h.le
  have hp := h.pos hn
  rw [← dec_step hn] at hp
  refine ⟨by omega, fun k => ?_, fun k => ?_⟩
  · rw [if_neg (by omega)] at hp; exact hp
  · rw [if_pos (by omega)] at hp; rw [if_neg (by omega)]; exact hp
theorem tx_len {N n : Nat} {s : List UInt8} (h : TxI N n s) (hN : N < 10 ^ 20) : s.length ≤ 20 := by
  have hl : (Lib.decDigits N).length ≤ 20 := by rw [Lib.decDigits_length]; exact nD_le 19 N hN
  by_cases k : n = 0
  · rw [h.nil k]; split
    · exact Nat.zero_le _
    · exact hl
  · rw [← h.pos (by omega), List.length_append] at hl; omega
structure TxOK (d : List Int) : Prop where
  lt : valD d < 18446744073709551616
theorem len_i64' {n : Nat} (h : n ≤ 1000) : ((n : Nat) : Int) ≤ IntKind.i64.max := by
  show (n : Int) ≤ 9223372036854775807
  omega
theorem Bg_nat {n : Nat} (h : n < 37778931862957161709568) : Bg false (dgs n) :=
  ⟨Dig_dgs _, by rw [valD_dgs, Int.toNat_natCast], ⟨by
    have := dgs_len (k := 5) (n := n) (by have : (32768 : Nat) ^ 5 = 37778931862957161709568 := rfl
                                          omega)
    omega⟩, fun k => by cases k⟩
theorem Bg10 : Bg (decide ((10 : Int) < 0)) (dgs (Int.natAbs 10)) := Bg_i64 (by omega) (by omega)
theorem val10 : valD (dgs (Int.natAbs 10)) = 10 := by rw [valD_dgs]; rfl
theorem bzv10 : bzv (decide ((10 : Int) < 0)) (dgs (Int.natAbs 10)) = 10 := bzv_big 10
def txV (s : Bool) (d : List Int) : List UInt8 := Lib.itoa (bzv s d)
abbrev textS : PSpec := gB1 (fun s d => [Bg s d, TxOK d]) fun s d => .str (txV s d)
theorem text_s : SOK Tryd.prog 24 textS := by
  refine sok_of (C := mkT 0 [(25, ofS), (39, fun l => floorOneS (l.map fzA)), (42, fun l => mulS (l.map fzA)), (41, fun l => subS (l.map fzA)), (40, unsignedS)] noG [] [] [2, 4, 5])
    (mkT_ok (pok_cons of_s (pok_cons (sok_fz floorOne_s) (pok_cons (sok_fz mul_s) (pok_cons (sok_fz sub_s) (pok_cons unsigned_s pok_nil))))) noG_ok dl_nil) rfl mixed ⟨Tryd.func24, by kernel_rfl, by kernel_rfl, by kernel_rfl⟩ fun l obs v h ho => ?_
  unfold textS at h
  (unfold gB1 at h; split at h; rotate_left; (focus (cases h)); rename_i sg d; simp only [Option.some.injEq, Prod.mk.injEq] at h; obtain ⟨rfl, rfl⟩ := h; simp only [List.mem_cons, List.not_mem_nil, or_false, forall_eq_or_imp, forall_eq, false_implies, implies_true] at ho)
  obtain ⟨b1, hok⟩ := ho
  have hlt := hok.lt
  have n1 := valD_nn b1.dig
  obtain ⟨N, hN⟩ : ∃ N : Nat, valD d = N := ⟨(valD d).toNat, by omega⟩
  have hd : d = dgs N := by rw [b1.dg, hN, Int.toNat_natCast]
  refine ⟨Nat.le_of_ble_eq_true rfl, ?_⟩
  (repeat' (first | (refine xI (fun hfk => ?_) (fun hfk => ?_) <;> ((try (first | replace hfk := oT hfk | replace hfk := oF hfk | simp only [oA, oB, dh1, dh0, ne_eq, reduceCtorEq] at hfk)); (try exact oX))) | (refine And.intro ?ob ?_; (case ob => (exact oZ))) | exact True.intro | (show _ = _; first | exact oY | (skip; done) | exact rfl) | exact oW | (apply And.intro)))
  refine ⟨[(1, .ptr 0 0), (2, .str []), (3, .str []), (4, .ptr 1 0)],
    ⟨2, [(0, some (.cells 49 [.bool sg, .roi .i64 d])), (1, some (.cells 49 [.bool false, .roi .i64 (dgs N)]))]⟩, [some 0, some 1], ?_, ?_⟩
  · (repeat' (first | (refine And.intro ?_ ?_) | exact True.intro | (show _ = _; with_reducible rfl) | exact Chk.mk (by kernel_rfl)))
    all_goals first | exact hd | rfl
  (repeat' (first | (refine xI (fun hfk => ?_) (fun hfk => ?_) <;> ((try (first | replace hfk := oT hfk | replace hfk := oF hfk | simp only [oA, oB, dh1, dh0, ne_eq, reduceCtorEq] at hfk)); (try exact oX))) | (refine And.intro ?ob ?_; (case ob => (exact oZ))) | exact True.intro | (show _ = _; first | exact oY | (skip; done) | exact rfl) | exact oW | (apply And.intro)))
  refine ⟨Nat × List UInt8, fun g => [(1, .ptr 0 0), (2, .str []), (3, .str g.2), (4, .ptr 1 0)], fun g => ⟨2, [(0, some (.cells 49 [.bool sg, .roi .i64 d])), (1, some (.cells 49 [.bool false, .roi .i64 (dgs g.1)]))]⟩,
    fun g => TxI N g.1 g.2, fun g => g.1, ⟨(N, []), [some 0, some 1], tx_0 N, ?_⟩, fun g hg => ?_⟩
  · (repeat' (first | (refine And.intro ?_ ?_) | exact True.intro | (show _ = _; with_reducible rfl) | exact Chk.mk (by kernel_rfl)))
    all_goals rfl
  obtain ⟨n, s⟩ := g
  have hg : TxI N n s := hg
  dsimp only
  have hle := hg.le
  by_cases hn : n = 0
  · have hs := hg.nil hn
    subst hn
    have l0 : (dgs 0).length = 0 := by rw [dgs_0]; rfl
    by_cases hN0 : N = 0
    · rw [if_pos hN0] at hs
      subst hs
      have e : txV sg d = [48] := by
        unfold txV bzv
        rw [hN, hN0]
        have : (if sg = true then -((0 : Nat) : Int) else ((0 : Nat) : Int)) = ((0 : Nat) : Int) := by split <;> rfl
        rw [this, Lib.itoa_nonneg, Lib.decDigits_one (by decide)]; rfl
      (repeat' (first | (refine xI (fun hfk => ?_) (fun hfk => ?_) <;> ((try (first | replace hfk := oT hfk | replace hfk := oF hfk | simp only [oA, oB, dh1, dh0, ne_eq, reduceCtorEq] at hfk)); (try exact oX))) | (refine And.intro ?ob ?_; (case ob => (exact oZ))) | exact True.intro | (show _ = _; first | exact oY | (exact e.symm; done) | exact rfl) | exact oW | (apply And.intro)))
    · rw [if_neg hN0] at hs
      subst hs
      have hp := nD_pos N
      have hl := Lib.decDigits_length N
      have ne : ¬ Lib.decDigits N = [] := fun k => by rw [k] at hl; simp at hl; omega
      have l20 : (Lib.decDigits N).length ≤ 20 := by rw [hl]; exact nD_le 19 N (by omega)
      cases sg with
      | true =>
        have e : txV true d = 45 :: Lib.decDigits N := by
          unfold txV bzv
          rw [if_pos rfl, hN, Lib.itoa_neg N (by omega)]
        have q1 : (ByteArray.mk #[45]).data.toList.length = 1 := rfl
        have q2 : ((((ByteArray.mk #[45]).data.toList.length + (Lib.decDigits N).length : Nat)) : Int) ≤ IntKind.i64.max := len_i64' (by omega)
        (repeat' (first | (refine xI (fun hfk => ?_) (fun hfk => ?_) <;> ((try (first | replace hfk := oT hfk | replace hfk := oF hfk | simp only [oA, oB, dh1, dh0, ne_eq, reduceCtorEq] at hfk)); (try exact oX))) | (refine And.intro ?ob ?_; (case ob => (exact oZ))) | exact True.intro | (show _ = _; first | exact oY | (first | exact e.symm | exact q2; done) | exact rfl) | exact oW | (apply And.intro)))
      | false =>
        have e : txV false d = Lib.decDigits N := by
          unfold txV bzv
          rw [if_neg (by decide), hN, Lib.itoa_nonneg]
        (repeat' (first | (refine xI (fun hfk => ?_) (fun hfk => ?_) <;> ((try (first | replace hfk := oT hfk | replace hfk := oF hfk | simp only [oA, oB, dh1, dh0, ne_eq, reduceCtorEq] at hfk)); (try exact oX))) | (refine And.intro ?ob ?_; (case ob => (exact oZ))) | exact True.intro | (show _ = _; first | exact oY | (exact e.symm; done) | exact rfl) | exact oW | (apply And.intro)))
  · have hn0 : 0 < n := by omega
    have hnx := tx_next hg hn0
    have ls := tx_len hg (by omega)
    have l1 : 0 < ((dgs n).length : Int) := dgs_len0.2 hn0
    have vn : valD (dgs n) = n := valD_dgs n
    have BN : Bg false (dgs n) := Bg_nat (by omega)
    have B10 := Bg10
    have v10 := val10
    have f10 : decide ((10 : Int) < 0) = false := rfl
    have l10 : (dgs (Int.natAbs 10)).length = 1 := by rw [show Int.natAbs 10 = 10 from rfl, dgs_pos (by decide), show 10 / 32768 = 0 from rfl, dgs_0]; rfl
    have l5 : (dgs n).length ≤ 1000 := by
      have := dgs_len (k := 5) (n := n) (by have : (32768 : Nat) ^ 5 = 37778931862957161709568 := rfl
                                            omega)
      omega
    (repeat' (first | (refine xI (fun hfk => ?_) (fun hfk => ?_) <;> ((try (first | replace hfk := oT hfk | replace hfk := oF hfk | simp only [oA, oB, dh1, dh0, ne_eq, reduceCtorEq] at hfk)); (try exact oX))) | (refine And.intro ?ob ?_; (case ob => (exact oZ))) | exact True.intro | (show _ = _; first | exact oY | (first | exact BN | exact B10 | exact f10; done) | exact rfl) | exact oW | (apply And.intro)))
    refine ⟨[(1, .ptr 0 0), (2, .str []), (3, .str s), (4, .ptr 1 0), (5, .ptr 2 0)],
      ⟨3, [(0, some (.cells 49 [.bool sg, .roi .i64 d])), (1, some (.cells 49 [.bool false, .roi .i64 (dgs n)])), (2, some (.cells 49 [.bool false, .roi .i64 (dgs (n / 10))]))]⟩, [some 0, some 1, some 2], ?_, ?_⟩
    · have eq : valD (dgs n) / valD (dgs (Int.natAbs 10)) = ((n / 10 : Nat) : Int) := by rw [vn, v10]; rfl
      have e1 : decide (valD (dgs n) / valD (dgs (Int.natAbs 10)) < 0) = false := by rw [eq]; exact decide_eq_false (by omega)
      have e2 : dgs (valD (dgs n) / valD (dgs (Int.natAbs 10))).natAbs = dgs (n / 10) := by rw [eq, Int.natAbs_natCast]
      (repeat' (first | (refine And.intro ?_ ?_) | exact True.intro | (show _ = _; with_reducible rfl) | exact Chk.mk (by kernel_rfl)))
      all_goals first | exact e1 | exact e2 | rfl
    have BQ : Bg false (dgs (n / 10)) := Bg_nat (by omega)
    have vq : bzv false (dgs (n / 10)) = (n / 10 : Nat) := valD_dgs _
    have vn' : bzv false (dgs n) = n := valD_dgs _
    have v10' := bzv10
    have em : bzv false (dgs (n / 10)) * bzv (decide ((10 : Int) < 0)) (dgs (Int.natAbs 10)) = ((n / 10 * 10 : Nat) : Int) := by rw [vq, v10']; omega
    have BM : Bg (decide (bzv false (dgs (n / 10)) * bzv (decide ((10 : Int) < 0)) (dgs (Int.natAbs 10)) < 0)) (dgs (bzv false (dgs (n / 10)) * bzv (decide ((10 : Int) < 0)) (dgs (Int.natAbs 10))).natAbs) := by
      rw [em, decide_eq_false (by omega), Int.natAbs_natCast]; exact Bg_nat (by omega)
    have es : (bzv false (dgs n) - bzv (decide (bzv false (dgs (n / 10)) * bzv (decide ((10 : Int) < 0)) (dgs (Int.natAbs 10)) < 0)) (dgs (bzv false (dgs (n / 10)) * bzv (decide ((10 : Int) < 0)) (dgs (Int.natAbs 10))).natAbs)) = ((n % 10 : Nat) : Int) := by rw [bzv_big, em, vn']; omega
    have BS : Bg (decide ((bzv false (dgs n) - bzv (decide (bzv false (dgs (n / 10)) * bzv (decide ((10 : Int) < 0)) (dgs (Int.natAbs 10)) < 0)) (dgs (bzv false (dgs (n / 10)) * bzv (decide ((10 : Int) < 0)) (dgs (Int.natAbs 10))).natAbs)) < 0)) (dgs (bzv false (dgs n) - bzv (decide (bzv false (dgs (n / 10)) * bzv (decide ((10 : Int) < 0)) (dgs (Int.natAbs 10)) < 0)) (dgs (bzv false (dgs (n / 10)) * bzv (decide ((10 : Int) < 0)) (dgs (Int.natAbs 10))).natAbs)).natAbs) := by
      rw [es, decide_eq_false (by omega), Int.natAbs_natCast]; exact Bg_nat (by omega)
    have vs : valD (dgs (bzv false (dgs n) - bzv (decide (bzv false (dgs (n / 10)) * bzv (decide ((10 : Int) < 0)) (dgs (Int.natAbs 10)) < 0)) (dgs (bzv false (dgs (n / 10)) * bzv (decide ((10 : Int) < 0)) (dgs (Int.natAbs 10))).natAbs)).natAbs) = ((n % 10 : Nat) : Int) := by rw [es, Int.natAbs_natCast, valD_dgs]
    have vs2 : valD (dgs (bzv false (dgs n) - bzv (decide (bzv false (dgs (n / 10)) * bzv (decide ((10 : Int) < 0)) (dgs (Int.natAbs 10)) < 0)) (dgs (bzv false (dgs (n / 10)) * bzv (decide ((10 : Int) < 0)) (dgs (Int.natAbs 10))).natAbs)).natAbs) < 18446744073709551616 := by omega
    have hL : (List.map (fun n : Int => UInt8.ofNat n.toNat) (List.take 1 (List.drop 0 ((fun x => (IntKind.u8.wrap (IntKind.u64.wrap (48 + valD (dgs (bzv false (dgs n) - bzv (decide (bzv false (dgs (n / 10)) * bzv (decide ((10 : Int) < 0)) (dgs (Int.natAbs 10)) < 0)) (dgs (bzv false (dgs (n / 10)) * bzv (decide ((10 : Int) < 0)) (dgs (Int.natAbs 10))).natAbs)).natAbs)))) :: x) ([] : List Int))))) = [UInt8.ofNat (48 + n % 10)] := by
      rw [vs]
      have w1 : IntKind.u64.wrap (48 + ((n % 10 : Nat) : Int)) = ((48 + n % 10 : Nat) : Int) := by rw [u64_id (by omega) (by omega)]; omega
      have w2 : IntKind.u8.wrap ((48 + n % 10 : Nat) : Int) = ((48 + n % 10 : Nat) : Int) := wrap_rng ⟨by show (0 : Int) ≤ _; omega, by show _ ≤ (255 : Int); omega⟩
      rw [w1, w2]; rfl
    have hl2 : ((((List.map (fun n : Int => UInt8.ofNat n.toNat) (List.take 1 (List.drop 0 ((fun x => (IntKind.u8.wrap (IntKind.u64.wrap (48 + valD (dgs (bzv false (dgs n) - bzv (decide (bzv false (dgs (n / 10)) * bzv (decide ((10 : Int) < 0)) (dgs (Int.natAbs 10)) < 0)) (dgs (bzv false (dgs (n / 10)) * bzv (decide ((10 : Int) < 0)) (dgs (Int.natAbs 10))).natAbs)).natAbs)))) :: x) ([] : List Int))))).length + s.length : Nat)) : Int) ≤ IntKind.i64.max := by
      rw [hL]; exact len_i64' (by show 1 + s.length ≤ 1000; omega)
    (repeat' (first | (refine xI (fun hfk => ?_) (fun hfk => ?_) <;> ((try (first | replace hfk := oT hfk | replace hfk := oF hfk | simp only [oA, oB, dh1, dh0, ne_eq, reduceCtorEq] at hfk)); (try exact oX))) | (refine And.intro ?ob ?_; (case ob => (exact oZ))) | exact True.intro | (show _ = _; first | exact oY | (first | exact BN | exact B10 | exact BQ | exact BM | exact BS | exact vs2 | exact hl2; done) | exact rfl) | exact oW | (apply And.intro)))
    refine ⟨[(1, .ptr 0 0), (2, .str []), (3, .str (UInt8.ofNat (48 + n % 10) :: s)), (4, .ptr 1 0), (5, .ptr 2 0)],
      ⟨3, [(0, some (.cells 49 [.bool sg, .roi .i64 d])), (1, some (.cells 49 [.bool false, .roi .i64 (dgs n)])), (2, some (.cells 49 [.bool false, .roi .i64 (dgs (n / 10))]))]⟩, [some 0, some 1, some 2], ?_, ?_⟩
    · have e3 : (List.map (fun n : Int => UInt8.ofNat n.toNat) (List.take 1 (List.drop 0 ((fun x => (IntKind.u8.wrap (IntKind.u64.wrap (48 + valD (dgs (bzv false (dgs n) - bzv (decide (bzv false (dgs (n / 10)) * bzv (decide ((10 : Int) < 0)) (dgs (Int.natAbs 10)) < 0)) (dgs (bzv false (dgs (n / 10)) * bzv (decide ((10 : Int) < 0)) (dgs (Int.natAbs 10))).natAbs)).natAbs)))) :: x) ([] : List Int))))) ++ s = UInt8.ofNat (48 + n % 10) :: s := by rw [hL]; rfl
      (repeat' (first | (refine And.intro ?_ ?_) | exact True.intro | (show _ = _; with_reducible rfl) | exact Chk.mk (by kernel_rfl)))
      all_goals first | exact e3 | rfl
    clear hL hl2 vs2 vs BS es BM em
    (repeat' (first | (refine xI (fun hfk => ?_) (fun hfk => ?_) <;> ((try (first | replace hfk := oT hfk | replace hfk := oF hfk | simp only [oA, oB, dh1, dh0, ne_eq, reduceCtorEq] at hfk)); (try exact oX))) | (refine And.intro ?ob ?_; (case ob => (exact oZ))) | exact True.intro | (show _ = _; first | exact oY | (skip; done) | exact rfl) | exact oW | (apply And.intro)))
    refine ⟨(n / 10, UInt8.ofNat (48 + n % 10) :: s), [some 0, some 1], hnx, ?mu, ?_⟩
    case mu => (show n / 10 < n; omega)
    (repeat' (first | (refine And.intro ?_ ?_) | exact True.intro | (show _ = _; with_reducible rfl) | exact Chk.mk (by kernel_rfl)))
    all_goals rfl
end Go.Proofs.YtocboijpmmlegaaDoor
namespace Go.Proofs.YtocboijpmmlegaaDoor
open Go Go.RowKit
set_option maxHeartbeats 4000000
theorem txV_big (z : Int) : txV (decide (z < 0)) (dgs z.natAbs) = Lib.itoa z := by unfold txV; rw [bzv_big]
structure TxZ (z : Int) : Prop where
  lo : -9223372036854775808 ≤ z
  hi : z ≤ 9223372036854775807
theorem TxZ.ok {z : Int} (h : TxZ z) : TxOK (dgs z.natAbs) := ⟨by have := h.lo; have := h.hi; rw [valD_dgs]; omega⟩
theorem TxZ.bg {z : Int} (h : TxZ z) : Bg (decide (z < 0)) (dgs z.natAbs) := by have := h.lo; have := h.hi; exact Bg_i64 (by omega) (by omega)
abbrev rhdS : PSpec := fun l => match l with | [.int .i64 w, .int .i64 h, .int .i64 c] => some ([TxZ w, TxZ h], .str (hdS w h c)) | _ => none
theorem rhead15_s : SOK Tryd.prog 11 rhdS := by
  refine sok_of (C := mkC 0 [(25, ofS), (24, textS)] noG) (mkC_ok (pok_cons of_s (pok_cons text_s pok_nil)) noG_ok) rfl mixed ⟨Tryd.func11, by kernel_rfl, by kernel_rfl, by kernel_rfl⟩ fun l obs v h ho => ?_
  (unfold rhdS at h; split at h; rotate_left; (focus (cases h)); rename_i w hh c; simp only [Option.some.injEq, Prod.mk.injEq] at h; obtain ⟨rfl, rfl⟩ := h; simp only [List.mem_cons, List.not_mem_nil, or_false, forall_eq_or_imp, forall_eq, false_implies, implies_true] at ho)
  obtain ⟨tw, th⟩ := ho
  refine ⟨Nat.le_of_ble_eq_true rfl, ?_⟩
  have w0 := tw.lo
  have w1 := tw.hi
  have h0 := th.lo
  have h1 := th.hi
  have bw := tw.bg
  have bh := th.bg
  have ow := tw.ok
  have oh := th.ok
  have vw := txV_big w
  have vh := txV_big hh
  have lw := itoa_len (x := w) (by omega) (by omega)
  have lh := itoa_len (x := hh) (by omega) (by omega)
  rw [← vw] at lw
  rw [← vh] at lh
  unfold hdS
  rw [← vw, ← vh]
  clear vw vh
  have q0 : (ByteArray.mk #[80, 53]).data.toList.length = 2 := rfl
  have q1 : (ByteArray.mk #[80, 54]).data.toList.length = 2 := rfl
  have q2 : (ByteArray.mk #[10]).data.toList.length = 1 := rfl
  have q3 : (ByteArray.mk #[32]).data.toList.length = 1 := rfl
  have q4 : (ByteArray.mk #[10, 50, 53, 53, 10]).data.toList.length = 5 := rfl
  by_cases c1 : c = 1
  · subst c1
    rw [if_pos rfl]
    (repeat' (first | (refine xI (fun hfk => ?_) (fun hfk => ?_) <;> ((try (first | replace hfk := oT hfk | replace hfk := oF hfk | simp only [oA, oB, dh1, dh0, ne_eq, reduceCtorEq] at hfk)); (try exact oX))) | (refine And.intro ?ob ?_; (case ob => (exact oZ))) | exact True.intro | (show _ = _; first | exact oY | (first | exact bw | exact bh | exact ow | exact oh | rfl; done) | exact rfl) | exact oW | (apply And.intro)))
    all_goals first | (refine len_i64 ?_; (repeat rw [List.length_append]); omega) | skip
  · by_cases c3 : c = 3
    · subst c3
      rw [if_neg (by decide), if_pos rfl]
      (repeat' (first | (refine xI (fun hfk => ?_) (fun hfk => ?_) <;> ((try (first | replace hfk := oT hfk | replace hfk := oF hfk | simp only [oA, oB, dh1, dh0, ne_eq, reduceCtorEq] at hfk)); (try exact oX))) | (refine And.intro ?ob ?_; (case ob => (exact oZ))) | exact True.intro | (show _ = _; first | exact oY | (first | exact bw | exact bh | exact ow | exact oh | rfl; done) | exact rfl) | exact oW | (apply And.intro)))
      all_goals first | (refine len_i64 ?_; (repeat rw [List.length_append]); omega) | skip
    · rw [if_neg c1, if_neg c3]
      (repeat' (first | (refine xI (fun hfk => ?_) (fun hfk => ?_) <;> ((try (first | replace hfk := oT hfk | replace hfk := oF hfk | simp only [oA, oB, dh1, dh0, ne_eq, reduceCtorEq] at hfk)); (try exact oX))) | (refine And.intro ?ob ?_; (case ob => (exact oZ))) | exact True.intro | (show _ = _; first | exact oY | (rfl; done) | exact rfl) | exact oW | (apply And.intro)))
theorem rpwrite_s : SOK Tryd.prog 9 pwS := by
  refine sok_of (C := mkT 0 [(23, checkS), (11, rhdS)] noG [] [] []) (mkT_ok (pok_cons rcheck7_s (pok_cons rhead15_s pok_nil)) noG_ok dl_nil) rfl mixed ⟨Tryd.func9, by kernel_rfl, by kernel_rfl, by kernel_rfl⟩ fun l obs v h ho => ?_
  (unfold pwS at h; split at h; rotate_left; (focus (cases h)); rename_i w hh c p; simp only [Option.some.injEq, Prod.mk.injEq] at h; obtain ⟨rfl, rfl⟩ := h; simp only [List.mem_cons, List.not_mem_nil, or_false, forall_eq_or_imp, forall_eq, false_implies, implies_true] at ho)
  refine ⟨Nat.le_of_ble_eq_true rfl, ?_⟩
  by_cases e : imCheck w hh c p.length = 0
  · obtain ⟨c1, w1, w2, h1, h2, wh, _⟩ := fits_inv (check_inv e).1
    have lh := hdS_len (w := w) (h := hh) (c := c) (by omega) (by omega) (by omega) (by omega)
    have tw : TxZ w := ⟨by omega, by omega⟩
    have th : TxZ hh := ⟨by omega, by omega⟩
    by_cases c4 : c = 4
    · have e1 : pwE w hh c p.length = 10 := by unfold pwE; rw [if_neg (fun k => k e), if_pos c4]
      have e2 : pwL w hh c p = [] := if_neg (by rw [e1]; decide)
      rw [e1, e2]
      (repeat' (first | (refine xI (fun hfk => ?_) (fun hfk => ?_) <;> ((try (first | replace hfk := oT hfk | replace hfk := oF hfk | simp only [oA, oB, dh1, dh0, ne_eq, reduceCtorEq] at hfk)); (try exact oX))) | (refine And.intro ?ob ?_; (case ob => (exact oZ))) | exact True.intro | (show _ = _; first | exact oY | (first | exact tw | exact th | rfl; done) | exact rfl) | exact oW | (apply And.intro)))
    · have e1 : pwE w hh c p.length = 0 := by unfold pwE; rw [if_neg (fun k => k e), if_neg c4]
      have e2 : pwL w hh c p = strI (hdS w hh c) ++ p := if_pos e1
      have e3 : ¬ hdS w hh c = (ByteArray.mk #[]).data.toList := by
        unfold hdS
        rcases c1 with k | k | k
        · rw [if_pos k]; exact fun q => by cases q
        · rw [if_neg (by omega), if_pos k]; exact fun q => by cases q
        · exact absurd k c4
      have l1 : 0 < (hdS w hh c).length := List.length_pos_iff.2 e3
      rw [e1, e2]
      have z1 : List.take ((List.map (fun c : UInt8 => (c.toNat : Int)) (hdS w hh c)).length + p.length) (List.drop 0 (List.map (fun c : UInt8 => (c.toNat : Int)) (hdS w hh c) ++ p)) = strI (hdS w hh c) ++ p := by
        rw [List.drop_zero, List.take_of_length_le (by rw [List.length_append]; exact Nat.le_refl _)]
      (repeat' (first | (refine xI (fun hfk => ?_) (fun hfk => ?_) <;> ((try (first | replace hfk := oT hfk | replace hfk := oF hfk | simp only [oA, oB, dh1, dh0, ne_eq, reduceCtorEq] at hfk)); (try exact oX))) | (refine And.intro ?ob ?_; (case ob => (exact oZ))) | exact True.intro | (show _ = _; first | exact oY | (first | exact tw | exact th | exact z1 | rfl; done) | exact rfl) | exact oW | (apply And.intro)))
  · have e1 : pwE w hh c p.length = imCheck w hh c p.length := if_pos e
    have e2 : pwL w hh c p = [] := if_neg (by rw [e1]; exact e)
    rw [e1, e2]
    (repeat' (first | (refine xI (fun hfk => ?_) (fun hfk => ?_) <;> ((try (first | replace hfk := oT hfk | replace hfk := oF hfk | simp only [oA, oB, dh1, dh0, ne_eq, reduceCtorEq] at hfk)); (try exact oX))) | (refine And.intro ?ob ?_; (case ob => (exact oZ))) | exact True.intro | (show _ = _; first | exact oY | (rfl; done) | exact rfl) | exact oW | (apply And.intro)))
end Go.Proofs.YtocboijpmmlegaaDoor
namespace Go.Proofs.YtocboijpmmlegaaDoor
open Go Go.RowKit
set_option maxHeartbeats 4000000
theorem strI_app (a b : List UInt8) : strI (a ++ b) = strI a ++ strI b := List.map_append
theorem strI_itoa (u : Nat) : strI (Lib.itoa (u : Int)) = decI u := by rw [Lib.itoa_nonneg]; rfl
theorem strI_hd {k w h : Nat} (hk : k = 1 ∨ k = 3) : strI (hdS w h k) = hdI k w h := by
  rcases hk with rfl | rfl
  · have e : hdS w h ((1 : Nat) : Int) = (ByteArray.mk #[80, 53, 10]).data.toList ++ Lib.itoa w ++ (ByteArray.mk #[32]).data.toList ++ Lib.itoa h ++ (ByteArray.mk #[10, 50, 53, 53, 10]).data.toList := if_pos rfl
    rw [e, strI_app, strI_app, strI_app, strI_app, strI_itoa, strI_itoa]
    unfold hdI
    rw [if_pos rfl]
    simp [strI]
  · have e : hdS w h ((3 : Nat) : Int) = (ByteArray.mk #[80, 54, 10]).data.toList ++ Lib.itoa w ++ (ByteArray.mk #[32]).data.toList ++ Lib.itoa h ++ (ByteArray.mk #[10, 50, 53, 53, 10]).data.toList := by
      unfold hdS; rw [if_neg (by decide), if_pos (by decide)]
    rw [e, strI_app, strI_app, strI_app, strI_app, strI_itoa, strI_itoa]
    unfold hdI
    rw [if_neg (by decide)]
    simp [strI]
theorem hdI_le (k : Nat) {w h : Nat} (w2 : w ≤ 32768) (h2 : h ≤ 32768) : (hdI k w h).length ≤ 19 := by
  rw [hdI_len]
  have := nD_le 4 w (by omega)
  have := nD_le 4 h (by omega)
  omega
theorem hdI_bytes (k w h : Nat) : Bytes (hdI k w h) := by
  have d : ∀ u, Bytes (decI u) := fun u x hx => by have := decI_dg u x hx; omega
  intro x hx
  unfold hdI at hx
  rcases List.mem_cons.1 hx with e | hx
  · omega
  rcases List.mem_cons.1 hx with e | hx
  · split at e <;> omega
  rcases List.mem_cons.1 hx with e | hx
  · omega
  rcases List.mem_append.1 hx with hx | hx
  · exact d w x hx
  rcases List.mem_cons.1 hx with e | hx
  · omega
  rcases List.mem_append.1 hx with hx | hx
  · exact d h x hx
  · simp only [List.mem_cons, List.not_mem_nil, or_false] at hx
    omega
structure PwOK (w h c : Int) (p q : List Int) (K W H : Nat) : Prop where
  hk : K = 1 ∨ K = 3
  w1 : 1 ≤ W
  w2 : W ≤ 32768
  h1 : 1 ≤ H
  h2 : H ≤ 32768
  hm : W * H ≤ 4194304
  hp : p.length = W * H * K
  ew : w = W
  eh : h = H
  ec : c = K
  eq : q = hdI K W H ++ p
theorem pw_im {w h c : Int} {p : List Int} (e : pwE w h c p.length = 0) : ∃ K W H : Nat, PwOK w h c p (pwL w h c p) K W H := by
  have e0 : imCheck w h c p.length = 0 := by
    unfold pwE at e
    split at e
    · rename_i k; exact absurd e k
    · rename_i k; exact Classical.not_not.1 k
  have e4 : c ≠ 4 := fun k => by unfold pwE at e; rw [if_neg (fun q => q e0), if_pos k] at e; cases e
  obtain ⟨hf, hn⟩ := check_inv e0
  obtain ⟨c1, w1, w2, h1, h2, wh, _⟩ := fits_inv hf
  obtain ⟨W, rfl⟩ : ∃ W : Nat, w = W := ⟨w.toNat, by omega⟩
  obtain ⟨H, rfl⟩ : ∃ H : Nat, h = H := ⟨h.toNat, by omega⟩
  obtain ⟨K, rfl⟩ : ∃ K : Nat, c = K := ⟨c.toNat, by omega⟩
  have hk : K = 1 ∨ K = 3 := by omega
  have cm : ((W * H : Nat) : Int) = (W : Int) * (H : Int) := Int.natCast_mul W H
  have hp : p.length = W * H * K := by
    have : ((W * H * K : Nat) : Int) = (W : Int) * (H : Int) * (K : Int) := by rw [Int.natCast_mul, cm]
    omega
  refine ⟨K, W, H, hk, by omega, by omega, by omega, by omega, by rw [← cm] at wh; omega, hp, rfl, rfl, rfl, ?_⟩
  unfold pwL
  rw [if_pos e, strI_hd hk]
structure PwRd (w h c : Int) (p q : List Int) : Prop where
  byt : Byt q
  e : pnE q = 0
  eW : pnK q (pgW q) = w
  eH : pnK q (pgH q) = h
  eC : pnK q (kdV q) = c
  eL : pnL q = p
  sz : (q.length : Int) = pszV w h c
  le : q.length ≤ 20019
  pos : 1 ≤ q.length
theorem psz_im {w h c : Int} {p q : List Int} {K W H : Nat} (o : PwOK w h c p q K W H) : (q.length : Int) = pszV w h c := by
  obtain ⟨hk, w1, w2, h1, h2, hm, hp, rfl, rfl, rfl, rfl⟩ := o
  have cm : ((W * H : Nat) : Int) = (W : Int) * (H : Int) := Int.natCast_mul W H
  have cm2 : ((W * H * K : Nat) : Int) = (W : Int) * (H : Int) * (K : Int) := by rw [Int.natCast_mul, cm]
  unfold pszV
  rw [if_pos ⟨by omega, by omega, by omega, by omega, by omega, by rw [← cm]; omega⟩, List.length_append, hp, ← strI_hd hk, List.length_map]
  omega
theorem pw_ok {w h c : Int} {p : List Int} (e : pwE w h c p.length = 0) (hp : p.length ≤ 20000) (hB : Bytes p) : PwRd w h c p (pwL w h c p) := by
  obtain ⟨K, W, H, o⟩ := pw_im e
  have sz := psz_im o
  obtain ⟨hk, w1, w2, h1, h2, hm, hp2, rfl, rfl, rfl, eq⟩ := o
  rw [eq] at sz ⊢
  obtain ⟨r1, r2, r3, r4, r5⟩ := rd_pw hk w1 w2 h1 h2 hm hp2
  have hl := hdI_le K w2 h2
  have hl2 := hdI_len K W H
  have hb : Bytes (hdI K W H ++ p) := fun x hx => (List.mem_append.1 hx).elim (hdI_bytes K W H x) (hB x)
  exact ⟨⟨by rw [List.length_append]; omega, fun i => hb.get i⟩, r1, r2, r3, r4, r5, sz, by rw [List.length_append]; omega, by rw [List.length_append]; omega⟩
end Go.Proofs.YtocboijpmmlegaaDoor
namespace Go.Proofs.YtocboijpmmlegaaDoor
open Go Go.RowKit
set_option maxHeartbeats 4000000
def fnV (k : Int) : List UInt8 := if k = 1 then [112, 103, 109] else if k = 2 then [112, 112, 109] else if k = 3 then [98, 109, 112, 50, 52] else if k = 4 then [98, 109, 112, 51, 50] else []
def fcV (k : Int) : Int := if k = 1 then 1 else if k = 2 then 3 else if k = 3 then 3 else if k = 4 then 4 else 0
theorem kd5_cs (k : Int) : (k < 1 ∨ 4 < k) ∨ k = 1 ∨ k = 2 ∨ k = 3 ∨ k = 4 := by omega
theorem fv_out {k : Int} (h : k < 1 ∨ 4 < k) : fnV k = [] ∧ fcV k = 0 := by
  unfold fnV fcV
  rw [if_neg (by omega), if_neg (by omega), if_neg (by omega), if_neg (by omega), if_neg (by omega), if_neg (by omega), if_neg (by omega), if_neg (by omega)]
  exact ⟨rfl, rfl⟩
abbrev sI17 (f : Int → AV) : PSpec := fun l => match l with | [.int .i64 k] => some ([], f k) | _ => none
def fmG (j : Nat) : AV := .agg [.str (fnV j), .int .i64 (fcV j)]
abbrev forms17S : PSpec := sN (.ro 2 5 fmG)
theorem forms17_s : SOK Tryd.prog 51 forms17S := by
  refine sok_of (C := mkC 0 [] noG) (mkC_ok pok_nil noG_ok) rfl mixed ⟨Tryd.func51, by kernel_rfl, by kernel_rfl, by kernel_rfl⟩ fun l obs v h ho => ?_
  obtain ⟨rfl, rfl, rfl⟩ := sN_inv h
  refine ⟨Nat.le_of_ble_eq_true rfl, ?_⟩
  refine ⟨Nat.le_refl _, rfl, fun j hj => ?_⟩
  have : j = 0 ∨ j = 1 ∨ j = 2 ∨ j = 3 ∨ j = 4 := by have : j < 5 := hj; omega
  rcases this with rfl | rfl | rfl | rfl | rfl <;> rfl
abbrev of17S : PSpec := sI17 fun k => .agg [.str (fnV k), .int .i64 (fcV k)]
theorem of17_s : SOK Tryd.prog 31 of17S := by
  refine sok_of (C := mkC 0 [(51, forms17S)] noG) (mkC_ok (pok_cons forms17_s pok_nil) noG_ok) rfl mixed ⟨Tryd.func31, by kernel_rfl, by kernel_rfl, by kernel_rfl⟩ fun l obs v h ho => ?_
  unfold of17S at h
  (unfold sI17 at h; split at h; rotate_left; (focus (cases h)); rename_i k; simp only [Option.some.injEq, Prod.mk.injEq] at h; obtain ⟨rfl, rfl⟩ := h; simp only [List.mem_cons, List.not_mem_nil, or_false, forall_eq_or_imp, forall_eq, false_implies, implies_true] at ho)
  refine ⟨Nat.le_of_ble_eq_true rfl, ?_⟩
  rcases kd5_cs k with hk | rfl | rfl | rfl | rfl
  · rw [(fv_out hk).1, (fv_out hk).2]
    (repeat' (first | (refine xI (fun hfk => ?_) (fun hfk => ?_) <;> ((try (first | replace hfk := oT hfk | replace hfk := oF hfk | simp only [oA, oB, dh1, dh0, ne_eq, reduceCtorEq] at hfk)); (try exact oX))) | (refine And.intro ?ob ?_; (case ob => (exact oZ))) | exact True.intro | (show _ = _; first | exact oY | (rfl; done) | exact rfl) | exact oW | (apply And.intro)))
  all_goals
    (repeat' (first | (refine xI (fun hfk => ?_) (fun hfk => ?_) <;> ((try (first | replace hfk := oT hfk | replace hfk := oF hfk | simp only [oA, oB, dh1, dh0, ne_eq, reduceCtorEq] at hfk)); (try exact oX))) | (refine And.intro ?ob ?_; (case ob => (exact oZ))) | exact True.intro | (show _ = _; first | exact oY | (rfl; done) | exact rfl) | exact oW | (apply And.intro)))
theorem rchan17_s : SOK Tryd.prog 34 (sI17 fun k => .int .i64 (fcV k)) := by
  refine sok_of (C := mkC 0 [] noG) (mkC_ok pok_nil noG_ok) rfl mixed ⟨Tryd.func34, by kernel_rfl, by kernel_rfl, by kernel_rfl⟩ fun l obs v h ho => ?_
  (unfold sI17 at h; split at h; rotate_left; (focus (cases h)); rename_i k; simp only [Option.some.injEq, Prod.mk.injEq] at h; obtain ⟨rfl, rfl⟩ := h; simp only [List.mem_cons, List.not_mem_nil, or_false, forall_eq_or_imp, forall_eq, false_implies, implies_true] at ho)
  refine ⟨Nat.le_of_ble_eq_true rfl, ?_⟩
  rcases kd5_cs k with hk | rfl | rfl | rfl | rfl
  · rw [(fv_out hk).2]
    (repeat' (first | (refine xI (fun hfk => ?_) (fun hfk => ?_) <;> ((try (first | replace hfk := oT hfk | replace hfk := oF hfk | simp only [oA, oB, dh1, dh0, ne_eq, reduceCtorEq] at hfk)); (try exact oX))) | (refine And.intro ?ob ?_; (case ob => (exact oZ))) | exact True.intro | (show _ = _; first | exact oY | (rfl; done) | exact rfl) | exact oW | (apply And.intro)))
  all_goals
    (repeat' (first | (refine xI (fun hfk => ?_) (fun hfk => ?_) <;> ((try (first | replace hfk := oT hfk | replace hfk := oF hfk | simp only [oA, oB, dh1, dh0, ne_eq, reduceCtorEq] at hfk)); (try exact oX))) | (refine And.intro ?ob ?_; (case ob => (exact oZ))) | exact True.intro | (show _ = _; first | exact oY | (rfl; done) | exact rfl) | exact oW | (apply And.intro)))
def cwE (k w h c n : Int) : Int := if fcV k = 0 then 10 else if imCheck w h c n ≠ 0 then imCheck w h c n else if c ≠ fcV k then 10 else if k < 3 then pwE w h c n else wrE w h c n
def cwL (k w h c : Int) (p : List Int) : List Int := if cwE k w h c p.length = 0 then (if k < 3 then pwL w h c p else wrL w h c p) else []
abbrev cwS : PSpec := fun l => match l with
  | [.int .i64 k, .agg [.int .i64 w, .int .i64 h, .int .i64 c, .roi .u8 p]] => some ([p.length ≤ 20000], .tup [.roi .u8 (cwL k w h c p), .int .i64 (cwE k w h c p.length)])
  | _ => none
theorem cw_cs (k w h c : Int) (p : List Int) :
    (fcV k = 0 ∧ cwE k w h c p.length = 10 ∧ cwL k w h c p = []) ∨
    (fcV k ≠ 0 ∧ imCheck w h c p.length ≠ 0 ∧ cwE k w h c p.length = imCheck w h c p.length ∧ cwL k w h c p = []) ∨
    (fcV k ≠ 0 ∧ imCheck w h c p.length = 0 ∧ c ≠ fcV k ∧ cwE k w h c p.length = 10 ∧ cwL k w h c p = []) ∨
    (fcV k ≠ 0 ∧ imCheck w h c p.length = 0 ∧ c = fcV k ∧ (k = 1 ∨ k = 2) ∧ pwE w h c p.length = 0 ∧ cwE k w h c p.length = pwE w h c p.length ∧ cwL k w h c p = pwL w h c p) ∨
    (fcV k ≠ 0 ∧ imCheck w h c p.length = 0 ∧ c = fcV k ∧ (k = 3 ∨ k = 4) ∧ wrE w h c p.length = 0 ∧ cwE k w h c p.length = wrE w h c p.length ∧ cwL k w h c p = wrL w h c p) := by
  by_cases h1 : fcV k = 0
  · left
    have e : cwE k w h c p.length = 10 := if_pos h1
    exact ⟨h1, e, if_neg (by rw [e]; decide)⟩
  right
  by_cases h2 : imCheck w h c p.length = 0
  · right
    by_cases h3 : c = fcV k
    · right
      rcases kd5_cs k with hk | hk | hk | hk | hk
      · exact absurd (fv_out hk).2 h1
      · left
        have c1 : c = 1 := by rw [h3, hk]; rfl
        have pe : pwE w h c p.length = 0 := by unfold pwE; rw [if_neg (fun q => q h2), if_neg (by omega)]
        have e : cwE k w h c p.length = pwE w h c p.length := by unfold cwE; rw [if_neg h1, if_neg (fun q => q h2), if_neg (fun q => q h3), if_pos (by omega)]
        exact ⟨h1, h2, h3, .inl hk, pe, e, by unfold cwL; rw [if_pos (e.trans pe), if_pos (by omega)]⟩
      · left
        have c1 : c = 3 := by rw [h3, hk]; rfl
        have pe : pwE w h c p.length = 0 := by unfold pwE; rw [if_neg (fun q => q h2), if_neg (by omega)]
        have e : cwE k w h c p.length = pwE w h c p.length := by unfold cwE; rw [if_neg h1, if_neg (fun q => q h2), if_neg (fun q => q h3), if_pos (by omega)]
        exact ⟨h1, h2, h3, .inr hk, pe, e, by unfold cwL; rw [if_pos (e.trans pe), if_pos (by omega)]⟩
      · right
        have c1 : c = 3 := by rw [h3, hk]; rfl
        have pe : wrE w h c p.length = 0 := by unfold wrE; rw [if_neg (fun q => q h2), if_neg (by omega)]
        have e : cwE k w h c p.length = wrE w h c p.length := by unfold cwE; rw [if_neg h1, if_neg (fun q => q h2), if_neg (fun q => q h3), if_neg (by omega)]
        exact ⟨h1, h2, h3, .inl hk, pe, e, by unfold cwL; rw [if_pos (e.trans pe), if_neg (by omega)]⟩
      · right
        have c1 : c = 4 := by rw [h3, hk]; rfl
        have pe : wrE w h c p.length = 0 := by unfold wrE; rw [if_neg (fun q => q h2), if_neg (by omega)]
        have e : cwE k w h c p.length = wrE w h c p.length := by unfold cwE; rw [if_neg h1, if_neg (fun q => q h2), if_neg (fun q => q h3), if_neg (by omega)]
        exact ⟨h1, h2, h3, .inr hk, pe, e, by unfold cwL; rw [if_pos (e.trans pe), if_neg (by omega)]⟩
    · left
      have e : cwE k w h c p.length = 10 := by unfold cwE; rw [if_neg h1, if_neg (fun q => q h2), if_pos h3]
      exact ⟨h1, h2, h3, e, if_neg (by rw [e]; decide)⟩
  · left
    have e : cwE k w h c p.length = imCheck w h c p.length := by unfold cwE; rw [if_neg h1, if_pos h2]
    exact ⟨h1, h2, e, if_neg (by rw [e]; exact h2)⟩
structure CwRd (k w h c : Int) (p q : List Int) : Prop where
  byt : Byt q
  e : crE q = 0
  w_ : crW q = w
  h_ : crH q = h
  c_ : crC q = c
  l : crL q = p
  n : crN q = k
  le : q.length ≤ 100000
theorem cr_p {q : List Int} (hl : 1 ≤ q.length) (h0 : q.getD 0 0 = 80) : crE q = pnE q ∧ crW q = pnK q (pgW q) ∧ crH q = pnK q (pgH q) ∧ crC q = pnK q (kdV q) ∧ crL q = pnL q := by
  refine ⟨?_, if_pos h0, if_pos h0, if_pos h0, if_pos h0⟩
  unfold crE; rw [if_neg (by omega), if_pos h0]
theorem cr_b {q : List Int} (hl : 1 ≤ q.length) (h0 : q.getD 0 0 = 66) : crE q = rdE q ∧ crW q = rdK q (hW q) ∧ crH q = rdK q (hrV (hH0 q)) ∧ crC q = rdK q (hCn q) ∧ crL q = rdL q := by
  have n : ¬ q.getD 0 0 = 80 := by rw [h0]; decide
  refine ⟨?_, ?_, ?_, ?_, ?_⟩
  · unfold crE; rw [if_neg (by omega), if_neg n, if_pos h0]
  · unfold crW; rw [if_neg n, if_pos h0]
  · unfold crH; rw [if_neg n, if_pos h0]
  · unfold crC; rw [if_neg n, if_pos h0]
  · unfold crL; rw [if_neg n, if_pos h0]
theorem hdI_0 (K W H : Nat) (p : List Int) : (hdI K W H ++ p).getD 0 0 = 80 := rfl
theorem hdI_1 (K W H : Nat) (p : List Int) : (hdI K W H ++ p).getD 1 0 = if K = 1 then 53 else 54 := rfl
theorem ho_0 (x0 x1 x2 x3 x4 x5 x6 x7 x8 x9 x10 x11 x12 x13 : Int) (B : List Int) : (hdOut x0 x1 x2 x3 x4 x5 x6 x7 x8 x9 x10 x11 x12 x13 ++ B).getD 0 0 = 66 := by kernel_rfl
theorem ho_1 (x0 x1 x2 x3 x4 x5 x6 x7 x8 x9 x10 x11 x12 x13 : Int) (B : List Int) : (hdOut x0 x1 x2 x3 x4 x5 x6 x7 x8 x9 x10 x11 x12 x13 ++ B).getD 1 0 = 77 := by kernel_rfl
theorem ho_28 (x0 x1 x2 x3 x4 x5 x6 x7 x8 x9 x10 x11 x12 x13 : Int) (B : List Int) : (hdOut x0 x1 x2 x3 x4 x5 x6 x7 x8 x9 x10 x11 x12 x13 ++ B).getD 28 0 = byt x7 0 := by kernel_rfl
theorem ho_29 (x0 x1 x2 x3 x4 x5 x6 x7 x8 x9 x10 x11 x12 x13 : Int) (B : List Int) : (hdOut x0 x1 x2 x3 x4 x5 x6 x7 x8 x9 x10 x11 x12 x13 ++ B).getD 29 0 = byt x7 1 := by kernel_rfl
theorem cw_rd {k w h c : Int} {p : List Int} (hp : p.length ≤ 20000) (hB : Bytes p) (e : cwE k w h c p.length = 0) : CwRd k w h c p (cwL k w h c p) := by
  rcases cw_cs k w h c p with ⟨a1, a2, a3⟩ | ⟨a1, a2, a3, a4⟩ | ⟨a1, a2, a3, a4, a5⟩ | ⟨a1, a2, a3, a4, a5, a6, a7⟩ | ⟨a1, a2, a3, a4, a5, a6, a7⟩
  · rw [a2] at e; cases e
  · rw [a3] at e; exact absurd e a2
  · rw [a4] at e; cases e
  · rw [a7]
    have o := pw_ok a5 hp hB
    obtain ⟨K, W, H, im⟩ := pw_im a5
    have g0 : (pwL w h c p).getD 0 0 = 80 := by rw [im.eq]; exact hdI_0 K W H p
    have g1 : (pwL w h c p).getD 1 0 = if K = 1 then 53 else 54 := by rw [im.eq]; exact hdI_1 K W H p
    have hl : 2 ≤ (pwL w h c p).length := by rw [im.eq, List.length_append, hdI_len]; omega
    have hle := o.le
    obtain ⟨c1, c2, c3, c4, c5⟩ := cr_p (q := pwL w h c p) (by omega) g0
    have ee : crE (pwL w h c p) = 0 := c1.trans o.e
    refine ⟨o.byt, ee, c2.trans o.eW, c3.trans o.eH, c4.trans o.eC, c5.trans o.eL, ?_, by omega⟩
    unfold crN
    rw [if_pos ee]
    unfold kndV
    have hc := im.ec
    rcases a4 with hk | hk
    · have : K = 1 := by have : c = 1 := by rw [a3, hk]; rfl
                         omega
      rw [if_pos this] at g1
      rw [hk]; exact knd1 ⟨hl, g0, g1⟩
    · have : ¬ K = 1 := by have : c = 3 := by rw [a3, hk]; rfl
                           omega
      rw [if_neg this] at g1
      rw [hk]; exact knd2 ⟨hl, g0, g1⟩
  · rw [a7]
    obtain ⟨o1, o2, o3, o4, o5, o6, o7⟩ := wr_ok a5 hp hB
    have hi := im_of a5
    have eq : wrL w h c p = wrHd w.toNat h.toNat c.toNat (up4 (w * c)).toNat ++ wrB p c.toNat w.toNat h.toNat (up4 (w * c)).toNat := if_pos a5
    have hlen := wr_len hi
    have hl : 30 ≤ (wrL w h c p).length := by rw [eq, hlen]; omega
    have g0 : (wrL w h c p).getD 0 0 = 66 := by rw [eq]; exact ho_0 ..
    have g1 : (wrL w h c p).getD 1 0 = 77 := by rw [eq]; exact ho_1 ..
    have g28 : (wrL w h c p).getD 28 0 = byt ((8 * c.toNat : Nat) : Int) 0 := by rw [eq]; exact ho_28 ..
    have g29 : (wrL w h c p).getD 29 0 = byt ((8 * c.toNat : Nat) : Int) 1 := by rw [eq]; exact ho_29 ..
    obtain ⟨c1, c2, c3, c4, c5⟩ := cr_b (q := wrL w h c p) (by omega) g0
    have ee : crE (wrL w h c p) = 0 := c1.trans o2
    refine ⟨o1, ee, c2.trans o3, c3.trans o4, c4.trans o5, c5.trans o6, ?_, o1.le⟩
    unfold crN
    rw [if_pos ee]
    unfold kndV
    rcases a4 with hk | hk
    · have hc : c = 3 := by rw [a3, hk]; rfl
      rw [hc] at g28 g29
      rw [hk]; exact knd3 ⟨hl, g0, g1, by rw [hc, g29]; decide⟩ (by rw [hc, g28]; decide)
    · have hc : c = 4 := by rw [a3, hk]; rfl
      rw [hc] at g28 g29
      rw [hk]; exact knd4 ⟨hl, g0, g1, by rw [hc, g29]; decide⟩ (by rw [hc, g28]; decide)
end Go.Proofs.YtocboijpmmlegaaDoor
namespace Go.Proofs.YtocboijpmmlegaaDoor
open Go Go.RowKit
set_option maxHeartbeats 4000000
abbrev oldS : PSpec := fun l => match l with
  | [.agg [.str _, .int .i64 _], .agg [.int .i64 w, .int .i64 h, .int .i64 c, .roi .u8 p]] => some ([p.length ≤ 20000], .tup [.roi .u8 (pwL w h c p), .int .i64 (pwE w h c p.length)])
  | _ => none
abbrev othS : PSpec := fun l => match l with
  | [.agg [.str _, .int .i64 _], .agg [.int .i64 w, .int .i64 h, .int .i64 c, .roi .u8 p]] => some ([p.length ≤ 20000], .tup [.roi .u8 (wrL w h c p), .int .i64 (wrE w h c p.length)])
  | _ => none
attribute [local irreducible] pwE pwL wrE wrL fnV fcV
theorem old_s : SOK Tryd.prog 32 oldS := by
  refine sok_of (C := mkC 0 [(8, pwS)] noG) (mkC_ok (pok_cons pwrite_s pok_nil) noG_ok) rfl mixed ⟨Tryd.func32, by kernel_rfl, by kernel_rfl, by kernel_rfl⟩ fun l obs v h ho => ?_
  (unfold oldS at h; split at h; rotate_left; (focus (cases h)); rename_i s n w hh c p; simp only [Option.some.injEq, Prod.mk.injEq] at h; obtain ⟨rfl, rfl⟩ := h; simp only [List.mem_cons, List.not_mem_nil, or_false, forall_eq_or_imp, forall_eq, false_implies, implies_true] at ho)
  refine ⟨Nat.le_of_ble_eq_true rfl, ?_⟩
  (repeat' (first | (refine xI (fun hfk => ?_) (fun hfk => ?_) <;> ((try (first | replace hfk := oT hfk | replace hfk := oF hfk | simp only [oA, oB, dh1, dh0, ne_eq, reduceCtorEq] at hfk)); (try exact oX))) | (refine And.intro ?ob ?_; (case ob => (exact oZ))) | exact True.intro | (show _ = _; first | exact oY | (rfl; done) | exact rfl) | exact oW | (apply And.intro)))
theorem oth_s : SOK Tryd.prog 33 othS := by
  refine sok_of (C := mkC 0 [(52, bwS)] noG) (mkC_ok (pok_cons bwrite_s pok_nil) noG_ok) rfl mixed ⟨Tryd.func33, by kernel_rfl, by kernel_rfl, by kernel_rfl⟩ fun l obs v h ho => ?_
  (unfold othS at h; split at h; rotate_left; (focus (cases h)); rename_i s n w hh c p; simp only [Option.some.injEq, Prod.mk.injEq] at h; obtain ⟨rfl, rfl⟩ := h; simp only [List.mem_cons, List.not_mem_nil, or_false, forall_eq_or_imp, forall_eq, false_implies, implies_true] at ho)
  refine ⟨Nat.le_of_ble_eq_true rfl, ?_⟩
  (repeat' (first | (refine xI (fun hfk => ?_) (fun hfk => ?_) <;> ((try (first | replace hfk := oT hfk | replace hfk := oF hfk | simp only [oA, oB, dh1, dh0, ne_eq, reduceCtorEq] at hfk)); (try exact oX))) | (refine And.intro ?ob ?_; (case ob => (exact oZ))) | exact True.intro | (show _ = _; first | exact oY | (rfl; done) | exact rfl) | exact oW | (apply And.intro)))
theorem cwrite_s : SOK Tryd.prog 18 cwS := by
  refine sok_of (C := mkC 0 [(31, of17S), (22, checkS), (32, oldS), (33, othS)] noG) (mkC_ok (pok_cons of17_s (pok_cons check_s (pok_cons old_s (pok_cons oth_s pok_nil)))) noG_ok) rfl mixed ⟨Tryd.func18, by kernel_rfl, by kernel_rfl, by kernel_rfl⟩ fun l obs v h ho => ?_
  (unfold cwS at h; split at h; rotate_left; (focus (cases h)); rename_i k w hh c p; simp only [Option.some.injEq, Prod.mk.injEq] at h; obtain ⟨rfl, rfl⟩ := h; simp only [List.mem_cons, List.not_mem_nil, or_false, forall_eq_or_imp, forall_eq, false_implies, implies_true] at ho)
  refine ⟨Nat.le_of_ble_eq_true rfl, ?_⟩
  rcases cw_cs k w hh c p with ⟨a1, a2, a3⟩ | ⟨a1, a0, a2, a3⟩ | ⟨a1, a0, a4, a2, a3⟩ | ⟨a1, a0, a4, a5, a6, a2, a3⟩ | ⟨a1, a0, a4, a5, a6, a2, a3⟩
  all_goals (
    rw [a2, a3]
    clear a2 a3
    (repeat' (first | (refine xI (fun hfk => ?_) (fun hfk => ?_) <;> ((try (first | replace hfk := oT hfk | replace hfk := oF hfk | simp only [oA, oB, dh1, dh0, ne_eq, reduceCtorEq] at hfk)); (try exact oX))) | (refine And.intro ?ob ?_; (case ob => (exact oZ))) | exact True.intro | (show _ = _; first | exact oY | (rfl; done) | exact rfl) | exact oW | (apply And.intro))))
theorem rcwrite_s : SOK Tryd.prog 19 cwS := by
  refine sok_of (C := mkC 0 [(34, sI17 fun k => .int .i64 (fcV k)), (23, checkS), (9, pwS), (35, bwS)] noG) (mkC_ok (pok_cons rchan17_s (pok_cons rcheck7_s (pok_cons rpwrite_s (pok_cons rwrite16_s pok_nil)))) noG_ok) rfl mixed ⟨Tryd.func19, by kernel_rfl, by kernel_rfl, by kernel_rfl⟩ fun l obs v h ho => ?_
  (unfold cwS at h; split at h; rotate_left; (focus (cases h)); rename_i k w hh c p; simp only [Option.some.injEq, Prod.mk.injEq] at h; obtain ⟨rfl, rfl⟩ := h; simp only [List.mem_cons, List.not_mem_nil, or_false, forall_eq_or_imp, forall_eq, false_implies, implies_true] at ho)
  refine ⟨Nat.le_of_ble_eq_true rfl, ?_⟩
  rcases cw_cs k w hh c p with ⟨a1, a2, a3⟩ | ⟨a1, a0, a2, a3⟩ | ⟨a1, a0, a4, a2, a3⟩ | ⟨a1, a0, a4, a5, a6, a2, a3⟩ | ⟨a1, a0, a4, a5, a6, a2, a3⟩
  all_goals (
    rw [a2, a3]
    clear a2 a3
    (repeat' (first | (refine xI (fun hfk => ?_) (fun hfk => ?_) <;> ((try (first | replace hfk := oT hfk | replace hfk := oF hfk | simp only [oA, oB, dh1, dh0, ne_eq, reduceCtorEq] at hfk)); (try exact oX))) | (refine And.intro ?ob ?_; (case ob => (exact oZ))) | exact True.intro | (show _ = _; first | exact oY | (rfl; done) | exact rfl) | exact oW | (apply And.intro))))
attribute [local irreducible] cwE cwL crE crW crH crC crL crN sameM
theorem walk_CodecWrites' (k w h c : Int) (p : List Int) (hB : Bytes p) (W : World) (hgl : GL W NoO) {cl : List Value} (hcl : CRel noN W NoO [.int .i64 k, imA w h c p] cl) :
    Calls Tryd.prog 6 cl.toArray W fun e W' => e = .returned (.bool true) ∧ Below W.heap.size W W' := by
  refine law_of (C := mkC 0 [(7, fewS), (18, cwS), (19, cwS), (12, same14S), (21, crdS), (17, sameS), (20, sN (.bool true))] noG)
    (mkC_ok (pok_cons few_s (pok_cons cwrite_s (pok_cons rcwrite_s (pok_cons same14_s (pok_cons cread_s (pok_cons rsame_s (pok_cons alive17_s pok_nil))))))) noG_ok) rfl ⟨Tryd.func6, by kernel_rfl, by kernel_rfl, by kernel_rfl⟩ (by exact Nat.le_of_ble_eq_true rfl) ?_ hcl (hg := hgl)
  by_cases hl : 20000 < p.length
  · (repeat' (first | (refine xI (fun hfk => ?_) (fun hfk => ?_) <;> ((try (first | replace hfk := oT hfk | replace hfk := oF hfk | simp only [oA, oB, dh1, dh0, ne_eq, reduceCtorEq] at hfk)); (try exact oX))) | (refine And.intro ?ob ?_; (case ob => (exact oZ))) | exact True.intro | (show _ = _; first | exact oY | (rfl; done) | exact rfl) | exact oW | (apply And.intro)))
  have hp : p.length ≤ 20000 := by omega
  by_cases e : cwE k w h c p.length = 0
  · have o := cw_rd hp hB e
    have ob := o.byt
    have obb := byt_bytes o.byt
    have oe := o.e
    have on := o.n
    have hs : sameM w h c p (crW (cwL k w h c p)) (crH (cwL k w h c p)) (crC (cwL k w h c p)) (crL (cwL k w h c p)) = true := by
      rw [o.w_, o.h_, o.c_, o.l]; exact sameM_self _ _ _ _
    have hll : (crL (cwL k w h c p)).length ≤ 20000 := by rw [o.l]; exact hp
    clear o
    (repeat' (first | (refine xI (fun hfk => ?_) (fun hfk => ?_) <;> ((try (first | replace hfk := oT hfk | replace hfk := oF hfk | simp only [oA, oB, dh1, dh0, ne_eq, reduceCtorEq] at hfk)); (try exact oX))) | (refine And.intro ?ob ?_; (case ob => (exact oZ))) | exact True.intro | (show _ = _; first | exact oY | (first | exact ob | exact obb | exact hs | rfl; done) | exact rfl) | exact oW | (apply And.intro)))
  · have bb : Bytes (cwL k w h c p) := by
      rcases cw_cs k w h c p with ⟨a1, a2, a3⟩ | ⟨a1, a0, a2, a3⟩ | ⟨a1, a0, a4, a2, a3⟩ | ⟨a1, a0, a4, a5, a6, a2, a3⟩ | ⟨a1, a0, a4, a5, a6, a2, a3⟩
      · rw [a3]; exact fun x hx => by cases hx
      · rw [a3]; exact fun x hx => by cases hx
      · rw [a3]; exact fun x hx => by cases hx
      · exact absurd (a2.trans a6) e
      · exact absurd (a2.trans a6) e
    (repeat' (first | (refine xI (fun hfk => ?_) (fun hfk => ?_) <;> ((try (first | replace hfk := oT hfk | replace hfk := oF hfk | simp only [oA, oB, dh1, dh0, ne_eq, reduceCtorEq] at hfk)); (try exact oX))) | (refine And.intro ?ob ?_; (case ob => (exact oZ))) | exact True.intro | (show _ = _; first | exact oY | (first | exact bb | rfl; done) | exact rfl) | exact oW | (apply And.intro)))
end Go.Proofs.YtocboijpmmlegaaDoor

