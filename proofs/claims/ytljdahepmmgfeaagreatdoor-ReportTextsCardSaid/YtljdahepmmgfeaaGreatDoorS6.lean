/- Texts laid together. No condition. -/
import Derived.Test.YtljdahepmmgfeaaGreatDoorS5
set_option maxRecDepth 100000
set_option linter.unusedVariables false
set_option linter.unusedSimpArgs false
namespace Go.Proofs.YtljdahepmmgfeaaGreatDoor
open Go Go.RowKit
set_option maxHeartbeats 16000000
noncomputable def rpCx : Ctx := mkK 0 [(57, strideS), (52, leftS), (55, hformS), (56, hshapeS), (58, hsumsS), (59, hdownS)] (glook [(50, fG newcF), (54, fG takeHF), (53, fG takeF), (60, fG turnF)]) [2, 7, 10, 24, 25]
theorem rpCx_ok : COK Tryz.prog rpCx := mkK_ok (pok_cons stride_s (pok_cons left_s (pok_cons hform_s (pok_cons hshape_s (pok_cons hsums_s (pok_cons hdown_s pok_nil)))))) (gl_cons newc_g (gl_cons takeH_g (gl_cons take_g (gl_cons turn_g gl_nil))))
theorem tk_bad1 {b : List Int} (hb : Byt b) (h : tkC b ≠ 0) : vcFn rpCx Tryz.f32 [.roi .u8 b] ⟨0, []⟩ (Ret (.tup [imA (rdK b (hW b)) (rdK b (hrV (hH0 b))) (rdK b (hCn b)) (rdL b), .int .i64 (rdE b)])) := by
  have bl := hb.le
  have e1 : hdE b = tkC b := by rw [hd_take, if_pos h]
  have e : rdE b = tkC b := by unfold rdE; rw [e1, if_pos h]
  obtain ⟨z1, z2⟩ := rd_bad (b := b) (by rw [e]; exact h)
  rw [z1, z1, z1, z2, e]
  (repeat' (first | (refine xI (fun hfk => ?_) (fun hfk => ?_) <;> ((try (first | replace hfk := oT hfk | replace hfk := oF hfk | simp only [oD, ne_eq, reduceCtorEq] at hfk)); (try exact oX))) | refine And.intro oZ ?_ | exact True.intro | (show _ = _; first | exact oY | (exact hb; done) | exact rfl) | exact oW | (apply And.intro)))
  (refine ⟨[], ⟨by kernel_rfl⟩, ?_⟩)
  (repeat' (first | (refine xI (fun hfk => ?_) (fun hfk => ?_) <;> ((try (first | replace hfk := oT hfk | replace hfk := oF hfk | simp only [oD, ne_eq, reduceCtorEq] at hfk)); (try exact oX))) | refine And.intro oZ ?_ | exact True.intro | (show _ = _; first | exact oY | (exact hb; done) | exact rfl) | exact oW | (apply And.intro)))
  (refine ⟨[3, 1, 2], ⟨by kernel_rfl⟩, ?_⟩)
  (repeat' (first | (refine xI (fun hfk => ?_) (fun hfk => ?_) <;> ((try (first | replace hfk := oT hfk | replace hfk := oF hfk | simp only [oD, ne_eq, reduceCtorEq] at hfk)); (try exact oX))) | refine And.intro oZ ?_ | exact True.intro | (show _ = _; first | exact oY | (exact hb; done) | exact rfl) | exact oW | (apply And.intro)))
  refine ⟨[(0, .roi .u8 b), (2, .ptr 0 0), (4, .ptr 1 0), (5, .ptr 3 0), (6, .int .i64 (tkC b))], ⟨4, [(0, some (.cells 42 [.int .i64 0, .int .i64 0, .int .i64 0, .nils])), (1, some (.cells 120 [.sl 2 1 0 b.length, .int .i64 (tkA b)])), (2, some (bE b)), (3, some (.cells 89 [.int .u32 (if tkC b = 0 then lw b 2 4 else 0), .int .u32 (if tkC b = 0 then lw b 6 4 else 0), .int .u32 (if tkC b = 0 then lw b 10 4 else 0), .int .u32 (if tkC b = 0 then lw b 14 4 else 0), .int .u32 (if tkC b = 0 then lw b 18 4 else 0), .int .u32 (if tkC b = 0 then lw b 22 4 else 0), .int .u32 (if tkC b = 0 then lw b 26 2 else 0), .int .u32 (if tkC b = 0 then lw b 28 2 else 0), .int .u32 (if tkC b = 0 then lw b 30 4 else 0), .int .u32 (if tkC b = 0 then lw b 34 4 else 0), .int .u32 (if tkC b = 0 then lw b 38 4 else 0), .int .u32 (if tkC b = 0 then lw b 42 4 else 0), .int .u32 (if tkC b = 0 then lw b 46 4 else 0), .int .u32 (if tkC b = 0 then lw b 50 4 else 0)]))]⟩, [some 0, some 1, some 2, some 3], ?_, ?_⟩
  · (repeat' (first | (refine And.intro ?_ ?_) | exact True.intro | (show _ = _; with_reducible rfl) | exact Chk.mk (by kernel_rfl)))
    all_goals first | rfl
  (repeat' (first | (refine xI (fun hfk => ?_) (fun hfk => ?_) <;> ((try (first | replace hfk := oT hfk | replace hfk := oF hfk | simp only [oD, ne_eq, reduceCtorEq] at hfk)); (try exact oX))) | refine And.intro oZ ?_ | exact True.intro | (show _ = _; first | exact oY | exact rfl) | exact oW | (apply And.intro)))
theorem tk_bad2 {b : List Int} (hb : Byt b) (hk : tkC b = 0) (h : hdE b ≠ 0) : vcFn rpCx Tryz.f32 [.roi .u8 b] ⟨0, []⟩ (Ret (.tup [imA (rdK b (hW b)) (rdK b (hrV (hH0 b))) (rdK b (hCn b)) (rdL b), .int .i64 (rdE b)])) := by
  have bl := hb.le
  have hH : ∀ F : Int, (if tkC b = 0 then F else 0) = F := fun F => if_pos hk
  have hA : tkA b = 54 := by unfold tkC at hk; unfold tkA; split at hk; · rename_i k; exact absurd hk k
                             rename_i k; rw [if_neg k]; split at hk; · cases hk
                             rename_i k2; rw [if_neg k2]
  have hl54 : 54 ≤ b.length := by unfold tkC at hk; split at hk; · rename_i k; exact absurd hk k
                                  split at hk; · cases hk
                                  omega
  have e1 : hdE b = if fmP (lw b 6 4) (lw b 10 4) (lw b 14 4) (lw b 26 2) (lw b 28 2) (lw b 30 4) (lw b 46 4) (lw b 50 4) then 0 else 21 := by rw [hd_take, if_neg (fun k => k hk)]
  have hf : ¬ fmP (lw b 6 4) (lw b 10 4) (lw b 14 4) (lw b 26 2) (lw b 28 2) (lw b 30 4) (lw b 46 4) (lw b 50 4) := fun k => h (by rw [e1, if_pos k])
  have e : rdE b = 21 := by unfold rdE; rw [if_pos h, e1, if_neg hf]
  obtain ⟨z1, z2⟩ := rd_bad (b := b) (by rw [e]; decide)
  rw [z1, z1, z1, z2, e]
  (repeat' (first | (refine xI (fun hfk => ?_) (fun hfk => ?_) <;> ((try (first | replace hfk := oT hfk | replace hfk := oF hfk | simp only [oD, ne_eq, reduceCtorEq] at hfk)); (try exact oX))) | refine And.intro oZ ?_ | exact True.intro | (show _ = _; first | exact oY | (exact hb; done) | exact rfl) | exact oW | (apply And.intro)))
  (refine ⟨[], ⟨by kernel_rfl⟩, ?_⟩)
  (repeat' (first | (refine xI (fun hfk => ?_) (fun hfk => ?_) <;> ((try (first | replace hfk := oT hfk | replace hfk := oF hfk | simp only [oD, ne_eq, reduceCtorEq] at hfk)); (try exact oX))) | refine And.intro oZ ?_ | exact True.intro | (show _ = _; first | exact oY | (exact hb; done) | exact rfl) | exact oW | (apply And.intro)))
  (refine ⟨[3, 1, 2], ⟨by kernel_rfl⟩, ?_⟩)
  (repeat' (first | (refine xI (fun hfk => ?_) (fun hfk => ?_) <;> ((try (first | replace hfk := oT hfk | replace hfk := oF hfk | simp only [oD, ne_eq, reduceCtorEq] at hfk)); (try exact oX))) | refine And.intro oZ ?_ | exact True.intro | (show _ = _; first | exact oY | (exact hb; done) | exact rfl) | exact oW | (apply And.intro)))
  refine ⟨[(0, .roi .u8 b), (2, .ptr 0 0), (4, .ptr 1 0), (5, .ptr 3 0), (6, .int .i64 0)], ⟨4, [(0, some (.cells 42 [.int .i64 0, .int .i64 0, .int .i64 0, .nils])), (1, some (.cells 120 [.sl 2 1 0 b.length, .int .i64 54])), (2, some (bE b)), (3, some (.cells 89 [.int .u32 (lw b 2 4), .int .u32 (lw b 6 4), .int .u32 (lw b 10 4), .int .u32 (lw b 14 4), .int .u32 (lw b 18 4), .int .u32 (lw b 22 4), .int .u32 (lw b 26 2), .int .u32 (lw b 28 2), .int .u32 (lw b 30 4), .int .u32 (lw b 34 4), .int .u32 (lw b 38 4), .int .u32 (lw b 42 4), .int .u32 (lw b 46 4), .int .u32 (lw b 50 4)]))]⟩, [some 0, some 1, some 2, some 3], ?_, ?_⟩
  · (repeat' (first | (refine And.intro ?_ ?_) | exact True.intro | (show _ = _; with_reducible rfl) | exact Chk.mk (by kernel_rfl)))
    all_goals first | exact hk | exact hA | exact hH _ | rfl
  (repeat' (first | (refine xI (fun hfk => ?_) (fun hfk => ?_) <;> ((try (first | replace hfk := oT hfk | replace hfk := oF hfk | simp only [oD, ne_eq, reduceCtorEq] at hfk)); (try exact oX))) | refine And.intro oZ ?_ | exact True.intro | (show _ = _; first | exact oY | exact rfl) | exact oW | (apply And.intro)))
theorem tk_bad3 {b : List Int} (hb : Byt b) (hk : tkC b = 0) (h : hdE b = 0) (hs : shC (hW b) (hrV (hH0 b)) ≠ 0) : vcFn rpCx Tryz.f32 [.roi .u8 b] ⟨0, []⟩ (Ret (.tup [imA (rdK b (hW b)) (rdK b (hrV (hH0 b))) (rdK b (hCn b)) (rdL b), .int .i64 (rdE b)])) := by
  have bl := hb.le
  have hH : ∀ F : Int, (if tkC b = 0 then F else 0) = F := fun F => if_pos hk
  have hA : tkA b = 54 := by unfold tkC at hk; unfold tkA; split at hk; · rename_i k; exact absurd hk k
                             rename_i k; rw [if_neg k]; split at hk; · cases hk
                             rename_i k2; rw [if_neg k2]
  have hl54 : 54 ≤ b.length := by unfold tkC at hk; split at hk; · rename_i k; exact absurd hk k
                                  split at hk; · cases hk
                                  omega
  have hd := h
  obtain ⟨_, _, k6, k7, k8⟩ := hd_inv hd
  have hf : fmP (lw b 6 4) (lw b 10 4) (lw b 14 4) (lw b 26 2) (lw b 28 2) (lw b 30 4) (lw b 46 4) (lw b 50 4) := by
    obtain ⟨a1, a2, a3, a4, a5, a6, a7⟩ := k7
    exact ⟨a1, a5, a6, a7, a2, a3, a4, k8⟩
  have wb := lw_bd hb (a := 18) (n := 4) (by decide)
  have hb0 := lw_bd hb (a := 22) (n := 4) (by decide)
  obtain ⟨w0, w1⟩ := wb
  obtain ⟨h0, h1⟩ := hb0
  have e : rdE b = shC (hW b) (hrV (hH0 b)) := by unfold rdE; rw [if_neg (fun k => k h), if_pos hs]
  obtain ⟨z1, z2⟩ := rd_bad (b := b) (by rw [e]; exact hs)
  rw [z1, z1, z1, z2, e]
  have hs' : ¬ shC (lw b 18 4) (hrV (lw b 22 4)) = 0 := hs
  (repeat' (first | (refine xI (fun hfk => ?_) (fun hfk => ?_) <;> ((try (first | replace hfk := oT hfk | replace hfk := oF hfk | simp only [oD, ne_eq, reduceCtorEq] at hfk)); (try exact oX))) | refine And.intro oZ ?_ | exact True.intro | (show _ = _; first | exact oY | (exact hb; done) | exact rfl) | exact oW | (apply And.intro)))
  (refine ⟨[], ⟨by kernel_rfl⟩, ?_⟩)
  (repeat' (first | (refine xI (fun hfk => ?_) (fun hfk => ?_) <;> ((try (first | replace hfk := oT hfk | replace hfk := oF hfk | simp only [oD, ne_eq, reduceCtorEq] at hfk)); (try exact oX))) | refine And.intro oZ ?_ | exact True.intro | (show _ = _; first | exact oY | (exact hb; done) | exact rfl) | exact oW | (apply And.intro)))
  (refine ⟨[3, 1, 2], ⟨by kernel_rfl⟩, ?_⟩)
  (repeat' (first | (refine xI (fun hfk => ?_) (fun hfk => ?_) <;> ((try (first | replace hfk := oT hfk | replace hfk := oF hfk | simp only [oD, ne_eq, reduceCtorEq] at hfk)); (try exact oX))) | refine And.intro oZ ?_ | exact True.intro | (show _ = _; first | exact oY | (exact hb; done) | exact rfl) | exact oW | (apply And.intro)))
  refine ⟨[(0, .roi .u8 b), (2, .ptr 0 0), (4, .ptr 1 0), (5, .ptr 3 0), (6, .int .i64 0)], ⟨4, [(0, some (.cells 42 [.int .i64 0, .int .i64 0, .int .i64 0, .nils])), (1, some (.cells 120 [.sl 2 1 0 b.length, .int .i64 54])), (2, some (bE b)), (3, some (.cells 89 [.int .u32 (lw b 2 4), .int .u32 (lw b 6 4), .int .u32 (lw b 10 4), .int .u32 (lw b 14 4), .int .u32 (lw b 18 4), .int .u32 (lw b 22 4), .int .u32 (lw b 26 2), .int .u32 (lw b 28 2), .int .u32 (lw b 30 4), .int .u32 (lw b 34 4), .int .u32 (lw b 38 4), .int .u32 (lw b 42 4), .int .u32 (lw b 46 4), .int .u32 (lw b 50 4)]))]⟩, [some 0, some 1, some 2, some 3], ?_, ?_⟩
  · (repeat' (first | (refine And.intro ?_ ?_) | exact True.intro | (show _ = _; with_reducible rfl) | exact Chk.mk (by kernel_rfl)))
    all_goals first | exact hk | exact hA | exact hH _ | rfl
  (repeat' (first | (refine xI (fun hfk => ?_) (fun hfk => ?_) <;> ((try (first | replace hfk := oT hfk | replace hfk := oF hfk | simp only [oD, ne_eq, reduceCtorEq] at hfk)); (try exact oX))) | refine And.intro oZ ?_ | exact True.intro | (show _ = _; first | exact oY | exact rfl) | exact oW | (apply And.intro)))
  refine ⟨[(0, .roi .u8 b), (2, .ptr 0 0), (4, .ptr 1 0), (5, .ptr 3 0), (7, .ptr 4 0), (8, .int .i64 (shC (lw b 18 4) (hrV (lw b 22 4))))], ⟨5, [(0, some (.cells 42 [.int .i64 0, .int .i64 0, .int .i64 0, .nils])), (1, some (.cells 120 [.sl 2 1 0 b.length, .int .i64 54])), (2, some (bE b)), (3, some (.cells 89 [.int .u32 (lw b 2 4), .int .u32 (lw b 6 4), .int .u32 (lw b 10 4), .int .u32 (lw b 14 4), .int .u32 (lw b 18 4), .int .u32 (lw b 22 4), .int .u32 (lw b 26 2), .int .u32 (lw b 28 2), .int .u32 (lw b 30 4), .int .u32 (lw b 34 4), .int .u32 (lw b 38 4), .int .u32 (lw b 42 4), .int .u32 (lw b 46 4), .int .u32 (lw b 50 4)])), (4, some (.cells 42 [.int .i64 0, .int .i64 0, .int .i64 0, .nils]))]⟩, [some 0, some 1, some 2, some 3, some 4], ?_, ?_⟩
  · have i0 : ∀ x, shI (shC (lw b 18 4) (hrV (lw b 22 4))) x = 0 := fun x => if_neg hs
    (repeat' (first | (refine And.intro ?_ ?_) | exact True.intro | (show _ = _; with_reducible rfl) | exact Chk.mk (by kernel_rfl)))
    all_goals first | exact i0 _ | rfl
  (repeat' (first | (refine xI (fun hfk => ?_) (fun hfk => ?_) <;> ((try (first | replace hfk := oT hfk | replace hfk := oF hfk | simp only [oD, ne_eq, reduceCtorEq] at hfk)); (try exact oX))) | refine And.intro oZ ?_ | exact True.intro | (show _ = _; first | exact oY | exact rfl) | exact oW | (apply And.intro)))
theorem tk_bad4 {b : List Int} (hb : Byt b) (hk : tkC b = 0) (h : hdE b = 0) (hs : shC (hW b) (hrV (hH0 b)) = 0) (hn : rdE b ≠ 0) : vcFn rpCx Tryz.f32 [.roi .u8 b] ⟨0, []⟩ (Ret (.tup [imA (rdK b (hW b)) (rdK b (hrV (hH0 b))) (rdK b (hCn b)) (rdL b), .int .i64 (rdE b)])) := by
  have bl := hb.le
  have hH : ∀ F : Int, (if tkC b = 0 then F else 0) = F := fun F => if_pos hk
  have hA : tkA b = 54 := by unfold tkC at hk; unfold tkA; split at hk; · rename_i k; exact absurd hk k
                             rename_i k; rw [if_neg k]; split at hk; · cases hk
                             rename_i k2; rw [if_neg k2]
  have hl54 : 54 ≤ b.length := by unfold tkC at hk; split at hk; · rename_i k; exact absurd hk k
                                  split at hk; · cases hk
                                  omega
  have hd := h
  obtain ⟨_, _, k6, k7, k8⟩ := hd_inv hd
  have hf : fmP (lw b 6 4) (lw b 10 4) (lw b 14 4) (lw b 26 2) (lw b 28 2) (lw b 30 4) (lw b 46 4) (lw b 50 4) := by
    obtain ⟨a1, a2, a3, a4, a5, a6, a7⟩ := k7
    exact ⟨a1, a5, a6, a7, a2, a3, a4, k8⟩
  have wb := lw_bd hb (a := 18) (n := 4) (by decide)
  have hb0 := lw_bd hb (a := 22) (n := 4) (by decide)
  obtain ⟨w0, w1⟩ := wb
  obtain ⟨h0, h1⟩ := hb0
  have hrb := hr_bd h0 h1
  obtain ⟨hw1, hw2, hh1, hh2, hwh⟩ := sh_inv (w := hW b) (r := hrV (hH0 b)) w0 hrb.1 hs
  obtain ⟨W, gw⟩ : ∃ W : Nat, hW b = W := ⟨(hW b).toNat, by omega⟩
  obtain ⟨H, gh⟩ : ∃ H : Nat, hrV (hH0 b) = H := ⟨(hrV (hH0 b)).toNat, by omega⟩
  obtain ⟨c, gc, c34⟩ : ∃ c : Nat, hCn b = c ∧ (c = 3 ∨ c = 4) := by
    unfold hCn
    rcases k8 with k | k
    · exact ⟨3, by rw [k]; rfl, .inl rfl⟩
    · exact ⟨4, by rw [k]; rfl, .inr rfl⟩
  rw [gw] at hw1 hw2 hwh
  rw [gh] at hh1 hh2 hwh
  have cwh : ((W * H : Nat) : Int) = (W : Int) * (H : Int) := Int.natCast_mul _ _
  have cwc : ((W * c : Nat) : Int) = (W : Int) * (c : Int) := Int.natCast_mul _ _
  have wcb : 3 ≤ W * c ∧ W * c ≤ 131072 := by rcases c34 with k | k <;> subst k <;> omega
  obtain ⟨st, gst⟩ : ∃ st : Nat, up4 ((W : Int) * (c : Int)) = st := ⟨(up4 ((W : Int) * (c : Int))).toNat, by have := up4_bd ((W : Int) * (c : Int)); omega⟩
  have ub := up4_bd ((W : Int) * (c : Int))
  rw [gst, ← cwc] at ub
  obtain ⟨ub1, ub2, _⟩ := ub
  have sv : strV (W : Int) (c : Int) = (st : Int) := by
    unfold strV
    rw [if_neg (by omega)]; exact gst
  have chs : ((H * st : Nat) : Int) = (st : Int) * (H : Int) := by rw [Int.natCast_mul, Int.mul_comm]
  have hsb : H * st ≤ 32768 * 131075 := Nat.mul_le_mul (by omega) (by omega)
  have qn : rngI .i64 ((st : Int) * (H : Int)) := by rw [← chs]; exact rng64 (by omega) (by omega)
  have gN : hNn b = ((H * st : Nat) : Int) := by unfold hNn; rw [gw, gc, gst, gh, chs]
  have hs' : shC (lw b 18 4) (hrV (lw b 22 4)) = 0 := hs
  have i0 : ∀ x, shI (shC (lw b 18 4) (hrV (lw b 22 4))) x = x := fun x => if_pos hs
  have gw' : shI (shC (lw b 18 4) (hrV (lw b 22 4))) (lw b 18 4) = (W : Int) := by rw [i0]; exact gw
  have gh' : shI (shC (lw b 18 4) (hrV (lw b 22 4))) (hrV (lw b 22 4)) = (H : Int) := by rw [i0]; exact gh
  have gc' : shI (shC (lw b 18 4) (hrV (lw b 22 4))) (lw b 28 2 / 8) = (c : Int) := by rw [i0]; exact gc
  have e0 : rdE b = if (b.length : Int) - 54 < hNn b then 20 else if hNn b < (b.length : Int) - 54 then 22 else if lw b 2 4 = b.length ∧ (lw b 34 4 = 0 ∨ lw b 34 4 = hNn b) then 0 else 21 := by
    unfold rdE; rw [if_neg (fun k => k h), if_neg (fun k => k hs)]
  rw [gN] at e0
  have : (List.take (b).length (List.drop 0 (b))).length = (b).length := by simp
  obtain ⟨z1, z2⟩ := rd_bad hn
  rw [z1, z1, z1, z2]
  by_cases a1 : (b.length : Int) - 54 < ((H * st : Nat) : Int)
  · rw [e0, if_pos a1]
    rw [chs] at a1
    (repeat' (first | (refine xI (fun hfk => ?_) (fun hfk => ?_) <;> ((try (first | replace hfk := oT hfk | replace hfk := oF hfk | simp only [oD, ne_eq, reduceCtorEq] at hfk)); (try exact oX))) | refine And.intro oZ ?_ | exact True.intro | (show _ = _; first | exact oY | (exact hb; done) | exact rfl) | exact oW | (apply And.intro)))
    (refine ⟨[], ⟨by kernel_rfl⟩, ?_⟩)
    (repeat' (first | (refine xI (fun hfk => ?_) (fun hfk => ?_) <;> ((try (first | replace hfk := oT hfk | replace hfk := oF hfk | simp only [oD, ne_eq, reduceCtorEq] at hfk)); (try exact oX))) | refine And.intro oZ ?_ | exact True.intro | (show _ = _; first | exact oY | (exact hb; done) | exact rfl) | exact oW | (apply And.intro)))
    (refine ⟨[3, 1, 2], ⟨by kernel_rfl⟩, ?_⟩)
    (repeat' (first | (refine xI (fun hfk => ?_) (fun hfk => ?_) <;> ((try (first | replace hfk := oT hfk | replace hfk := oF hfk | simp only [oD, ne_eq, reduceCtorEq] at hfk)); (try exact oX))) | refine And.intro oZ ?_ | exact True.intro | (show _ = _; first | exact oY | (exact hb; done) | exact rfl) | exact oW | (apply And.intro)))
    refine ⟨[(0, .roi .u8 b), (2, .ptr 0 0), (4, .ptr 1 0), (5, .ptr 3 0), (6, .int .i64 0)], ⟨4, [(0, some (.cells 42 [.int .i64 0, .int .i64 0, .int .i64 0, .nils])), (1, some (.cells 120 [.sl 2 1 0 b.length, .int .i64 54])), (2, some (bE b)), (3, some (.cells 89 [.int .u32 (lw b 2 4), .int .u32 (lw b 6 4), .int .u32 (lw b 10 4), .int .u32 (lw b 14 4), .int .u32 (lw b 18 4), .int .u32 (lw b 22 4), .int .u32 (lw b 26 2), .int .u32 (lw b 28 2), .int .u32 (lw b 30 4), .int .u32 (lw b 34 4), .int .u32 (lw b 38 4), .int .u32 (lw b 42 4), .int .u32 (lw b 46 4), .int .u32 (lw b 50 4)]))]⟩, [some 0, some 1, some 2, some 3], ?_, ?_⟩
    · (repeat' (first | (refine And.intro ?_ ?_) | exact True.intro | (show _ = _; with_reducible rfl) | exact Chk.mk (by kernel_rfl)))
      all_goals first | exact hk | exact hA | exact hH _ | rfl
    (repeat' (first | (refine xI (fun hfk => ?_) (fun hfk => ?_) <;> ((try (first | replace hfk := oT hfk | replace hfk := oF hfk | simp only [oD, ne_eq, reduceCtorEq] at hfk)); (try exact oX))) | refine And.intro oZ ?_ | exact True.intro | (show _ = _; first | exact oY | exact rfl) | exact oW | (apply And.intro)))
    refine ⟨[(0, .roi .u8 b), (2, .ptr 0 0), (4, .ptr 1 0), (5, .ptr 3 0), (7, .ptr 4 0), (8, .int .i64 0)], ⟨5, [(0, some (.cells 42 [.int .i64 0, .int .i64 0, .int .i64 0, .nils])), (1, some (.cells 120 [.sl 2 1 0 b.length, .int .i64 54])), (2, some (bE b)), (3, some (.cells 89 [.int .u32 (lw b 2 4), .int .u32 (lw b 6 4), .int .u32 (lw b 10 4), .int .u32 (lw b 14 4), .int .u32 (lw b 18 4), .int .u32 (lw b 22 4), .int .u32 (lw b 26 2), .int .u32 (lw b 28 2), .int .u32 (lw b 30 4), .int .u32 (lw b 34 4), .int .u32 (lw b 38 4), .int .u32 (lw b 42 4), .int .u32 (lw b 46 4), .int .u32 (lw b 50 4)])), (4, some (.cells 42 [.int .i64 (W : Int), .int .i64 (H : Int), .int .i64 (c : Int), .nils]))]⟩, [some 0, some 1, some 2, some 3, some 4], ?_, ?_⟩
    · (repeat' (first | (refine And.intro ?_ ?_) | exact True.intro | (show _ = _; with_reducible rfl) | exact Chk.mk (by kernel_rfl)))
      all_goals first | exact hs' | exact gw' | exact gh' | exact gc' | rfl
    (repeat' (first | (refine xI (fun hfk => ?_) (fun hfk => ?_) <;> ((try (first | replace hfk := oT hfk | replace hfk := oF hfk | simp only [oD, ne_eq, reduceCtorEq] at hfk)); (try exact oX))) | refine And.intro oZ ?_ | exact True.intro | (show _ = _; first | exact oY | exact rfl) | exact oW | (apply And.intro)))
    refine ⟨[(0, .roi .u8 b), (2, .ptr 0 0), (4, .ptr 1 0), (5, .ptr 3 0), (7, .ptr 4 0), (9, .int .i64 (st : Int))], ⟨5, [(0, some (.cells 42 [.int .i64 0, .int .i64 0, .int .i64 0, .nils])), (1, some (.cells 120 [.sl 2 1 0 b.length, .int .i64 54])), (2, some (bE b)), (3, some (.cells 89 [.int .u32 (lw b 2 4), .int .u32 (lw b 6 4), .int .u32 (lw b 10 4), .int .u32 (lw b 14 4), .int .u32 (lw b 18 4), .int .u32 (lw b 22 4), .int .u32 (lw b 26 2), .int .u32 (lw b 28 2), .int .u32 (lw b 30 4), .int .u32 (lw b 34 4), .int .u32 (lw b 38 4), .int .u32 (lw b 42 4), .int .u32 (lw b 46 4), .int .u32 (lw b 50 4)])), (4, some (.cells 42 [.int .i64 (W : Int), .int .i64 (H : Int), .int .i64 (c : Int), .nils]))]⟩, [some 0, some 1, some 2, some 3, some 4], ?_, ?_⟩
    · (repeat' (first | (refine And.intro ?_ ?_) | exact True.intro | (show _ = _; with_reducible rfl) | exact Chk.mk (by kernel_rfl)))
      all_goals first | exact sv | rfl
    (repeat' (first | (refine xI (fun hfk => ?_) (fun hfk => ?_) <;> ((try (first | replace hfk := oT hfk | replace hfk := oF hfk | simp only [oD, ne_eq, reduceCtorEq] at hfk)); (try exact oX))) | refine And.intro oZ ?_ | exact True.intro | (show _ = _; first | exact oY | exact rfl) | exact oW | (apply And.intro)))
  rw [if_neg a1] at e0
  by_cases a2 : ((H * st : Nat) : Int) < (b.length : Int) - 54
  · rw [e0, if_pos a2]
    rw [chs] at a1 a2
    (repeat' (first | (refine xI (fun hfk => ?_) (fun hfk => ?_) <;> ((try (first | replace hfk := oT hfk | replace hfk := oF hfk | simp only [oD, ne_eq, reduceCtorEq] at hfk)); (try exact oX))) | refine And.intro oZ ?_ | exact True.intro | (show _ = _; first | exact oY | (exact hb; done) | exact rfl) | exact oW | (apply And.intro)))
    (refine ⟨[], ⟨by kernel_rfl⟩, ?_⟩)
    (repeat' (first | (refine xI (fun hfk => ?_) (fun hfk => ?_) <;> ((try (first | replace hfk := oT hfk | replace hfk := oF hfk | simp only [oD, ne_eq, reduceCtorEq] at hfk)); (try exact oX))) | refine And.intro oZ ?_ | exact True.intro | (show _ = _; first | exact oY | (exact hb; done) | exact rfl) | exact oW | (apply And.intro)))
    (refine ⟨[3, 1, 2], ⟨by kernel_rfl⟩, ?_⟩)
    (repeat' (first | (refine xI (fun hfk => ?_) (fun hfk => ?_) <;> ((try (first | replace hfk := oT hfk | replace hfk := oF hfk | simp only [oD, ne_eq, reduceCtorEq] at hfk)); (try exact oX))) | refine And.intro oZ ?_ | exact True.intro | (show _ = _; first | exact oY | (exact hb; done) | exact rfl) | exact oW | (apply And.intro)))
    refine ⟨[(0, .roi .u8 b), (2, .ptr 0 0), (4, .ptr 1 0), (5, .ptr 3 0), (6, .int .i64 0)], ⟨4, [(0, some (.cells 42 [.int .i64 0, .int .i64 0, .int .i64 0, .nils])), (1, some (.cells 120 [.sl 2 1 0 b.length, .int .i64 54])), (2, some (bE b)), (3, some (.cells 89 [.int .u32 (lw b 2 4), .int .u32 (lw b 6 4), .int .u32 (lw b 10 4), .int .u32 (lw b 14 4), .int .u32 (lw b 18 4), .int .u32 (lw b 22 4), .int .u32 (lw b 26 2), .int .u32 (lw b 28 2), .int .u32 (lw b 30 4), .int .u32 (lw b 34 4), .int .u32 (lw b 38 4), .int .u32 (lw b 42 4), .int .u32 (lw b 46 4), .int .u32 (lw b 50 4)]))]⟩, [some 0, some 1, some 2, some 3], ?_, ?_⟩
    · (repeat' (first | (refine And.intro ?_ ?_) | exact True.intro | (show _ = _; with_reducible rfl) | exact Chk.mk (by kernel_rfl)))
      all_goals first | exact hk | exact hA | exact hH _ | rfl
    (repeat' (first | (refine xI (fun hfk => ?_) (fun hfk => ?_) <;> ((try (first | replace hfk := oT hfk | replace hfk := oF hfk | simp only [oD, ne_eq, reduceCtorEq] at hfk)); (try exact oX))) | refine And.intro oZ ?_ | exact True.intro | (show _ = _; first | exact oY | exact rfl) | exact oW | (apply And.intro)))
    refine ⟨[(0, .roi .u8 b), (2, .ptr 0 0), (4, .ptr 1 0), (5, .ptr 3 0), (7, .ptr 4 0), (8, .int .i64 0)], ⟨5, [(0, some (.cells 42 [.int .i64 0, .int .i64 0, .int .i64 0, .nils])), (1, some (.cells 120 [.sl 2 1 0 b.length, .int .i64 54])), (2, some (bE b)), (3, some (.cells 89 [.int .u32 (lw b 2 4), .int .u32 (lw b 6 4), .int .u32 (lw b 10 4), .int .u32 (lw b 14 4), .int .u32 (lw b 18 4), .int .u32 (lw b 22 4), .int .u32 (lw b 26 2), .int .u32 (lw b 28 2), .int .u32 (lw b 30 4), .int .u32 (lw b 34 4), .int .u32 (lw b 38 4), .int .u32 (lw b 42 4), .int .u32 (lw b 46 4), .int .u32 (lw b 50 4)])), (4, some (.cells 42 [.int .i64 (W : Int), .int .i64 (H : Int), .int .i64 (c : Int), .nils]))]⟩, [some 0, some 1, some 2, some 3, some 4], ?_, ?_⟩
    · (repeat' (first | (refine And.intro ?_ ?_) | exact True.intro | (show _ = _; with_reducible rfl) | exact Chk.mk (by kernel_rfl)))
      all_goals first | exact hs' | exact gw' | exact gh' | exact gc' | rfl
    (repeat' (first | (refine xI (fun hfk => ?_) (fun hfk => ?_) <;> ((try (first | replace hfk := oT hfk | replace hfk := oF hfk | simp only [oD, ne_eq, reduceCtorEq] at hfk)); (try exact oX))) | refine And.intro oZ ?_ | exact True.intro | (show _ = _; first | exact oY | exact rfl) | exact oW | (apply And.intro)))
    refine ⟨[(0, .roi .u8 b), (2, .ptr 0 0), (4, .ptr 1 0), (5, .ptr 3 0), (7, .ptr 4 0), (9, .int .i64 (st : Int))], ⟨5, [(0, some (.cells 42 [.int .i64 0, .int .i64 0, .int .i64 0, .nils])), (1, some (.cells 120 [.sl 2 1 0 b.length, .int .i64 54])), (2, some (bE b)), (3, some (.cells 89 [.int .u32 (lw b 2 4), .int .u32 (lw b 6 4), .int .u32 (lw b 10 4), .int .u32 (lw b 14 4), .int .u32 (lw b 18 4), .int .u32 (lw b 22 4), .int .u32 (lw b 26 2), .int .u32 (lw b 28 2), .int .u32 (lw b 30 4), .int .u32 (lw b 34 4), .int .u32 (lw b 38 4), .int .u32 (lw b 42 4), .int .u32 (lw b 46 4), .int .u32 (lw b 50 4)])), (4, some (.cells 42 [.int .i64 (W : Int), .int .i64 (H : Int), .int .i64 (c : Int), .nils]))]⟩, [some 0, some 1, some 2, some 3, some 4], ?_, ?_⟩
    · (repeat' (first | (refine And.intro ?_ ?_) | exact True.intro | (show _ = _; with_reducible rfl) | exact Chk.mk (by kernel_rfl)))
      all_goals first | exact sv | rfl
    (repeat' (first | (refine xI (fun hfk => ?_) (fun hfk => ?_) <;> ((try (first | replace hfk := oT hfk | replace hfk := oF hfk | simp only [oD, ne_eq, reduceCtorEq] at hfk)); (try exact oX))) | refine And.intro oZ ?_ | exact True.intro | (show _ = _; first | exact oY | exact rfl) | exact oW | (apply And.intro)))
  rw [if_neg a2] at e0
  have a3 : ¬ (lw b 2 4 = b.length ∧ (lw b 34 4 = 0 ∨ lw b 34 4 = ((H * st : Nat) : Int))) := fun k => hn (by rw [e0, if_pos k])
  rw [e0, if_neg a3]
  have a4 : decide (lw b 2 4 = (b.length : Int) ∧ (lw b 34 4 = 0 ∨ lw b 34 4 = (b.length : Int) - 54)) = false := decide_eq_false fun k => a3 ⟨k.1, k.2.imp id fun k => by omega⟩
  rw [chs] at a1 a2
  (repeat' (first | (refine xI (fun hfk => ?_) (fun hfk => ?_) <;> ((try (first | replace hfk := oT hfk | replace hfk := oF hfk | simp only [oD, ne_eq, reduceCtorEq] at hfk)); (try exact oX))) | refine And.intro oZ ?_ | exact True.intro | (show _ = _; first | exact oY | (exact hb; done) | exact rfl) | exact oW | (apply And.intro)))
  (refine ⟨[], ⟨by kernel_rfl⟩, ?_⟩)
  (repeat' (first | (refine xI (fun hfk => ?_) (fun hfk => ?_) <;> ((try (first | replace hfk := oT hfk | replace hfk := oF hfk | simp only [oD, ne_eq, reduceCtorEq] at hfk)); (try exact oX))) | refine And.intro oZ ?_ | exact True.intro | (show _ = _; first | exact oY | (exact hb; done) | exact rfl) | exact oW | (apply And.intro)))
  (refine ⟨[3, 1, 2], ⟨by kernel_rfl⟩, ?_⟩)
  (repeat' (first | (refine xI (fun hfk => ?_) (fun hfk => ?_) <;> ((try (first | replace hfk := oT hfk | replace hfk := oF hfk | simp only [oD, ne_eq, reduceCtorEq] at hfk)); (try exact oX))) | refine And.intro oZ ?_ | exact True.intro | (show _ = _; first | exact oY | (exact hb; done) | exact rfl) | exact oW | (apply And.intro)))
  refine ⟨[(0, .roi .u8 b), (2, .ptr 0 0), (4, .ptr 1 0), (5, .ptr 3 0), (6, .int .i64 0)], ⟨4, [(0, some (.cells 42 [.int .i64 0, .int .i64 0, .int .i64 0, .nils])), (1, some (.cells 120 [.sl 2 1 0 b.length, .int .i64 54])), (2, some (bE b)), (3, some (.cells 89 [.int .u32 (lw b 2 4), .int .u32 (lw b 6 4), .int .u32 (lw b 10 4), .int .u32 (lw b 14 4), .int .u32 (lw b 18 4), .int .u32 (lw b 22 4), .int .u32 (lw b 26 2), .int .u32 (lw b 28 2), .int .u32 (lw b 30 4), .int .u32 (lw b 34 4), .int .u32 (lw b 38 4), .int .u32 (lw b 42 4), .int .u32 (lw b 46 4), .int .u32 (lw b 50 4)]))]⟩, [some 0, some 1, some 2, some 3], ?_, ?_⟩
  · (repeat' (first | (refine And.intro ?_ ?_) | exact True.intro | (show _ = _; with_reducible rfl) | exact Chk.mk (by kernel_rfl)))
    all_goals first | exact hk | exact hA | exact hH _ | rfl
  (repeat' (first | (refine xI (fun hfk => ?_) (fun hfk => ?_) <;> ((try (first | replace hfk := oT hfk | replace hfk := oF hfk | simp only [oD, ne_eq, reduceCtorEq] at hfk)); (try exact oX))) | refine And.intro oZ ?_ | exact True.intro | (show _ = _; first | exact oY | exact rfl) | exact oW | (apply And.intro)))
  refine ⟨[(0, .roi .u8 b), (2, .ptr 0 0), (4, .ptr 1 0), (5, .ptr 3 0), (7, .ptr 4 0), (8, .int .i64 0)], ⟨5, [(0, some (.cells 42 [.int .i64 0, .int .i64 0, .int .i64 0, .nils])), (1, some (.cells 120 [.sl 2 1 0 b.length, .int .i64 54])), (2, some (bE b)), (3, some (.cells 89 [.int .u32 (lw b 2 4), .int .u32 (lw b 6 4), .int .u32 (lw b 10 4), .int .u32 (lw b 14 4), .int .u32 (lw b 18 4), .int .u32 (lw b 22 4), .int .u32 (lw b 26 2), .int .u32 (lw b 28 2), .int .u32 (lw b 30 4), .int .u32 (lw b 34 4), .int .u32 (lw b 38 4), .int .u32 (lw b 42 4), .int .u32 (lw b 46 4), .int .u32 (lw b 50 4)])), (4, some (.cells 42 [.int .i64 (W : Int), .int .i64 (H : Int), .int .i64 (c : Int), .nils]))]⟩, [some 0, some 1, some 2, some 3, some 4], ?_, ?_⟩
  · (repeat' (first | (refine And.intro ?_ ?_) | exact True.intro | (show _ = _; with_reducible rfl) | exact Chk.mk (by kernel_rfl)))
    all_goals first | exact hs' | exact gw' | exact gh' | exact gc' | rfl
  (repeat' (first | (refine xI (fun hfk => ?_) (fun hfk => ?_) <;> ((try (first | replace hfk := oT hfk | replace hfk := oF hfk | simp only [oD, ne_eq, reduceCtorEq] at hfk)); (try exact oX))) | refine And.intro oZ ?_ | exact True.intro | (show _ = _; first | exact oY | exact rfl) | exact oW | (apply And.intro)))
  refine ⟨[(0, .roi .u8 b), (2, .ptr 0 0), (4, .ptr 1 0), (5, .ptr 3 0), (7, .ptr 4 0), (9, .int .i64 (st : Int))], ⟨5, [(0, some (.cells 42 [.int .i64 0, .int .i64 0, .int .i64 0, .nils])), (1, some (.cells 120 [.sl 2 1 0 b.length, .int .i64 54])), (2, some (bE b)), (3, some (.cells 89 [.int .u32 (lw b 2 4), .int .u32 (lw b 6 4), .int .u32 (lw b 10 4), .int .u32 (lw b 14 4), .int .u32 (lw b 18 4), .int .u32 (lw b 22 4), .int .u32 (lw b 26 2), .int .u32 (lw b 28 2), .int .u32 (lw b 30 4), .int .u32 (lw b 34 4), .int .u32 (lw b 38 4), .int .u32 (lw b 42 4), .int .u32 (lw b 46 4), .int .u32 (lw b 50 4)])), (4, some (.cells 42 [.int .i64 (W : Int), .int .i64 (H : Int), .int .i64 (c : Int), .nils]))]⟩, [some 0, some 1, some 2, some 3, some 4], ?_, ?_⟩
  · (repeat' (first | (refine And.intro ?_ ?_) | exact True.intro | (show _ = _; with_reducible rfl) | exact Chk.mk (by kernel_rfl)))
    all_goals first | exact sv | rfl
  (repeat' (first | (refine xI (fun hfk => ?_) (fun hfk => ?_) <;> ((try (first | replace hfk := oT hfk | replace hfk := oF hfk | simp only [oD, ne_eq, reduceCtorEq] at hfk)); (try exact oX))) | refine And.intro oZ ?_ | exact True.intro | (show _ = _; first | exact oY | exact rfl) | exact oW | (apply And.intro)))
def fil (dn : Bool) (H y r : Nat) : Bool := if dn = true then decide (r < y) else decide (H ≤ r + y)
theorem fil_next {dn : Bool} {H y r : Nat} (hy : y < H) (hr : r < H) : fil dn H (y + 1) r = (decide (r = fr dn H y) || fil dn H y r) := by
  unfold fil fr
  cases dn
  · simp only [Bool.false_eq_true, if_false]
    by_cases h1 : H ≤ r + y
    · rw [decide_eq_true h1, decide_eq_true (by omega)]; simp
    · by_cases h2 : r = H - 1 - y
      · rw [decide_eq_true h2, decide_eq_true (by omega)]; rfl
      · rw [decide_eq_false h2, decide_eq_false h1, decide_eq_false (by omega)]; rfl
  · simp only [if_true]
    by_cases h1 : r < y
    · rw [decide_eq_true h1, decide_eq_true (by omega)]; simp
    · by_cases h2 : r = y
      · rw [decide_eq_true h2, decide_eq_true (by omega)]; rfl
      · rw [decide_eq_false h2, decide_eq_false h1, decide_eq_false (by omega)]; rfl
def pxk (dn : Bool) (H wc : Nat) (R : Nat → List Int) (y r : Nat) : List Int := if fil dn H y r = true then R r else List.replicate wc 0
theorem fr_fr {dn : Bool} {H y : Nat} (h : y < H) : fr dn H (fr dn H y) = y := by unfold fr; split <;> omega
theorem tk_good {b : List Int} (hb : Byt b) (e : rdE b = 0) : vcFn rpCx Tryz.f32 [.roi .u8 b] ⟨0, []⟩ (Ret (.tup [imA (rdK b (hW b)) (rdK b (hrV (hH0 b))) (rdK b (hCn b)) (rdL b), .int .i64 (rdE b)])) := by
  have hg0 := gd_of hb e
  have h : hdE b = 0 := hg0.hd
  have hk : tkC b = 0 := by
    have := h
    rw [hd_take] at this
    split at this
    · rename_i k; exact absurd this k
    · rename_i k; exact Classical.not_not.1 k
  have hs : shC (hW b) (hrV (hH0 b)) = 0 := by
    have := e
    unfold rdE at this
    rw [if_neg (fun k => k h)] at this
    split at this
    · rename_i k; exact absurd this k
    · rename_i k; exact Classical.not_not.1 k
  have bl := hb.le
  have hH : ∀ F : Int, (if tkC b = 0 then F else 0) = F := fun F => if_pos hk
  have hA : tkA b = 54 := by unfold tkC at hk; unfold tkA; split at hk; · rename_i k; exact absurd hk k
                             rename_i k; rw [if_neg k]; split at hk; · cases hk
                             rename_i k2; rw [if_neg k2]
  have hl54 : 54 ≤ b.length := by unfold tkC at hk; split at hk; · rename_i k; exact absurd hk k
                                  split at hk; · cases hk
                                  omega
  have hd := h
  obtain ⟨_, _, k6, k7, k8⟩ := hd_inv hd
  have hf : fmP (lw b 6 4) (lw b 10 4) (lw b 14 4) (lw b 26 2) (lw b 28 2) (lw b 30 4) (lw b 46 4) (lw b 50 4) := by
    obtain ⟨a1, a2, a3, a4, a5, a6, a7⟩ := k7
    exact ⟨a1, a5, a6, a7, a2, a3, a4, k8⟩
  have wb := lw_bd hb (a := 18) (n := 4) (by decide)
  have hb0 := lw_bd hb (a := 22) (n := 4) (by decide)
  obtain ⟨w0, w1⟩ := wb
  obtain ⟨h0, h1⟩ := hb0
  have hrb := hr_bd h0 h1
  obtain ⟨hw1, hw2, hh1, hh2, hwh⟩ := sh_inv (w := hW b) (r := hrV (hH0 b)) w0 hrb.1 hs
  obtain ⟨W, gw⟩ : ∃ W : Nat, hW b = W := ⟨(hW b).toNat, by omega⟩
  obtain ⟨H, gh⟩ : ∃ H : Nat, hrV (hH0 b) = H := ⟨(hrV (hH0 b)).toNat, by omega⟩
  obtain ⟨c, gc, c34⟩ : ∃ c : Nat, hCn b = c ∧ (c = 3 ∨ c = 4) := by
    unfold hCn
    rcases k8 with k | k
    · exact ⟨3, by rw [k]; rfl, .inl rfl⟩
    · exact ⟨4, by rw [k]; rfl, .inr rfl⟩
  rw [gw] at hw1 hw2 hwh
  rw [gh] at hh1 hh2 hwh
  have cwh : ((W * H : Nat) : Int) = (W : Int) * (H : Int) := Int.natCast_mul _ _
  have cwc : ((W * c : Nat) : Int) = (W : Int) * (c : Int) := Int.natCast_mul _ _
  have wcb : 3 ≤ W * c ∧ W * c ≤ 131072 := by rcases c34 with k | k <;> subst k <;> omega
  obtain ⟨st, gst⟩ : ∃ st : Nat, up4 ((W : Int) * (c : Int)) = st := ⟨(up4 ((W : Int) * (c : Int))).toNat, by have := up4_bd ((W : Int) * (c : Int)); omega⟩
  have ub := up4_bd ((W : Int) * (c : Int))
  rw [gst, ← cwc] at ub
  obtain ⟨ub1, ub2, _⟩ := ub
  have sv : strV (W : Int) (c : Int) = (st : Int) := by
    unfold strV
    rw [if_neg (by omega)]; exact gst
  have chs : ((H * st : Nat) : Int) = (st : Int) * (H : Int) := by rw [Int.natCast_mul, Int.mul_comm]
  have hsb : H * st ≤ 32768 * 131075 := Nat.mul_le_mul (by omega) (by omega)
  have qn : rngI .i64 ((st : Int) * (H : Int)) := by rw [← chs]; exact rng64 (by omega) (by omega)
  have gN : hNn b = ((H * st : Nat) : Int) := by unfold hNn; rw [gw, gc, gst, gh, chs]
  have hs' : shC (lw b 18 4) (hrV (lw b 22 4)) = 0 := hs
  have i0 : ∀ x, shI (shC (lw b 18 4) (hrV (lw b 22 4))) x = x := fun x => if_pos hs
  have gw' : shI (shC (lw b 18 4) (hrV (lw b 22 4))) (lw b 18 4) = (W : Int) := by rw [i0]; exact gw
  have gh' : shI (shC (lw b 18 4) (hrV (lw b 22 4))) (hrV (lw b 22 4)) = (H : Int) := by rw [i0]; exact gh
  have gc' : shI (shC (lw b 18 4) (hrV (lw b 22 4))) (lw b 28 2 / 8) = (c : Int) := by rw [i0]; exact gc
  have e0 : rdE b = if (b.length : Int) - 54 < hNn b then 20 else if hNn b < (b.length : Int) - 54 then 22 else if lw b 2 4 = b.length ∧ (lw b 34 4 = 0 ∨ lw b 34 4 = hNn b) then 0 else 21 := by
    unfold rdE; rw [if_neg (fun k => k h), if_neg (fun k => k hs)]
  rw [gN] at e0
  have : (List.take (b).length (List.drop 0 (b))).length = (b).length := by simp
  obtain ⟨dn, hdn⟩ : ∃ dn, decide (2147483648 ≤ hH0 b) = dn := ⟨_, rfl⟩
  have hdn' : decide (2147483648 ≤ lw b 22 4) = dn := hdn
  have tW : (hW b).toNat = W := by omega
  have tH : (hrV (hH0 b)).toNat = H := by omega
  have tc : (hCn b).toNat = c := by omega
  have ts : (up4 (hW b * hCn b)).toNat = st := by rw [gw, gc, gst]; omega
  have hL0 : rdL b = rdPx b c W H st dn := by unfold rdL; rw [if_pos e, tW, tH, tc, ts, hdn]
  rw [tW, tH, tc, ts, hdn] at hg0
  have hg := hg0
  have kk : ∀ x, rdK b x = x := fun x => if_pos e
  rw [kk, kk, kk, hL0, e]
  have glen := hg.len
  have a1 : ¬ (b.length : Int) - 54 < (st : Int) * (H : Int) := by rw [← chs]; omega
  have a2 : ¬ (st : Int) * (H : Int) < (b.length : Int) - 54 := by rw [← chs]; omega
  have a4 : decide (lw b 2 4 = (b.length : Int) ∧ (lw b 34 4 = 0 ∨ lw b 34 4 = (b.length : Int) - 54)) = true := decide_eq_true ⟨hg.s1, hg.s2.imp id fun k => by omega⟩
  obtain ⟨R, hR⟩ : ∃ R : Nat → List Int, R = fun r => swapTo (fRow b st (W * c) (fr dn H r)) 0 c W := ⟨_, rfl⟩
  have hwc : H * (W * c) ≤ 16777216 := by
    have k1 := hg.wh
    have k2 : H * (W * c) = (W * H) * c := by rw [← Nat.mul_assoc, Nat.mul_comm H W]
    have k3 : (W * H) * c ≤ 4194304 * 4 := Nat.mul_le_mul k1 (by omega)
    omega
  have chc : (W : Int) * (H : Int) * (c : Int) = ((H * (W * c) : Nat) : Int) := by rw [← cwh, ← Int.natCast_mul, Nat.mul_comm W H, Nat.mul_assoc]
  have qwh : rngI .i64 ((W : Int) * (H : Int)) := by rw [← cwh]; exact rng64 (by omega) (by omega)
  have qwc : rngI .i64 ((W : Int) * (H : Int) * (c : Int)) := by rw [chc]; exact rng64 (by omega) (by omega)
  have om : 0 ≤ (W : Int) * (H : Int) * (c : Int) ∧ (W : Int) * (H : Int) * (c : Int) ≤ (W : Int) * (H : Int) * (c : Int) ∧ (W : Int) * (H : Int) * (c : Int) ≤ 140737488355328 ∧ (W : Int) * (H : Int) * (c : Int) * ((1 : Nat) : Int) ≤ 140737488355328 := by rw [chc]; omega
  have hRl : ∀ r, r < H → (R r).length = W * c := fun r hr => by
    have hf : fr dn H r < H := fr_lt hr
    have := prod_of (n := st) hf
    rw [hR]
    show (swapTo _ 0 c W).length = _
    rw [swapTo_len]; exact fRow_len (by rw [glen]; omega)
  (repeat' (first | (refine xI (fun hfk => ?_) (fun hfk => ?_) <;> ((try (first | replace hfk := oT hfk | replace hfk := oF hfk | simp only [oD, ne_eq, reduceCtorEq] at hfk)); (try exact oX))) | refine And.intro oZ ?_ | exact True.intro | (show _ = _; first | exact oY | (exact hb; done) | exact rfl) | exact oW | (apply And.intro)))
  (refine ⟨[], ⟨by kernel_rfl⟩, ?_⟩)
  (repeat' (first | (refine xI (fun hfk => ?_) (fun hfk => ?_) <;> ((try (first | replace hfk := oT hfk | replace hfk := oF hfk | simp only [oD, ne_eq, reduceCtorEq] at hfk)); (try exact oX))) | refine And.intro oZ ?_ | exact True.intro | (show _ = _; first | exact oY | (exact hb; done) | exact rfl) | exact oW | (apply And.intro)))
  (refine ⟨[3, 1, 2], ⟨by kernel_rfl⟩, ?_⟩)
  (repeat' (first | (refine xI (fun hfk => ?_) (fun hfk => ?_) <;> ((try (first | replace hfk := oT hfk | replace hfk := oF hfk | simp only [oD, ne_eq, reduceCtorEq] at hfk)); (try exact oX))) | refine And.intro oZ ?_ | exact True.intro | (show _ = _; first | exact oY | (exact hb; done) | exact rfl) | exact oW | (apply And.intro)))
  refine ⟨[(0, .roi .u8 b), (2, .ptr 0 0), (4, .ptr 1 0), (5, .ptr 3 0), (6, .int .i64 0)], ⟨4, [(0, some (.cells 42 [.int .i64 0, .int .i64 0, .int .i64 0, .nils])), (1, some (.cells 120 [.sl 2 1 0 b.length, .int .i64 54])), (2, some (bE b)), (3, some (.cells 89 [.int .u32 (lw b 2 4), .int .u32 (lw b 6 4), .int .u32 (lw b 10 4), .int .u32 (lw b 14 4), .int .u32 (lw b 18 4), .int .u32 (lw b 22 4), .int .u32 (lw b 26 2), .int .u32 (lw b 28 2), .int .u32 (lw b 30 4), .int .u32 (lw b 34 4), .int .u32 (lw b 38 4), .int .u32 (lw b 42 4), .int .u32 (lw b 46 4), .int .u32 (lw b 50 4)]))]⟩, [some 0, some 1, some 2, some 3], ?_, ?_⟩
  · (repeat' (first | (refine And.intro ?_ ?_) | exact True.intro | (show _ = _; with_reducible rfl) | exact Chk.mk (by kernel_rfl)))
    all_goals first | exact hk | exact hA | exact hH _ | rfl
  (repeat' (first | (refine xI (fun hfk => ?_) (fun hfk => ?_) <;> ((try (first | replace hfk := oT hfk | replace hfk := oF hfk | simp only [oD, ne_eq, reduceCtorEq] at hfk)); (try exact oX))) | refine And.intro oZ ?_ | exact True.intro | (show _ = _; first | exact oY | exact rfl) | exact oW | (apply And.intro)))
  refine ⟨[(0, .roi .u8 b), (2, .ptr 0 0), (4, .ptr 1 0), (5, .ptr 3 0), (7, .ptr 4 0), (8, .int .i64 0)], ⟨5, [(0, some (.cells 42 [.int .i64 0, .int .i64 0, .int .i64 0, .nils])), (1, some (.cells 120 [.sl 2 1 0 b.length, .int .i64 54])), (2, some (bE b)), (3, some (.cells 89 [.int .u32 (lw b 2 4), .int .u32 (lw b 6 4), .int .u32 (lw b 10 4), .int .u32 (lw b 14 4), .int .u32 (lw b 18 4), .int .u32 (lw b 22 4), .int .u32 (lw b 26 2), .int .u32 (lw b 28 2), .int .u32 (lw b 30 4), .int .u32 (lw b 34 4), .int .u32 (lw b 38 4), .int .u32 (lw b 42 4), .int .u32 (lw b 46 4), .int .u32 (lw b 50 4)])), (4, some (.cells 42 [.int .i64 (W : Int), .int .i64 (H : Int), .int .i64 (c : Int), .nils]))]⟩, [some 0, some 1, some 2, some 3, some 4], ?_, ?_⟩
  · (repeat' (first | (refine And.intro ?_ ?_) | exact True.intro | (show _ = _; with_reducible rfl) | exact Chk.mk (by kernel_rfl)))
    all_goals first | exact hs' | exact gw' | exact gh' | exact gc' | rfl
  (repeat' (first | (refine xI (fun hfk => ?_) (fun hfk => ?_) <;> ((try (first | replace hfk := oT hfk | replace hfk := oF hfk | simp only [oD, ne_eq, reduceCtorEq] at hfk)); (try exact oX))) | refine And.intro oZ ?_ | exact True.intro | (show _ = _; first | exact oY | exact rfl) | exact oW | (apply And.intro)))
  refine ⟨[(0, .roi .u8 b), (2, .ptr 0 0), (4, .ptr 1 0), (5, .ptr 3 0), (7, .ptr 4 0), (9, .int .i64 (st : Int))], ⟨5, [(0, some (.cells 42 [.int .i64 0, .int .i64 0, .int .i64 0, .nils])), (1, some (.cells 120 [.sl 2 1 0 b.length, .int .i64 54])), (2, some (bE b)), (3, some (.cells 89 [.int .u32 (lw b 2 4), .int .u32 (lw b 6 4), .int .u32 (lw b 10 4), .int .u32 (lw b 14 4), .int .u32 (lw b 18 4), .int .u32 (lw b 22 4), .int .u32 (lw b 26 2), .int .u32 (lw b 28 2), .int .u32 (lw b 30 4), .int .u32 (lw b 34 4), .int .u32 (lw b 38 4), .int .u32 (lw b 42 4), .int .u32 (lw b 46 4), .int .u32 (lw b 50 4)])), (4, some (.cells 42 [.int .i64 (W : Int), .int .i64 (H : Int), .int .i64 (c : Int), .nils]))]⟩, [some 0, some 1, some 2, some 3, some 4], ?_, ?_⟩
  · (repeat' (first | (refine And.intro ?_ ?_) | exact True.intro | (show _ = _; with_reducible rfl) | exact Chk.mk (by kernel_rfl)))
    all_goals first | exact sv | rfl
  (repeat' (first | (refine xI (fun hfk => ?_) (fun hfk => ?_) <;> ((try (first | replace hfk := oT hfk | replace hfk := oF hfk | simp only [oD, ne_eq, reduceCtorEq] at hfk)); (try exact oX))) | refine And.intro oZ ?_ | exact True.intro | (show _ = _; first | exact oY | (exact om; done) | exact rfl) | exact oW | (apply And.intro)))
  refine ⟨Nat, fun y => [(0, .roi .u8 b), (2, .ptr 0 0), (4, .ptr 1 0), (5, .ptr 3 0), (7, .ptr 4 0), (9, .int .i64 (st : Int)), (79, .int .i64 (H : Int)), (80, .int .i64 (y : Int))],
    fun y => ⟨6, [(0, some (.cells 42 [.int .i64 0, .int .i64 0, .int .i64 0, .nils])), (1, some (.cells 120 [.sl 2 1 0 b.length, .int .i64 ((54 + y * st : Nat) : Int)])), (2, some (bE b)), (3, some (.cells 89 [.int .u32 (lw b 2 4), .int .u32 (lw b 6 4), .int .u32 (lw b 10 4), .int .u32 (lw b 14 4), .int .u32 (lw b 18 4), .int .u32 (lw b 22 4), .int .u32 (lw b 26 2), .int .u32 (lw b 28 2), .int .u32 (lw b 30 4), .int .u32 (lw b 34 4), .int .u32 (lw b 38 4), .int .u32 (lw b 42 4), .int .u32 (lw b 46 4), .int .u32 (lw b 50 4)])), (4, some (.cells 42 [.int .i64 (W : Int), .int .i64 (H : Int), .int .i64 (c : Int), .sl 5 1 0 (H * (W * c))])), (5, some (bE (catK (pxk dn H (W * c) R y) H)))]⟩,
    fun y => y ≤ H, fun y => H - y, ⟨0, [some 0, some 1, some 2, some 3, some 4, some 5], Nat.zero_le _, ?_⟩, fun y hy => ?_⟩
  · have z0 : List.replicate ((W : Int) * (H : Int) * (c : Int)).toNat 0 = catK (pxk dn H (W * c) R 0) H := by
      have z1 : catK (pxk dn H (W * c) R 0) H = catK (fun _ => List.replicate (W * c) (0 : Int)) H := catK_congr (Q := H) (fun r hr => by
        have : fil dn H 0 r = false := by unfold fil; split <;> simp <;> omega
        unfold pxk; rw [if_neg (by rw [this]; decide)]) H (Nat.le_refl _)
      rw [z1, chc, Int.toNat_natCast]
      have : ∀ k, List.replicate (k * (W * c)) (0 : Int) = catK (fun _ => List.replicate (W * c) (0 : Int)) k := by
        intro k
        induction k with
        | zero => simp [catK]
        | succ k ih => rw [catK, ← ih, Nat.succ_mul, List.replicate_append_replicate]
      exact this H
    have z2 : ((W : Int) * (H : Int) * (c : Int)).toNat = H * (W * c) := by rw [chc, Int.toNat_natCast]
    have z3 : (54 : Int) = ((54 + 0 * st : Nat) : Int) := by omega
    (repeat' (first | (refine And.intro ?_ ?_) | exact True.intro | (show _ = _; with_reducible rfl) | exact Chk.mk (by kernel_rfl)))
    all_goals first | exact z0 | exact z2 | exact z3 | rfl
  have hy : y ≤ H := hy
  have rfy : rngI .i64 ((y : Int) + 1) := rng64 (by omega) (by omega)
  have hgl : ∀ r, r < H → (pxk dn H (W * c) R y r).length = W * c := fun r hr => by
    unfold pxk
    split
    · exact hRl r hr
    · simp
  have hcl := catK_len hgl H (Nat.le_refl _)
  by_cases hlt : y < H
  · have hfr := fr_lt (dn := dn) hlt
    have hys := prod_of (n := st) hlt
    have hfw := prod_of (n := W * c) hfr
    have t0 : takeL (cR b ((54 + y * st : Nat) : Int)) (st : Int) = (b.drop (54 + y * st)).take st := by
      unfold takeL takeC
      have el : (cR b ((54 + y * st : Nat) : Int)).length = b.length - (54 + y * st) := by
        unfold cR; rw [List.length_take, List.length_drop, Int.toNat_natCast]; omega
      rw [if_neg (show ¬ (st : Int) < 0 by omega), if_neg (show ¬ ((cR b ((54 + y * st : Nat) : Int)).length : Int) < (st : Int) by rw [el]; omega), if_pos rfl]
      unfold cR
      rw [List.take_take, Int.toNat_natCast, Int.toNat_natCast, Nat.min_eq_left (by omega)]
    have t1 : ((takeL (cR b ((54 + y * st : Nat) : Int)) (st : Int)).length : Int) = st := by rw [t0, List.length_take, List.length_drop]; omega
    have t2 : (takeL (cR b ((54 + y * st : Nat) : Int)) (st : Int)).length = st := by omega
    have rh1 : rngI .i64 ((H : Int) - 1) := rng64 (by omega) (by omega)
    have rh2 : rngI .i64 ((H : Int) - 1 - (y : Int)) := rng64 (by omega) (by omega)
    obtain ⟨r, hr⟩ : ∃ r, fr dn H y = r := ⟨_, rfl⟩
    rw [hr] at hfr hfw
    have f1 : (r : Int) * (W : Int) * (c : Int) = ((r * (W * c) : Nat) : Int) := by rw [Int.mul_assoc, ← cwc, ← Int.natCast_mul]
    have f2 : ((r : Int) + 1) * (W : Int) * (c : Int) = ((r * (W * c) + W * c : Nat) : Int) := by rw [Int.mul_assoc, ← cwc, Int.add_mul, Int.one_mul, ← Int.natCast_mul]; omega
    have f3 : 0 ≤ (r : Int) * (W : Int) ∧ (r : Int) * (W : Int) ≤ 32768 * 32768 := ⟨Int.mul_nonneg (by omega) (by omega), Int.le_trans (Int.mul_le_mul_of_nonneg_right (by omega) (by omega)) (Int.mul_le_mul_of_nonneg_left (by omega) (by omega))⟩
    have f4 : ((r : Int) + 1) * (W : Int) = (r : Int) * (W : Int) + W := by rw [Int.add_mul, Int.one_mul]
    have s1 : rngI .i64 ((r : Int) * (W : Int)) := rng64 (by omega) (by omega)
    have s2 : rngI .i64 ((r : Int) * (W : Int) * (c : Int)) := by rw [f1]; exact rng64 (by omega) (by omega)
    have s3 : rngI .i64 ((r : Int) + 1) := rng64 (by omega) (by omega)
    have s4 : rngI .i64 (((r : Int) + 1) * (W : Int)) := by rw [f4]; exact rng64 (by omega) (by omega)
    have s5 : rngI .i64 (((r : Int) + 1) * (W : Int) * (c : Int)) := by rw [f2]; exact rng64 (by omega) (by omega)
    have b1 : 0 ≤ ((r : Int) + 1) * (W : Int) * (c : Int) ∧ ((r : Int) + 1) * (W : Int) * (c : Int) ≤ ((H * (W * c) : Nat) : Int) := by rw [f2]; omega
    have b2 : 0 ≤ (r : Int) * (W : Int) * (c : Int) ∧ (r : Int) * (W : Int) * (c : Int) ≤ ((((r : Int) + 1) * (W : Int) * (c : Int)).toNat : Int) := by rw [f1, f2]; omega
    have b3 : 0 + ((r : Int) * (W : Int) * (c : Int)).toNat = r * (W * c) := by rw [f1]; omega
    have b4 : (((r : Int) + 1) * (W : Int) * (c : Int)).toNat - ((r : Int) * (W : Int) * (c : Int)).toNat = W * c := by rw [f1, f2]; omega
    have t3 : ((54 + y * st : Nat) : Int) + ((takeL (cR b ((54 + y * st : Nat) : Int)) (st : Int)).length : Int) = ((54 + (y + 1) * st : Nat) : Int) := by rw [t1, Nat.succ_mul]; omega
    have hfl : (fRow b st (W * c) y).length = W * c := fRow_len (by rw [glen]; omega)
    have hrl : ((b.drop (54 + y * st)).take st).length = st := by rw [List.length_take, List.length_drop]; omega
    have tcn : (c : Int).toNat = c := Int.toNat_natCast c
    have wdc : W * c / c = W := Nat.mul_div_cancel _ (by omega)
    by_cases hd1 : dn = true
    all_goals
      have hrow : (if dn = true then (y : Int) else (H : Int) - 1 - (y : Int)) = (r : Int) := by rw [← hr]; unfold fr; split <;> omega
      have hdp : if dn = true then 2147483648 ≤ lw b 22 4 else lw b 22 4 < 2147483648 := by
        rw [← hdn']; split
        · rename_i k; exact of_decide_eq_true k
        · rename_i k; have := mt decide_eq_true k; omega
      first | rw [if_pos hd1] at hrow hdp | rw [if_neg hd1] at hrow hdp
      rw [← hrow] at s1 s2 s3 s4 s5 b1 b2 b3 b4
      (repeat' (first | (refine xI (fun hfk => ?_) (fun hfk => ?_) <;> ((try (first | replace hfk := oT hfk | replace hfk := oF hfk | simp only [oD, ne_eq, reduceCtorEq] at hfk)); (try exact oX))) | refine And.intro oZ ?_ | exact True.intro | (show _ = _; first | exact oY | exact rfl) | exact oW | (apply And.intro)))
      (refine ⟨[1, 2], ⟨by kernel_rfl⟩, ?_⟩)
      (repeat' (first | (refine xI (fun hfk => ?_) (fun hfk => ?_) <;> ((try (first | replace hfk := oT hfk | replace hfk := oF hfk | simp only [oD, ne_eq, reduceCtorEq] at hfk)); (try exact oX))) | refine And.intro oZ ?_ | exact True.intro | (show _ = _; first | exact oY | exact rfl) | exact oW | (apply And.intro)))
      refine ⟨[(0, .roi .u8 b), (2, .ptr 0 0), (4, .ptr 1 0), (5, .ptr 3 0), (7, .ptr 4 0), (9, .int .i64 (st : Int)), (79, .int .i64 (H : Int)), (80, .int .i64 (y : Int)), (11, .sl 6 1 0 st), (13, .sl 5 1 (r * (W * c)) (W * c))], ⟨7, [(0, some (.cells 42 [.int .i64 0, .int .i64 0, .int .i64 0, .nils])), (1, some (.cells 120 [.sl 2 1 0 b.length, .int .i64 ((54 + (y + 1) * st : Nat) : Int)])), (2, some (bE b)), (3, some (.cells 89 [.int .u32 (lw b 2 4), .int .u32 (lw b 6 4), .int .u32 (lw b 10 4), .int .u32 (lw b 14 4), .int .u32 (lw b 18 4), .int .u32 (lw b 22 4), .int .u32 (lw b 26 2), .int .u32 (lw b 28 2), .int .u32 (lw b 30 4), .int .u32 (lw b 34 4), .int .u32 (lw b 38 4), .int .u32 (lw b 42 4), .int .u32 (lw b 46 4), .int .u32 (lw b 50 4)])), (4, some (.cells 42 [.int .i64 (W : Int), .int .i64 (H : Int), .int .i64 (c : Int), .sl 5 1 0 (H * (W * c))])), (5, some (bE (catK (pxk dn H (W * c) R y) H))), (6, some (bE ((b.drop (54 + y * st)).take st)))]⟩, [some 0, some 1, some 2, some 3, some 4, some 5, some 6], ?_, ?_⟩
      · (repeat' (first | (refine And.intro ?_ ?_) | exact True.intro | (show _ = _; with_reducible rfl) | exact Chk.mk (by kernel_rfl)))
        all_goals first | rfl | exact t0 | exact t2 | exact t3 | exact b3 | exact b4
      clear s1 s2 s3 s4 s5 b1 b2 b3 b4 f1 f2 f3 f4 t1 t2 t3 t0
      (repeat' (first | (refine xI (fun hfk => ?_) (fun hfk => ?_) <;> ((try (first | replace hfk := oT hfk | replace hfk := oF hfk | simp only [oD, ne_eq, reduceCtorEq] at hfk)); (try exact oX))) | refine And.intro oZ ?_ | exact True.intro | (show _ = _; first | exact oY | exact rfl) | exact oW | (apply And.intro)))
      refine ⟨[(0, .roi .u8 b), (2, .ptr 0 0), (4, .ptr 1 0), (5, .ptr 3 0), (7, .ptr 4 0), (9, .int .i64 (st : Int)), (79, .int .i64 (H : Int)), (80, .int .i64 (y : Int)), (13, .sl 5 1 (r * (W * c)) (W * c))], ⟨6, [(0, some (.cells 42 [.int .i64 0, .int .i64 0, .int .i64 0, .nils])), (1, some (.cells 120 [.sl 2 1 0 b.length, .int .i64 ((54 + (y + 1) * st : Nat) : Int)])), (2, some (bE b)), (3, some (.cells 89 [.int .u32 (lw b 2 4), .int .u32 (lw b 6 4), .int .u32 (lw b 10 4), .int .u32 (lw b 14 4), .int .u32 (lw b 18 4), .int .u32 (lw b 22 4), .int .u32 (lw b 26 2), .int .u32 (lw b 28 2), .int .u32 (lw b 30 4), .int .u32 (lw b 34 4), .int .u32 (lw b 38 4), .int .u32 (lw b 42 4), .int .u32 (lw b 46 4), .int .u32 (lw b 50 4)])), (4, some (.cells 42 [.int .i64 (W : Int), .int .i64 (H : Int), .int .i64 (c : Int), .sl 5 1 0 (H * (W * c))])), (5, some (bE (spl (catK (pxk dn H (W * c) R y) H) (r * (W * c)) (fRow b st (W * c) y))))]⟩, [some 0, some 1, some 2, some 3, some 4, some 5], ?_, ?_⟩
      · have x1 : List.take st (List.drop 0 ((b.drop (54 + y * st)).take st)) = (b.drop (54 + y * st)).take st := by rw [List.drop_zero]; exact List.take_of_length_le (by omega)
        have x2 : Nat.min (List.take st (List.drop 0 ((b.drop (54 + y * st)).take st))).length (W * c) = W * c := by rw [x1, hrl]; exact Nat.min_eq_right (by omega)
        have x3 : List.take (W * c) (List.take st (List.drop 0 ((b.drop (54 + y * st)).take st))) = fRow b st (W * c) y := by rw [x1, List.take_take, Nat.min_eq_left (by omega)]; rfl
        have x4 : List.take (r * (W * c)) (catK (pxk dn H (W * c) R y) H) ++ (List.take (Nat.min (List.take st (List.drop 0 ((b.drop (54 + y * st)).take st))).length (W * c)) (List.take st (List.drop 0 ((b.drop (54 + y * st)).take st))) ++ List.drop (r * (W * c) + Nat.min (List.take st (List.drop 0 ((b.drop (54 + y * st)).take st))).length (W * c)) (catK (pxk dn H (W * c) R y) H)) = spl (catK (pxk dn H (W * c) R y) H) (r * (W * c)) (fRow b st (W * c) y) := by
          rw [x2, x3]; unfold spl; rw [hfl]
        (repeat' (first | (refine And.intro ?_ ?_) | exact True.intro | (show _ = _; with_reducible rfl) | exact Chk.mk (by kernel_rfl)))
        all_goals first | rfl | exact x4
      have y1 : W * c = W * c / (c : Int).toNat * (c : Int).toNat := by rw [tcn, wdc]
      have y2 : r * (W * c) + W * c ≤ (spl (catK (pxk dn H (W * c) R y) H) (r * (W * c)) (fRow b st (W * c) y)).length := by rw [spl_len (by omega)]; omega
      have y3 : swapTo (spl (catK (pxk dn H (W * c) R y) H) (r * (W * c)) (fRow b st (W * c) y)) (r * (W * c)) (c : Int).toNat (W * c / (c : Int).toNat) = catK (pxk dn H (W * c) R (y + 1)) H := by
        rw [tcn, wdc, swapTo_spl (w := W) (by omega) hfl (by omega) W (Nat.le_refl _), catK_upd hgl hfr (by rw [swapTo_len]; exact hfl)]
        refine catK_congr (Q := H) (fun k hk => ?_) H (Nat.le_refl _)
        unfold pxk
        rw [fil_next hlt hk, hr]
        by_cases hkr : k = r
        · rw [if_pos hkr, if_pos (by rw [decide_eq_true hkr]; rfl), hR, hkr, ← hr]
          show _ = swapTo (fRow b st (W * c) (fr dn H (fr dn H y))) 0 c W
          rw [fr_fr hlt]
        · rw [if_neg hkr, decide_eq_false hkr]; rfl
      (repeat' (first | (refine xI (fun hfk => ?_) (fun hfk => ?_) <;> ((try (first | replace hfk := oT hfk | replace hfk := oF hfk | simp only [oD, ne_eq, reduceCtorEq] at hfk)); (try exact oX))) | refine And.intro oZ ?_ | exact True.intro | (show _ = _; first | exact oY | exact rfl) | exact oW | (apply And.intro)))
      (refine ⟨[5], ⟨by kernel_rfl⟩, ?_⟩)
      (repeat' (first | (refine xI (fun hfk => ?_) (fun hfk => ?_) <;> ((try (first | replace hfk := oT hfk | replace hfk := oF hfk | simp only [oD, ne_eq, reduceCtorEq] at hfk)); (try exact oX))) | refine And.intro oZ ?_ | exact True.intro | (show _ = _; first | exact oY | exact rfl) | exact oW | (apply And.intro)))
      refine ⟨y + 1, [some 0, some 1, some 2, some 3, some 4, some 5], hlt, ?mu, ?_⟩
      case mu => (show H - (y + 1) < H - y; omega)
      (repeat' (first | (refine And.intro ?_ ?_) | exact True.intro | (show _ = _; with_reducible rfl) | exact Chk.mk (by kernel_rfl)))
      all_goals first | rfl | exact y3 | (show (_ : Int) = _; omega)
  · obtain rfl : y = H := by omega
    have z1 : List.take (y * (W * c)) (List.drop 0 (catK (pxk dn y (W * c) R y) y)) = rdPx b c W y st dn := by
      rw [List.drop_zero, List.take_of_length_le (by omega)]
      unfold rdPx
      refine catK_congr (Q := y) (fun k hk => ?_) y (Nat.le_refl _)
      have : fil dn y y k = true := by unfold fil; split <;> simp <;> omega
      unfold pxk
      rw [if_pos this, hR]; rfl
    have gw2 := gw.symm
    have gh2 := gh.symm
    have gc2 := gc.symm
    (repeat' (first | (refine xI (fun hfk => ?_) (fun hfk => ?_) <;> ((try (first | replace hfk := oT hfk | replace hfk := oF hfk | simp only [oD, ne_eq, reduceCtorEq] at hfk)); (try exact oX))) | refine And.intro oZ ?_ | exact True.intro | (show _ = _; first | exact oY | (first | exact z1 | exact gw2 | exact gh2 | exact gc2 | rfl; done) | exact rfl) | exact oW | (apply And.intro)))
theorem bread_s : SOK Tryz.prog 32 bmS := by
  refine sok_of (C := rpCx) rpCx_ok rfl mixed ⟨Tryz.func32, by kernel_rfl, by kernel_rfl, by kernel_rfl⟩ fun l obs v h ho => ?_
  (unfold bmS at h; split at h; rotate_left; (focus (cases h)); rename_i b; simp only [Option.some.injEq, Prod.mk.injEq] at h; obtain ⟨rfl, rfl⟩ := h; simp only [List.mem_cons, List.not_mem_nil, or_false, forall_eq_or_imp, forall_eq, false_implies, implies_true] at ho)
  refine ⟨Nat.le_of_ble_eq_true rfl, ?_⟩
  by_cases e : rdE b = 0
  · exact tk_good ho e
  by_cases hk : tkC b = 0
  rotate_left
  · exact tk_bad1 ho hk
  by_cases h : hdE b = 0
  rotate_left
  · exact tk_bad2 ho hk h
  by_cases hs : shC (hW b) (hrV (hH0 b)) = 0
  · exact tk_bad4 ho hk h hs e
  · exact tk_bad3 ho hk h hs
end Go.Proofs.YtljdahepmmgfeaaGreatDoor
namespace Go.Proofs.YtljdahepmmgfeaaGreatDoor
open Go Go.RowKit
set_option maxHeartbeats 4000000
theorem rdPx_len {b : List Int} {W H c st : Nat} {dn : Bool} (hg : BmOK b W H c st dn) : (rdPx b c W H st dn).length = H * (W * c) := by
  unfold rdPx
  refine catK_len (fun r hr => ?_) H (Nat.le_refl _)
  have hf : fr dn H r < H := fr_lt hr
  have := prod_of (n := st) hf
  show (swapTo (fRow b st (W * c) (fr dn H r)) 0 c W).length = _
  have h1 := hg.st1
  have h2 := hg.len
  rw [swapTo_len]; exact fRow_len (by omega)
theorem bm_n {b : List Int} {W H c st : Nat} {dn : Bool} (hg : BmOK b W H c st dn) : H * (W * c) ≤ 16777216 := by
  have k1 := hg.wh
  have k2 : H * (W * c) = (W * H) * c := by rw [← Nat.mul_assoc, Nat.mul_comm H W]
  have k3 : (W * H) * c ≤ 4194304 * 4 := Nat.mul_le_mul k1 (by have := hg.c34; omega)
  omega
theorem rdL_len {b : List Int} (hb : Byt b) : (rdL b).length ≤ 16777216 := by
  unfold rdL
  split
  · rename_i e
    have hg := gd_of hb e
    rw [rdPx_len hg]; exact bm_n hg
  · exact Nat.zero_le _
end Go.Proofs.YtljdahepmmgfeaaGreatDoor
namespace Go.Proofs.YtljdahepmmgfeaaGreatDoor
open Go Go.RowKit
set_option maxHeartbeats 4000000
def crE (b : List Int) : Int := if b.length = 0 then 20 else if b.getD 0 0 = 80 then pnE b else if b.getD 0 0 = 66 then rdE b else 21
def crW (b : List Int) : Int := if b.getD 0 0 = 80 then pnK b (pgW b) else if b.getD 0 0 = 66 then rdK b (hW b) else 0
def crH (b : List Int) : Int := if b.getD 0 0 = 80 then pnK b (pgH b) else if b.getD 0 0 = 66 then rdK b (hrV (hH0 b)) else 0
def crC (b : List Int) : Int := if b.getD 0 0 = 80 then pnK b (kdV b) else if b.getD 0 0 = 66 then rdK b (hCn b) else 0
def crL (b : List Int) : List Int := if b.getD 0 0 = 80 then pnL b else if b.getD 0 0 = 66 then rdL b else []
def crN (b : List Int) : Int := if crE b = 0 then kndV b else 0
abbrev crdS : PSpec := fun l => match l with
  | [.roi .u8 b] => some ([Byt b], .tup [imA (crW b) (crH b) (crC b) (crL b), .int .i64 (crN b), .int .i64 (crE b)])
  | _ => none
theorem byt_bytes {b : List Int} (h : Byt b) : Bytes b := fun x hx => by
  obtain ⟨i, hi, rfl⟩ := List.mem_iff_getElem.1 hx
  have := h.bd i
  rwa [List.getD_eq_getElem?_getD, List.getElem?_eq_getElem hi] at this
theorem pnL_len (b : List Int) : (pnL b).length ≤ b.length := by
  unfold pnL
  split
  · rw [List.length_drop]; omega
  · exact Nat.zero_le _
theorem cr_cs (b : List Int) :
    (b.length = 0 ∧ crE b = 20 ∧ crW b = 0 ∧ crH b = 0 ∧ crC b = 0 ∧ crL b = [] ∧ crN b = 0) ∨
    (1 ≤ b.length ∧ b.getD 0 0 = 80 ∧ pnE b ≠ 0 ∧ crE b = pnE b ∧ crW b = 0 ∧ crH b = 0 ∧ crC b = 0 ∧ crL b = [] ∧ crN b = 0) ∨
    (1 ≤ b.length ∧ b.getD 0 0 = 80 ∧ pnE b = 0 ∧ crE b = 0 ∧ crW b = pnK b (pgW b) ∧ crH b = pnK b (pgH b) ∧ crC b = pnK b (kdV b) ∧ crL b = pnL b ∧ crN b = kndV b) ∨
    (1 ≤ b.length ∧ b.getD 0 0 = 66 ∧ rdE b ≠ 0 ∧ crE b = rdE b ∧ crW b = 0 ∧ crH b = 0 ∧ crC b = 0 ∧ crL b = [] ∧ crN b = 0) ∨
    (1 ≤ b.length ∧ b.getD 0 0 = 66 ∧ rdE b = 0 ∧ crE b = 0 ∧ crW b = rdK b (hW b) ∧ crH b = rdK b (hrV (hH0 b)) ∧ crC b = rdK b (hCn b) ∧ crL b = rdL b ∧ crN b = kndV b) ∨
    (1 ≤ b.length ∧ b.getD 0 0 ≠ 80 ∧ b.getD 0 0 ≠ 66 ∧ crE b = 21 ∧ crW b = 0 ∧ crH b = 0 ∧ crC b = 0 ∧ crL b = [] ∧ crN b = 0) := by
  unfold crN
  by_cases h0 : b.length = 0
  · left
    have e : crE b = 20 := if_pos h0
    have hb : b = [] := List.length_eq_zero_iff.1 h0
    refine ⟨h0, e, ?_, ?_, ?_, ?_, by rw [e]; rfl⟩ <;> subst hb <;> rfl
  right
  have h1 : 1 ≤ b.length := by omega
  by_cases k1 : b.getD 0 0 = 80
  · have e : crE b = pnE b := by unfold crE; rw [if_neg h0, if_pos k1]
    have e1 : crW b = pnK b (pgW b) := if_pos k1
    have e2 : crH b = pnK b (pgH b) := if_pos k1
    have e3 : crC b = pnK b (kdV b) := if_pos k1
    have e4 : crL b = pnL b := if_pos k1
    by_cases k2 : pnE b = 0
    · right; left
      exact ⟨h1, k1, k2, e.trans k2, e1, e2, e3, e4, if_pos (e.trans k2)⟩
    · left
      obtain ⟨z1, z2⟩ := pn_bad k2
      exact ⟨h1, k1, k2, e, by rw [e1, z1], by rw [e2, z1], by rw [e3, z1], by rw [e4, z2], if_neg (by rw [e]; exact k2)⟩
  right; right
  by_cases k3 : b.getD 0 0 = 66
  · have e : crE b = rdE b := by unfold crE; rw [if_neg h0, if_neg k1, if_pos k3]
    have e1 : crW b = rdK b (hW b) := by unfold crW; rw [if_neg k1, if_pos k3]
    have e2 : crH b = rdK b (hrV (hH0 b)) := by unfold crH; rw [if_neg k1, if_pos k3]
    have e3 : crC b = rdK b (hCn b) := by unfold crC; rw [if_neg k1, if_pos k3]
    have e4 : crL b = rdL b := by unfold crL; rw [if_neg k1, if_pos k3]
    by_cases k2 : rdE b = 0
    · right; left
      exact ⟨h1, k3, k2, e.trans k2, e1, e2, e3, e4, if_pos (e.trans k2)⟩
    · left
      obtain ⟨z1, z2⟩ := rd_bad k2
      exact ⟨h1, k3, k2, e, by rw [e1, z1], by rw [e2, z1], by rw [e3, z1], by rw [e4, z2], if_neg (by rw [e]; exact k2)⟩
  · right; right
    have e : crE b = 21 := by unfold crE; rw [if_neg h0, if_neg k1, if_neg k3]
    exact ⟨h1, k1, k3, e, by unfold crW; rw [if_neg k1, if_neg k3], by unfold crH; rw [if_neg k1, if_neg k3], by unfold crC; rw [if_neg k1, if_neg k3], by unfold crL; rw [if_neg k1, if_neg k3], if_neg (by rw [e]; decide)⟩
attribute [local irreducible] crE crW crH crC crL crN pnE pnK pnL pgW pgH kdV rdE rdK rdL kndV hrV
theorem cread_s : SOK Tryz.prog 15 crdS := by
  refine sok_of (C := mkC 0 [(31, pnmS), (32, bmS), (33, kndS)] noG) (mkC_ok (pok_cons pread_s (pok_cons bread_s (pok_cons knd_s pok_nil))) noG_ok) rfl mixed ⟨Tryz.func15, by kernel_rfl, by kernel_rfl, by kernel_rfl⟩ fun l obs v h ho => ?_
  (unfold crdS at h; split at h; rotate_left; (focus (cases h)); rename_i b; simp only [Option.some.injEq, Prod.mk.injEq] at h; obtain ⟨rfl, rfl⟩ := h; simp only [List.mem_cons, List.not_mem_nil, or_false, forall_eq_or_imp, forall_eq, false_implies, implies_true] at ho)
  refine ⟨Nat.le_of_ble_eq_true rfl, ?_⟩
  have bl := ho.le
  have hB := byt_bytes ho
  rcases cr_cs b with ⟨a1, a2, a3, a4, a5, a6, a7⟩ | ⟨a0, a1, a8, a2, a3, a4, a5, a6, a7⟩ | ⟨a0, a1, a8, a2, a3, a4, a5, a6, a7⟩ | ⟨a0, a1, a8, a2, a3, a4, a5, a6, a7⟩ | ⟨a0, a1, a8, a2, a3, a4, a5, a6, a7⟩ | ⟨a0, a1, a8, a2, a3, a4, a5, a6, a7⟩
  all_goals (
    rw [a2, a3, a4, a5, a6, a7]
    clear a2 a3 a4 a5 a6 a7
    try (have g0 : b.getD (Int.toNat 0) 0 = b.getD 0 0 := rfl)
    (repeat' (first | (refine xI (fun hfk => ?_) (fun hfk => ?_) <;> ((try (first | replace hfk := oT hfk | replace hfk := oF hfk | simp only [oD, ne_eq, reduceCtorEq] at hfk)); (try exact oX))) | refine And.intro oZ ?_ | exact True.intro | (show _ = _; first | exact oY | (first | exact ho | exact hB | rfl; done) | exact rfl) | exact oW | (apply And.intro))))
theorem rcread_s : SOK Tryz.prog 23 crdS := by
  refine sok_of (C := mkC 0 [(42, pnmS), (43, bmS), (44, kndS)] noG) (mkC_ok (pok_cons rread15_s (pok_cons rread16_s (pok_cons rknd_s pok_nil))) noG_ok) rfl mixed ⟨Tryz.func23, by kernel_rfl, by kernel_rfl, by kernel_rfl⟩ fun l obs v h ho => ?_
  (unfold crdS at h; split at h; rotate_left; (focus (cases h)); rename_i b; simp only [Option.some.injEq, Prod.mk.injEq] at h; obtain ⟨rfl, rfl⟩ := h; simp only [List.mem_cons, List.not_mem_nil, or_false, forall_eq_or_imp, forall_eq, false_implies, implies_true] at ho)
  refine ⟨Nat.le_of_ble_eq_true rfl, ?_⟩
  have bl := ho.le
  have hB := byt_bytes ho
  rcases cr_cs b with ⟨a1, a2, a3, a4, a5, a6, a7⟩ | ⟨a0, a1, a8, a2, a3, a4, a5, a6, a7⟩ | ⟨a0, a1, a8, a2, a3, a4, a5, a6, a7⟩ | ⟨a0, a1, a8, a2, a3, a4, a5, a6, a7⟩ | ⟨a0, a1, a8, a2, a3, a4, a5, a6, a7⟩ | ⟨a0, a1, a8, a2, a3, a4, a5, a6, a7⟩
  all_goals (
    rw [a2, a3, a4, a5, a6, a7]
    clear a2 a3 a4 a5 a6 a7
    try (have g0 : b.getD (Int.toNat 0) 0 = b.getD 0 0 := rfl)
    (repeat' (first | (refine xI (fun hfk => ?_) (fun hfk => ?_) <;> ((try (first | replace hfk := oT hfk | replace hfk := oF hfk | simp only [oD, ne_eq, reduceCtorEq] at hfk)); (try exact oX))) | refine And.intro oZ ?_ | exact True.intro | (show _ = _; first | exact oY | (first | exact ho | exact hB | rfl; done) | exact rfl) | exact oW | (apply And.intro))))
end Go.Proofs.YtljdahepmmgfeaaGreatDoor
namespace Go.Proofs.YtljdahepmmgfeaaGreatDoor
open Go Go.RowKit
set_option maxHeartbeats 4000000
theorem byu_app {A B : List Int} (ha : Bytes A) (hb : Bytes B) : Bytes (A ++ B) := fun x hx => (List.mem_append.1 hx).elim (ha x) (hb x)
theorem byu_set {L : List Int} (h : Bytes L) (i : Nat) {v : Int} (hv : 0 ≤ v ∧ v ≤ 255) : Bytes (L.set i v) := fun x hx => (List.mem_or_eq_of_mem_set hx).elim (h x) (fun e => e ▸ hv)
theorem byu_swap {L : List Int} (h : Bytes L) (o c : Nat) : ∀ k, Bytes (swapTo L o c k)
  | 0 => h
  | k + 1 => byu_set (byu_set (byu_swap h o c k) _ ((byu_swap h o c k).get _)) _ ((byu_swap h o c k).get _)
theorem byu_cat {f : Nat → List Int} (h : ∀ k, Bytes (f k)) : ∀ n, Bytes (catK f n)
  | 0 => fun x hx => by cases hx
  | n + 1 => byu_app (byu_cat h n) (h n)
theorem byu_rdL {b : List Int} (hb : Bytes b) : Bytes (rdL b) := by
  unfold rdL
  split
  · exact byu_cat (fun k => byu_swap (fun x hx => hb x (List.mem_of_mem_drop (List.mem_of_mem_take hx))) _ _ _) _
  · intro x hx; cases hx
theorem byu_pnL {b : List Int} (h : Bytes b) : Bytes (pnL b) := by
  unfold pnL
  split
  · exact fun x hx => h x (List.mem_of_mem_drop hx)
  · exact fun x hx => by cases hx
theorem pnE_pgE {b : List Int} (h : pnE b = 0) : pgE b = 0 := by
  unfold pnE at h
  split at h
  · rename_i k; exact absurd h k
  · rename_i k; exact Classical.not_not.1 k
structure I64 (x : Int) : Prop where
  lo : -9223372036854775808 ≤ x
  hi : x ≤ 9223372036854775807
theorem i64_sm {x : Int} (h0 : 0 ≤ x) (h1 : x ≤ 100000000) : I64 x := ⟨by omega, by omega⟩
theorem cr_num {b : List Int} (hb : Byt b) : I64 (crW b) ∧ I64 (crH b) ∧ I64 (crC b) ∧ Bytes (crL b) ∧ (crL b).length ≤ 16777216 := by
  have z : I64 0 := i64_sm (by omega) (by omega)
  have be : Bytes ([] : List Int) := fun x hx => by cases hx
  have hB := byt_bytes hb
  rcases cr_cs b with ⟨a1, a2, a3, a4, a5, a6, a7⟩ | ⟨a0, a1, a8, a2, a3, a4, a5, a6, a7⟩ | ⟨a0, a1, a8, a2, a3, a4, a5, a6, a7⟩ | ⟨a0, a1, a8, a2, a3, a4, a5, a6, a7⟩ | ⟨a0, a1, a8, a2, a3, a4, a5, a6, a7⟩ | ⟨a0, a1, a8, a2, a3, a4, a5, a6, a7⟩ <;> rw [a3, a4, a5, a6]
  · exact ⟨z, z, z, be, Nat.zero_le _⟩
  · exact ⟨z, z, z, be, Nat.zero_le _⟩
  · have eK : ∀ x, pnK b x = x := fun x => if_pos a8
    obtain ⟨h1, h2, h3, h4, h5, h6, h7, h8⟩ := pn_sz (pnE_pgE a8)
    have h9 := kdV_cs b
    have hl := pnL_len b
    have hle := hb.le
    rw [eK, eK, eK]
    exact ⟨i64_sm (by omega) (by omega), i64_sm (by omega) (by omega), i64_sm (by omega) (by omega), byu_pnL hB, by omega⟩
  · exact ⟨z, z, z, be, Nat.zero_le _⟩
  · have eK : ∀ x, rdK b x = x := fun x => if_pos a8
    have hg := gd_of hb a8
    have e5 : hCn b = ((hCn b).toNat : Int) := by have := hg.c_; have := hg.c34; show lw b 28 2 / 8 = _; omega
    have hw := hg.w
    have hh := hg.h
    have w2 := hg.w2
    have h2 := hg.h2
    have c34 := hg.c34
    rw [eK, eK, eK]
    exact ⟨i64_sm (by omega) (by omega), i64_sm (by omega) (by omega), i64_sm (by omega) (by omega), byu_rdL hB, rdL_len hb⟩
  · exact ⟨z, z, z, be, Nat.zero_le _⟩
end Go.Proofs.YtljdahepmmgfeaaGreatDoor
namespace Go.Proofs.YtljdahepmmgfeaaGreatDoor
open Go Go.RowKit
set_option maxHeartbeats 4000000
def fbS (b : BitVec 64) (v : Int) : BitVec 64 := (b ^^^ BitVec.ofInt 64 v) * 1099511628211#64
def fb0 : BitVec 64 := 14695981039346656037#64
def fbL (b : BitVec 64) (l : List Int) : BitVec 64 := l.foldl fbS b
theorem fbL_app (b : BitVec 64) (l m : List Int) : fbL b (l ++ m) = fbL (fbL b l) m := by simp [fbL, List.foldl_append]
theorem fbL_snoc (b : BitVec 64) (l : List Int) (v : Int) : fbL b (l ++ [v]) = fbS (fbL b l) v := by rw [fbL_app]; rfl
theorem bv_of (b : BitVec 64) : BitVec.ofInt 64 ((b.toNat : Nat) : Int) = b := by
  apply BitVec.eq_of_toNat_eq
  rw [BitVec.toNat_ofInt]
  have := b.isLt
  have e : ((b.toNat : Nat) : Int) % ((2 ^ 64 : Nat) : Int) = ((b.toNat : Nat) : Int) := Int.emod_eq_of_lt (by omega) (by omega)
  rw [e, Int.toNat_natCast]
theorem w64_bv (b : BitVec 64) : IntKind.u64.wrap ((b.toNat : Nat) : Int) = ((b.toNat : Nat) : Int) := by
  have := b.isLt
  exact wrap_rng ⟨by show (0 : Int) ≤ _; omega, by show _ ≤ (18446744073709551615 : Int); omega⟩
theorem w64_mul (a b : BitVec 64) : IntKind.u64.wrap (((a.toNat : Nat) : Int) * ((b.toNat : Nat) : Int)) = (((a * b).toNat : Nat) : Int) := by
  rw [BitVec.toNat_mul, ← Int.natCast_mul]
  have e : ∀ x : Nat, IntKind.u64.wrap (x : Int) = ((x % 2 ^ 64 : Nat) : Int) := fun x => by
    show (x : Int) % (2 ^ 64 : Int) = ((x % 2 ^ 64 : Nat) : Int)
    omega
  exact e _
theorem fb_step (b : BitVec 64) (v : Int) : IntKind.u64.wrap (IntKind.u64.wrap (((BitVec.ofInt 64 ((b.toNat : Nat) : Int) ^^^ BitVec.ofInt 64 v).toNat : Nat) : Int) * 1099511628211) = (((fbS b v).toNat : Nat) : Int) := by
  rw [bv_of, w64_bv]
  exact w64_mul (b ^^^ BitVec.ofInt 64 v) 1099511628211#64
theorem xor_self (a b : BitVec 64) : a ^^^ b ^^^ b = a := by rw [BitVec.xor_assoc, BitVec.xor_self, BitVec.xor_zero]
structure U64 (x : Int) : Prop where
  lo : 0 ≤ x
  hi : x < 18446744073709551616
theorem U64.bv {x : Int} (h : U64 x) : ∃ b : BitVec 64, x = ((b.toNat : Nat) : Int) ∧ BitVec.ofInt 64 x = b := by
  obtain ⟨h0, h1⟩ := h
  obtain ⟨n, rfl⟩ := Int.eq_ofNat_of_zero_le h0
  have hn : n < 2 ^ 64 := by omega
  refine ⟨BitVec.ofNat 64 n, ?_, ?_⟩
  · rw [BitVec.toNat_ofNat, Nat.mod_eq_of_lt hn]
  · have := bv_of (BitVec.ofNat 64 n)
    rw [BitVec.toNat_ofNat, Nat.mod_eq_of_lt hn] at this
    exact this
theorem U64_bv (b : BitVec 64) : U64 ((b.toNat : Nat) : Int) := by
  have := b.isLt
  exact ⟨by omega, by omega⟩
def hxV (x : Int) (b : List Int) : Int := (((fbL (BitVec.ofInt 64 x ^^^ fb0) b ^^^ fb0).toNat : Nat) : Int)
def dgV (b : List Int) : Int := (((fbL fb0 b).toNat : Nat) : Int)
theorem xor_b0 (b : BitVec 64) : IntKind.u64.wrap (((BitVec.ofInt 64 ((b.toNat : Nat) : Int) ^^^ BitVec.ofInt 64 14695981039346656037).toNat : Nat) : Int) = (((b ^^^ fb0).toNat : Nat) : Int) := by
  rw [bv_of, w64_bv]; rfl
end Go.Proofs.YtljdahepmmgfeaaGreatDoor
namespace Go.Proofs.YtljdahepmmgfeaaGreatDoor
open Go Go.RowKit
def appB (o : Op) (e : Env) : Bool := match o with
  | .call { callee := .builtin .append, args, argTypes } => (match args.toList with
    | [_, s] => (match evA e s with | some (.str _) => true | _ => false)
    | _ => false)
  | _ => false
def appS (T : TypeId → Option TI) (H : AH) (t t' : TypeId) (d : AV) (z : List UInt8) (K : AV → AH → Prop) : Prop :=
  match tdq T t, tdq T t', d with
  | .slice el, .str, .sl j 1 0 n => (match T el, H.get j with
    | some i, some (.ints e' .u8 l) => bif Nat.beq i.sz 1 && Nat.beq i.by_ 1 && Nat.beq i.zero.length 1 && Nat.beq e' el then
        ((0 < n ∧ n = l.length ∧ n + z.length ≤ 140737488355328) ∧ K (.sl H.nx 1 0 (n + z.length)) ((H.del j).push (.ints e' .u8 (l ++ z.map fun c => (c.toNat : Int))))) else False
    | _, _ => False)
  | _, _, _ => False
noncomputable def appX (T : TypeId → Option TI) (o : Op) (e : Env) (H : AH) (K : AV → AH → Prop) : Prop := match o with
  | .call { callee := .builtin .append, args, argTypes } => (match args.toList, argTypes.toList with
    | [d, s], [t, t'] => (match evA e d, evA e s with | some d, some (.str z) => appS T H t t' d z K | _, _ => False)
    | _, _ => False)
  | _ => False
noncomputable def xop5 (T : TypeId → Option TI) (o : Op) (e : Env) (H : AH) (K : AV → AH → Prop) : Prop := match appB o e with
  | true => appX T o e H K
  | false => xop4 T o e H K
def xsA (T : TypeId → Option TI) (o : Op) (e : Env) (H : AH) : Bool := appB o e || xsE T o e H
theorem run_append_room_sw {P : Program} {w w' : World} (t u ty e : TypeId) (i : TypeInfo) (ht : P.underlying t = some (.slice e)) (hu : P.underlying u = some .string) (hi : P.info? e = some i) (g sLen sCap : Nat)
    (z : ByteArray) (hroom : sLen + z.size ≤ sCap) (hst : (storeCells ⟨g, sLen * i.size, none⟩ (Lib.strCells z) 0).run P w = .ok () w') :
    (Builtin.append_ #[t, u] ty #[.slice (some ⟨g, 0, none⟩) sLen sCap, .string z]).run P w = .ok (.slice (some ⟨g, 0, none⟩) (sLen + z.size) sCap) w' := by
  have hf := Lib.run_firstCells_string (P := P) w i.size z
  simp [Builtin.append_, run_underlying ht, run_underlying hu, sizeOf, typeInfo, hi, Builtin.lenOf, hroom, hf, Addr.add_lit, hst]
section
variable {P : Program} {F Ob : Nat → Prop} {W0 : World} {R : PN} {H : AH} {w : World} {T : TypeId → Option TI}
theorem run_appendOpS {w' : World} {o : Oper} {a : Act} {s x : Operand} {t u : TypeId} (ho : o.op = .call { callee := .builtin .append, args := #[s, x], argTypes := #[t, u] }) {cv : Value}
    (h : (Builtin.append_ #[t, u] o.type #[a.eval s, a.eval x]).run P w = .ok cv w') : (execOp a.eval o).run P w = .ok (.value cv) w' := by
  simp [execOp, ho, resolve, invoke, builtin, h]
theorem appX_ok (hT : TOK P T) {o : Oper} {a : Act} {e : Env} {K : AV → AH → Prop} {args : Array Operand} {ts : Array TypeId} (ho : o.op = .call { callee := .builtin .append, args, argTypes := ts }) (h : appX T o.op e H K) (hH : HRel F Ob W0 R H w) (hE : ERel R w (Wr F R H) e a.tmps) : o.wp P a w (GP F Ob W0 R H o a e K) NoWay := by
  rw [ho] at h
  unfold appX at h
  simp only at h
  split at h
  rotate_left
  · exact h.elim
  rename_i d s t t' hargs hts
  obtain rfl : args = #[d, s] := by rw [← Array.toArray_toList (xs := args), hargs]
  obtain rfl : ts = #[t, t'] := by rw [← Array.toArray_toList (xs := ts), hts]
  split at h
  rotate_left
  · exact h.elim
  rename_i vd z hvd hvs
  have hrd := evA_rep hE hvd
  have hrs := evA_rep hE hvs
  unfold appS at h
  split at h
  rotate_left
  · exact h.elim
  rename_i el j n hd hstr
  have hu := tdq_slice hT hd
  have hus := tdq_str hT hstr
  split at h
  rotate_left
  · exact h.elim
  rename_i i e' l hti hl
  obtain ⟨inf, ds, z0, g1i, g2i, g3i, rfl⟩ := probe_inv (hT _ i hti)
  replace h := bif_true h; obtain ⟨hc4, h⟩ := h
  simp only [Bool.and_eq_true] at hc4
  obtain ⟨⟨⟨hz1, hz2⟩, hz3⟩, hz4⟩ := hc4
  have hs1 : inf.size = 1 := beq_iff.1 hz1
  have hb1 : inf.bytes = 1 := beq_iff.1 hz2
  have hzl : z0.cells.size = 1 := by have := beq_iff.1 hz3; simpa using this
  have := beq_iff.1 hz4
  subst this
  obtain ⟨⟨hn0, hnl, hle⟩, hK⟩ := h
  generalize hgd : a.eval d = cd at hrd
  generalize hgs : a.eval s = cs at hrs
  cases hrs
  have hzs : (⟨z.toArray⟩ : ByteArray).size = z.length := by simp [ByteArray.size]
  have hsc : Lib.strCells ⟨z.toArray⟩ = z.map fun (x : UInt8) => Value.int .u8 (x.toNat : Int) := by simp [Lib.strCells]
  cases hrd with
  | slnil => omega
  | sl _ _ _ _ b c off0 sh hR hn hc hof hss hl0 =>
    obtain ⟨vs, fr, g1, g2, g3, g4⟩ := ent_ints hH hl hR
    have h0 := hof (by omega)
    replace h0 : off0 = 0 := by omega
    subst h0
    have hshape : sh.2 = vs.length := by
      unfold World.shape? at hss
      rw [g1] at hss
      simp at hss
      rw [← hss]
    by_cases hroom : n + z.length ≤ c
    · obtain ⟨w', s1, s2, hx⟩ := store_block (P := P) b e' (z.map fun (x : UInt8) => Value.int .u8 (x.toNat : Int)) n 0 vs w g1 g2 (by rw [List.length_map]; omega) (fun v hv => by obtain ⟨x, _, rfl⟩ := List.mem_map.1 hv; rfl)
      have hr := run_append_room_sw (P := P) t t' o.type e' inf hu hus g1i b n c ⟨z.toArray⟩ (by rw [hzs]; exact hroom) (by rw [hsc, hs1, Nat.mul_one]; exact s1)
      rw [hzs] at hr
      have hrun := run_appendOpS ho (a := a) (by rw [hgd, hgs]; exact hr)
      obtain ⟨p1, p2⟩ := hH.upd (en := .ints e' .u8 (l ++ z.map (fun c => (c.toNat : Int)))) hl hR hx (by
        refine ⟨_, fr, s2, nf_ext g1 s2 hx g2, ?_, fun i y hi => ?_⟩
        · simp only [List.length_append, List.length_take, List.length_drop, List.length_map]; omega
        · have e1 : (vs.take (n + 0)).length = n := by simp; omega
          rw [List.append_assoc]
          rw [List.getElem?_append] at hi ⊢
          rw [e1]
          split at hi
          · rename_i hlt
            rw [if_pos (by omega), List.getElem?_take_of_lt (by omega)]
            exact g4 i y hi
          · rename_i hge
            rw [if_neg (by omega)]
            have hlt : i - l.length < z.length := by have := (List.getElem?_eq_some_iff.1 hi).1; simpa using this
            rw [hnl, List.getElem?_append_left (by simpa using hlt)]
            rw [List.getElem?_map] at hi ⊢
            obtain ⟨q, hq, rfl⟩ := opt_map hi
            rw [hq]; rfl)
      have hxw : Ext (Wr F R H) w w' := hx.weaken fun g _ k => by subst k; exact .inr ⟨j, _, hl, hR⟩
      obtain ⟨q1, q2⟩ := p1.ren (i := j) (e := .ints e' .u8 (l ++ z.map (fun c => (c.toNat : Int)))) (b := some b) (by rw [get_set, if_pos rfl]) hR
      have hget : ∀ i, ((H.del j).push (.ints e' .u8 (l ++ z.map (fun c => (c.toNat : Int))))).get i = (((H.set j (.ints e' .u8 (l ++ z.map (fun c => (c.toNat : Int))))).del j).push (.ints e' .u8 (l ++ z.map (fun c => (c.toNat : Int))))).get i := fun i => by
        rw [get_push, get_push]
        have e0 : (H.del j).nx = ((H.set j (.ints e' .u8 (l ++ z.map (fun c => (c.toNat : Int))))).del j).nx := rfl
        rw [e0]
        split
        · rfl
        · rw [get_del, get_del, get_set]
          split
          · rfl
          · rfl
      obtain ⟨r1, r2⟩ := q1.congr (H' := (H.del j).push (.ints e' .u8 (l ++ z.map (fun c => (c.toNat : Int))))) rfl hget
      refine gp_run hrun hE hK hH.len (fun i hi => pre_nx _ i hi) hxw r1 (fun g hg k => (p2 g).1 (q2 g (Nat.lt_of_lt_of_le hg hx.size) ((r2 g).1 k))) ?_
      exact .sl _ _ _ _ b c 0 sh (by exact app_last _ _ _) hroom hc (fun _ => by simp) (hx.shp _ _ hss) hl0
    · have hzb : ∀ q, (Builtin.zeroCells z0.cells q).size = q := fun q => by rw [size_zeroCells, hzl, Nat.mul_one]
      have hlen : (vs.take n).length = n := by simp; omega
      have hrun0 := Lib.run_append_grow_string (P := P) w t t' o.type e' inf z0 hu hus g1i g3i ⟨b, 0, none⟩ n c (vs.take n) (by rw [hs1, Nat.mul_one]; exact hlen) (fun q v hq => by
        have hlt : q < n := by have := (List.getElem?_eq_some_iff.1 hq).1; omega
        rw [Addr.add_mid, cell_of_heap g1, Nat.zero_add]
        rw [List.getElem?_take_of_lt hlt] at hq
        exact hq) ⟨z.toArray⟩ (by rw [hzs]; omega) (by rw [hzs]; omega) (by rw [hzs]; exact growslice_fits (by omega) (by rw [hb1, Nat.mul_one]; omega))
      rw [hzs, hsc] at hrun0
      have hcap := grownCap_ge w (n + z.length) c e'
      have hcm := grownCap_le_maxLen w (n + z.length) c e' (by simp only [maxLen]; omega)
      generalize hcc : grownCap w (n + z.length) c e' = cap at hrun0 hcap hcm
      generalize hus' : vs.take n ++ (z.map fun (x : UInt8) => Value.int .u8 (x.toNat : Int)) ++ (Builtin.zeroCells z0.cells (cap - (n + z.length))).toList = us
      have hul : us.length = cap := by rw [← hus']; simp only [List.length_append, List.length_map, Array.length_toList, hzb, hlen]; omega
      have hbl : (vs.take n).toArray ++ (z.map fun (x : UInt8) => Value.int .u8 (x.toNat : Int)).toArray ++ Builtin.zeroCells z0.cells (cap - (n + z.length)) = us.toArray := by
        rw [← hus', ← List.append_toArray (l₂ := (Builtin.zeroCells _ _).toList), Array.toArray_toList, ← List.append_toArray]
      rw [hbl] at hrun0
      have hrun := run_appendOpS ho (a := a) (by rw [hgd, hgs]; exact hrun0)
      obtain ⟨d1, d2⟩ := hH.del j
      have hp : (w.drew.alloc (.cells us.toArray e')).heap[w.heap.size]? = some (.cells us.toArray e' (0, 0)) := heap_push w.drew _
      have hxn : Ext (fun _ => False) w (w.drew.alloc (.cells us.toArray e')) := (Ext.drew _ w).trans (Ext.alloc (fun _ => False) w.drew _) (fun _ _ k => k)
      obtain ⟨p1, p2⟩ := d1.push (b := some w.heap.size) (en := .ints e' .u8 (l ++ z.map fun c => (c.toNat : Int))) hxn (fun g hg => by cases hg; exact Nat.le_refl _) (fun O' hO' =>
        ⟨us, _, hp, nf0 _, by rw [hul, List.length_append, List.length_map]; omega, fun i y hi => by
          rw [← hus', List.append_assoc]
          rw [List.getElem?_append] at hi ⊢
          rw [hlen]
          split at hi
          · rw [if_pos (by omega), List.getElem?_take_of_lt (by omega)]
            exact g4 i y hi
          · rw [if_neg (by omega)]
            have hlt : i - l.length < z.length := by have := (List.getElem?_eq_some_iff.1 hi).1; simpa using this
            rw [hnl, List.getElem?_append_left (by simpa using hlt)]
            rw [List.getElem?_map] at hi ⊢
            obtain ⟨q, hq, rfl⟩ := opt_map hi
            rw [hq]; rfl⟩)
      refine gp_run hrun hE hK hH.len (fun i hi => pre_nx _ i hi) (hxn.weaken fun _ _ k => k.elim) p1 (fun g hg k => d2 g (p2 g hg k)) ?_
      exact .sl _ _ _ _ w.heap.size cap 0 (e', us.length) (by exact app_last _ _ _) hcap hcm (fun _ => by simp) (by unfold World.shape?; rw [hp]; simp) (by rw [hul]; simp)
theorem xok5 {C : Ctx} (hT : TOK P C.T) (hC : C.X = xop5 C.T) : XOK P C := by
  intro o a e F Ob W0 R H w K h hH hE
  rw [hC] at h
  unfold xop5 at h
  split at h
  · rename_i hb
    unfold appB at hb
    split at hb
    · rename_i args ts ho
      exact appX_ok hT ho h hH hE
    · cases hb
  · exact xok4 (C := { C with X := xop4 C.T }) hT rfl o a e F Ob W0 R H w K h hH hE
end
noncomputable def mkA (p : Nat) (S : List (FuncId × PSpec)) (G : FuncId → Option GSpec) (cuts : List Nat) : Ctx := ⟨p, tlook tt, slook S, G, xsA (tlook tt), xop5 (tlook tt), fun i => cuts.any (Nat.beq i), fun _ _ _ => none, fun _ => 0, fun _ _ _ => none⟩
end Go.Proofs.YtljdahepmmgfeaaGreatDoor
namespace Go.Proofs.YtljdahepmmgfeaaGreatDoor
open Go Go.RowKit
set_option maxHeartbeats 4000000
theorem byte64 {b : List Int} (h : Bytes b) (i : Nat) : IntKind.u64.wrap (b.getD i 0) = b.getD i 0 := by
  have := h.get i
  exact wrap_rng ⟨by show (0 : Int) ≤ _; omega, by show _ ≤ (18446744073709551615 : Int); omega⟩
theorem fb_take {b : List Int} {i : Nat} (X : BitVec 64) (h : i < b.length) : fbL X (b.take (i + 1)) = fbS (fbL X (b.take i)) (b.getD i 0) := by
  have : b.take (i + 1) = b.take i ++ [b.getD i 0] := by
    rw [List.take_add_one, List.getElem?_eq_getElem h]; simp [List.getD, h]
  rw [this, fbL_snoc]
def putSF : FSpec := fun l es => match l, es with
  | [.ptr 0 0, .roi .u8 b], [.cells 100 [.int .u64 x, .int .i64 n]] => some ([U64 x, Bytes b, 0 ≤ n, n ≤ 1152921504606846976, b.length ≤ 140737488355328], .tup [], [some (.cells 100 [.int .u64 (hxV x b), .int .i64 (n + (b.length : Int))])])
  | _, _ => none
theorem putS_g : GSOK Tryz.prog 66 (fG putSF) := by
  refine fok (S := []) (G := noG) pok_nil noG_ok ⟨Tryz.func66, by kernel_rfl, by kernel_rfl, by kernel_rfl⟩ fun l es obs v es' h ho => ?_
  (unfold putSF at h; split at h; rotate_left; (focus (cases h)); rename_i b x n; simp only [Option.some.injEq, Prod.mk.injEq] at h; obtain ⟨rfl, rfl, rfl⟩ := h; simp only [List.mem_cons, List.not_mem_nil, or_false, forall_eq_or_imp, forall_eq, false_implies, implies_true] at ho)
  obtain ⟨hx, hB, n0, n1, bl⟩ := ho
  obtain ⟨X, rfl, hX⟩ := hx.bv
  refine ⟨Nat.le_of_ble_eq_true rfl, ?_⟩
  have eV : hxV ((X.toNat : Nat) : Int) b = (((fbL (X ^^^ fb0) b ^^^ fb0).toNat : Nat) : Int) := by unfold hxV; rw [hX]
  rw [eV]
  have e0 := xor_b0 X
  have rn : rngI .i64 (n + (b.length : Int)) := rng64 (by omega) (by omega)
  (repeat' (first | (refine xI (fun hfk => ?_) (fun hfk => ?_) <;> ((try (first | replace hfk := oT hfk | replace hfk := oF hfk | simp only [oD, ne_eq, reduceCtorEq] at hfk)); (try exact oX))) | refine And.intro oZ ?_ | exact True.intro | (show _ = _; first | exact oY | exact rfl) | exact oW | (apply And.intro)))
  refine ⟨Nat, fun i => [(0, .ptr 0 0), (1, .roi .u8 b), (4, .int .u64 (((fbL (X ^^^ fb0) (b.take i)).toNat : Nat) : Int)), (12, .roi .u8 b), (13, .int .i64 (b.length : Int)), (14, .int .i64 (i : Int))],
    fun i => ⟨1, [(0, some (.cells 100 [.int .u64 ((X.toNat : Nat) : Int), .int .i64 n]))]⟩,
    fun i => i ≤ b.length, fun i => b.length - i, ⟨0, [some 0], Nat.zero_le _, ?_⟩, fun i hi => ?_⟩
  · (repeat' (first | (refine And.intro ?_ ?_) | exact True.intro | (show _ = _; with_reducible rfl) | exact Chk.mk (by kernel_rfl)))
    all_goals first | exact e0 | rfl
  have hi : i ≤ b.length := hi
  dsimp only
  by_cases hlt : i < b.length
  · have e1 := fb_step (fbL (X ^^^ fb0) (b.take i)) (b.getD i 0)
    rw [← fb_take _ hlt] at e1
    have e2 := byte64 hB i
    have e2' : IntKind.u64.wrap (b.getD (i : Int).toNat 0) = b.getD i 0 := e2
    have ri : rngI .i64 ((i : Int) + 1) := rng64 (by omega) (by omega)
    (repeat' (first | (refine xI (fun hfk => ?_) (fun hfk => ?_) <;> ((try (first | replace hfk := oT hfk | replace hfk := oF hfk | simp only [oD, ne_eq, reduceCtorEq] at hfk)); (try exact oX))) | refine And.intro oZ ?_ | exact True.intro | (show _ = _; first | exact oY | exact rfl) | exact oW | (apply And.intro)))
    refine ⟨i + 1, [some 0], hlt, ?mu, ?_⟩
    case mu => (show b.length - (i + 1) < b.length - i; omega)
    (repeat' (first | (refine And.intro ?_ ?_) | exact True.intro | (show _ = _; with_reducible rfl) | exact Chk.mk (by kernel_rfl)))
    all_goals first | rfl | (rw [e2']; exact e1) | (show (_ : Int) = _; omega)
  · obtain rfl : i = b.length := by omega
    rw [List.take_length]
    have e3 := xor_b0 (fbL (X ^^^ fb0) b)
    (repeat' (first | (refine xI (fun hfk => ?_) (fun hfk => ?_) <;> ((try (first | replace hfk := oT hfk | replace hfk := oF hfk | simp only [oD, ne_eq, reduceCtorEq] at hfk)); (try exact oX))) | refine And.intro oZ ?_ | exact True.intro | (show _ = _; first | exact oY | exact rfl) | exact oW | (apply And.intro)))
    refine ⟨[some 0], ?_⟩
    (repeat' (first | (refine xI (fun hfk => ?_) (fun hfk => ?_) <;> ((try (first | replace hfk := oT hfk | replace hfk := oF hfk | simp only [oD, ne_eq, reduceCtorEq] at hfk)); (try exact oX))) | refine And.intro oZ ?_ | exact True.intro | (show _ = _; first | exact oY | (first | exact e3 | rfl; done) | exact rfl) | exact oW | (apply And.intro)))
abbrev pNw : FSpec := fun l es => match l, es with
  | [], [] => some ([], .ptr 0 0, [some (.cells 100 [.int .u64 0, .int .i64 0])])
  | _, _ => none
theorem newH_g : GSOK Tryz.prog 38 (fG pNw) := by
  refine fok (S := []) (G := noG) pok_nil noG_ok ⟨Tryz.func38, by kernel_rfl, by kernel_rfl, by kernel_rfl⟩ fun l es obs v es' h ho => ?_
  unfold pNw at h
  split at h
  · simp only [Option.some.injEq, Prod.mk.injEq] at h
    obtain ⟨rfl, rfl, rfl⟩ := h
    refine ⟨Nat.le_of_ble_eq_true rfl, ?_⟩
    (repeat' (first | (refine xI (fun hfk => ?_) (fun hfk => ?_) <;> ((try (first | replace hfk := oT hfk | replace hfk := oF hfk | simp only [oD, ne_eq, reduceCtorEq] at hfk)); (try exact oX))) | refine And.intro oZ ?_ | exact True.intro | (show _ = _; first | exact oY | exact rfl) | exact oW | (apply And.intro)))
    refine ⟨[some 0], ?_⟩
    (repeat' (first | (refine xI (fun hfk => ?_) (fun hfk => ?_) <;> ((try (first | replace hfk := oT hfk | replace hfk := oF hfk | simp only [oD, ne_eq, reduceCtorEq] at hfk)); (try exact oX))) | refine And.intro oZ ?_ | exact True.intro | (show _ = _; first | exact oY | exact rfl) | exact oW | (apply And.intro)))
  · cases h
theorem writeH_g : GSOK Tryz.prog 39 (fG putSF) := by
  refine fok (S := []) (G := glook [(66, fG putSF)]) pok_nil (gl_cons putS_g gl_nil) ⟨Tryz.func39, by kernel_rfl, by kernel_rfl, by kernel_rfl⟩ fun l es obs v es' h ho => ?_
  (unfold putSF at h; split at h; rotate_left; (focus (cases h)); rename_i b x n; simp only [Option.some.injEq, Prod.mk.injEq] at h; obtain ⟨rfl, rfl, rfl⟩ := h; simp only [List.mem_cons, List.not_mem_nil, or_false, forall_eq_or_imp, forall_eq, false_implies, implies_true] at ho)
  obtain ⟨hx, hB, n0, n1, bl⟩ := ho
  refine ⟨Nat.le_of_ble_eq_true rfl, ?_⟩
  (repeat' (first | (refine xI (fun hfk => ?_) (fun hfk => ?_) <;> ((try (first | replace hfk := oT hfk | replace hfk := oF hfk | simp only [oD, ne_eq, reduceCtorEq] at hfk)); (try exact oX))) | refine And.intro oZ ?_ | exact True.intro | (show _ = _; first | exact oY | exact rfl) | exact oW | (apply And.intro)))
  (refine ⟨[0], ⟨by kernel_rfl⟩, ?_⟩)
  (repeat' (first | (refine xI (fun hfk => ?_) (fun hfk => ?_) <;> ((try (first | replace hfk := oT hfk | replace hfk := oF hfk | simp only [oD, ne_eq, reduceCtorEq] at hfk)); (try exact oX))) | refine And.intro oZ ?_ | exact True.intro | (show _ = _; first | exact oY | (first | exact hx | exact hB; done) | exact rfl) | exact oW | (apply And.intro)))
  refine ⟨[some 0], ?_⟩
  (repeat' (first | (refine xI (fun hfk => ?_) (fun hfk => ?_) <;> ((try (first | replace hfk := oT hfk | replace hfk := oF hfk | simp only [oD, ne_eq, reduceCtorEq] at hfk)); (try exact oX))) | refine And.intro oZ ?_ | exact True.intro | (show _ = _; first | exact oY | exact rfl) | exact oW | (apply And.intro)))
abbrev sumHS : PSpec := fun l => match l with
  | [.rop (.agg [.int .u64 x, .int .i64 n])] => some ([U64 x], .int .u64 ((((BitVec.ofInt 64 x) ^^^ fb0).toNat : Nat) : Int))
  | [.nilp] => some ([], .int .u64 14695981039346656037)
  | _ => none
theorem sumH_s : SOK Tryz.prog 40 sumHS := by
  refine sok_of (C := mkC 0 [] noG) (mkC_ok pok_nil noG_ok) rfl mixed ⟨Tryz.func40, by kernel_rfl, by kernel_rfl, by kernel_rfl⟩ fun l obs v h ho => ?_
  unfold sumHS at h
  split at h
  · rename_i x n
    simp only [Option.some.injEq, Prod.mk.injEq] at h
    obtain ⟨rfl, rfl⟩ := h
    simp only [List.mem_cons, List.not_mem_nil, or_false, forall_eq_or_imp, forall_eq] at ho
    obtain ⟨X, rfl, hX⟩ := ho.bv
    refine ⟨Nat.le_of_ble_eq_true rfl, ?_⟩
    rw [hX]
    have e3 := xor_b0 X
    (repeat' (first | (refine xI (fun hfk => ?_) (fun hfk => ?_) <;> ((try (first | replace hfk := oT hfk | replace hfk := oF hfk | simp only [oD, ne_eq, reduceCtorEq] at hfk)); (try exact oX))) | refine And.intro oZ ?_ | exact True.intro | (show _ = _; first | exact oY | (first | exact e3 | exact e3.symm | rfl; done) | exact rfl) | exact oW | (apply And.intro)))
  · simp only [Option.some.injEq, Prod.mk.injEq] at h
    obtain ⟨rfl, rfl⟩ := h
    refine ⟨Nat.le_of_ble_eq_true rfl, ?_⟩
    (repeat' (first | (refine xI (fun hfk => ?_) (fun hfk => ?_) <;> ((try (first | replace hfk := oT hfk | replace hfk := oF hfk | simp only [oD, ne_eq, reduceCtorEq] at hfk)); (try exact oX))) | refine And.intro oZ ?_ | exact True.intro | (show _ = _; first | exact oY | exact rfl) | exact oW | (apply And.intro)))
  · cases h
abbrev bytesHS : PSpec := fun l => match l with | [.roi .u8 b] => some ([Bytes b, b.length ≤ 140737488355328], .int .u64 (dgV b)) | _ => none
theorem hx0 (b : List Int) : ((((BitVec.ofInt 64 (hxV 0 b)) ^^^ fb0).toNat : Nat) : Int) = dgV b := by
  unfold hxV dgV
  rw [bv_of, xor_self]
  rfl
theorem bytesH_s : SOK Tryz.prog 19 bytesHS := by
  refine sok_of (C := mkC 0 [(40, sumHS)] (glook [(38, fG pNw), (39, fG putSF)])) (mkC_ok (pok_cons sumH_s pok_nil) (gl_cons newH_g (gl_cons writeH_g gl_nil))) rfl mixed ⟨Tryz.func19, by kernel_rfl, by kernel_rfl, by kernel_rfl⟩ fun l obs v h ho => ?_
  (unfold bytesHS at h; split at h; rotate_left; (focus (cases h)); rename_i b; simp only [Option.some.injEq, Prod.mk.injEq] at h; obtain ⟨rfl, rfl⟩ := h; simp only [List.mem_cons, List.not_mem_nil, or_false, forall_eq_or_imp, forall_eq, false_implies, implies_true] at ho)
  obtain ⟨hB, bl⟩ := ho
  refine ⟨Nat.le_of_ble_eq_true rfl, ?_⟩
  have u0 : U64 0 := ⟨by decide, by decide⟩
  have uv : U64 (hxV 0 b) := U64_bv _
  have e := hx0 b
  (repeat' (first | (refine xI (fun hfk => ?_) (fun hfk => ?_) <;> ((try (first | replace hfk := oT hfk | replace hfk := oF hfk | simp only [oD, ne_eq, reduceCtorEq] at hfk)); (try exact oX))) | refine And.intro oZ ?_ | exact True.intro | (show _ = _; first | exact oY | exact rfl) | exact oW | (apply And.intro)))
  (refine ⟨[], ⟨by kernel_rfl⟩, ?_⟩)
  (repeat' (first | (refine xI (fun hfk => ?_) (fun hfk => ?_) <;> ((try (first | replace hfk := oT hfk | replace hfk := oF hfk | simp only [oD, ne_eq, reduceCtorEq] at hfk)); (try exact oX))) | refine And.intro oZ ?_ | exact True.intro | (show _ = _; first | exact oY | exact rfl) | exact oW | (apply And.intro)))
  (refine ⟨[0], ⟨by kernel_rfl⟩, ?_⟩)
  (repeat' (first | (refine xI (fun hfk => ?_) (fun hfk => ?_) <;> ((try (first | replace hfk := oT hfk | replace hfk := oF hfk | simp only [oD, ne_eq, reduceCtorEq] at hfk)); (try exact oX))) | refine And.intro oZ ?_ | exact True.intro | (show _ = _; first | exact oY | (first | exact u0 | exact hB | exact uv | exact e; done) | exact rfl) | exact oW | (apply And.intro)))
theorem rbytes12_s : SOK Tryz.prog 14 bytesHS := by
  refine sok_of (C := mkC 0 [] noG) (mkC_ok pok_nil noG_ok) rfl mixed ⟨Tryz.func14, by kernel_rfl, by kernel_rfl, by kernel_rfl⟩ fun l obs v h ho => ?_
  (unfold bytesHS at h; split at h; rotate_left; (focus (cases h)); rename_i b; simp only [Option.some.injEq, Prod.mk.injEq] at h; obtain ⟨rfl, rfl⟩ := h; simp only [List.mem_cons, List.not_mem_nil, or_false, forall_eq_or_imp, forall_eq, false_implies, implies_true] at ho)
  obtain ⟨hB, bl⟩ := ho
  refine ⟨Nat.le_of_ble_eq_true rfl, ?_⟩
  (repeat' (first | (refine xI (fun hfk => ?_) (fun hfk => ?_) <;> ((try (first | replace hfk := oT hfk | replace hfk := oF hfk | simp only [oD, ne_eq, reduceCtorEq] at hfk)); (try exact oX))) | refine And.intro oZ ?_ | exact True.intro | (show _ = _; first | exact oY | exact rfl) | exact oW | (apply And.intro)))
  refine ⟨Nat, fun i => [(0, .roi .u8 b), (2, .int .u64 0), (3, .int .u64 (((fbL fb0 (b.take i)).toNat : Nat) : Int)), (4, .int .i64 (i : Int))],
    fun i => ⟨0, []⟩,
    fun i => i ≤ b.length, fun i => b.length - i, ⟨0, [], Nat.zero_le _, ?_⟩, fun i hi => ?_⟩
  · (repeat' (first | (refine And.intro ?_ ?_) | exact True.intro | (show _ = _; with_reducible rfl) | exact Chk.mk (by kernel_rfl)))
    all_goals rfl
  have hi : i ≤ b.length := hi
  dsimp only
  by_cases hlt : i < b.length
  · have e1 := fb_step (fbL fb0 (b.take i)) (b.getD i 0)
    rw [← fb_take _ hlt] at e1
    have e2 := byte64 hB i
    have e2' : IntKind.u64.wrap (b.getD (i : Int).toNat 0) = b.getD i 0 := e2
    have ri : rngI .i64 ((i : Int) + 1) := rng64 (by omega) (by omega)
    (repeat' (first | (refine xI (fun hfk => ?_) (fun hfk => ?_) <;> ((try (first | replace hfk := oT hfk | replace hfk := oF hfk | simp only [oD, ne_eq, reduceCtorEq] at hfk)); (try exact oX))) | refine And.intro oZ ?_ | exact True.intro | (show _ = _; first | exact oY | exact rfl) | exact oW | (apply And.intro)))
    refine ⟨i + 1, [], hlt, ?mu, ?_⟩
    case mu => (show b.length - (i + 1) < b.length - i; omega)
    (repeat' (first | (refine And.intro ?_ ?_) | exact True.intro | (show _ = _; with_reducible rfl) | exact Chk.mk (by kernel_rfl)))
    all_goals first | rfl | (rw [e2']; exact e1) | (show (_ : Int) = _; omega)
  · obtain rfl : i = b.length := by omega
    rw [List.take_length]
    (repeat' (first | (refine xI (fun hfk => ?_) (fun hfk => ?_) <;> ((try (first | replace hfk := oT hfk | replace hfk := oF hfk | simp only [oD, ne_eq, reduceCtorEq] at hfk)); (try exact oX))) | refine And.intro oZ ?_ | exact True.intro | (show _ = _; first | exact oY | exact rfl) | exact oW | (apply And.intro)))
end Go.Proofs.YtljdahepmmgfeaaGreatDoor
namespace Go.Proofs.YtljdahepmmgfeaaGreatDoor
open Go Go.RowKit
set_option maxHeartbeats 4000000
def hxc (d : Nat) : UInt8 := UInt8.ofNat (if d < 10 then 48 + d else 87 + d)
def hexF : Nat → Nat → List UInt8
  | 0, _ => []
  | n + 1, u => if u < 16 then [hxc u] else hexF n (u / 16) ++ [hxc (u % 16)]
def hxN : Nat → Nat → List UInt8
  | 0, _ => []
  | n + 1, u => hxN n (u / 16) ++ [hxc (u % 16)]
theorem hexF_le : ∀ (n u : Nat), (hexF n u).length ≤ n
  | 0, _ => Nat.le_refl _
  | n + 1, u => by
    have := hexF_le n (u / 16)
    unfold hexF
    split
    · simp
    · rw [List.length_append, List.length_singleton]; omega
theorem hxN_len : ∀ (n u : Nat), (hxN n u).length = n
  | 0, _ => rfl
  | n + 1, u => by unfold hxN; rw [List.length_append, hxN_len n]; rfl
theorem hxN_0 : ∀ n, hxN n 0 = List.replicate n 48
  | 0 => rfl
  | n + 1 => by
    unfold hxN
    rw [show 0 / 16 = 0 from rfl, hxN_0 n, List.replicate_succ']; rfl
theorem hex_pad : ∀ {n u : Nat}, u < 16 ^ n → List.replicate (n - (hexF n u).length) 48 ++ hexF n u = hxN n u
  | 0, u, h => rfl
  | n + 1, u, h => by
    unfold hexF hxN
    by_cases k : u < 16
    · rw [if_pos k, Nat.div_eq_of_lt k, hxN_0, Nat.mod_eq_of_lt k]; rfl
    · rw [if_neg k]
      have hu : u / 16 < 16 ^ n := by rw [Nat.pow_succ] at h; omega
      have ih := hex_pad hu
      rw [List.length_append, List.length_singleton, Nat.add_sub_add_right, ← List.append_assoc, ih]
end Go.Proofs.YtljdahepmmgfeaaGreatDoor
namespace Go.Proofs.YtljdahepmmgfeaaGreatDoor
open Go Go.RowKit
set_option maxHeartbeats 4000000
theorem gl_cell {w : World} {O : Nat → Prop} (h : GL w O) {g i : Nat} {l : List Value} (hm : (g, l) ∈ GLtab) {v : Value} (hi : l[i]? = some v) : w.cell? ⟨g, i, none⟩ = some v := by
  obtain ⟨_, _, ty, fr, e⟩ := h _ hm
  unfold World.cell?
  simp only [e]
  simpa using hi
theorem tz_walk (w : World) (hc : w.cell? ⟨3, 15, none⟩ = some (.int .u8 4)) :
    Calls Tryz.prog 124 #[.int .u64 16] w fun e w' => e = .returned (.int .i64 4) ∧ w' = w := by
  have hk : (IntKind.u64.wrap (bits BinOp.and IntKind.u64 16 (IntKind.u64.wrap (-16)) * 285870213051353865) / 288230376151711744) = 15 := by decide
  have hc2 : w.cell? ⟨3, (IntKind.u64.wrap (bits BinOp.and IntKind.u64 16 (IntKind.u64.wrap (-16)) * 285870213051353865) / 288230376151711744).toNat, none⟩ = some (.int .u8 4) := by rw [hk]; exact hc
  go_enter Tryz.func124, Tryz.ntmps124
  go_wp2
  go_ret
  exact ⟨rfl, rfl⟩
abbrev tzS : PSpec := fun l => match l with | [.int .u64 x] => some ([x = 16], .int .i64 4) | _ => none
theorem tz64_s : SOK Tryz.prog 124 tzS := by
  refine ⟨⟨_, Tryz.func124, by kernel_rfl, by kernel_rfl⟩, fun l obs v h ho w O cl hf hc => ?_⟩
  (unfold tzS at h; split at h; rotate_left; (focus (cases h)); rename_i x; simp only [Option.some.injEq, Prod.mk.injEq] at h; obtain ⟨rfl, rfl⟩ := h; simp only [List.mem_cons, List.not_mem_nil, or_false, forall_eq_or_imp, forall_eq, false_implies, implies_true] at ho)
  subst ho
  obtain ⟨hl, hr⟩ := hc
  match cl, hl with
  | [c], _ =>
    have hc := hr 0 _ _ rfl rfl
    cases hc
    have hcell : w.cell? ⟨3, 15, none⟩ = some (.int .u8 4) := gl_cell hf.2 (List.mem_cons_of_mem _ (List.mem_cons_of_mem _ List.mem_cons_self)) rfl
    refine (tz_walk w hcell).mono fun en w' ⟨he, hw⟩ => ?_
    subst hw
    exact ⟨_, he, Ext.refl _ _, .int _ _⟩
end Go.Proofs.YtljdahepmmgfeaaGreatDoor
namespace Go.Proofs.YtljdahepmmgfeaaGreatDoor
open Go Go.RowKit
def dstr (T : TypeId → Option TI) (o : Op) (e : Env) (H : AH) : DR := match o with
  | .convert s d x => (match tdq T s, tdq T d, evA e x with
    | .slice es, .str, some v => (match tdq T es, intsOfA H .u8 v with
      | .int .u8, some (obs, l) => some (obs, .str (l.map fun n => UInt8.ofNat n.toNat), [], H.nx)
      | _, _ => none)
    | .str, .slice el, some (.str z) => (match tdq T el with
      | .int .u8 => some ([z.length ≤ 140737488355328], .sl H.nx 1 0 z.length, [(H.nx, some (.ints el .u8 (z.map fun c => (c.toNat : Int))))], H.nx + 1)
      | _ => none)
    | _, _, _ => none)
  | _ => none
def dX5 (T : TypeId → Option TI) (o : Op) (e : Env) (H : AH) : DR := match dstr T o e H with | some r => some r | none => dX4 T o e H
theorem dstr_congr {T : TypeId → Option TI} {o : Op} {e e' : Env} {H : AH} (h : ∀ x ∈ o.operands.toList, evA e x = evA e' x) : dstr T o e H = dstr T o e' H := by
  unfold dstr
  split
  · rename_i s d x
    rw [h x (by simp [Op.operands])]
  · rfl
theorem copyok5 {C : Ctx} (hC : C.X = xop4 C.T) (hD : C.DX = dX5 C.T) : CopyOK C := by
  have c4 := copyok4 (C := { C with X := xop4 C.T, DX := dX4 C.T }) rfl rfl
  refine ⟨fun o e e' H h => by
    have := c4.congr o e e' H h
    rw [hD]; unfold dX5; rw [dstr_congr h]
    show _ = (match dstr C.T o e' H with | some r => some r | none => dX4 C.T o e' H)
    rw [show dX4 C.T o e H = dX4 C.T o e' H from this], ?_⟩
  intro o e H obs v δ nx K h ho hK
  rw [hC]
  rw [hD] at h
  unfold dX5 at h
  split at h
  · rename_i r hr
    cases h
    unfold dstr at hr
    split at hr
    · rename_i s d x
      split at hr
      · rename_i es u hs hd hx
        split at hr
        · rename_i obs' l he hi
          cases hr
          have hb : rowB C.T (.convert s d x) e H = false := by
            unfold rowB
            simp only [hs, hd, hx]
          show xop4 C.T _ e H K
          unfold xop4
          rw [hb]
          show xop2 C.T _ e H K
          unfold xop2
          simp only [xsB2]
          unfold xop
          simp only [hx]
          unfold aconvX
          simp only [hs, hd, he, hi]
          exact obl_intro ho hK
        · cases hr
      · rename_i el z hs hd hx
        split at hr
        · rename_i he
          cases hr
          have hb : rowB C.T (.convert s d x) e H = true := by
            unfold rowB
            simp only [hs, hd, hx]
          show xop4 C.T _ e H K
          unfold xop4
          rw [hb]
          show rowX C.T _ e H K
          unfold rowX
          simp only [hx]
          unfold convS
          simp only [hs, hd, he]
          exact ⟨ho _ (by simp), hK⟩
        · cases hr
      · cases hr
    · cases hr
  · exact c4.out o e H obs v δ nx K h ho hK
noncomputable def mkT (p : Nat) (S : List (FuncId × PSpec)) (G : FuncId → Option GSpec) (D0 D : List (FuncId × FSpec)) (cuts : List Nat) : Ctx := ⟨p, tlook tt, slook S, dG (D0 ++ D) G, xsE (tlook tt), xop4 (tlook tt), fun i => cuts.any (Nat.beq i), dXD (D0 ++ D), dXN0 D0 D, dX5 (tlook tt)⟩
theorem mkT_ok {p : Nat} {S : List (FuncId × PSpec)} {G : FuncId → Option GSpec} {D0 D : List (FuncId × FSpec)} {cuts : List Nat} (hS : POK Tryz.prog (slook S)) (hG : ∀ g s, G g = some s → GSOK Tryz.prog g s) (hD : ∀ g FS, dlook (D0 ++ D) g = some FS → GSOK Tryz.prog g (fG FS)) : COK Tryz.prog (mkT p S G D0 D cuts) :=
  ⟨ttok, hS, gok_of ttok (xok4 ttok rfl) (fun g s h => by
    simp only [mkT, dG] at h
    split at h
    · rename_i FS hd
      cases h
      exact hD g FS hd
    · exact hG g s h), dok_of (D0 ++ D), copyok5 rfl rfl⟩
end Go.Proofs.YtljdahepmmgfeaaGreatDoor
namespace Go.Proofs.YtljdahepmmgfeaaGreatDoor
open Go Go.RowKit
set_option maxHeartbeats 4000000
def fourL (n : Int) : List Int := [n % 256, n / 256 % 256, n / 65536 % 256, n / 16777216 % 256]
theorem four_b (n : Int) : Bytes (fourL n) := fun x hx => by
  unfold fourL at hx
  simp only [List.mem_cons, List.not_mem_nil, or_false] at hx
  omega
theorem U64_hxg (x : Int) (b : List Int) : U64 (hxV x b) := U64_bv _
theorem hx_appg (a b : List Int) : hxV (hxV 0 a) b = hxV 0 (a ++ b) := by
  unfold hxV
  rw [bv_of, xor_self, fbL_app]
theorem w8m (x : Int) : IntKind.u8.wrap x = x % 256 := by
  show (let m := x % (2 ^ 8 : Int); if (false && decide (m ≥ (2 ^ (8 - 1) : Int))) = true then m - (2 ^ 8 : Int) else m) = x % 256
  simp
theorem imB {w h c : Int} {p : List Int} (hp : Bytes p) : Bytes (fourL w ++ fourL h ++ fourL c ++ p) := by
  intro x hx
  rcases List.mem_append.1 hx with hx | hx
  · rcases List.mem_append.1 hx with hx | hx
    · rcases List.mem_append.1 hx with hx | hx
      · exact four_b w x hx
      · exact four_b h x hx
    · exact four_b c x hx
  · exact hp x hx
def szL (w h c : Int) (i : Nat) : List Int := ((([w, h, c].take i).map fourL).flatten)
theorem sz_next (w h c : Int) {i : Nat} (hi : i < 3) : szL w h c (i + 1) = szL w h c i ++ fourL ([w, h, c].getD i 0) := by
  have : i = 0 ∨ i = 1 ∨ i = 2 := by omega
  rcases this with rfl | rfl | rfl <;> simp [szL]
theorem sz_3 (w h c : Int) : szL w h c 3 = fourL w ++ fourL h ++ fourL c := by simp [szL]
theorem sz_len (w h c : Int) {i : Nat} (hi : i ≤ 3) : (szL w h c i).length = 4 * i := by
  have : i = 0 ∨ i = 1 ∨ i = 2 ∨ i = 3 := by omega
  rcases this with rfl | rfl | rfl | rfl <;> simp [szL, fourL]
theorem four_len (n : Int) : (fourL n).length = 4 := rfl
theorem hx_nil0 (w h c : Int) : (0 : Int) = hxV 0 (szL w h c 0) := by
  show (0 : Int) = hxV 0 []
  decide
theorem four_eq (n : Int) : [IntKind.u8.wrap n, IntKind.u8.wrap (n.fdiv (2 ^ min (Int.toNat 8) IntKind.i64.bits)), IntKind.u8.wrap (n.fdiv (2 ^ min (Int.toNat 16) IntKind.i64.bits)), IntKind.u8.wrap (n.fdiv (2 ^ min (Int.toNat 24) IntKind.i64.bits))] = fourL n := by
  rw [show (2 : Int) ^ min (Int.toNat 8) IntKind.i64.bits = 256 from rfl, show (2 : Int) ^ min (Int.toNat 16) IntKind.i64.bits = 65536 from rfl, show (2 : Int) ^ min (Int.toNat 24) IntKind.i64.bits = 16777216 from rfl,
    Int.fdiv_eq_ediv_of_nonneg _ (by decide), Int.fdiv_eq_ediv_of_nonneg _ (by decide), Int.fdiv_eq_ediv_of_nonneg _ (by decide), w8m, w8m, w8m, w8m]
  rfl
abbrev imageHS : PSpec := fun l => match l with | [.agg [.int .i64 w, .int .i64 h, .int .i64 c, .roi .u8 p]] => some ([Bytes p, p.length ≤ 100000000], .int .u64 (dgV (fourL w ++ fourL h ++ fourL c ++ p))) | _ => none
attribute [local irreducible] hxV fourL szL
theorem imageH_s : SOK Tryz.prog 22 imageHS := by
  refine sok_of (C := mkC 0 [(40, sumHS)] (glook [(38, fG pNw), (39, fGv putSF)])) (mkC_ok (pok_cons sumH_s pok_nil) (gl_cons newH_g (gl_cons (gview writeH_g) gl_nil))) rfl mixed ⟨Tryz.func22, by kernel_rfl, by kernel_rfl, by kernel_rfl⟩ fun l obs v h ho => ?_
  (unfold imageHS at h; split at h; rotate_left; (focus (cases h)); rename_i w hh c p; simp only [Option.some.injEq, Prod.mk.injEq] at h; obtain ⟨rfl, rfl⟩ := h; simp only [List.mem_cons, List.not_mem_nil, or_false, forall_eq_or_imp, forall_eq, false_implies, implies_true] at ho)
  obtain ⟨hB, bl⟩ := ho
  refine ⟨Nat.le_of_ble_eq_true rfl, ?_⟩
  (repeat' (first | (refine xI (fun hfk => ?_) (fun hfk => ?_) <;> ((try (first | replace hfk := oT hfk | replace hfk := oF hfk | simp only [oD, ne_eq, reduceCtorEq] at hfk)); (try exact oX))) | refine And.intro oZ ?_ | exact True.intro | (show _ = _; first | exact oY | exact rfl) | exact oW | (apply And.intro)))
  (refine ⟨[], ⟨by kernel_rfl⟩, ?_⟩)
  (repeat' (first | (refine xI (fun hfk => ?_) (fun hfk => ?_) <;> ((try (first | replace hfk := oT hfk | replace hfk := oF hfk | simp only [oD, ne_eq, reduceCtorEq] at hfk)); (try exact oX))) | refine And.intro oZ ?_ | exact True.intro | (show _ = _; first | exact oY | exact rfl) | exact oW | (apply And.intro)))
  refine ⟨Nat, fun i => [(1, .ptr 0 0), (2, .int .u64 0), (3, .ptr 1 0), (4, .fn 39 1 [.ptr 1 0]), (16, .agg [.int .i64 w, .int .i64 hh, .int .i64 c]), (17, .int .i64 (i : Int))],
    fun i => ⟨2, [(0, some (.cells 42 [.int .i64 w, .int .i64 hh, .int .i64 c, .roi .u8 p])), (1, some (.cells 100 [.int .u64 (hxV 0 (szL w hh c i)), .int .i64 ((szL w hh c i).length : Int)]))]⟩,
    fun i => i ≤ 3, fun i => 3 - i, ⟨0, [some 0, some 1], Nat.zero_le _, ?_⟩, fun i hi => ?_⟩
  · have e0 : (0 : Int) = hxV 0 (szL w hh c 0) := hx_nil0 w hh c
    have e1 : (0 : Int) = ((szL w hh c 0).length : Int) := by rw [sz_len w hh c (by omega)]; rfl
    (repeat' (first | (refine And.intro ?_ ?_) | exact True.intro | (show _ = _; with_reducible rfl) | exact Chk.mk (by kernel_rfl)))
    all_goals first | rfl | exact e0 | exact e1
  have hi : i ≤ 3 := hi
  dsimp only
  have uS := U64_hxg 0 (szL w hh c i)
  have lS := sz_len w hh c hi
  by_cases hlt : i < 3
  · have ri : rngI .i64 ((i : Int) + 1) := rng64 (by omega) (by omega)
    have f4 : [IntKind.u8.wrap ([w, hh, c].getD (i : Int).toNat 0), IntKind.u8.wrap (([w, hh, c].getD (i : Int).toNat 0).fdiv (2 ^ min (Int.toNat 8) IntKind.i64.bits)), IntKind.u8.wrap (([w, hh, c].getD (i : Int).toNat 0).fdiv (2 ^ min (Int.toNat 16) IntKind.i64.bits)), IntKind.u8.wrap (([w, hh, c].getD (i : Int).toNat 0).fdiv (2 ^ min (Int.toNat 24) IntKind.i64.bits))] = fourL ([w, hh, c].getD (i : Int).toNat 0) := four_eq ([w, hh, c].getD (i : Int).toNat 0)
    have sn := sz_next w hh c hlt
    have b4 := four_b ([w, hh, c].getD (i : Int).toNat 0)
    have l4 := four_len ([w, hh, c].getD (i : Int).toNat 0)
    have t4 : (List.take 4 (List.drop 0 [IntKind.u8.wrap ([w, hh, c].getD (i : Int).toNat 0), IntKind.u8.wrap (([w, hh, c].getD (i : Int).toNat 0).fdiv (2 ^ min (Int.toNat 8) IntKind.i64.bits)), IntKind.u8.wrap (([w, hh, c].getD (i : Int).toNat 0).fdiv (2 ^ min (Int.toNat 16) IntKind.i64.bits)), IntKind.u8.wrap (([w, hh, c].getD (i : Int).toNat 0).fdiv (2 ^ min (Int.toNat 24) IntKind.i64.bits))])) = fourL ([w, hh, c].getD (i : Int).toNat 0) := by rw [f4, List.drop_zero]; exact List.take_of_length_le (by rw [l4]; exact Nat.le_refl _)
    have bT : Bytes (List.take 4 (List.drop 0 [IntKind.u8.wrap ([w, hh, c].getD (i : Int).toNat 0), IntKind.u8.wrap (([w, hh, c].getD (i : Int).toNat 0).fdiv (2 ^ min (Int.toNat 8) IntKind.i64.bits)), IntKind.u8.wrap (([w, hh, c].getD (i : Int).toNat 0).fdiv (2 ^ min (Int.toNat 16) IntKind.i64.bits)), IntKind.u8.wrap (([w, hh, c].getD (i : Int).toNat 0).fdiv (2 ^ min (Int.toNat 24) IntKind.i64.bits))])) := by rw [t4]; exact b4
    have cT : hxV (hxV 0 (szL w hh c i)) (List.take 4 (List.drop 0 [IntKind.u8.wrap ([w, hh, c].getD (i : Int).toNat 0), IntKind.u8.wrap (([w, hh, c].getD (i : Int).toNat 0).fdiv (2 ^ min (Int.toNat 8) IntKind.i64.bits)), IntKind.u8.wrap (([w, hh, c].getD (i : Int).toNat 0).fdiv (2 ^ min (Int.toNat 16) IntKind.i64.bits)), IntKind.u8.wrap (([w, hh, c].getD (i : Int).toNat 0).fdiv (2 ^ min (Int.toNat 24) IntKind.i64.bits))])) = hxV 0 (szL w hh c (i + 1)) := by rw [t4, hx_appg, sn]; rfl
    have lT : (List.take 4 (List.drop 0 [IntKind.u8.wrap ([w, hh, c].getD (i : Int).toNat 0), IntKind.u8.wrap (([w, hh, c].getD (i : Int).toNat 0).fdiv (2 ^ min (Int.toNat 8) IntKind.i64.bits)), IntKind.u8.wrap (([w, hh, c].getD (i : Int).toNat 0).fdiv (2 ^ min (Int.toNat 16) IntKind.i64.bits)), IntKind.u8.wrap (([w, hh, c].getD (i : Int).toNat 0).fdiv (2 ^ min (Int.toNat 24) IntKind.i64.bits))])).length = 4 := by rw [t4]; exact l4
    have lN := sz_len w hh c (i := i + 1) (by omega)
    have lT2 : ((szL w hh c i).length : Int) + ((List.take 4 (List.drop 0 [IntKind.u8.wrap ([w, hh, c].getD (i : Int).toNat 0), IntKind.u8.wrap (([w, hh, c].getD (i : Int).toNat 0).fdiv (2 ^ min (Int.toNat 8) IntKind.i64.bits)), IntKind.u8.wrap (([w, hh, c].getD (i : Int).toNat 0).fdiv (2 ^ min (Int.toNat 16) IntKind.i64.bits)), IntKind.u8.wrap (([w, hh, c].getD (i : Int).toNat 0).fdiv (2 ^ min (Int.toNat 24) IntKind.i64.bits))])).length : Int) = ((szL w hh c (i + 1)).length : Int) := by rw [lT, lN, lS]; omega
    clear f4 t4 sn b4 l4
    (repeat' (first | (refine xI (fun hfk => ?_) (fun hfk => ?_) <;> ((try (first | replace hfk := oT hfk | replace hfk := oF hfk | simp only [oD, ne_eq, reduceCtorEq] at hfk)); (try exact oX))) | refine And.intro oZ ?_ | exact True.intro | (show _ = _; first | exact oY | exact rfl) | exact oW | (apply And.intro)))
    (refine ⟨[1], [2], ⟨by kernel_rfl⟩, ?_⟩)
    (repeat' (first | (refine xI (fun hfk => ?_) (fun hfk => ?_) <;> ((try (first | replace hfk := oT hfk | replace hfk := oF hfk | simp only [oD, ne_eq, reduceCtorEq] at hfk)); (try exact oX))) | refine And.intro oZ ?_ | exact True.intro | (show _ = _; first | exact oY | (first | exact uS | exact bT; done) | exact rfl) | exact oW | (apply And.intro)))
    refine ⟨i + 1, [some 0, some 1], hlt, ?mu, ?_⟩
    case mu => (show 3 - (i + 1) < 3 - i; omega)
    (repeat' (first | (refine And.intro ?_ ?_) | exact True.intro | (show _ = _; with_reducible rfl) | exact Chk.mk (by kernel_rfl)))
    all_goals first | rfl | exact cT | exact lT2 | (show (_ : Int) = _; omega)
  · obtain rfl : i = 3 := by omega
    rw [sz_3]
    have uP := U64_hxg (hxV 0 (fourL w ++ fourL hh ++ fourL c)) p
    have e := hx0 (fourL w ++ fourL hh ++ fourL c ++ p)
    rw [← hx_appg] at e
    rw [sz_3] at uS lS
    (repeat' (first | (refine xI (fun hfk => ?_) (fun hfk => ?_) <;> ((try (first | replace hfk := oT hfk | replace hfk := oF hfk | simp only [oD, ne_eq, reduceCtorEq] at hfk)); (try exact oX))) | refine And.intro oZ ?_ | exact True.intro | (show _ = _; first | exact oY | exact rfl) | exact oW | (apply And.intro)))
    (refine ⟨[1], [], ⟨by kernel_rfl⟩, ?_⟩)
    (repeat' (first | (refine xI (fun hfk => ?_) (fun hfk => ?_) <;> ((try (first | replace hfk := oT hfk | replace hfk := oF hfk | simp only [oD, ne_eq, reduceCtorEq] at hfk)); (try exact oX))) | refine And.intro oZ ?_ | exact True.intro | (show _ = _; first | exact oY | (first | exact uS | exact uP | exact hB | exact e | rfl; done) | exact rfl) | exact oW | (apply And.intro)))
def xq (n : Int) (i : Nat) : Int := n % 18446744073709551616 / 256 ^ i
theorem w64m (x : Int) : IntKind.u64.wrap x = x % 18446744073709551616 := by
  show (let m := x % (2 ^ 64 : Int); if (false && decide (m ≥ (2 ^ (64 - 1) : Int))) = true then m - (2 ^ 64 : Int) else m) = x % 18446744073709551616
  simp
theorem xq_0 (n : Int) : IntKind.u64.wrap n = xq n 0 := by rw [w64m]; unfold xq; simp
theorem xq_nn (n : Int) (i : Nat) : 0 ≤ xq n i := Int.ediv_nonneg (Int.emod_nonneg _ (by decide)) (Int.le_of_lt (Int.pow_pos (by decide)))
theorem xq_rng (n : Int) (i : Nat) : rngI .u64 (xq n i) := by
  have h0 := xq_nn n i
  have h1 : xq n i ≤ n % 18446744073709551616 := Int.ediv_le_self _ (Int.emod_nonneg _ (by decide))
  exact ⟨by show (0 : Int) ≤ _; omega, by show _ ≤ (18446744073709551615 : Int); omega⟩
theorem xq_next (n : Int) (i : Nat) : (xq n i).tdiv 256 = xq n (i + 1) := by
  rw [Int.tdiv_eq_ediv_of_nonneg (xq_nn n i)]
  unfold xq
  rw [Int.ediv_ediv_of_nonneg (Int.le_of_lt (Int.pow_pos (by decide))), Int.pow_succ]
theorem xq_dig (n : Int) {i : Nat} (h : i < 4) : IntKind.u8.wrap ((xq n i).tmod 256) = (fourL n).getD i 0 := by
  rw [Int.tmod_eq_emod_of_nonneg (xq_nn n i), w8m]
  unfold xq fourL
  have : i = 0 ∨ i = 1 ∨ i = 2 ∨ i = 3 := by omega
  rcases this with rfl | rfl | rfl | rfl
  · show n % 18446744073709551616 / 1 % 256 % 256 = n % 256; omega
  · show n % 18446744073709551616 / 256 % 256 % 256 = n / 256 % 256; omega
  · show n % 18446744073709551616 / 65536 % 256 % 256 = n / 65536 % 256; omega
  · show n % 18446744073709551616 / 16777216 % 256 % 256 = n / 16777216 % 256; omega
theorem four_take (n : Int) {i : Nat} (h : i < 4) : (fourL n).take i ++ [(fourL n).getD i 0] = (fourL n).take (i + 1) := by
  have h4 := four_len n
  rw [List.take_add_one, List.getElem?_eq_getElem (by omega)]; simp [List.getD, h4, h]
def fourF : FSpec := fun l es => match l, es with
  | [.int .i64 n], [] => some ([], .sl 0 1 0 4, [some (.ints 5 .u8 (fourL n))])
  | _, _ => none
attribute [local irreducible] xq
theorem four_g : GSOK Tryz.prog 47 (fG fourF) := by
  refine fok (S := []) (G := noG) pok_nil noG_ok ⟨Tryz.func47, by kernel_rfl, by kernel_rfl, by kernel_rfl⟩ fun l es obs v es' h ho => ?_
  unfold fourF at h
  split at h
  rotate_left
  · cases h
  rename_i n
  simp only [Option.some.injEq, Prod.mk.injEq] at h
  obtain ⟨rfl, rfl, rfl⟩ := h
  refine ⟨Nat.le_of_ble_eq_true rfl, ?_⟩
  have x0 := xq_0 n
  (repeat' (first | (refine xI (fun hfk => ?_) (fun hfk => ?_) <;> ((try (first | replace hfk := oT hfk | replace hfk := oF hfk | simp only [oD, ne_eq, reduceCtorEq] at hfk)); (try exact oX))) | refine And.intro oZ ?_ | exact True.intro | (show _ = _; first | exact oY | exact rfl) | exact oW | (apply And.intro)))
  refine ⟨Nat, fun i => [(2, .nils), (3, .int .u64 (xq n i)), (4, .sl 0 1 0 i), (5, .int .i64 (i : Int))],
    fun i => ⟨1, [(0, some (.ints 5 .u8 ((fourL n).take i)))]⟩,
    fun i => i ≤ 4, fun i => 4 - i, ⟨0, [none], Nat.zero_le _, ?_⟩, fun i hi => ?_⟩
  · (repeat' (first | (refine And.intro ?_ ?_) | exact True.intro | (show _ = _; with_reducible rfl) | exact Chk.mk (by kernel_rfl)))
    all_goals first | rfl | exact x0
  have hi : i ≤ 4 := hi
  dsimp only
  have l4 := four_len n
  have lt : ((fourL n).take i).length = i := by rw [List.length_take, l4]; omega
  by_cases hlt : i < 4
  · have ri : rngI .i64 ((i : Int) + 1) := rng64 (by omega) (by omega)
    have xn := xq_next n i
    have xd := xq_dig n hlt
    have ft := four_take n hlt
    have x0 := xq_nn n i
    have xr : rngI .u64 ((xq n i).tdiv 256) := by
      rw [xn]; exact xq_rng n (i + 1)
    have qa : (fourL n).take i ++ List.take 1 (List.drop 0 [IntKind.u8.wrap ((xq n i).tmod 256)]) = (fourL n).take (i + 1) := by rw [xd, ← ft]; rfl
    have qa2 : (fourL n).take i ++ List.take 1 (List.drop 0 ((fun x => IntKind.u8.wrap ((xq n i).tmod 256) :: x) ([] : List Int))) = (fourL n).take (i + 1) := qa
    have xn2 : IntKind.u64.wrap ((xq n i).tdiv 256) = xq n (i + 1) := by rw [xn]; exact wrap_rng (xq_rng n (i + 1))
    have ll : (List.take i (fourL n)).length + (List.take 1 (List.drop 0 ((fun x => IntKind.u8.wrap ((xq n i).tmod 256) :: x) ([] : List Int)))).length = i + 1 := by rw [lt]; rfl
    clear xd ft
    (repeat' (first | (refine xI (fun hfk => ?_) (fun hfk => ?_) <;> ((try (first | replace hfk := oT hfk | replace hfk := oF hfk | simp only [oD, ne_eq, reduceCtorEq] at hfk)); (try exact oX))) | refine And.intro oZ ?_ | exact True.intro | (show _ = _; first | exact oY | (exact xr; done) | exact rfl) | exact oW | (apply And.intro)))
    refine ⟨i + 1, [some 2], hlt, ?mu, ?_⟩
    case mu => (show 4 - (i + 1) < 4 - i; omega)
    (repeat' (first | (refine And.intro ?_ ?_) | exact True.intro | (show _ = _; with_reducible rfl) | exact Chk.mk (by kernel_rfl)))
    all_goals first | rfl | exact xn2 | exact qa2 | exact ll | (show (_ : Int) = _; omega)
  · obtain rfl : i = 4 := by omega
    have f4 : (fourL n).take 4 = fourL n := List.take_of_length_le (by rw [l4]; exact Nat.le_refl _)
    rw [f4]
    (repeat' (first | (refine xI (fun hfk => ?_) (fun hfk => ?_) <;> ((try (first | replace hfk := oT hfk | replace hfk := oF hfk | simp only [oD, ne_eq, reduceCtorEq] at hfk)); (try exact oX))) | refine And.intro oZ ?_ | exact True.intro | (show _ = _; first | exact oY | exact rfl) | exact oW | (apply And.intro)))
    refine ⟨[some 0], ?_⟩
    (repeat' (first | (refine xI (fun hfk => ?_) (fun hfk => ?_) <;> ((try (first | replace hfk := oT hfk | replace hfk := oF hfk | simp only [oD, ne_eq, reduceCtorEq] at hfk)); (try exact oX))) | refine And.intro oZ ?_ | exact True.intro | (show _ = _; first | exact oY | exact rfl) | exact oW | (apply And.intro)))
theorem rimage_s : SOK Tryz.prog 27 imageHS := by
  refine sok_of (C := mkT 0 [(14, bytesHS)] (glook [(47, fG fourF)]) [] [(47, fourF)] []) (mkT_ok (pok_cons rbytes12_s pok_nil) (gl_cons four_g gl_nil) (dl_cons four_g dl_nil)) rfl mixed ⟨Tryz.func27, by kernel_rfl, by kernel_rfl, by kernel_rfl⟩ fun l obs v h ho => ?_
  (unfold imageHS at h; split at h; rotate_left; (focus (cases h)); rename_i w hh c p; simp only [Option.some.injEq, Prod.mk.injEq] at h; obtain ⟨rfl, rfl⟩ := h; simp only [List.mem_cons, List.not_mem_nil, or_false, forall_eq_or_imp, forall_eq, false_implies, implies_true] at ho)
  obtain ⟨hB, bl⟩ := ho
  refine ⟨Nat.le_of_ble_eq_true rfl, ?_⟩
  have lw := four_len w
  have lh := four_len hh
  have lc := four_len c
  have bI := imB (w := w) (h := hh) (c := c) hB
  have t4 : ∀ n, List.take 4 (List.drop 0 (fourL n)) = fourL n := fun n => by rw [List.drop_zero]; exact List.take_of_length_le (by rw [four_len]; exact Nat.le_refl _)
  have eT : (List.take ((fourL w ++ List.take 4 (List.drop 0 (fourL hh)) ++ List.take 4 (List.drop 0 (fourL c))).length + p.length) (List.drop 0 ((fourL w ++ List.take 4 (List.drop 0 (fourL hh)) ++ List.take 4 (List.drop 0 (fourL c))) ++ p))) = fourL w ++ fourL hh ++ fourL c ++ p := by
    rw [t4, t4, List.drop_zero]
    exact List.take_of_length_le (by rw [List.length_append (bs := p)]; exact Nat.le_refl _)
  have bT : Bytes (List.take ((fourL w ++ List.take 4 (List.drop 0 (fourL hh)) ++ List.take 4 (List.drop 0 (fourL c))).length + p.length) (List.drop 0 ((fourL w ++ List.take 4 (List.drop 0 (fourL hh)) ++ List.take 4 (List.drop 0 (fourL c))) ++ p))) := by rw [eT]; exact bI
  have kT : dgV (List.take ((fourL w ++ List.take 4 (List.drop 0 (fourL hh)) ++ List.take 4 (List.drop 0 (fourL c))).length + p.length) (List.drop 0 ((fourL w ++ List.take 4 (List.drop 0 (fourL hh)) ++ List.take 4 (List.drop 0 (fourL c))) ++ p))) = dgV (fourL w ++ fourL hh ++ fourL c ++ p) := by rw [eT]
  have lT : (List.take ((fourL w ++ List.take 4 (List.drop 0 (fourL hh)) ++ List.take 4 (List.drop 0 (fourL c))).length + p.length) (List.drop 0 ((fourL w ++ List.take 4 (List.drop 0 (fourL hh)) ++ List.take 4 (List.drop 0 (fourL c))) ++ p))).length ≤ 140737488355328 := by
    rw [eT]
    rw [List.length_append, List.length_append, List.length_append, lw, lh, lc]
    omega
  clear t4 eT
  (repeat' (first | (refine xI (fun hfk => ?_) (fun hfk => ?_) <;> ((try (first | replace hfk := oT hfk | replace hfk := oF hfk | simp only [oD, ne_eq, reduceCtorEq] at hfk)); (try exact oX))) | refine And.intro oZ ?_ | exact True.intro | (show _ = _; first | exact oY | exact rfl) | exact oW | (apply And.intro)))
  (refine ⟨[], ⟨by kernel_rfl⟩, ?_⟩)
  (repeat' (first | (refine xI (fun hfk => ?_) (fun hfk => ?_) <;> ((try (first | replace hfk := oT hfk | replace hfk := oF hfk | simp only [oD, ne_eq, reduceCtorEq] at hfk)); (try exact oX))) | refine And.intro oZ ?_ | exact True.intro | (show _ = _; first | exact oY | (first | exact bT | exact lT | exact kT; done) | exact rfl) | exact oW | (apply And.intro)))
structure RxI (x i y : Nat) (t : List UInt8) : Prop where
  len : t.length = i
  eq : hxN (16 - i) y ++ t = hxN 16 x
theorem rx_next {x i y : Nat} {t : List UInt8} (h : RxI x i y t) (hi : i < 16) : RxI x (i + 1) (y / 16) (hxc (y % 16) :: t) := by
  obtain ⟨h1, h2⟩ := h
  obtain ⟨n, hn⟩ : ∃ n, 16 - i = n + 1 := ⟨15 - i, by omega⟩
  rw [hn] at h2
  refine ⟨by rw [List.length_cons, h1], ?_⟩
  rw [show 16 - (i + 1) = n by omega, ← h2, show hxN (n + 1) y = hxN n (y / 16) ++ [hxc (y % 16)] from rfl, List.append_assoc]; rfl
theorem rx_end {x y : Nat} {t : List UInt8} (h : RxI x 16 y t) : t = hxN 16 x := h.eq
theorem dig16 {d : Nat} (h : d < 16) : ((([48, 49, 50, 51, 52, 53, 54, 55, 56, 57, 97, 98, 99, 100, 101, 102] : List UInt8).take (d + 1)).drop d) = [hxc d] := by
  have : d = 0 ∨ d = 1 ∨ d = 2 ∨ d = 3 ∨ d = 4 ∨ d = 5 ∨ d = 6 ∨ d = 7 ∨ d = 8 ∨ d = 9 ∨ d = 10 ∨ d = 11 ∨ d = 12 ∨ d = 13 ∨ d = 14 ∨ d = 15 := by omega
  rcases this with rfl | rfl | rfl | rfl | rfl | rfl | rfl | rfl | rfl | rfl | rfl | rfl | rfl | rfl | rfl | rfl <;> rfl
abbrev rhexS : PSpec := fun l => match l with | [.int .u64 u] => some ([U64 u], .str (hxN 16 u.toNat)) | _ => none
attribute [local irreducible] hxN
theorem rhex_s : SOK Tryz.prog 25 rhexS := by
  refine sok_of (C := mkC 0 [] noG) (mkC_ok pok_nil noG_ok) rfl mixed ⟨Tryz.func25, by kernel_rfl, by kernel_rfl, by kernel_rfl⟩ fun l obs v h ho => ?_
  (unfold rhexS at h; split at h; rotate_left; (focus (cases h)); rename_i u; simp only [Option.some.injEq, Prod.mk.injEq] at h; obtain ⟨rfl, rfl⟩ := h; simp only [List.mem_cons, List.not_mem_nil, or_false, forall_eq_or_imp, forall_eq, false_implies, implies_true] at ho)
  obtain ⟨x, rfl⟩ := Int.eq_ofNat_of_zero_le ho.lo
  rw [Int.toNat_natCast]
  refine ⟨Nat.le_of_ble_eq_true rfl, ?_⟩
  (repeat' (first | (refine xI (fun hfk => ?_) (fun hfk => ?_) <;> ((try (first | replace hfk := oT hfk | replace hfk := oF hfk | simp only [oD, ne_eq, reduceCtorEq] at hfk)); (try exact oX))) | refine And.intro oZ ?_ | exact True.intro | (show _ = _; first | exact oY | exact rfl) | exact oW | (apply And.intro)))
  refine ⟨Nat × Nat × List UInt8, fun g => [(2, .str []), (3, .str g.2.2), (4, .int .u64 (g.2.1 : Int)), (5, .int .i64 (g.1 : Int))],
    fun g => ⟨0, []⟩,
    fun g => g.1 ≤ 16 ∧ U64 (g.2.1 : Int) ∧ RxI x g.1 g.2.1 g.2.2, fun g => 16 - g.1, ⟨(0, x, []), [], ⟨Nat.zero_le _, ho, ⟨rfl, List.append_nil _⟩⟩, ?_⟩, fun g hg => ?_⟩
  · (repeat' (first | (refine And.intro ?_ ?_) | exact True.intro | (show _ = _; with_reducible rfl) | exact Chk.mk (by kernel_rfl)))
    all_goals rfl
  obtain ⟨i, y, t⟩ := g
  obtain ⟨g1, g2, g3⟩ := hg
  have g1 : i ≤ 16 := g1
  have g2 : U64 (y : Int) := g2
  have g3 : RxI x i y t := g3
  dsimp only
  by_cases hlt : i < 16
  · have ri : rngI .i64 ((i : Int) + 1) := rng64 (by omega) (by omega)
    have lt := g3.len
    have gn := rx_next g3 hlt
    have un : U64 ((y / 16 : Nat) : Int) := ⟨by omega, by have := g2.hi; omega⟩
    have em : (y : Int).tmod 16 = ((y % 16 : Nat) : Int) := rfl
    have ed : IntKind.u64.wrap ((y : Int).tdiv 16) = ((y / 16 : Nat) : Int) := by
      rw [show (y : Int).tdiv 16 = ((y / 16 : Nat) : Int) from rfl]
      exact wrap_rng ⟨by show (0 : Int) ≤ _; omega, by have := un.hi; show _ ≤ (18446744073709551615 : Int); omega⟩
    have ea : IntKind.u64.wrap ((y : Int).tmod 16 + 1) = ((y % 16 + 1 : Nat) : Int) := by
      rw [em]
      exact wrap_rng ⟨by show (0 : Int) ≤ _; omega, by show _ ≤ (18446744073709551615 : Int); omega⟩
    have eD : (List.drop ((y : Int).tmod 16).toNat (List.take (IntKind.u64.wrap ((y : Int).tmod 16 + 1)).toNat (ByteArray.mk #[48, 49, 50, 51, 52, 53, 54, 55, 56, 57, 97, 98, 99, 100, 101, 102]).data.toList)) = [hxc (y % 16)] := by
      rw [em, show IntKind.u64.wrap (((y % 16 : Nat) : Int) + 1) = ((y % 16 + 1 : Nat) : Int) from ea, Int.toNat_natCast, Int.toNat_natCast]
      exact dig16 (Nat.mod_lt y (by decide))
    have eL : (List.drop ((y : Int).tmod 16).toNat (List.take (IntKind.u64.wrap ((y : Int).tmod 16 + 1)).toNat (ByteArray.mk #[48, 49, 50, 51, 52, 53, 54, 55, 56, 57, 97, 98, 99, 100, 101, 102]).data.toList)) ++ t = hxc (y % 16) :: t := by rw [eD]; rfl
    have lD : (((List.drop ((y : Int).tmod 16).toNat (List.take (IntKind.u64.wrap ((y : Int).tmod 16 + 1)).toNat (ByteArray.mk #[48, 49, 50, 51, 52, 53, 54, 55, 56, 57, 97, 98, 99, 100, 101, 102]).data.toList)).length + t.length : Nat) : Int) ≤ IntKind.i64.max := by
      rw [eD, lt]
      show ((1 + i : Nat) : Int) ≤ (9223372036854775807 : Int)
      omega
    have p0 : 0 ≤ (y : Int).tmod 16 := by rw [em]; omega
    have p1 : (y : Int).tmod 16 ≤ IntKind.u64.wrap ((y : Int).tmod 16 + 1) := by rw [ea, em]; omega
    have p2 : IntKind.u64.wrap ((y : Int).tmod 16 + 1) ≤ ((ByteArray.mk #[48, 49, 50, 51, 52, 53, 54, 55, 56, 57, 97, 98, 99, 100, 101, 102]).data.toList.length : Int) := by rw [ea]; show _ ≤ (16 : Int); omega
    clear eD em ea
    (repeat' (first | (refine xI (fun hfk => ?_) (fun hfk => ?_) <;> ((try (first | replace hfk := oT hfk | replace hfk := oF hfk | simp only [oD, ne_eq, reduceCtorEq] at hfk)); (try exact oX))) | refine And.intro oZ ?_ | exact True.intro | (show _ = _; first | exact oY | (first | exact lD | exact p0 | exact p1 | exact p2; done) | exact rfl) | exact oW | (apply And.intro)))
    refine ⟨(i + 1, y / 16, hxc (y % 16) :: t), [], ⟨hlt, un, gn⟩, ?mu, ?_⟩
    case mu => (show 16 - (i + 1) < 16 - i; omega)
    (repeat' (first | (refine And.intro ?_ ?_) | exact True.intro | (show _ = _; with_reducible rfl) | exact Chk.mk (by kernel_rfl)))
    all_goals first | rfl | exact ed | exact eL | (show (_ : Int) = _; omega)
  · obtain rfl : i = 16 := by omega
    have e : t = hxN 16 x := rx_end g3
    (repeat' (first | (refine xI (fun hfk => ?_) (fun hfk => ?_) <;> ((try (first | replace hfk := oT hfk | replace hfk := oF hfk | simp only [oD, ne_eq, reduceCtorEq] at hfk)); (try exact oX))) | refine And.intro oZ ?_ | exact True.intro | (show _ = _; first | exact oY | (first | exact e | exact e.symm; done) | exact rfl) | exact oW | (apply And.intro)))
end Go.Proofs.YtljdahepmmgfeaaGreatDoor

