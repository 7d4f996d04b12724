/- Texts laid together. No condition. -/
import Derived.Test.YtocboijpmmlegaaDoorS4
set_option maxRecDepth 100000
set_option linter.unusedVariables false
set_option linter.unusedSimpArgs false
namespace Go.Proofs.YtocboijpmmlegaaDoor
open Go Go.RowKit
set_option maxHeartbeats 16000000
noncomputable def rpCx : Ctx := mkK 0 [(60, strideS), (29, leftS), (58, hformS), (59, hshapeS), (61, hsumsS), (62, hdownS)] (glook [(27, fG newcF), (57, fG takeHF), (30, fG takeF), (63, fG turnF)]) [2, 7, 10, 24, 25]
theorem rpCx_ok : COK Tryd.prog rpCx := mkK_ok (pok_cons stride_s (pok_cons left_s (pok_cons hform_s (pok_cons hshape_s (pok_cons hsums_s (pok_cons hdown_s pok_nil)))))) (gl_cons newc_g (gl_cons takeH_g (gl_cons take_g (gl_cons turn_g gl_nil))))
theorem tk_bad1 {b : List Int} (hb : Byt b) (h : tkC b ≠ 0) : vcFn rpCx Tryd.f37 [.roi .u8 b] ⟨0, []⟩ (Ret (.tup [imA (rdK b (hW b)) (rdK b (hrV (hH0 b))) (rdK b (hCn b)) (rdL b), .int .i64 (rdE b)])) := by
  have bl := hb.le
  have e1 : hdE b = tkC b := by rw [hd_take, if_pos h]
  have e : rdE b = tkC b := by unfold rdE; rw [e1, if_pos h]
  obtain ⟨z1, z2⟩ := rd_bad (b := b) (by rw [e]; exact h)
  rw [z1, z1, z1, z2, e]
  (repeat' (first | (refine xI (fun hfk => ?_) (fun hfk => ?_) <;> ((try (first | replace hfk := oT hfk | replace hfk := oF hfk | simp only [oA, oB, dh1, dh0, ne_eq, reduceCtorEq] at hfk)); (try exact oX))) | (refine And.intro ?ob ?_; (case ob => (exact oZ))) | exact True.intro | (show _ = _; first | exact oY | (exact hb; done) | exact rfl) | exact oW | (apply And.intro)))
  (refine ⟨[], ⟨by kernel_rfl⟩, ?_⟩)
  (repeat' (first | (refine xI (fun hfk => ?_) (fun hfk => ?_) <;> ((try (first | replace hfk := oT hfk | replace hfk := oF hfk | simp only [oA, oB, dh1, dh0, ne_eq, reduceCtorEq] at hfk)); (try exact oX))) | (refine And.intro ?ob ?_; (case ob => (exact oZ))) | exact True.intro | (show _ = _; first | exact oY | (exact hb; done) | exact rfl) | exact oW | (apply And.intro)))
  (refine ⟨[3, 1, 2], ⟨by kernel_rfl⟩, ?_⟩)
  (repeat' (first | (refine xI (fun hfk => ?_) (fun hfk => ?_) <;> ((try (first | replace hfk := oT hfk | replace hfk := oF hfk | simp only [oA, oB, dh1, dh0, ne_eq, reduceCtorEq] at hfk)); (try exact oX))) | (refine And.intro ?ob ?_; (case ob => (exact oZ))) | exact True.intro | (show _ = _; first | exact oY | (exact hb; done) | exact rfl) | exact oW | (apply And.intro)))
  refine ⟨[(0, .roi .u8 b), (2, .ptr 0 0), (4, .ptr 1 0), (5, .ptr 3 0), (6, .int .i64 (tkC b))], ⟨4, [(0, some (.cells 24 [.int .i64 0, .int .i64 0, .int .i64 0, .nils])), (1, some (.cells 69 [.sl 2 1 0 b.length, .int .i64 (tkA b)])), (2, some (bE b)), (3, some (.cells 89 [.int .u32 (if tkC b = 0 then lw b 2 4 else 0), .int .u32 (if tkC b = 0 then lw b 6 4 else 0), .int .u32 (if tkC b = 0 then lw b 10 4 else 0), .int .u32 (if tkC b = 0 then lw b 14 4 else 0), .int .u32 (if tkC b = 0 then lw b 18 4 else 0), .int .u32 (if tkC b = 0 then lw b 22 4 else 0), .int .u32 (if tkC b = 0 then lw b 26 2 else 0), .int .u32 (if tkC b = 0 then lw b 28 2 else 0), .int .u32 (if tkC b = 0 then lw b 30 4 else 0), .int .u32 (if tkC b = 0 then lw b 34 4 else 0), .int .u32 (if tkC b = 0 then lw b 38 4 else 0), .int .u32 (if tkC b = 0 then lw b 42 4 else 0), .int .u32 (if tkC b = 0 then lw b 46 4 else 0), .int .u32 (if tkC b = 0 then lw b 50 4 else 0)]))]⟩, [some 0, some 1, some 2, some 3], ?_, ?_⟩
  · (repeat' (first | (refine And.intro ?_ ?_) | exact True.intro | (show _ = _; with_reducible rfl) | exact Chk.mk (by kernel_rfl)))
    all_goals first | rfl
  (repeat' (first | (refine xI (fun hfk => ?_) (fun hfk => ?_) <;> ((try (first | replace hfk := oT hfk | replace hfk := oF hfk | simp only [oA, oB, dh1, dh0, ne_eq, reduceCtorEq] at hfk)); (try exact oX))) | (refine And.intro ?ob ?_; (case ob => (exact oZ))) | exact True.intro | (show _ = _; first | exact oY | (rfl; done) | exact rfl) | exact oW | (apply And.intro)))
theorem tk_bad2 {b : List Int} (hb : Byt b) (hk : tkC b = 0) (h : hdE b ≠ 0) : vcFn rpCx Tryd.f37 [.roi .u8 b] ⟨0, []⟩ (Ret (.tup [imA (rdK b (hW b)) (rdK b (hrV (hH0 b))) (rdK b (hCn b)) (rdL b), .int .i64 (rdE b)])) := by
  have bl := hb.le
  have hH : ∀ F : Int, (if tkC b = 0 then F else 0) = F := fun F => if_pos hk
  have hA : tkA b = 54 := by unfold tkC at hk; unfold tkA; split at hk; · rename_i k; exact absurd hk k
                             rename_i k; rw [if_neg k]; split at hk; · cases hk
                             rename_i k2; rw [if_neg k2]
  have hl54 : 54 ≤ b.length := by unfold tkC at hk; split at hk; · rename_i k; exact absurd hk k
                                  split at hk; · cases hk
                                  omega
  have e1 : hdE b = if fmP (lw b 6 4) (lw b 10 4) (lw b 14 4) (lw b 26 2) (lw b 28 2) (lw b 30 4) (lw b 46 4) (lw b 50 4) then 0 else 21 := by rw [hd_take, if_neg (fun k => k hk)]
  have hf : ¬ fmP (lw b 6 4) (lw b 10 4) (lw b 14 4) (lw b 26 2) (lw b 28 2) (lw b 30 4) (lw b 46 4) (lw b 50 4) := fun k => h (by rw [e1, if_pos k])
  have e : rdE b = 21 := by unfold rdE; rw [if_pos h, e1, if_neg hf]
  obtain ⟨z1, z2⟩ := rd_bad (b := b) (by rw [e]; decide)
  rw [z1, z1, z1, z2, e]
  (repeat' (first | (refine xI (fun hfk => ?_) (fun hfk => ?_) <;> ((try (first | replace hfk := oT hfk | replace hfk := oF hfk | simp only [oA, oB, dh1, dh0, ne_eq, reduceCtorEq] at hfk)); (try exact oX))) | (refine And.intro ?ob ?_; (case ob => (exact oZ))) | exact True.intro | (show _ = _; first | exact oY | (exact hb; done) | exact rfl) | exact oW | (apply And.intro)))
  (refine ⟨[], ⟨by kernel_rfl⟩, ?_⟩)
  (repeat' (first | (refine xI (fun hfk => ?_) (fun hfk => ?_) <;> ((try (first | replace hfk := oT hfk | replace hfk := oF hfk | simp only [oA, oB, dh1, dh0, ne_eq, reduceCtorEq] at hfk)); (try exact oX))) | (refine And.intro ?ob ?_; (case ob => (exact oZ))) | exact True.intro | (show _ = _; first | exact oY | (exact hb; done) | exact rfl) | exact oW | (apply And.intro)))
  (refine ⟨[3, 1, 2], ⟨by kernel_rfl⟩, ?_⟩)
  (repeat' (first | (refine xI (fun hfk => ?_) (fun hfk => ?_) <;> ((try (first | replace hfk := oT hfk | replace hfk := oF hfk | simp only [oA, oB, dh1, dh0, ne_eq, reduceCtorEq] at hfk)); (try exact oX))) | (refine And.intro ?ob ?_; (case ob => (exact oZ))) | exact True.intro | (show _ = _; first | exact oY | (exact hb; done) | exact rfl) | exact oW | (apply And.intro)))
  refine ⟨[(0, .roi .u8 b), (2, .ptr 0 0), (4, .ptr 1 0), (5, .ptr 3 0), (6, .int .i64 0)], ⟨4, [(0, some (.cells 24 [.int .i64 0, .int .i64 0, .int .i64 0, .nils])), (1, some (.cells 69 [.sl 2 1 0 b.length, .int .i64 54])), (2, some (bE b)), (3, some (.cells 89 [.int .u32 (lw b 2 4), .int .u32 (lw b 6 4), .int .u32 (lw b 10 4), .int .u32 (lw b 14 4), .int .u32 (lw b 18 4), .int .u32 (lw b 22 4), .int .u32 (lw b 26 2), .int .u32 (lw b 28 2), .int .u32 (lw b 30 4), .int .u32 (lw b 34 4), .int .u32 (lw b 38 4), .int .u32 (lw b 42 4), .int .u32 (lw b 46 4), .int .u32 (lw b 50 4)]))]⟩, [some 0, some 1, some 2, some 3], ?_, ?_⟩
  · (repeat' (first | (refine And.intro ?_ ?_) | exact True.intro | (show _ = _; with_reducible rfl) | exact Chk.mk (by kernel_rfl)))
    all_goals first | exact hk | exact hA | exact hH _ | rfl
  (repeat' (first | (refine xI (fun hfk => ?_) (fun hfk => ?_) <;> ((try (first | replace hfk := oT hfk | replace hfk := oF hfk | simp only [oA, oB, dh1, dh0, ne_eq, reduceCtorEq] at hfk)); (try exact oX))) | (refine And.intro ?ob ?_; (case ob => (exact oZ))) | exact True.intro | (show _ = _; first | exact oY | (rfl; done) | exact rfl) | exact oW | (apply And.intro)))
theorem tk_bad3 {b : List Int} (hb : Byt b) (hk : tkC b = 0) (h : hdE b = 0) (hs : shC (hW b) (hrV (hH0 b)) ≠ 0) : vcFn rpCx Tryd.f37 [.roi .u8 b] ⟨0, []⟩ (Ret (.tup [imA (rdK b (hW b)) (rdK b (hrV (hH0 b))) (rdK b (hCn b)) (rdL b), .int .i64 (rdE b)])) := by
  have bl := hb.le
  have hH : ∀ F : Int, (if tkC b = 0 then F else 0) = F := fun F => if_pos hk
  have hA : tkA b = 54 := by unfold tkC at hk; unfold tkA; split at hk; · rename_i k; exact absurd hk k
                             rename_i k; rw [if_neg k]; split at hk; · cases hk
                             rename_i k2; rw [if_neg k2]
  have hl54 : 54 ≤ b.length := by unfold tkC at hk; split at hk; · rename_i k; exact absurd hk k
                                  split at hk; · cases hk
                                  omega
  have hd := h
  obtain ⟨_, _, k6, k7, k8⟩ := hd_inv hd
  have hf : fmP (lw b 6 4) (lw b 10 4) (lw b 14 4) (lw b 26 2) (lw b 28 2) (lw b 30 4) (lw b 46 4) (lw b 50 4) := by
    obtain ⟨a1, a2, a3, a4, a5, a6, a7⟩ := k7
    exact ⟨a1, a5, a6, a7, a2, a3, a4, k8⟩
  have wb := lw_bd hb (a := 18) (n := 4) (by decide)
  have hb0 := lw_bd hb (a := 22) (n := 4) (by decide)
  obtain ⟨w0, w1⟩ := wb
  obtain ⟨h0, h1⟩ := hb0
  have e : rdE b = shC (hW b) (hrV (hH0 b)) := by unfold rdE; rw [if_neg (fun k => k h), if_pos hs]
  obtain ⟨z1, z2⟩ := rd_bad (b := b) (by rw [e]; exact hs)
  rw [z1, z1, z1, z2, e]
  have hs' : ¬ shC (lw b 18 4) (hrV (lw b 22 4)) = 0 := hs
  (repeat' (first | (refine xI (fun hfk => ?_) (fun hfk => ?_) <;> ((try (first | replace hfk := oT hfk | replace hfk := oF hfk | simp only [oA, oB, dh1, dh0, ne_eq, reduceCtorEq] at hfk)); (try exact oX))) | (refine And.intro ?ob ?_; (case ob => (exact oZ))) | exact True.intro | (show _ = _; first | exact oY | (exact hb; done) | exact rfl) | exact oW | (apply And.intro)))
  (refine ⟨[], ⟨by kernel_rfl⟩, ?_⟩)
  (repeat' (first | (refine xI (fun hfk => ?_) (fun hfk => ?_) <;> ((try (first | replace hfk := oT hfk | replace hfk := oF hfk | simp only [oA, oB, dh1, dh0, ne_eq, reduceCtorEq] at hfk)); (try exact oX))) | (refine And.intro ?ob ?_; (case ob => (exact oZ))) | exact True.intro | (show _ = _; first | exact oY | (exact hb; done) | exact rfl) | exact oW | (apply And.intro)))
  (refine ⟨[3, 1, 2], ⟨by kernel_rfl⟩, ?_⟩)
  (repeat' (first | (refine xI (fun hfk => ?_) (fun hfk => ?_) <;> ((try (first | replace hfk := oT hfk | replace hfk := oF hfk | simp only [oA, oB, dh1, dh0, ne_eq, reduceCtorEq] at hfk)); (try exact oX))) | (refine And.intro ?ob ?_; (case ob => (exact oZ))) | exact True.intro | (show _ = _; first | exact oY | (exact hb; done) | exact rfl) | exact oW | (apply And.intro)))
  refine ⟨[(0, .roi .u8 b), (2, .ptr 0 0), (4, .ptr 1 0), (5, .ptr 3 0), (6, .int .i64 0)], ⟨4, [(0, some (.cells 24 [.int .i64 0, .int .i64 0, .int .i64 0, .nils])), (1, some (.cells 69 [.sl 2 1 0 b.length, .int .i64 54])), (2, some (bE b)), (3, some (.cells 89 [.int .u32 (lw b 2 4), .int .u32 (lw b 6 4), .int .u32 (lw b 10 4), .int .u32 (lw b 14 4), .int .u32 (lw b 18 4), .int .u32 (lw b 22 4), .int .u32 (lw b 26 2), .int .u32 (lw b 28 2), .int .u32 (lw b 30 4), .int .u32 (lw b 34 4), .int .u32 (lw b 38 4), .int .u32 (lw b 42 4), .int .u32 (lw b 46 4), .int .u32 (lw b 50 4)]))]⟩, [some 0, some 1, some 2, some 3], ?_, ?_⟩
  · (repeat' (first | (refine And.intro ?_ ?_) | exact True.intro | (show _ = _; with_reducible rfl) | exact Chk.mk (by kernel_rfl)))
    all_goals first | exact hk | exact hA | exact hH _ | rfl
  (repeat' (first | (refine xI (fun hfk => ?_) (fun hfk => ?_) <;> ((try (first | replace hfk := oT hfk | replace hfk := oF hfk | simp only [oA, oB, dh1, dh0, ne_eq, reduceCtorEq] at hfk)); (try exact oX))) | (refine And.intro ?ob ?_; (case ob => (exact oZ))) | exact True.intro | (show _ = _; first | exact oY | (rfl; done) | exact rfl) | exact oW | (apply And.intro)))
  refine ⟨[(0, .roi .u8 b), (2, .ptr 0 0), (4, .ptr 1 0), (5, .ptr 3 0), (7, .ptr 4 0), (8, .int .i64 (shC (lw b 18 4) (hrV (lw b 22 4))))], ⟨5, [(0, some (.cells 24 [.int .i64 0, .int .i64 0, .int .i64 0, .nils])), (1, some (.cells 69 [.sl 2 1 0 b.length, .int .i64 54])), (2, some (bE b)), (3, some (.cells 89 [.int .u32 (lw b 2 4), .int .u32 (lw b 6 4), .int .u32 (lw b 10 4), .int .u32 (lw b 14 4), .int .u32 (lw b 18 4), .int .u32 (lw b 22 4), .int .u32 (lw b 26 2), .int .u32 (lw b 28 2), .int .u32 (lw b 30 4), .int .u32 (lw b 34 4), .int .u32 (lw b 38 4), .int .u32 (lw b 42 4), .int .u32 (lw b 46 4), .int .u32 (lw b 50 4)])), (4, some (.cells 24 [.int .i64 0, .int .i64 0, .int .i64 0, .nils]))]⟩, [some 0, some 1, some 2, some 3, some 4], ?_, ?_⟩
  · have i0 : ∀ x, shI (shC (lw b 18 4) (hrV (lw b 22 4))) x = 0 := fun x => if_neg hs
    (repeat' (first | (refine And.intro ?_ ?_) | exact True.intro | (show _ = _; with_reducible rfl) | exact Chk.mk (by kernel_rfl)))
    all_goals first | exact i0 _ | rfl
  (repeat' (first | (refine xI (fun hfk => ?_) (fun hfk => ?_) <;> ((try (first | replace hfk := oT hfk | replace hfk := oF hfk | simp only [oA, oB, dh1, dh0, ne_eq, reduceCtorEq] at hfk)); (try exact oX))) | (refine And.intro ?ob ?_; (case ob => (exact oZ))) | exact True.intro | (show _ = _; first | exact oY | (rfl; done) | exact rfl) | exact oW | (apply And.intro)))
theorem tk_bad4 {b : List Int} (hb : Byt b) (hk : tkC b = 0) (h : hdE b = 0) (hs : shC (hW b) (hrV (hH0 b)) = 0) (hn : rdE b ≠ 0) : vcFn rpCx Tryd.f37 [.roi .u8 b] ⟨0, []⟩ (Ret (.tup [imA (rdK b (hW b)) (rdK b (hrV (hH0 b))) (rdK b (hCn b)) (rdL b), .int .i64 (rdE b)])) := by
  have bl := hb.le
  have hH : ∀ F : Int, (if tkC b = 0 then F else 0) = F := fun F => if_pos hk
  have hA : tkA b = 54 := by unfold tkC at hk; unfold tkA; split at hk; · rename_i k; exact absurd hk k
                             rename_i k; rw [if_neg k]; split at hk; · cases hk
                             rename_i k2; rw [if_neg k2]
  have hl54 : 54 ≤ b.length := by unfold tkC at hk; split at hk; · rename_i k; exact absurd hk k
                                  split at hk; · cases hk
                                  omega
  have hd := h
  obtain ⟨_, _, k6, k7, k8⟩ := hd_inv hd
  have hf : fmP (lw b 6 4) (lw b 10 4) (lw b 14 4) (lw b 26 2) (lw b 28 2) (lw b 30 4) (lw b 46 4) (lw b 50 4) := by
    obtain ⟨a1, a2, a3, a4, a5, a6, a7⟩ := k7
    exact ⟨a1, a5, a6, a7, a2, a3, a4, k8⟩
  have wb := lw_bd hb (a := 18) (n := 4) (by decide)
  have hb0 := lw_bd hb (a := 22) (n := 4) (by decide)
  obtain ⟨w0, w1⟩ := wb
  obtain ⟨h0, h1⟩ := hb0
  have hrb := hr_bd h0 h1
  obtain ⟨hw1, hw2, hh1, hh2, hwh⟩ := sh_inv (w := hW b) (r := hrV (hH0 b)) w0 hrb.1 hs
  obtain ⟨W, gw⟩ : ∃ W : Nat, hW b = W := ⟨(hW b).toNat, by omega⟩
  obtain ⟨H, gh⟩ : ∃ H : Nat, hrV (hH0 b) = H := ⟨(hrV (hH0 b)).toNat, by omega⟩
  obtain ⟨c, gc, c34⟩ : ∃ c : Nat, hCn b = c ∧ (c = 3 ∨ c = 4) := by
    unfold hCn
    rcases k8 with k | k
    · exact ⟨3, by rw [k]; rfl, .inl rfl⟩
    · exact ⟨4, by rw [k]; rfl, .inr rfl⟩
  rw [gw] at hw1 hw2 hwh
  rw [gh] at hh1 hh2 hwh
  have cwh : ((W * H : Nat) : Int) = (W : Int) * (H : Int) := Int.natCast_mul _ _
  have cwc : ((W * c : Nat) : Int) = (W : Int) * (c : Int) := Int.natCast_mul _ _
  have wcb : 3 ≤ W * c ∧ W * c ≤ 131072 := by rcases c34 with k | k <;> subst k <;> omega
  obtain ⟨st, gst⟩ : ∃ st : Nat, up4 ((W : Int) * (c : Int)) = st := ⟨(up4 ((W : Int) * (c : Int))).toNat, by have := up4_bd ((W : Int) * (c : Int)); omega⟩
  have ub := up4_bd ((W : Int) * (c : Int))
  rw [gst, ← cwc] at ub
  obtain ⟨ub1, ub2, _⟩ := ub
  have sv : strV (W : Int) (c : Int) = (st : Int) := by
    unfold strV
    rw [if_neg (by omega)]; exact gst
  have chs : ((H * st : Nat) : Int) = (st : Int) * (H : Int) := by rw [Int.natCast_mul, Int.mul_comm]
  have hsb : H * st ≤ 32768 * 131075 := Nat.mul_le_mul (by omega) (by omega)
  have qn : rngI .i64 ((st : Int) * (H : Int)) := by rw [← chs]; exact rng64 (by omega) (by omega)
  have gN : hNn b = ((H * st : Nat) : Int) := by unfold hNn; rw [gw, gc, gst, gh, chs]
  have hs' : shC (lw b 18 4) (hrV (lw b 22 4)) = 0 := hs
  have i0 : ∀ x, shI (shC (lw b 18 4) (hrV (lw b 22 4))) x = x := fun x => if_pos hs
  have gw' : shI (shC (lw b 18 4) (hrV (lw b 22 4))) (lw b 18 4) = (W : Int) := by rw [i0]; exact gw
  have gh' : shI (shC (lw b 18 4) (hrV (lw b 22 4))) (hrV (lw b 22 4)) = (H : Int) := by rw [i0]; exact gh
  have gc' : shI (shC (lw b 18 4) (hrV (lw b 22 4))) (lw b 28 2 / 8) = (c : Int) := by rw [i0]; exact gc
  have e0 : rdE b = if (b.length : Int) - 54 < hNn b then 20 else if hNn b < (b.length : Int) - 54 then 22 else if lw b 2 4 = b.length ∧ (lw b 34 4 = 0 ∨ lw b 34 4 = hNn b) then 0 else 21 := by
    unfold rdE; rw [if_neg (fun k => k h), if_neg (fun k => k hs)]
  rw [gN] at e0
  have : (List.take (b).length (List.drop 0 (b))).length = (b).length := by simp
  obtain ⟨z1, z2⟩ := rd_bad hn
  rw [z1, z1, z1, z2]
  by_cases a1 : (b.length : Int) - 54 < ((H * st : Nat) : Int)
  · rw [e0, if_pos a1]
    rw [chs] at a1
    (repeat' (first | (refine xI (fun hfk => ?_) (fun hfk => ?_) <;> ((try (first | replace hfk := oT hfk | replace hfk := oF hfk | simp only [oA, oB, dh1, dh0, ne_eq, reduceCtorEq] at hfk)); (try exact oX))) | (refine And.intro ?ob ?_; (case ob => (exact oZ))) | exact True.intro | (show _ = _; first | exact oY | (exact hb; done) | exact rfl) | exact oW | (apply And.intro)))
    (refine ⟨[], ⟨by kernel_rfl⟩, ?_⟩)
    (repeat' (first | (refine xI (fun hfk => ?_) (fun hfk => ?_) <;> ((try (first | replace hfk := oT hfk | replace hfk := oF hfk | simp only [oA, oB, dh1, dh0, ne_eq, reduceCtorEq] at hfk)); (try exact oX))) | (refine And.intro ?ob ?_; (case ob => (exact oZ))) | exact True.intro | (show _ = _; first | exact oY | (exact hb; done) | exact rfl) | exact oW | (apply And.intro)))
    (refine ⟨[3, 1, 2], ⟨by kernel_rfl⟩, ?_⟩)
    (repeat' (first | (refine xI (fun hfk => ?_) (fun hfk => ?_) <;> ((try (first | replace hfk := oT hfk | replace hfk := oF hfk | simp only [oA, oB, dh1, dh0, ne_eq, reduceCtorEq] at hfk)); (try exact oX))) | (refine And.intro ?ob ?_; (case ob => (exact oZ))) | exact True.intro | (show _ = _; first | exact oY | (exact hb; done) | exact rfl) | exact oW | (apply And.intro)))
    refine ⟨[(0, .roi .u8 b), (2, .ptr 0 0), (4, .ptr 1 0), (5, .ptr 3 0), (6, .int .i64 0)], ⟨4, [(0, some (.cells 24 [.int .i64 0, .int .i64 0, .int .i64 0, .nils])), (1, some (.cells 69 [.sl 2 1 0 b.length, .int .i64 54])), (2, some (bE b)), (3, some (.cells 89 [.int .u32 (lw b 2 4), .int .u32 (lw b 6 4), .int .u32 (lw b 10 4), .int .u32 (lw b 14 4), .int .u32 (lw b 18 4), .int .u32 (lw b 22 4), .int .u32 (lw b 26 2), .int .u32 (lw b 28 2), .int .u32 (lw b 30 4), .int .u32 (lw b 34 4), .int .u32 (lw b 38 4), .int .u32 (lw b 42 4), .int .u32 (lw b 46 4), .int .u32 (lw b 50 4)]))]⟩, [some 0, some 1, some 2, some 3], ?_, ?_⟩
    · (repeat' (first | (refine And.intro ?_ ?_) | exact True.intro | (show _ = _; with_reducible rfl) | exact Chk.mk (by kernel_rfl)))
      all_goals first | exact hk | exact hA | exact hH _ | rfl
    (repeat' (first | (refine xI (fun hfk => ?_) (fun hfk => ?_) <;> ((try (first | replace hfk := oT hfk | replace hfk := oF hfk | simp only [oA, oB, dh1, dh0, ne_eq, reduceCtorEq] at hfk)); (try exact oX))) | (refine And.intro ?ob ?_; (case ob => (exact oZ))) | exact True.intro | (show _ = _; first | exact oY | (rfl; done) | exact rfl) | exact oW | (apply And.intro)))
    refine ⟨[(0, .roi .u8 b), (2, .ptr 0 0), (4, .ptr 1 0), (5, .ptr 3 0), (7, .ptr 4 0), (8, .int .i64 0)], ⟨5, [(0, some (.cells 24 [.int .i64 0, .int .i64 0, .int .i64 0, .nils])), (1, some (.cells 69 [.sl 2 1 0 b.length, .int .i64 54])), (2, some (bE b)), (3, some (.cells 89 [.int .u32 (lw b 2 4), .int .u32 (lw b 6 4), .int .u32 (lw b 10 4), .int .u32 (lw b 14 4), .int .u32 (lw b 18 4), .int .u32 (lw b 22 4), .int .u32 (lw b 26 2), .int .u32 (lw b 28 2), .int .u32 (lw b 30 4), .int .u32 (lw b 34 4), .int .u32 (lw b 38 4), .int .u32 (lw b 42 4), .int .u32 (lw b 46 4), .int .u32 (lw b 50 4)])), (4, some (.cells 24 [.int .i64 (W : Int), .int .i64 (H : Int), .int .i64 (c : Int), .nils]))]⟩, [some 0, some 1, some 2, some 3, some 4], ?_, ?_⟩
    · (repeat' (first | (refine And.intro ?_ ?_) | exact True.intro | (show _ = _; with_reducible rfl) | exact Chk.mk (by kernel_rfl)))
      all_goals first | exact hs' | exact gw' | exact gh' | exact gc' | rfl
    (repeat' (first | (refine xI (fun hfk => ?_) (fun hfk => ?_) <;> ((try (first | replace hfk := oT hfk | replace hfk := oF hfk | simp only [oA, oB, dh1, dh0, ne_eq, reduceCtorEq] at hfk)); (try exact oX))) | (refine And.intro ?ob ?_; (case ob => (exact oZ))) | exact True.intro | (show _ = _; first | exact oY | (rfl; done) | exact rfl) | exact oW | (apply And.intro)))
    refine ⟨[(0, .roi .u8 b), (2, .ptr 0 0), (4, .ptr 1 0), (5, .ptr 3 0), (7, .ptr 4 0), (9, .int .i64 (st : Int))], ⟨5, [(0, some (.cells 24 [.int .i64 0, .int .i64 0, .int .i64 0, .nils])), (1, some (.cells 69 [.sl 2 1 0 b.length, .int .i64 54])), (2, some (bE b)), (3, some (.cells 89 [.int .u32 (lw b 2 4), .int .u32 (lw b 6 4), .int .u32 (lw b 10 4), .int .u32 (lw b 14 4), .int .u32 (lw b 18 4), .int .u32 (lw b 22 4), .int .u32 (lw b 26 2), .int .u32 (lw b 28 2), .int .u32 (lw b 30 4), .int .u32 (lw b 34 4), .int .u32 (lw b 38 4), .int .u32 (lw b 42 4), .int .u32 (lw b 46 4), .int .u32 (lw b 50 4)])), (4, some (.cells 24 [.int .i64 (W : Int), .int .i64 (H : Int), .int .i64 (c : Int), .nils]))]⟩, [some 0, some 1, some 2, some 3, some 4], ?_, ?_⟩
    · (repeat' (first | (refine And.intro ?_ ?_) | exact True.intro | (show _ = _; with_reducible rfl) | exact Chk.mk (by kernel_rfl)))
      all_goals first | exact sv | rfl
    (repeat' (first | (refine xI (fun hfk => ?_) (fun hfk => ?_) <;> ((try (first | replace hfk := oT hfk | replace hfk := oF hfk | simp only [oA, oB, dh1, dh0, ne_eq, reduceCtorEq] at hfk)); (try exact oX))) | (refine And.intro ?ob ?_; (case ob => (exact oZ))) | exact True.intro | (show _ = _; first | exact oY | (rfl; done) | exact rfl) | exact oW | (apply And.intro)))
  rw [if_neg a1] at e0
  by_cases a2 : ((H * st : Nat) : Int) < (b.length : Int) - 54
  · rw [e0, if_pos a2]
    rw [chs] at a1 a2
    (repeat' (first | (refine xI (fun hfk => ?_) (fun hfk => ?_) <;> ((try (first | replace hfk := oT hfk | replace hfk := oF hfk | simp only [oA, oB, dh1, dh0, ne_eq, reduceCtorEq] at hfk)); (try exact oX))) | (refine And.intro ?ob ?_; (case ob => (exact oZ))) | exact True.intro | (show _ = _; first | exact oY | (exact hb; done) | exact rfl) | exact oW | (apply And.intro)))
    (refine ⟨[], ⟨by kernel_rfl⟩, ?_⟩)
    (repeat' (first | (refine xI (fun hfk => ?_) (fun hfk => ?_) <;> ((try (first | replace hfk := oT hfk | replace hfk := oF hfk | simp only [oA, oB, dh1, dh0, ne_eq, reduceCtorEq] at hfk)); (try exact oX))) | (refine And.intro ?ob ?_; (case ob => (exact oZ))) | exact True.intro | (show _ = _; first | exact oY | (exact hb; done) | exact rfl) | exact oW | (apply And.intro)))
    (refine ⟨[3, 1, 2], ⟨by kernel_rfl⟩, ?_⟩)
    (repeat' (first | (refine xI (fun hfk => ?_) (fun hfk => ?_) <;> ((try (first | replace hfk := oT hfk | replace hfk := oF hfk | simp only [oA, oB, dh1, dh0, ne_eq, reduceCtorEq] at hfk)); (try exact oX))) | (refine And.intro ?ob ?_; (case ob => (exact oZ))) | exact True.intro | (show _ = _; first | exact oY | (exact hb; done) | exact rfl) | exact oW | (apply And.intro)))
    refine ⟨[(0, .roi .u8 b), (2, .ptr 0 0), (4, .ptr 1 0), (5, .ptr 3 0), (6, .int .i64 0)], ⟨4, [(0, some (.cells 24 [.int .i64 0, .int .i64 0, .int .i64 0, .nils])), (1, some (.cells 69 [.sl 2 1 0 b.length, .int .i64 54])), (2, some (bE b)), (3, some (.cells 89 [.int .u32 (lw b 2 4), .int .u32 (lw b 6 4), .int .u32 (lw b 10 4), .int .u32 (lw b 14 4), .int .u32 (lw b 18 4), .int .u32 (lw b 22 4), .int .u32 (lw b 26 2), .int .u32 (lw b 28 2), .int .u32 (lw b 30 4), .int .u32 (lw b 34 4), .int .u32 (lw b 38 4), .int .u32 (lw b 42 4), .int .u32 (lw b 46 4), .int .u32 (lw b 50 4)]))]⟩, [some 0, some 1, some 2, some 3], ?_, ?_⟩
    · (repeat' (first | (refine And.intro ?_ ?_) | exact True.intro | (show _ = _; with_reducible rfl) | exact Chk.mk (by kernel_rfl)))
      all_goals first | exact hk | exact hA | exact hH _ | rfl
    (repeat' (first | (refine xI (fun hfk => ?_) (fun hfk => ?_) <;> ((try (first | replace hfk := oT hfk | replace hfk := oF hfk | simp only [oA, oB, dh1, dh0, ne_eq, reduceCtorEq] at hfk)); (try exact oX))) | (refine And.intro ?ob ?_; (case ob => (exact oZ))) | exact True.intro | (show _ = _; first | exact oY | (rfl; done) | exact rfl) | exact oW | (apply And.intro)))
    refine ⟨[(0, .roi .u8 b), (2, .ptr 0 0), (4, .ptr 1 0), (5, .ptr 3 0), (7, .ptr 4 0), (8, .int .i64 0)], ⟨5, [(0, some (.cells 24 [.int .i64 0, .int .i64 0, .int .i64 0, .nils])), (1, some (.cells 69 [.sl 2 1 0 b.length, .int .i64 54])), (2, some (bE b)), (3, some (.cells 89 [.int .u32 (lw b 2 4), .int .u32 (lw b 6 4), .int .u32 (lw b 10 4), .int .u32 (lw b 14 4), .int .u32 (lw b 18 4), .int .u32 (lw b 22 4), .int .u32 (lw b 26 2), .int .u32 (lw b 28 2), .int .u32 (lw b 30 4), .int .u32 (lw b 34 4), .int .u32 (lw b 38 4), .int .u32 (lw b 42 4), .int .u32 (lw b 46 4), .int .u32 (lw b 50 4)])), (4, some (.cells 24 [.int .i64 (W : Int), .int .i64 (H : Int), .int .i64 (c : Int), .nils]))]⟩, [some 0, some 1, some 2, some 3, some 4], ?_, ?_⟩
    · (repeat' (first | (refine And.intro ?_ ?_) | exact True.intro | (show _ = _; with_reducible rfl) | exact Chk.mk (by kernel_rfl)))
      all_goals first | exact hs' | exact gw' | exact gh' | exact gc' | rfl
    (repeat' (first | (refine xI (fun hfk => ?_) (fun hfk => ?_) <;> ((try (first | replace hfk := oT hfk | replace hfk := oF hfk | simp only [oA, oB, dh1, dh0, ne_eq, reduceCtorEq] at hfk)); (try exact oX))) | (refine And.intro ?ob ?_; (case ob => (exact oZ))) | exact True.intro | (show _ = _; first | exact oY | (rfl; done) | exact rfl) | exact oW | (apply And.intro)))
    refine ⟨[(0, .roi .u8 b), (2, .ptr 0 0), (4, .ptr 1 0), (5, .ptr 3 0), (7, .ptr 4 0), (9, .int .i64 (st : Int))], ⟨5, [(0, some (.cells 24 [.int .i64 0, .int .i64 0, .int .i64 0, .nils])), (1, some (.cells 69 [.sl 2 1 0 b.length, .int .i64 54])), (2, some (bE b)), (3, some (.cells 89 [.int .u32 (lw b 2 4), .int .u32 (lw b 6 4), .int .u32 (lw b 10 4), .int .u32 (lw b 14 4), .int .u32 (lw b 18 4), .int .u32 (lw b 22 4), .int .u32 (lw b 26 2), .int .u32 (lw b 28 2), .int .u32 (lw b 30 4), .int .u32 (lw b 34 4), .int .u32 (lw b 38 4), .int .u32 (lw b 42 4), .int .u32 (lw b 46 4), .int .u32 (lw b 50 4)])), (4, some (.cells 24 [.int .i64 (W : Int), .int .i64 (H : Int), .int .i64 (c : Int), .nils]))]⟩, [some 0, some 1, some 2, some 3, some 4], ?_, ?_⟩
    · (repeat' (first | (refine And.intro ?_ ?_) | exact True.intro | (show _ = _; with_reducible rfl) | exact Chk.mk (by kernel_rfl)))
      all_goals first | exact sv | rfl
    (repeat' (first | (refine xI (fun hfk => ?_) (fun hfk => ?_) <;> ((try (first | replace hfk := oT hfk | replace hfk := oF hfk | simp only [oA, oB, dh1, dh0, ne_eq, reduceCtorEq] at hfk)); (try exact oX))) | (refine And.intro ?ob ?_; (case ob => (exact oZ))) | exact True.intro | (show _ = _; first | exact oY | (rfl; done) | exact rfl) | exact oW | (apply And.intro)))
  rw [if_neg a2] at e0
  have a3 : ¬ (lw b 2 4 = b.length ∧ (lw b 34 4 = 0 ∨ lw b 34 4 = ((H * st : Nat) : Int))) := fun k => hn (by rw [e0, if_pos k])
  rw [e0, if_neg a3]
  have a4 : decide (lw b 2 4 = (b.length : Int) ∧ (lw b 34 4 = 0 ∨ lw b 34 4 = (b.length : Int) - 54)) = false := decide_eq_false fun k => a3 ⟨k.1, k.2.imp id fun k => by omega⟩
  rw [chs] at a1 a2
  (repeat' (first | (refine xI (fun hfk => ?_) (fun hfk => ?_) <;> ((try (first | replace hfk := oT hfk | replace hfk := oF hfk | simp only [oA, oB, dh1, dh0, ne_eq, reduceCtorEq] at hfk)); (try exact oX))) | (refine And.intro ?ob ?_; (case ob => (exact oZ))) | exact True.intro | (show _ = _; first | exact oY | (exact hb; done) | exact rfl) | exact oW | (apply And.intro)))
  (refine ⟨[], ⟨by kernel_rfl⟩, ?_⟩)
  (repeat' (first | (refine xI (fun hfk => ?_) (fun hfk => ?_) <;> ((try (first | replace hfk := oT hfk | replace hfk := oF hfk | simp only [oA, oB, dh1, dh0, ne_eq, reduceCtorEq] at hfk)); (try exact oX))) | (refine And.intro ?ob ?_; (case ob => (exact oZ))) | exact True.intro | (show _ = _; first | exact oY | (exact hb; done) | exact rfl) | exact oW | (apply And.intro)))
  (refine ⟨[3, 1, 2], ⟨by kernel_rfl⟩, ?_⟩)
  (repeat' (first | (refine xI (fun hfk => ?_) (fun hfk => ?_) <;> ((try (first | replace hfk := oT hfk | replace hfk := oF hfk | simp only [oA, oB, dh1, dh0, ne_eq, reduceCtorEq] at hfk)); (try exact oX))) | (refine And.intro ?ob ?_; (case ob => (exact oZ))) | exact True.intro | (show _ = _; first | exact oY | (exact hb; done) | exact rfl) | exact oW | (apply And.intro)))
  refine ⟨[(0, .roi .u8 b), (2, .ptr 0 0), (4, .ptr 1 0), (5, .ptr 3 0), (6, .int .i64 0)], ⟨4, [(0, some (.cells 24 [.int .i64 0, .int .i64 0, .int .i64 0, .nils])), (1, some (.cells 69 [.sl 2 1 0 b.length, .int .i64 54])), (2, some (bE b)), (3, some (.cells 89 [.int .u32 (lw b 2 4), .int .u32 (lw b 6 4), .int .u32 (lw b 10 4), .int .u32 (lw b 14 4), .int .u32 (lw b 18 4), .int .u32 (lw b 22 4), .int .u32 (lw b 26 2), .int .u32 (lw b 28 2), .int .u32 (lw b 30 4), .int .u32 (lw b 34 4), .int .u32 (lw b 38 4), .int .u32 (lw b 42 4), .int .u32 (lw b 46 4), .int .u32 (lw b 50 4)]))]⟩, [some 0, some 1, some 2, some 3], ?_, ?_⟩
  · (repeat' (first | (refine And.intro ?_ ?_) | exact True.intro | (show _ = _; with_reducible rfl) | exact Chk.mk (by kernel_rfl)))
    all_goals first | exact hk | exact hA | exact hH _ | rfl
  (repeat' (first | (refine xI (fun hfk => ?_) (fun hfk => ?_) <;> ((try (first | replace hfk := oT hfk | replace hfk := oF hfk | simp only [oA, oB, dh1, dh0, ne_eq, reduceCtorEq] at hfk)); (try exact oX))) | (refine And.intro ?ob ?_; (case ob => (exact oZ))) | exact True.intro | (show _ = _; first | exact oY | (rfl; done) | exact rfl) | exact oW | (apply And.intro)))
  refine ⟨[(0, .roi .u8 b), (2, .ptr 0 0), (4, .ptr 1 0), (5, .ptr 3 0), (7, .ptr 4 0), (8, .int .i64 0)], ⟨5, [(0, some (.cells 24 [.int .i64 0, .int .i64 0, .int .i64 0, .nils])), (1, some (.cells 69 [.sl 2 1 0 b.length, .int .i64 54])), (2, some (bE b)), (3, some (.cells 89 [.int .u32 (lw b 2 4), .int .u32 (lw b 6 4), .int .u32 (lw b 10 4), .int .u32 (lw b 14 4), .int .u32 (lw b 18 4), .int .u32 (lw b 22 4), .int .u32 (lw b 26 2), .int .u32 (lw b 28 2), .int .u32 (lw b 30 4), .int .u32 (lw b 34 4), .int .u32 (lw b 38 4), .int .u32 (lw b 42 4), .int .u32 (lw b 46 4), .int .u32 (lw b 50 4)])), (4, some (.cells 24 [.int .i64 (W : Int), .int .i64 (H : Int), .int .i64 (c : Int), .nils]))]⟩, [some 0, some 1, some 2, some 3, some 4], ?_, ?_⟩
  · (repeat' (first | (refine And.intro ?_ ?_) | exact True.intro | (show _ = _; with_reducible rfl) | exact Chk.mk (by kernel_rfl)))
    all_goals first | exact hs' | exact gw' | exact gh' | exact gc' | rfl
  (repeat' (first | (refine xI (fun hfk => ?_) (fun hfk => ?_) <;> ((try (first | replace hfk := oT hfk | replace hfk := oF hfk | simp only [oA, oB, dh1, dh0, ne_eq, reduceCtorEq] at hfk)); (try exact oX))) | (refine And.intro ?ob ?_; (case ob => (exact oZ))) | exact True.intro | (show _ = _; first | exact oY | (rfl; done) | exact rfl) | exact oW | (apply And.intro)))
  refine ⟨[(0, .roi .u8 b), (2, .ptr 0 0), (4, .ptr 1 0), (5, .ptr 3 0), (7, .ptr 4 0), (9, .int .i64 (st : Int))], ⟨5, [(0, some (.cells 24 [.int .i64 0, .int .i64 0, .int .i64 0, .nils])), (1, some (.cells 69 [.sl 2 1 0 b.length, .int .i64 54])), (2, some (bE b)), (3, some (.cells 89 [.int .u32 (lw b 2 4), .int .u32 (lw b 6 4), .int .u32 (lw b 10 4), .int .u32 (lw b 14 4), .int .u32 (lw b 18 4), .int .u32 (lw b 22 4), .int .u32 (lw b 26 2), .int .u32 (lw b 28 2), .int .u32 (lw b 30 4), .int .u32 (lw b 34 4), .int .u32 (lw b 38 4), .int .u32 (lw b 42 4), .int .u32 (lw b 46 4), .int .u32 (lw b 50 4)])), (4, some (.cells 24 [.int .i64 (W : Int), .int .i64 (H : Int), .int .i64 (c : Int), .nils]))]⟩, [some 0, some 1, some 2, some 3, some 4], ?_, ?_⟩
  · (repeat' (first | (refine And.intro ?_ ?_) | exact True.intro | (show _ = _; with_reducible rfl) | exact Chk.mk (by kernel_rfl)))
    all_goals first | exact sv | rfl
  (repeat' (first | (refine xI (fun hfk => ?_) (fun hfk => ?_) <;> ((try (first | replace hfk := oT hfk | replace hfk := oF hfk | simp only [oA, oB, dh1, dh0, ne_eq, reduceCtorEq] at hfk)); (try exact oX))) | (refine And.intro ?ob ?_; (case ob => (exact oZ))) | exact True.intro | (show _ = _; first | exact oY | (rfl; done) | exact rfl) | exact oW | (apply And.intro)))
def fil (dn : Bool) (H y r : Nat) : Bool := if dn = true then decide (r < y) else decide (H ≤ r + y)
theorem fil_next {dn : Bool} {H y r : Nat} (hy : y < H) (hr : r < H) : fil dn H (y + 1) r = (decide (r = fr dn H y) || fil dn H y r) := by
  unfold fil fr
  cases dn
  · simp only [Bool.false_eq_true, if_false]
    by_cases h1 : H ≤ r + y
    · rw [decide_eq_true h1, decide_eq_true (by omega)]; simp
    · by_cases h2 : r = H - 1 - y
      · rw [decide_eq_true h2, decide_eq_true (by omega)]; rfl
      · rw [decide_eq_false h2, decide_eq_false h1, decide_eq_false (by omega)]; rfl
  · simp only [if_true]
    by_cases h1 : r < y
    · rw [decide_eq_true h1, decide_eq_true (by omega)]; simp
    · by_cases h2 : r = y
      · rw [decide_eq_true h2, decide_eq_true (by omega)]; rfl
      · rw [decide_eq_false h2, decide_eq_false h1, decide_eq_false (by omega)]; rfl
def pxk (dn : Bool) (H wc : Nat) (R : Nat → List Int) (y r : Nat) : List Int := if fil dn H y r = true then R r else List.replicate wc 0
theorem fr_fr {dn : Bool} {H y : Nat} (h : y < H) : fr dn H (fr dn H y) = y := by unfold fr; split <;> omega
theorem tk_good {b : List Int} (hb : Byt b) (e : rdE b = 0) : vcFn rpCx Tryd.f37 [.roi .u8 b] ⟨0, []⟩ (Ret (.tup [imA (rdK b (hW b)) (rdK b (hrV (hH0 b))) (rdK b (hCn b)) (rdL b), .int .i64 (rdE b)])) := by
  have hg0 := gd_of hb e
  have h : hdE b = 0 := hg0.hd
  have hk : tkC b = 0 := by
    have := h
    rw [hd_take] at this
    split at this
    · rename_i k; exact absurd this k
    · rename_i k; exact Classical.not_not.1 k
  have hs : shC (hW b) (hrV (hH0 b)) = 0 := by
    have := e
    unfold rdE at this
    rw [if_neg (fun k => k h)] at this
    split at this
    · rename_i k; exact absurd this k
    · rename_i k; exact Classical.not_not.1 k
  have bl := hb.le
  have hH : ∀ F : Int, (if tkC b = 0 then F else 0) = F := fun F => if_pos hk
  have hA : tkA b = 54 := by unfold tkC at hk; unfold tkA; split at hk; · rename_i k; exact absurd hk k
                             rename_i k; rw [if_neg k]; split at hk; · cases hk
                             rename_i k2; rw [if_neg k2]
  have hl54 : 54 ≤ b.length := by unfold tkC at hk; split at hk; · rename_i k; exact absurd hk k
                                  split at hk; · cases hk
                                  omega
  have hd := h
  obtain ⟨_, _, k6, k7, k8⟩ := hd_inv hd
  have hf : fmP (lw b 6 4) (lw b 10 4) (lw b 14 4) (lw b 26 2) (lw b 28 2) (lw b 30 4) (lw b 46 4) (lw b 50 4) := by
    obtain ⟨a1, a2, a3, a4, a5, a6, a7⟩ := k7
    exact ⟨a1, a5, a6, a7, a2, a3, a4, k8⟩
  have wb := lw_bd hb (a := 18) (n := 4) (by decide)
  have hb0 := lw_bd hb (a := 22) (n := 4) (by decide)
  obtain ⟨w0, w1⟩ := wb
  obtain ⟨h0, h1⟩ := hb0
  have hrb := hr_bd h0 h1
  obtain ⟨hw1, hw2, hh1, hh2, hwh⟩ := sh_inv (w := hW b) (r := hrV (hH0 b)) w0 hrb.1 hs
  obtain ⟨W, gw⟩ : ∃ W : Nat, hW b = W := ⟨(hW b).toNat, by omega⟩
  obtain ⟨H, gh⟩ : ∃ H : Nat, hrV (hH0 b) = H := ⟨(hrV (hH0 b)).toNat, by omega⟩
  obtain ⟨c, gc, c34⟩ : ∃ c : Nat, hCn b = c ∧ (c = 3 ∨ c = 4) := by
    unfold hCn
    rcases k8 with k | k
    · exact ⟨3, by rw [k]; rfl, .inl rfl⟩
    · exact ⟨4, by rw [k]; rfl, .inr rfl⟩
  rw [gw] at hw1 hw2 hwh
  rw [gh] at hh1 hh2 hwh
  have cwh : ((W * H : Nat) : Int) = (W : Int) * (H : Int) := Int.natCast_mul _ _
  have cwc : ((W * c : Nat) : Int) = (W : Int) * (c : Int) := Int.natCast_mul _ _
  have wcb : 3 ≤ W * c ∧ W * c ≤ 131072 := by rcases c34 with k | k <;> subst k <;> omega
  obtain ⟨st, gst⟩ : ∃ st : Nat, up4 ((W : Int) * (c : Int)) = st := ⟨(up4 ((W : Int) * (c : Int))).toNat, by have := up4_bd ((W : Int) * (c : Int)); omega⟩
  have ub := up4_bd ((W : Int) * (c : Int))
  rw [gst, ← cwc] at ub
  obtain ⟨ub1, ub2, _⟩ := ub
  have sv : strV (W : Int) (c : Int) = (st : Int) := by
    unfold strV
    rw [if_neg (by omega)]; exact gst
  have chs : ((H * st : Nat) : Int) = (st : Int) * (H : Int) := by rw [Int.natCast_mul, Int.mul_comm]
  have hsb : H * st ≤ 32768 * 131075 := Nat.mul_le_mul (by omega) (by omega)
  have qn : rngI .i64 ((st : Int) * (H : Int)) := by rw [← chs]; exact rng64 (by omega) (by omega)
  have gN : hNn b = ((H * st : Nat) : Int) := by unfold hNn; rw [gw, gc, gst, gh, chs]
  have hs' : shC (lw b 18 4) (hrV (lw b 22 4)) = 0 := hs
  have i0 : ∀ x, shI (shC (lw b 18 4) (hrV (lw b 22 4))) x = x := fun x => if_pos hs
  have gw' : shI (shC (lw b 18 4) (hrV (lw b 22 4))) (lw b 18 4) = (W : Int) := by rw [i0]; exact gw
  have gh' : shI (shC (lw b 18 4) (hrV (lw b 22 4))) (hrV (lw b 22 4)) = (H : Int) := by rw [i0]; exact gh
  have gc' : shI (shC (lw b 18 4) (hrV (lw b 22 4))) (lw b 28 2 / 8) = (c : Int) := by rw [i0]; exact gc
  have e0 : rdE b = if (b.length : Int) - 54 < hNn b then 20 else if hNn b < (b.length : Int) - 54 then 22 else if lw b 2 4 = b.length ∧ (lw b 34 4 = 0 ∨ lw b 34 4 = hNn b) then 0 else 21 := by
    unfold rdE; rw [if_neg (fun k => k h), if_neg (fun k => k hs)]
  rw [gN] at e0
  have : (List.take (b).length (List.drop 0 (b))).length = (b).length := by simp
  obtain ⟨dn, hdn⟩ : ∃ dn, decide (2147483648 ≤ hH0 b) = dn := ⟨_, rfl⟩
  have hdn' : decide (2147483648 ≤ lw b 22 4) = dn := hdn
  have tW : (hW b).toNat = W := by omega
  have tH : (hrV (hH0 b)).toNat = H := by omega
  have tc : (hCn b).toNat = c := by omega
  have ts : (up4 (hW b * hCn b)).toNat = st := by rw [gw, gc, gst]; omega
  have hL0 : rdL b = rdPx b c W H st dn := by unfold rdL; rw [if_pos e, tW, tH, tc, ts, hdn]
  rw [tW, tH, tc, ts, hdn] at hg0
  have hg := hg0
  have kk : ∀ x, rdK b x = x := fun x => if_pos e
  rw [kk, kk, kk, hL0, e]
  have glen := hg.len
  have a1 : ¬ (b.length : Int) - 54 < (st : Int) * (H : Int) := by rw [← chs]; omega
  have a2 : ¬ (st : Int) * (H : Int) < (b.length : Int) - 54 := by rw [← chs]; omega
  have a4 : decide (lw b 2 4 = (b.length : Int) ∧ (lw b 34 4 = 0 ∨ lw b 34 4 = (b.length : Int) - 54)) = true := decide_eq_true ⟨hg.s1, hg.s2.imp id fun k => by omega⟩
  obtain ⟨R, hR⟩ : ∃ R : Nat → List Int, R = fun r => swapTo (fRow b st (W * c) (fr dn H r)) 0 c W := ⟨_, rfl⟩
  have hwc : H * (W * c) ≤ 16777216 := by
    have k1 := hg.wh
    have k2 : H * (W * c) = (W * H) * c := by rw [← Nat.mul_assoc, Nat.mul_comm H W]
    have k3 : (W * H) * c ≤ 4194304 * 4 := Nat.mul_le_mul k1 (by omega)
    omega
  have chc : (W : Int) * (H : Int) * (c : Int) = ((H * (W * c) : Nat) : Int) := by rw [← cwh, ← Int.natCast_mul, Nat.mul_comm W H, Nat.mul_assoc]
  have qwh : rngI .i64 ((W : Int) * (H : Int)) := by rw [← cwh]; exact rng64 (by omega) (by omega)
  have qwc : rngI .i64 ((W : Int) * (H : Int) * (c : Int)) := by rw [chc]; exact rng64 (by omega) (by omega)
  have om : 0 ≤ (W : Int) * (H : Int) * (c : Int) ∧ (W : Int) * (H : Int) * (c : Int) ≤ (W : Int) * (H : Int) * (c : Int) ∧ (W : Int) * (H : Int) * (c : Int) ≤ 140737488355328 ∧ (W : Int) * (H : Int) * (c : Int) * ((1 : Nat) : Int) ≤ 140737488355328 := by rw [chc]; omega
  have hRl : ∀ r, r < H → (R r).length = W * c := fun r hr => by
    have hf : fr dn H r < H := fr_lt hr
    have := prod_of (n := st) hf
    rw [hR]
    show (swapTo _ 0 c W).length = _
    rw [swapTo_len]; exact fRow_len (by rw [glen]; omega)
  (repeat' (first | (refine xI (fun hfk => ?_) (fun hfk => ?_) <;> ((try (first | replace hfk := oT hfk | replace hfk := oF hfk | simp only [oA, oB, dh1, dh0, ne_eq, reduceCtorEq] at hfk)); (try exact oX))) | (refine And.intro ?ob ?_; (case ob => (exact oZ))) | exact True.intro | (show _ = _; first | exact oY | (exact hb; done) | exact rfl) | exact oW | (apply And.intro)))
  (refine ⟨[], ⟨by kernel_rfl⟩, ?_⟩)
  (repeat' (first | (refine xI (fun hfk => ?_) (fun hfk => ?_) <;> ((try (first | replace hfk := oT hfk | replace hfk := oF hfk | simp only [oA, oB, dh1, dh0, ne_eq, reduceCtorEq] at hfk)); (try exact oX))) | (refine And.intro ?ob ?_; (case ob => (exact oZ))) | exact True.intro | (show _ = _; first | exact oY | (exact hb; done) | exact rfl) | exact oW | (apply And.intro)))
  (refine ⟨[3, 1, 2], ⟨by kernel_rfl⟩, ?_⟩)
  (repeat' (first | (refine xI (fun hfk => ?_) (fun hfk => ?_) <;> ((try (first | replace hfk := oT hfk | replace hfk := oF hfk | simp only [oA, oB, dh1, dh0, ne_eq, reduceCtorEq] at hfk)); (try exact oX))) | (refine And.intro ?ob ?_; (case ob => (exact oZ))) | exact True.intro | (show _ = _; first | exact oY | (exact hb; done) | exact rfl) | exact oW | (apply And.intro)))
  refine ⟨[(0, .roi .u8 b), (2, .ptr 0 0), (4, .ptr 1 0), (5, .ptr 3 0), (6, .int .i64 0)], ⟨4, [(0, some (.cells 24 [.int .i64 0, .int .i64 0, .int .i64 0, .nils])), (1, some (.cells 69 [.sl 2 1 0 b.length, .int .i64 54])), (2, some (bE b)), (3, some (.cells 89 [.int .u32 (lw b 2 4), .int .u32 (lw b 6 4), .int .u32 (lw b 10 4), .int .u32 (lw b 14 4), .int .u32 (lw b 18 4), .int .u32 (lw b 22 4), .int .u32 (lw b 26 2), .int .u32 (lw b 28 2), .int .u32 (lw b 30 4), .int .u32 (lw b 34 4), .int .u32 (lw b 38 4), .int .u32 (lw b 42 4), .int .u32 (lw b 46 4), .int .u32 (lw b 50 4)]))]⟩, [some 0, some 1, some 2, some 3], ?_, ?_⟩
  · (repeat' (first | (refine And.intro ?_ ?_) | exact True.intro | (show _ = _; with_reducible rfl) | exact Chk.mk (by kernel_rfl)))
    all_goals first | exact hk | exact hA | exact hH _ | rfl
  (repeat' (first | (refine xI (fun hfk => ?_) (fun hfk => ?_) <;> ((try (first | replace hfk := oT hfk | replace hfk := oF hfk | simp only [oA, oB, dh1, dh0, ne_eq, reduceCtorEq] at hfk)); (try exact oX))) | (refine And.intro ?ob ?_; (case ob => (exact oZ))) | exact True.intro | (show _ = _; first | exact oY | (rfl; done) | exact rfl) | exact oW | (apply And.intro)))
  refine ⟨[(0, .roi .u8 b), (2, .ptr 0 0), (4, .ptr 1 0), (5, .ptr 3 0), (7, .ptr 4 0), (8, .int .i64 0)], ⟨5, [(0, some (.cells 24 [.int .i64 0, .int .i64 0, .int .i64 0, .nils])), (1, some (.cells 69 [.sl 2 1 0 b.length, .int .i64 54])), (2, some (bE b)), (3, some (.cells 89 [.int .u32 (lw b 2 4), .int .u32 (lw b 6 4), .int .u32 (lw b 10 4), .int .u32 (lw b 14 4), .int .u32 (lw b 18 4), .int .u32 (lw b 22 4), .int .u32 (lw b 26 2), .int .u32 (lw b 28 2), .int .u32 (lw b 30 4), .int .u32 (lw b 34 4), .int .u32 (lw b 38 4), .int .u32 (lw b 42 4), .int .u32 (lw b 46 4), .int .u32 (lw b 50 4)])), (4, some (.cells 24 [.int .i64 (W : Int), .int .i64 (H : Int), .int .i64 (c : Int), .nils]))]⟩, [some 0, some 1, some 2, some 3, some 4], ?_, ?_⟩
  · (repeat' (first | (refine And.intro ?_ ?_) | exact True.intro | (show _ = _; with_reducible rfl) | exact Chk.mk (by kernel_rfl)))
    all_goals first | exact hs' | exact gw' | exact gh' | exact gc' | rfl
  (repeat' (first | (refine xI (fun hfk => ?_) (fun hfk => ?_) <;> ((try (first | replace hfk := oT hfk | replace hfk := oF hfk | simp only [oA, oB, dh1, dh0, ne_eq, reduceCtorEq] at hfk)); (try exact oX))) | (refine And.intro ?ob ?_; (case ob => (exact oZ))) | exact True.intro | (show _ = _; first | exact oY | (rfl; done) | exact rfl) | exact oW | (apply And.intro)))
  refine ⟨[(0, .roi .u8 b), (2, .ptr 0 0), (4, .ptr 1 0), (5, .ptr 3 0), (7, .ptr 4 0), (9, .int .i64 (st : Int))], ⟨5, [(0, some (.cells 24 [.int .i64 0, .int .i64 0, .int .i64 0, .nils])), (1, some (.cells 69 [.sl 2 1 0 b.length, .int .i64 54])), (2, some (bE b)), (3, some (.cells 89 [.int .u32 (lw b 2 4), .int .u32 (lw b 6 4), .int .u32 (lw b 10 4), .int .u32 (lw b 14 4), .int .u32 (lw b 18 4), .int .u32 (lw b 22 4), .int .u32 (lw b 26 2), .int .u32 (lw b 28 2), .int .u32 (lw b 30 4), .int .u32 (lw b 34 4), .int .u32 (lw b 38 4), .int .u32 (lw b 42 4), .int .u32 (lw b 46 4), .int .u32 (lw b 50 4)])), (4, some (.cells 24 [.int .i64 (W : Int), .int .i64 (H : Int), .int .i64 (c : Int), .nils]))]⟩, [some 0, some 1, some 2, some 3, some 4], ?_, ?_⟩
  · (repeat' (first | (refine And.intro ?_ ?_) | exact True.intro | (show _ = _; with_reducible rfl) | exact Chk.mk (by kernel_rfl)))
    all_goals first | exact sv | rfl
  (repeat' (first | (refine xI (fun hfk => ?_) (fun hfk => ?_) <;> ((try (first | replace hfk := oT hfk | replace hfk := oF hfk | simp only [oA, oB, dh1, dh0, ne_eq, reduceCtorEq] at hfk)); (try exact oX))) | (refine And.intro ?ob ?_; (case ob => (exact oZ))) | exact True.intro | (show _ = _; first | exact oY | (exact om; done) | exact rfl) | exact oW | (apply And.intro)))
  refine ⟨Nat, fun y => [(0, .roi .u8 b), (2, .ptr 0 0), (4, .ptr 1 0), (5, .ptr 3 0), (7, .ptr 4 0), (9, .int .i64 (st : Int)), (79, .int .i64 (H : Int)), (80, .int .i64 (y : Int))],
    fun y => ⟨6, [(0, some (.cells 24 [.int .i64 0, .int .i64 0, .int .i64 0, .nils])), (1, some (.cells 69 [.sl 2 1 0 b.length, .int .i64 ((54 + y * st : Nat) : Int)])), (2, some (bE b)), (3, some (.cells 89 [.int .u32 (lw b 2 4), .int .u32 (lw b 6 4), .int .u32 (lw b 10 4), .int .u32 (lw b 14 4), .int .u32 (lw b 18 4), .int .u32 (lw b 22 4), .int .u32 (lw b 26 2), .int .u32 (lw b 28 2), .int .u32 (lw b 30 4), .int .u32 (lw b 34 4), .int .u32 (lw b 38 4), .int .u32 (lw b 42 4), .int .u32 (lw b 46 4), .int .u32 (lw b 50 4)])), (4, some (.cells 24 [.int .i64 (W : Int), .int .i64 (H : Int), .int .i64 (c : Int), .sl 5 1 0 (H * (W * c))])), (5, some (bE (catK (pxk dn H (W * c) R y) H)))]⟩,
    fun y => y ≤ H, fun y => H - y, ⟨0, [some 0, some 1, some 2, some 3, some 4, some 5], Nat.zero_le _, ?_⟩, fun y hy => ?_⟩
  · have z0 : List.replicate ((W : Int) * (H : Int) * (c : Int)).toNat 0 = catK (pxk dn H (W * c) R 0) H := by
      have z1 : catK (pxk dn H (W * c) R 0) H = catK (fun _ => List.replicate (W * c) (0 : Int)) H := catK_congr (Q := H) (fun r hr => by
        have : fil dn H 0 r = false := by unfold fil; split <;> simp <;> omega
        unfold pxk; rw [if_neg (by rw [this]; decide)]) H (Nat.le_refl _)
      rw [z1, chc, Int.toNat_natCast]
      have : ∀ k, List.replicate (k * (W * c)) (0 : Int) = catK (fun _ => List.replicate (W * c) (0 : Int)) k := by
        intro k
        induction k with
        | zero => simp [catK]
        | succ k ih => rw [catK, ← ih, Nat.succ_mul, List.replicate_append_replicate]
      exact this H
    have z2 : ((W : Int) * (H : Int) * (c : Int)).toNat = H * (W * c) := by rw [chc, Int.toNat_natCast]
    have z3 : (54 : Int) = ((54 + 0 * st : Nat) : Int) := by omega
    (repeat' (first | (refine And.intro ?_ ?_) | exact True.intro | (show _ = _; with_reducible rfl) | exact Chk.mk (by kernel_rfl)))
    all_goals first | exact z0 | exact z2 | exact z3 | rfl
  have hy : y ≤ H := hy
  have rfy : rngI .i64 ((y : Int) + 1) := rng64 (by omega) (by omega)
  have hgl : ∀ r, r < H → (pxk dn H (W * c) R y r).length = W * c := fun r hr => by
    unfold pxk
    split
    · exact hRl r hr
    · simp
  have hcl := catK_len hgl H (Nat.le_refl _)
  by_cases hlt : y < H
  · have hfr := fr_lt (dn := dn) hlt
    have hys := prod_of (n := st) hlt
    have hfw := prod_of (n := W * c) hfr
    have t0 : takeL (cR b ((54 + y * st : Nat) : Int)) (st : Int) = (b.drop (54 + y * st)).take st := by
      unfold takeL takeC
      have el : (cR b ((54 + y * st : Nat) : Int)).length = b.length - (54 + y * st) := by
        unfold cR; rw [List.length_take, List.length_drop, Int.toNat_natCast]; omega
      rw [if_neg (show ¬ (st : Int) < 0 by omega), if_neg (show ¬ ((cR b ((54 + y * st : Nat) : Int)).length : Int) < (st : Int) by rw [el]; omega), if_pos rfl]
      unfold cR
      rw [List.take_take, Int.toNat_natCast, Int.toNat_natCast, Nat.min_eq_left (by omega)]
    have t1 : ((takeL (cR b ((54 + y * st : Nat) : Int)) (st : Int)).length : Int) = st := by rw [t0, List.length_take, List.length_drop]; omega
    have t2 : (takeL (cR b ((54 + y * st : Nat) : Int)) (st : Int)).length = st := by omega
    have rh1 : rngI .i64 ((H : Int) - 1) := rng64 (by omega) (by omega)
    have rh2 : rngI .i64 ((H : Int) - 1 - (y : Int)) := rng64 (by omega) (by omega)
    obtain ⟨r, hr⟩ : ∃ r, fr dn H y = r := ⟨_, rfl⟩
    rw [hr] at hfr hfw
    have f1 : (r : Int) * (W : Int) * (c : Int) = ((r * (W * c) : Nat) : Int) := by rw [Int.mul_assoc, ← cwc, ← Int.natCast_mul]
    have f2 : ((r : Int) + 1) * (W : Int) * (c : Int) = ((r * (W * c) + W * c : Nat) : Int) := by rw [Int.mul_assoc, ← cwc, Int.add_mul, Int.one_mul, ← Int.natCast_mul]; omega
    have f3 : 0 ≤ (r : Int) * (W : Int) ∧ (r : Int) * (W : Int) ≤ 32768 * 32768 := ⟨Int.mul_nonneg (by omega) (by omega), Int.le_trans (Int.mul_le_mul_of_nonneg_right (by omega) (by omega)) (Int.mul_le_mul_of_nonneg_left (by omega) (by omega))⟩
    have f4 : ((r : Int) + 1) * (W : Int) = (r : Int) * (W : Int) + W := by rw [Int.add_mul, Int.one_mul]
    have s1 : rngI .i64 ((r : Int) * (W : Int)) := rng64 (by omega) (by omega)
    have s2 : rngI .i64 ((r : Int) * (W : Int) * (c : Int)) := by rw [f1]; exact rng64 (by omega) (by omega)
    have s3 : rngI .i64 ((r : Int) + 1) := rng64 (by omega) (by omega)
    have s4 : rngI .i64 (((r : Int) + 1) * (W : Int)) := by rw [f4]; exact rng64 (by omega) (by omega)
    have s5 : rngI .i64 (((r : Int) + 1) * (W : Int) * (c : Int)) := by rw [f2]; exact rng64 (by omega) (by omega)
    have b1 : 0 ≤ ((r : Int) + 1) * (W : Int) * (c : Int) ∧ ((r : Int) + 1) * (W : Int) * (c : Int) ≤ ((H * (W * c) : Nat) : Int) := by rw [f2]; omega
    have b2 : 0 ≤ (r : Int) * (W : Int) * (c : Int) ∧ (r : Int) * (W : Int) * (c : Int) ≤ ((((r : Int) + 1) * (W : Int) * (c : Int)).toNat : Int) := by rw [f1, f2]; omega
    have b3 : 0 + ((r : Int) * (W : Int) * (c : Int)).toNat = r * (W * c) := by rw [f1]; omega
    have b4 : (((r : Int) + 1) * (W : Int) * (c : Int)).toNat - ((r : Int) * (W : Int) * (c : Int)).toNat = W * c := by rw [f1, f2]; omega
    have t3 : ((54 + y * st : Nat) : Int) + ((takeL (cR b ((54 + y * st : Nat) : Int)) (st : Int)).length : Int) = ((54 + (y + 1) * st : Nat) : Int) := by rw [t1, Nat.succ_mul]; omega
    have hfl : (fRow b st (W * c) y).length = W * c := fRow_len (by rw [glen]; omega)
    have hrl : ((b.drop (54 + y * st)).take st).length = st := by rw [List.length_take, List.length_drop]; omega
    have tcn : (c : Int).toNat = c := Int.toNat_natCast c
    have wdc : W * c / c = W := Nat.mul_div_cancel _ (by omega)
    by_cases hd1 : dn = true
    all_goals
      have hrow : (if dn = true then (y : Int) else (H : Int) - 1 - (y : Int)) = (r : Int) := by rw [← hr]; unfold fr; split <;> omega
      have hdp : if dn = true then 2147483648 ≤ lw b 22 4 else lw b 22 4 < 2147483648 := by
        rw [← hdn']; split
        · rename_i k; exact of_decide_eq_true k
        · rename_i k; have := mt decide_eq_true k; omega
      first | rw [if_pos hd1] at hrow hdp | rw [if_neg hd1] at hrow hdp
      rw [← hrow] at s1 s2 s3 s4 s5 b1 b2 b3 b4
      (repeat' (first | (refine xI (fun hfk => ?_) (fun hfk => ?_) <;> ((try (first | replace hfk := oT hfk | replace hfk := oF hfk | simp only [oA, oB, dh1, dh0, ne_eq, reduceCtorEq] at hfk)); (try exact oX))) | (refine And.intro ?ob ?_; (case ob => (exact oZ))) | exact True.intro | (show _ = _; first | exact oY | (skip; done) | exact rfl) | exact oW | (apply And.intro)))
      (refine ⟨[1, 2], ⟨by kernel_rfl⟩, ?_⟩)
      (repeat' (first | (refine xI (fun hfk => ?_) (fun hfk => ?_) <;> ((try (first | replace hfk := oT hfk | replace hfk := oF hfk | simp only [oA, oB, dh1, dh0, ne_eq, reduceCtorEq] at hfk)); (try exact oX))) | (refine And.intro ?ob ?_; (case ob => (exact oZ))) | exact True.intro | (show _ = _; first | exact oY | (skip; done) | exact rfl) | exact oW | (apply And.intro)))
      refine ⟨[(0, .roi .u8 b), (2, .ptr 0 0), (4, .ptr 1 0), (5, .ptr 3 0), (7, .ptr 4 0), (9, .int .i64 (st : Int)), (79, .int .i64 (H : Int)), (80, .int .i64 (y : Int)), (11, .sl 6 1 0 st), (13, .sl 5 1 (r * (W * c)) (W * c))], ⟨7, [(0, some (.cells 24 [.int .i64 0, .int .i64 0, .int .i64 0, .nils])), (1, some (.cells 69 [.sl 2 1 0 b.length, .int .i64 ((54 + (y + 1) * st : Nat) : Int)])), (2, some (bE b)), (3, some (.cells 89 [.int .u32 (lw b 2 4), .int .u32 (lw b 6 4), .int .u32 (lw b 10 4), .int .u32 (lw b 14 4), .int .u32 (lw b 18 4), .int .u32 (lw b 22 4), .int .u32 (lw b 26 2), .int .u32 (lw b 28 2), .int .u32 (lw b 30 4), .int .u32 (lw b 34 4), .int .u32 (lw b 38 4), .int .u32 (lw b 42 4), .int .u32 (lw b 46 4), .int .u32 (lw b 50 4)])), (4, some (.cells 24 [.int .i64 (W : Int), .int .i64 (H : Int), .int .i64 (c : Int), .sl 5 1 0 (H * (W * c))])), (5, some (bE (catK (pxk dn H (W * c) R y) H))), (6, some (bE ((b.drop (54 + y * st)).take st)))]⟩, [some 0, some 1, some 2, some 3, some 4, some 5, some 6], ?_, ?_⟩
      · (repeat' (first | (refine And.intro ?_ ?_) | exact True.intro | (show _ = _; with_reducible rfl) | exact Chk.mk (by kernel_rfl)))
        all_goals first | rfl | exact t0 | exact t2 | exact t3 | exact b3 | exact b4
      clear s1 s2 s3 s4 s5 b1 b2 b3 b4 f1 f2 f3 f4 t1 t2 t3 t0
      (repeat' (first | (refine xI (fun hfk => ?_) (fun hfk => ?_) <;> ((try (first | replace hfk := oT hfk | replace hfk := oF hfk | simp only [oA, oB, dh1, dh0, ne_eq, reduceCtorEq] at hfk)); (try exact oX))) | (refine And.intro ?ob ?_; (case ob => (exact oZ))) | exact True.intro | (show _ = _; first | exact oY | (skip; done) | exact rfl) | exact oW | (apply And.intro)))
      refine ⟨[(0, .roi .u8 b), (2, .ptr 0 0), (4, .ptr 1 0), (5, .ptr 3 0), (7, .ptr 4 0), (9, .int .i64 (st : Int)), (79, .int .i64 (H : Int)), (80, .int .i64 (y : Int)), (13, .sl 5 1 (r * (W * c)) (W * c))], ⟨6, [(0, some (.cells 24 [.int .i64 0, .int .i64 0, .int .i64 0, .nils])), (1, some (.cells 69 [.sl 2 1 0 b.length, .int .i64 ((54 + (y + 1) * st : Nat) : Int)])), (2, some (bE b)), (3, some (.cells 89 [.int .u32 (lw b 2 4), .int .u32 (lw b 6 4), .int .u32 (lw b 10 4), .int .u32 (lw b 14 4), .int .u32 (lw b 18 4), .int .u32 (lw b 22 4), .int .u32 (lw b 26 2), .int .u32 (lw b 28 2), .int .u32 (lw b 30 4), .int .u32 (lw b 34 4), .int .u32 (lw b 38 4), .int .u32 (lw b 42 4), .int .u32 (lw b 46 4), .int .u32 (lw b 50 4)])), (4, some (.cells 24 [.int .i64 (W : Int), .int .i64 (H : Int), .int .i64 (c : Int), .sl 5 1 0 (H * (W * c))])), (5, some (bE (spl (catK (pxk dn H (W * c) R y) H) (r * (W * c)) (fRow b st (W * c) y))))]⟩, [some 0, some 1, some 2, some 3, some 4, some 5], ?_, ?_⟩
      · have x1 : List.take st (List.drop 0 ((b.drop (54 + y * st)).take st)) = (b.drop (54 + y * st)).take st := by rw [List.drop_zero]; exact List.take_of_length_le (by omega)
        have x2 : Nat.min (List.take st (List.drop 0 ((b.drop (54 + y * st)).take st))).length (W * c) = W * c := by rw [x1, hrl]; exact Nat.min_eq_right (by omega)
        have x3 : List.take (W * c) (List.take st (List.drop 0 ((b.drop (54 + y * st)).take st))) = fRow b st (W * c) y := by rw [x1, List.take_take, Nat.min_eq_left (by omega)]; rfl
        have x4 : List.take (r * (W * c)) (catK (pxk dn H (W * c) R y) H) ++ (List.take (Nat.min (List.take st (List.drop 0 ((b.drop (54 + y * st)).take st))).length (W * c)) (List.take st (List.drop 0 ((b.drop (54 + y * st)).take st))) ++ List.drop (r * (W * c) + Nat.min (List.take st (List.drop 0 ((b.drop (54 + y * st)).take st))).length (W * c)) (catK (pxk dn H (W * c) R y) H)) = spl (catK (pxk dn H (W * c) R y) H) (r * (W * c)) (fRow b st (W * c) y) := by
          rw [x2, x3]; unfold spl; rw [hfl]
        (repeat' (first | (refine And.intro ?_ ?_) | exact True.intro | (show _ = _; with_reducible rfl) | exact Chk.mk (by kernel_rfl)))
        all_goals first | rfl | exact x4
      have y1 : W * c = W * c / (c : Int).toNat * (c : Int).toNat := by rw [tcn, wdc]
      have y2 : r * (W * c) + W * c ≤ (spl (catK (pxk dn H (W * c) R y) H) (r * (W * c)) (fRow b st (W * c) y)).length := by rw [spl_len (by omega)]; omega
      have y3 : swapTo (spl (catK (pxk dn H (W * c) R y) H) (r * (W * c)) (fRow b st (W * c) y)) (r * (W * c)) (c : Int).toNat (W * c / (c : Int).toNat) = catK (pxk dn H (W * c) R (y + 1)) H := by
        rw [tcn, wdc, swapTo_spl (w := W) (by omega) hfl (by omega) W (Nat.le_refl _), catK_upd hgl hfr (by rw [swapTo_len]; exact hfl)]
        refine catK_congr (Q := H) (fun k hk => ?_) H (Nat.le_refl _)
        unfold pxk
        rw [fil_next hlt hk, hr]
        by_cases hkr : k = r
        · rw [if_pos hkr, if_pos (by rw [decide_eq_true hkr]; rfl), hR, hkr, ← hr]
          show _ = swapTo (fRow b st (W * c) (fr dn H (fr dn H y))) 0 c W
          rw [fr_fr hlt]
        · rw [if_neg hkr, decide_eq_false hkr]; rfl
      (repeat' (first | (refine xI (fun hfk => ?_) (fun hfk => ?_) <;> ((try (first | replace hfk := oT hfk | replace hfk := oF hfk | simp only [oA, oB, dh1, dh0, ne_eq, reduceCtorEq] at hfk)); (try exact oX))) | (refine And.intro ?ob ?_; (case ob => (exact oZ))) | exact True.intro | (show _ = _; first | exact oY | (skip; done) | exact rfl) | exact oW | (apply And.intro)))
      (refine ⟨[5], ⟨by kernel_rfl⟩, ?_⟩)
      (repeat' (first | (refine xI (fun hfk => ?_) (fun hfk => ?_) <;> ((try (first | replace hfk := oT hfk | replace hfk := oF hfk | simp only [oA, oB, dh1, dh0, ne_eq, reduceCtorEq] at hfk)); (try exact oX))) | (refine And.intro ?ob ?_; (case ob => (exact oZ))) | exact True.intro | (show _ = _; first | exact oY | (skip; done) | exact rfl) | exact oW | (apply And.intro)))
      refine ⟨y + 1, [some 0, some 1, some 2, some 3, some 4, some 5], hlt, ?mu, ?_⟩
      case mu => (show H - (y + 1) < H - y; omega)
      (repeat' (first | (refine And.intro ?_ ?_) | exact True.intro | (show _ = _; with_reducible rfl) | exact Chk.mk (by kernel_rfl)))
      all_goals first | rfl | exact y3 | (show (_ : Int) = _; omega)
  · obtain rfl : y = H := by omega
    have z1 : List.take (y * (W * c)) (List.drop 0 (catK (pxk dn y (W * c) R y) y)) = rdPx b c W y st dn := by
      rw [List.drop_zero, List.take_of_length_le (by omega)]
      unfold rdPx
      refine catK_congr (Q := y) (fun k hk => ?_) y (Nat.le_refl _)
      have : fil dn y y k = true := by unfold fil; split <;> simp <;> omega
      unfold pxk
      rw [if_pos this, hR]; rfl
    have gw2 := gw.symm
    have gh2 := gh.symm
    have gc2 := gc.symm
    (repeat' (first | (refine xI (fun hfk => ?_) (fun hfk => ?_) <;> ((try (first | replace hfk := oT hfk | replace hfk := oF hfk | simp only [oA, oB, dh1, dh0, ne_eq, reduceCtorEq] at hfk)); (try exact oX))) | (refine And.intro ?ob ?_; (case ob => (exact oZ))) | exact True.intro | (show _ = _; first | exact oY | (first | exact z1 | exact gw2 | exact gh2 | exact gc2 | rfl; done) | exact rfl) | exact oW | (apply And.intro)))
theorem bread_s : SOK Tryd.prog 37 bmS := by
  refine sok_of (C := rpCx) rpCx_ok rfl mixed ⟨Tryd.func37, by kernel_rfl, by kernel_rfl, by kernel_rfl⟩ fun l obs v h ho => ?_
  (unfold bmS at h; split at h; rotate_left; (focus (cases h)); rename_i b; simp only [Option.some.injEq, Prod.mk.injEq] at h; obtain ⟨rfl, rfl⟩ := h; simp only [List.mem_cons, List.not_mem_nil, or_false, forall_eq_or_imp, forall_eq, false_implies, implies_true] at ho)
  refine ⟨Nat.le_of_ble_eq_true rfl, ?_⟩
  by_cases e : rdE b = 0
  · exact tk_good ho e
  by_cases hk : tkC b = 0
  rotate_left
  · exact tk_bad1 ho hk
  by_cases h : hdE b = 0
  rotate_left
  · exact tk_bad2 ho hk h
  by_cases hs : shC (hW b) (hrV (hH0 b)) = 0
  · exact tk_bad4 ho hk h hs e
  · exact tk_bad3 ho hk h hs
end Go.Proofs.YtocboijpmmlegaaDoor
namespace Go.Proofs.YtocboijpmmlegaaDoor
open Go Go.RowKit
set_option maxHeartbeats 4000000
theorem sameM_self (w h c : Int) (p : List Int) : sameM w h c p w h c p = true := decide_eq_true ⟨rfl, rfl, rfl, rfl⟩
end Go.Proofs.YtocboijpmmlegaaDoor
namespace Go.Proofs.YtocboijpmmlegaaDoor
open Go Go.RowKit
set_option maxHeartbeats 4000000
def crE (b : List Int) : Int := if b.length = 0 then 20 else if b.getD 0 0 = 80 then pnE b else if b.getD 0 0 = 66 then rdE b else 21
def crW (b : List Int) : Int := if b.getD 0 0 = 80 then pnK b (pgW b) else if b.getD 0 0 = 66 then rdK b (hW b) else 0
def crH (b : List Int) : Int := if b.getD 0 0 = 80 then pnK b (pgH b) else if b.getD 0 0 = 66 then rdK b (hrV (hH0 b)) else 0
def crC (b : List Int) : Int := if b.getD 0 0 = 80 then pnK b (kdV b) else if b.getD 0 0 = 66 then rdK b (hCn b) else 0
def crL (b : List Int) : List Int := if b.getD 0 0 = 80 then pnL b else if b.getD 0 0 = 66 then rdL b else []
def crN (b : List Int) : Int := if crE b = 0 then kndV b else 0
abbrev crdS : PSpec := fun l => match l with
  | [.roi .u8 b] => some ([Byt b], .tup [imA (crW b) (crH b) (crC b) (crL b), .int .i64 (crN b), .int .i64 (crE b)])
  | _ => none
theorem byt_bytes {b : List Int} (h : Byt b) : Bytes b := fun x hx => by
  obtain ⟨i, hi, rfl⟩ := List.mem_iff_getElem.1 hx
  have := h.bd i
  rwa [List.getD_eq_getElem?_getD, List.getElem?_eq_getElem hi] at this
theorem cr_cs (b : List Int) :
    (b.length = 0 ∧ crE b = 20 ∧ crW b = 0 ∧ crH b = 0 ∧ crC b = 0 ∧ crL b = [] ∧ crN b = 0) ∨
    (1 ≤ b.length ∧ b.getD 0 0 = 80 ∧ pnE b ≠ 0 ∧ crE b = pnE b ∧ crW b = 0 ∧ crH b = 0 ∧ crC b = 0 ∧ crL b = [] ∧ crN b = 0) ∨
    (1 ≤ b.length ∧ b.getD 0 0 = 80 ∧ pnE b = 0 ∧ crE b = 0 ∧ crW b = pnK b (pgW b) ∧ crH b = pnK b (pgH b) ∧ crC b = pnK b (kdV b) ∧ crL b = pnL b ∧ crN b = kndV b) ∨
    (1 ≤ b.length ∧ b.getD 0 0 = 66 ∧ rdE b ≠ 0 ∧ crE b = rdE b ∧ crW b = 0 ∧ crH b = 0 ∧ crC b = 0 ∧ crL b = [] ∧ crN b = 0) ∨
    (1 ≤ b.length ∧ b.getD 0 0 = 66 ∧ rdE b = 0 ∧ crE b = 0 ∧ crW b = rdK b (hW b) ∧ crH b = rdK b (hrV (hH0 b)) ∧ crC b = rdK b (hCn b) ∧ crL b = rdL b ∧ crN b = kndV b) ∨
    (1 ≤ b.length ∧ b.getD 0 0 ≠ 80 ∧ b.getD 0 0 ≠ 66 ∧ crE b = 21 ∧ crW b = 0 ∧ crH b = 0 ∧ crC b = 0 ∧ crL b = [] ∧ crN b = 0) := by
  unfold crN
  by_cases h0 : b.length = 0
  · left
    have e : crE b = 20 := if_pos h0
    have hb : b = [] := List.length_eq_zero_iff.1 h0
    refine ⟨h0, e, ?_, ?_, ?_, ?_, by rw [e]; rfl⟩ <;> subst hb <;> rfl
  right
  have h1 : 1 ≤ b.length := by omega
  by_cases k1 : b.getD 0 0 = 80
  · have e : crE b = pnE b := by unfold crE; rw [if_neg h0, if_pos k1]
    have e1 : crW b = pnK b (pgW b) := if_pos k1
    have e2 : crH b = pnK b (pgH b) := if_pos k1
    have e3 : crC b = pnK b (kdV b) := if_pos k1
    have e4 : crL b = pnL b := if_pos k1
    by_cases k2 : pnE b = 0
    · right; left
      exact ⟨h1, k1, k2, e.trans k2, e1, e2, e3, e4, if_pos (e.trans k2)⟩
    · left
      obtain ⟨z1, z2⟩ := pn_bad k2
      exact ⟨h1, k1, k2, e, by rw [e1, z1], by rw [e2, z1], by rw [e3, z1], by rw [e4, z2], if_neg (by rw [e]; exact k2)⟩
  right; right
  by_cases k3 : b.getD 0 0 = 66
  · have e : crE b = rdE b := by unfold crE; rw [if_neg h0, if_neg k1, if_pos k3]
    have e1 : crW b = rdK b (hW b) := by unfold crW; rw [if_neg k1, if_pos k3]
    have e2 : crH b = rdK b (hrV (hH0 b)) := by unfold crH; rw [if_neg k1, if_pos k3]
    have e3 : crC b = rdK b (hCn b) := by unfold crC; rw [if_neg k1, if_pos k3]
    have e4 : crL b = rdL b := by unfold crL; rw [if_neg k1, if_pos k3]
    by_cases k2 : rdE b = 0
    · right; left
      exact ⟨h1, k3, k2, e.trans k2, e1, e2, e3, e4, if_pos (e.trans k2)⟩
    · left
      obtain ⟨z1, z2⟩ := rd_bad k2
      exact ⟨h1, k3, k2, e, by rw [e1, z1], by rw [e2, z1], by rw [e3, z1], by rw [e4, z2], if_neg (by rw [e]; exact k2)⟩
  · right; right
    have e : crE b = 21 := by unfold crE; rw [if_neg h0, if_neg k1, if_neg k3]
    exact ⟨h1, k1, k3, e, by unfold crW; rw [if_neg k1, if_neg k3], by unfold crH; rw [if_neg k1, if_neg k3], by unfold crC; rw [if_neg k1, if_neg k3], by unfold crL; rw [if_neg k1, if_neg k3], if_neg (by rw [e]; decide)⟩
theorem knd_p5 : kndV [80, 53] = 1 := by decide
theorem bytes_p5 : Bytes [80, 53] := fun x hx => by
  have : x = 80 ∨ x = 53 := by simpa using hx
  omega
attribute [local irreducible] crE crW crH crC crL crN pnE pnK pnL pgW pgH kdV rdE rdK rdL kndV hrV
theorem cread_s : SOK Tryd.prog 21 crdS := by
  refine sok_of (C := mkC 0 [(16, pnmS), (37, bmS), (36, kndS)] noG) (mkC_ok (pok_cons pread_s (pok_cons bread_s (pok_cons knd_s pok_nil))) noG_ok) rfl mixed ⟨Tryd.func21, by kernel_rfl, by kernel_rfl, by kernel_rfl⟩ fun l obs v h ho => ?_
  (unfold crdS at h; split at h; rotate_left; (focus (cases h)); rename_i b; simp only [Option.some.injEq, Prod.mk.injEq] at h; obtain ⟨rfl, rfl⟩ := h; simp only [List.mem_cons, List.not_mem_nil, or_false, forall_eq_or_imp, forall_eq, false_implies, implies_true] at ho)
  refine ⟨Nat.le_of_ble_eq_true rfl, ?_⟩
  have bl := ho.le
  have hB := byt_bytes ho
  rcases cr_cs b with ⟨a1, a2, a3, a4, a5, a6, a7⟩ | ⟨a0, a1, a8, a2, a3, a4, a5, a6, a7⟩ | ⟨a0, a1, a8, a2, a3, a4, a5, a6, a7⟩ | ⟨a0, a1, a8, a2, a3, a4, a5, a6, a7⟩ | ⟨a0, a1, a8, a2, a3, a4, a5, a6, a7⟩ | ⟨a0, a1, a8, a2, a3, a4, a5, a6, a7⟩
  all_goals (
    rw [a2, a3, a4, a5, a6, a7]
    clear a2 a3 a4 a5 a6 a7
    try (have g0 : b.getD (Int.toNat 0) 0 = b.getD 0 0 := rfl)
    (repeat' (first | (refine xI (fun hfk => ?_) (fun hfk => ?_) <;> ((try (first | replace hfk := oT hfk | replace hfk := oF hfk | simp only [oA, oB, dh1, dh0, ne_eq, reduceCtorEq] at hfk)); (try exact oX))) | (refine And.intro ?ob ?_; (case ob => (exact oZ))) | exact True.intro | (show _ = _; first | exact oY | (first | exact ho | exact hB | rfl; done) | exact rfl) | exact oW | (apply And.intro))))
theorem alive17_s : SOK Tryd.prog 20 (sN (.bool true)) := by
  refine sok_of (C := mkE 0 [(36, kndS)] noG [] [] []) (mkE_ok (pok_cons knd_s pok_nil) noG_ok dl_nil) rfl mixed ⟨Tryd.func20, by kernel_rfl, by kernel_rfl, by kernel_rfl⟩ fun l obs v h ho => ?_
  obtain ⟨rfl, rfl, rfl⟩ := sN_inv h
  refine ⟨Nat.le_of_ble_eq_true rfl, ?_⟩
  have e : decide (kndV [80, 53] = 1) = true := decide_eq_true knd_p5
  (repeat' (first | (refine xI (fun hfk => ?_) (fun hfk => ?_) <;> ((try (first | replace hfk := oT hfk | replace hfk := oF hfk | simp only [oA, oB, dh1, dh0, ne_eq, reduceCtorEq] at hfk)); (try exact oX))) | (refine And.intro ?ob ?_; (case ob => (exact oZ))) | exact True.intro | (show _ = _; first | exact oY | (first | exact e | exact e.symm; done) | exact rfl) | exact oW | (apply And.intro)))
  exact bytes_p5
end Go.Proofs.YtocboijpmmlegaaDoor
namespace Go.Proofs.YtocboijpmmlegaaDoor
open Go Go.RowKit
set_option maxHeartbeats 16000000
def wrE (w h c n : Int) : Int := if imCheck w h c n ≠ 0 then imCheck w h c n else if c = 1 then 10 else 0
abbrev wrHd (W H c st : Nat) : List Int := hdOut ((54 + H * st : Nat) : Int) 0 54 40 (W : Int) (H : Int) 1 ((8 * c : Nat) : Int) 0 0 0 0 0 0
def wrL (w h c : Int) (p : List Int) : List Int :=
  if wrE w h c p.length = 0 then wrHd w.toNat h.toNat c.toNat (up4 (w * c)).toNat ++ wrB p c.toNat w.toNat h.toNat (up4 (w * c)).toNat else []
structure ImOK (w h c : Int) (p : List Int) (W H C st : Nat) : Prop where
  w_ : w = W
  h_ : h = H
  c_ : c = C
  chk : imCheck w h c p.length = 0
  c34 : C = 3 ∨ C = 4
  w1 : 1 ≤ W
  w2 : W ≤ 32768
  h1 : 1 ≤ H
  h2 : H ≤ 32768
  wh : W * H ≤ 4194304
  len : p.length = H * (W * C)
  st_ : up4 ((W : Int) * (C : Int)) = st
  st1 : W * C ≤ st
  st2 : st ≤ W * C + 3
theorem im_of {w h c : Int} {p : List Int} (hw : wrE w h c p.length = 0) : ImOK w h c p w.toNat h.toNat c.toNat (up4 (w * c)).toNat := by
  unfold wrE at hw
  split at hw
  · rename_i k; exact absurd hw k
  rename_i k1
  have k1 : imCheck w h c p.length = 0 := Classical.not_not.1 k1
  split at hw
  · cases hw
  rename_i k2
  obtain ⟨hf, hn⟩ := check_inv k1
  obtain ⟨hc, w1, w2, h1, h2, wh, _, q1, q2⟩ := fits_inv hf
  obtain ⟨W, rfl⟩ : ∃ W : Nat, w = W := ⟨w.toNat, by omega⟩
  obtain ⟨H, rfl⟩ : ∃ H : Nat, h = H := ⟨h.toNat, by omega⟩
  obtain ⟨C, rfl⟩ : ∃ C : Nat, c = C := ⟨c.toNat, by omega⟩
  have cwh : ((W * H : Nat) : Int) = (W : Int) * (H : Int) := Int.natCast_mul _ _
  have cwc : ((W * C : Nat) : Int) = (W : Int) * (C : Int) := Int.natCast_mul _ _
  have cn : ((H * (W * C) : Nat) : Int) = (W : Int) * (H : Int) * (C : Int) := by rw [← cwh, ← Int.natCast_mul, Nat.mul_comm W H, Nat.mul_assoc]
  have ub := up4_bd ((W : Int) * (C : Int))
  have es : ((up4 ((W : Int) * (C : Int))).toNat : Int) = up4 ((W : Int) * (C : Int)) := Int.toNat_of_nonneg (by omega)
  simp only [Int.toNat_natCast]
  exact ⟨rfl, rfl, rfl, k1, by omega, by omega, by omega, by omega, by omega, by omega, by omega, es.symm, by omega, by omega⟩
abbrev bwS : PSpec := fun l => match l with
  | [.agg [.int .i64 w, .int .i64 h, .int .i64 c, .roi .u8 p]] => some ([p.length ≤ 20000], .tup [.roi .u8 (wrL w h c p), .int .i64 (wrE w h c p.length)])
  | _ => none
end Go.Proofs.YtocboijpmmlegaaDoor
namespace Go.Proofs.YtocboijpmmlegaaDoor
open Go Go.RowKit
set_option maxHeartbeats 16000000
noncomputable def wpCx : Ctx := mkE 0 [(22, checkS), (77, bsizeS), (60, strideS)] (glook [(78, fG putHF), (79, fG rowRF), (63, fG turnF)]) [] [] [6, 8, 12, 13]
theorem wpCx_ok : COK Tryd.prog wpCx := mkE_ok (pok_cons check_s (pok_cons bsize_s (pok_cons stride_s pok_nil))) (gl_cons putH_g (gl_cons rowR_g (gl_cons turn_g gl_nil))) dl_nil
theorem wp_bad {w h c : Int} {p : List Int} (hp : p.length ≤ 20000) (e : wrE w h c p.length ≠ 0) : vcFn wpCx Tryd.f52 [.agg [.int .i64 w, .int .i64 h, .int .i64 c, .roi .u8 p]] ⟨0, []⟩ (Ret (.tup [.roi .u8 (wrL w h c p), .int .i64 (wrE w h c p.length)])) := by
  have z : wrL w h c p = [] := if_neg e
  rw [z]
  by_cases k1 : imCheck w h c p.length = 0
  · have e1 : wrE w h c p.length = if c = 1 then 10 else 0 := if_neg (fun k => k k1)
    have hc : c = 1 := Classical.byContradiction fun k => e (by rw [e1, if_neg k])
    rw [e1, if_pos hc]
    (repeat' (first | (refine xI (fun hfk => ?_) (fun hfk => ?_) <;> ((try (first | replace hfk := oT hfk | replace hfk := oF hfk | simp only [oA, oB, dh1, dh0, ne_eq, reduceCtorEq] at hfk)); (try exact oX))) | (refine And.intro ?ob ?_; (case ob => (exact oZ))) | exact True.intro | (show _ = _; first | exact oY | (rfl; done) | exact rfl) | exact oW | (apply And.intro)))
  · have e1 : wrE w h c p.length = imCheck w h c p.length := if_pos k1
    rw [e1]
    (repeat' (first | (refine xI (fun hfk => ?_) (fun hfk => ?_) <;> ((try (first | replace hfk := oT hfk | replace hfk := oF hfk | simp only [oA, oB, dh1, dh0, ne_eq, reduceCtorEq] at hfk)); (try exact oX))) | (refine And.intro ?ob ?_; (case ob => (exact oZ))) | exact True.intro | (show _ = _; first | exact oY | (rfl; done) | exact rfl) | exact oW | (apply And.intro)))
theorem wp_good {w h c : Int} {p : List Int} (hp : p.length ≤ 20000) (e : wrE w h c p.length = 0) : vcFn wpCx Tryd.f52 [.agg [.int .i64 w, .int .i64 h, .int .i64 c, .roi .u8 p]] ⟨0, []⟩ (Ret (.tup [.roi .u8 (wrL w h c p), .int .i64 (wrE w h c p.length)])) := by
  have hi := im_of e
  have z : wrL w h c p = wrHd w.toNat h.toNat c.toNat (up4 (w * c)).toNat ++ wrB p c.toNat w.toNat h.toNat (up4 (w * c)).toNat := if_pos e
  rw [z, e]
  obtain ⟨W, hW⟩ : ∃ W, w.toNat = W := ⟨_, rfl⟩
  obtain ⟨H, hH⟩ : ∃ H, h.toNat = H := ⟨_, rfl⟩
  obtain ⟨C, hC⟩ : ∃ C, c.toNat = C := ⟨_, rfl⟩
  obtain ⟨st, hst⟩ : ∃ st, (up4 (w * c)).toNat = st := ⟨_, rfl⟩
  rw [hW, hH, hC, hst] at hi ⊢
  clear z e hW hH hC hst
  obtain ⟨rfl, rfl, rfl, chk, c34, w1, w2, h1, h2, wh, len, st_, st1, st2⟩ := hi
  have r8 : rngI .i64 (8 * (C : Int)) := rng64 (by omega) (by omega)
  have hc1 : ¬ (C : Int) = 1 := by omega
  (repeat' (first | (refine xI (fun hfk => ?_) (fun hfk => ?_) <;> ((try (first | replace hfk := oT hfk | replace hfk := oF hfk | simp only [oA, oB, dh1, dh0, ne_eq, reduceCtorEq] at hfk)); (try exact oX))) | (refine And.intro ?ob ?_; (case ob => (exact oZ))) | exact True.intro | (show _ = _; first | exact oY | (skip; done) | exact rfl) | exact oW | (apply And.intro)))
  have cwc : ((W * C : Nat) : Int) = (W : Int) * (C : Int) := Int.natCast_mul _ _
  have chs : ((H * st : Nat) : Int) = (st : Int) * (H : Int) := by rw [Int.natCast_mul, Int.mul_comm]
  have cwh : ((W * H : Nat) : Int) = (W : Int) * (H : Int) := Int.natCast_mul _ _
  have wcb : 3 ≤ W * C ∧ W * C ≤ 131072 := by rcases c34 with k | k <;> subst k <;> omega
  have sv : strV (W : Int) (C : Int) = (st : Int) := by unfold strV; rw [if_neg (by omega)]; exact st_
  have hsb : H * st ≤ 32768 * 131075 := Nat.mul_le_mul (by omega) (by omega)
  have bz : bszV (W : Int) (H : Int) (C : Int) = ((54 + H * st : Nat) : Int) := by
    unfold bszV; rw [sv, if_neg (by omega), ← chs]; omega
  have hn4 : 54 + H * st < 4294967296 := by
    have q1 : H * (W * C) ≤ 20000 := by omega
    have q2 : H * st ≤ H * (W * C + 3) := Nat.mul_le_mul_left _ st2
    rw [Nat.mul_add] at q2
    omega
  have b0 : IntKind.u32.wrap (bszV (W : Int) (H : Int) (C : Int)) = ((54 + H * st : Nat) : Int) := by rw [bz]; exact u32_id (by omega) (by omega)
  have b1 : IntKind.u32.wrap (W : Int) = (W : Int) := u32_id (by omega) (by omega)
  have b2 : IntKind.u32.wrap (H : Int) = (H : Int) := u32_id (by omega) (by omega)
  have b3 : IntKind.u32.wrap (8 * (C : Int)) = ((8 * C : Nat) : Int) := by rw [u32_id (by omega) (by omega)]; omega
  refine ⟨[(1, .ptr 0 0), (5, .ptr 1 0)], ⟨2, [(0, some (.cells 24 [.int .i64 (W : Int), .int .i64 (H : Int), .int .i64 (C : Int), .roi .u8 p])), (1, some (hdEn ((54 + H * st : Nat) : Int) 0 54 40 (W : Int) (H : Int) 1 ((8 * C : Nat) : Int) 0 0 0 0 0 0))]⟩, [some 0, some 1], ?_, ?_⟩
  · (repeat' (first | (refine And.intro ?_ ?_) | exact True.intro | (show _ = _; with_reducible rfl) | exact Chk.mk (by kernel_rfl)))
    all_goals first | exact b0 | exact b1 | exact b2 | exact b3 | rfl
  have u0 : ∀ n : Nat, n < 4294967296 → U32 (n : Int) := fun n hn => ⟨by omega, by omega⟩
  have u1 := u0 (54 + H * st) hn4
  have u2 := u0 W (by omega)
  have u3 := u0 H (by omega)
  have u4 := u0 (8 * C) (by omega)
  have u5 : U32 0 := ⟨by decide, by decide⟩
  have u6 : U32 54 := ⟨by decide, by decide⟩
  have u7 : U32 40 := ⟨by decide, by decide⟩
  have u8 : U32 1 := ⟨by decide, by decide⟩
  have rwc : rngI .i64 ((W : Int) * (C : Int)) := by rw [← cwc]; exact rng64 (by omega) (by omega)
  have rsw : rngI .i64 (strV (W : Int) (C : Int) - (W : Int) * (C : Int)) := by rw [sv, ← cwc]; exact rng64 (by omega) (by omega)
  have om : 0 ≤ strV (W : Int) (C : Int) - (W : Int) * (C : Int) ∧ strV (W : Int) (C : Int) - (W : Int) * (C : Int) ≤ strV (W : Int) (C : Int) - (W : Int) * (C : Int) ∧ strV (W : Int) (C : Int) - (W : Int) * (C : Int) ≤ 140737488355328 ∧ (strV (W : Int) (C : Int) - (W : Int) * (C : Int)) * ((1 : Nat) : Int) ≤ 140737488355328 := by rw [sv, ← cwc]; omega
  (repeat' (first | (refine xI (fun hfk => ?_) (fun hfk => ?_) <;> ((try (first | replace hfk := oT hfk | replace hfk := oF hfk | simp only [oA, oB, dh1, dh0, ne_eq, reduceCtorEq] at hfk)); (try exact oX))) | (refine And.intro ?ob ?_; (case ob => (exact oZ))) | exact True.intro | (show _ = _; first | exact oY | (skip; done) | exact rfl) | exact oW | (apply And.intro)))
  (refine ⟨[1], ⟨by kernel_rfl⟩, ?_⟩)
  (repeat' (first | (refine xI (fun hfk => ?_) (fun hfk => ?_) <;> ((try (first | replace hfk := oT hfk | replace hfk := oF hfk | simp only [oA, oB, dh1, dh0, ne_eq, reduceCtorEq] at hfk)); (try exact oX))) | (refine And.intro ?ob ?_; (case ob => (exact oZ))) | exact True.intro | (show _ = _; first | exact oY | (first | exact u1 | exact u2 | exact u3 | exact u4 | exact u5 | exact u6 | exact u7 | exact u8 | exact om; done) | exact rfl) | exact oW | (apply And.intro)))
  refine ⟨[(1, .ptr 0 0), (6, .sl 2 1 0 54), (7, .sl 3 1 0 (st - W * C))], ⟨4, [(0, some (.cells 24 [.int .i64 (W : Int), .int .i64 (H : Int), .int .i64 (C : Int), .roi .u8 p])), (1, some (hdEn ((54 + H * st : Nat) : Int) 0 54 40 (W : Int) (H : Int) 1 ((8 * C : Nat) : Int) 0 0 0 0 0 0)), (2, some (bE (wrHd W H C st))), (3, some (bE (List.replicate (st - W * C) 0)))]⟩, [some 0, some 1, some 2, some 3], ?_, ?_⟩
  · have z1 : (strV (W : Int) (C : Int) - (W : Int) * (C : Int)).toNat = st - W * C := by rw [sv, ← cwc]; omega
    have z2 : List.replicate (strV (W : Int) (C : Int) - (W : Int) * (C : Int)).toNat (0 : Int) = List.replicate (st - W * C) 0 := by rw [z1]
    (repeat' (first | (refine And.intro ?_ ?_) | exact True.intro | (show _ = _; with_reducible rfl) | exact Chk.mk (by kernel_rfl)))
    all_goals first | rfl | exact z1 | exact z2
  clear rwc rsw om u0 u1 u2 u3 u4 u5 u6 u7 u8 b0 b1 b2 b3 bz hsb
  obtain ⟨A, hA⟩ : ∃ A, wrHd W H C st = A := ⟨_, rfl⟩
  have hAl : A.length = 54 := by rw [← hA]; rfl
  rw [hA]
  have rh : rngI .i64 ((H : Int) - 1) := rng64 (by omega) (by omega)
  have hrl : ∀ k, k < H → (wrRow p C W H st k).length = st := fun k hk => by
    unfold wrRow
    have := prod_of (n := W * C) (show H - 1 - k < H by omega)
    rw [List.length_append, swapTo_len, piece_len (by omega), List.length_replicate]; omega
  have hHs : H * st < 4294967296 := by omega
  (repeat' (first | (refine xI (fun hfk => ?_) (fun hfk => ?_) <;> ((try (first | replace hfk := oT hfk | replace hfk := oF hfk | simp only [oA, oB, dh1, dh0, ne_eq, reduceCtorEq] at hfk)); (try exact oX))) | (refine And.intro ?ob ?_; (case ob => (exact oZ))) | exact True.intro | (show _ = _; first | exact oY | (skip; done) | exact rfl) | exact oW | (apply And.intro)))
  refine ⟨Nat, fun k => [(1, .ptr 0 0), (6, .sl 2 1 0 (54 + k * st)), (7, .sl 3 1 0 (st - W * C)), (8, .int .i64 ((H : Int) - 1 - (k : Int)))], fun k => ⟨4, [(0, some (.cells 24 [.int .i64 (W : Int), .int .i64 (H : Int), .int .i64 (C : Int), .roi .u8 p])), (1, some (hdEn ((54 + H * st : Nat) : Int) 0 54 40 (W : Int) (H : Int) 1 ((8 * C : Nat) : Int) 0 0 0 0 0 0)), (2, some (bE (A ++ catK (wrRow p C W H st) k))), (3, some (bE (List.replicate (st - W * C) 0)))]⟩, fun k => k ≤ H, fun k => H - k, ⟨0, [some 0, some 1, some 2, some 3], Nat.zero_le _, ?_⟩, fun k hk => ?_⟩
  · have z0 : A = A ++ catK (wrRow p C W H st) 0 := (List.append_nil _).symm
    (repeat' (first | (refine And.intro ?_ ?_) | exact True.intro | (show _ = _; with_reducible rfl) | exact Chk.mk (by kernel_rfl)))
    all_goals first | rfl | exact hA.trans z0 | exact z0 | (show (_ : Int) = _; omega) | (show (_ : Nat) = _; omega)
  have hk : k ≤ H := hk
  have hcl := catK_len hrl k hk
  have hol : (A ++ catK (wrRow p C W H st) k).length = 54 + k * st := by rw [List.length_append, hAl, hcl]
  by_cases hlt : k < H
  · have hks := prod_of (n := st) hlt
    have hkw := prod_of (n := W * C) (show H - 1 - k < H by omega)
    have ry : rngI .i64 ((H : Int) - 1 - (k : Int) - 1) := rng64 (by omega) (by omega)
    (repeat' (first | (refine xI (fun hfk => ?_) (fun hfk => ?_) <;> ((try (first | replace hfk := oT hfk | replace hfk := oF hfk | simp only [oA, oB, dh1, dh0, ne_eq, reduceCtorEq] at hfk)); (try exact oX))) | (refine And.intro ?ob ?_; (case ob => (exact oZ))) | exact True.intro | (show _ = _; first | exact oY | (skip; done) | exact rfl) | exact oW | (apply And.intro)))
    (refine ⟨[], ⟨by kernel_rfl⟩, ?_⟩)
    (repeat' (first | (refine xI (fun hfk => ?_) (fun hfk => ?_) <;> ((try (first | replace hfk := oT hfk | replace hfk := oF hfk | simp only [oA, oB, dh1, dh0, ne_eq, reduceCtorEq] at hfk)); (try exact oX))) | (refine And.intro ?ob ?_; (case ob => (exact oZ))) | exact True.intro | (show _ = _; first | exact oY | (skip; done) | exact rfl) | exact oW | (apply And.intro)))
    refine ⟨[(1, .ptr 0 0), (6, .sl 2 1 0 (54 + k * st)), (7, .sl 3 1 0 (st - W * C)), (8, .int .i64 ((H : Int) - 1 - (k : Int))), (9, .sl 4 1 0 (W * C))], ⟨5, [(0, some (.cells 24 [.int .i64 (W : Int), .int .i64 (H : Int), .int .i64 (C : Int), .roi .u8 p])), (1, some (hdEn ((54 + H * st : Nat) : Int) 0 54 40 (W : Int) (H : Int) 1 ((8 * C : Nat) : Int) 0 0 0 0 0 0)), (2, some (bE (A ++ catK (wrRow p C W H st) k))), (3, some (bE (List.replicate (st - W * C) 0))), (4, some (bE (piece p (W * C) (H - 1 - k))))]⟩, [some 0, some 1, some 2, some 3, some 4], ?_, ?_⟩
    · have t1 : ((W : Int) * (C : Int)).toNat = W * C := by rw [← cwc]; omega
      have t2 : (((H : Int) - 1 - (k : Int)) * ((W : Int) * (C : Int))).toNat = (H - 1 - k) * (W * C) := by
        have : (H : Int) - 1 - (k : Int) = ((H - 1 - k : Nat) : Int) := by omega
        rw [this, ← cwc, ← Int.natCast_mul, Int.toNat_natCast]
      have t3 : List.take ((W : Int) * (C : Int)).toNat (List.drop (((H : Int) - 1 - (k : Int)) * ((W : Int) * (C : Int))).toNat p) = piece p (W * C) (H - 1 - k) := by rw [t1, t2]; rfl
      (repeat' (first | (refine And.intro ?_ ?_) | exact True.intro | (show _ = _; with_reducible rfl) | exact Chk.mk (by kernel_rfl)))
      all_goals first | rfl | exact t1 | exact t3
    have hpl : (piece p (W * C) (H - 1 - k)).length = W * C := piece_len (by omega)
    have tc : (C : Int).toNat = C := Int.toNat_natCast C
    have td : W * C / (C : Int).toNat = W := by rw [tc]; exact Nat.mul_div_cancel _ (by omega)
    have y1 : W * C = W * C / (C : Int).toNat * (C : Int).toNat := by rw [td, tc]
    (repeat' (first | (refine xI (fun hfk => ?_) (fun hfk => ?_) <;> ((try (first | replace hfk := oT hfk | replace hfk := oF hfk | simp only [oA, oB, dh1, dh0, ne_eq, reduceCtorEq] at hfk)); (try exact oX))) | (refine And.intro ?ob ?_; (case ob => (exact oZ))) | exact True.intro | (show _ = _; first | exact oY | (skip; done) | exact rfl) | exact oW | (apply And.intro)))
    (refine ⟨[4], ⟨by kernel_rfl⟩, ?_⟩)
    (repeat' (first | (refine xI (fun hfk => ?_) (fun hfk => ?_) <;> ((try (first | replace hfk := oT hfk | replace hfk := oF hfk | simp only [oA, oB, dh1, dh0, ne_eq, reduceCtorEq] at hfk)); (try exact oX))) | (refine And.intro ?ob ?_; (case ob => (exact oZ))) | exact True.intro | (show _ = _; first | exact oY | (skip; done) | exact rfl) | exact oW | (apply And.intro)))
    refine ⟨[(1, .ptr 0 0), (6, .sl 2 1 0 (54 + k * st)), (7, .sl 3 1 0 (st - W * C)), (8, .int .i64 ((H : Int) - 1 - (k : Int))), (9, .sl 4 1 0 (W * C))], ⟨5, [(0, some (.cells 24 [.int .i64 (W : Int), .int .i64 (H : Int), .int .i64 (C : Int), .roi .u8 p])), (1, some (hdEn ((54 + H * st : Nat) : Int) 0 54 40 (W : Int) (H : Int) 1 ((8 * C : Nat) : Int) 0 0 0 0 0 0)), (2, some (bE (A ++ catK (wrRow p C W H st) k))), (3, some (bE (List.replicate (st - W * C) 0))), (4, some (bE (swapTo (piece p (W * C) (H - 1 - k)) 0 C W)))]⟩, [some 0, some 1, some 2, some 3, some 4], ?_, ?_⟩
    · have y2 : swapTo (piece p (W * C) (H - 1 - k)) 0 (C : Int).toNat (W * C / (C : Int).toNat) = swapTo (piece p (W * C) (H - 1 - k)) 0 C W := by rw [td, tc]
      (repeat' (first | (refine And.intro ?_ ?_) | exact True.intro | (show _ = _; with_reducible rfl) | exact Chk.mk (by kernel_rfl)))
      all_goals first | rfl | exact y2
    clear y1 td tc hpl
    have hsl : (swapTo (piece p (W * C) (H - 1 - k)) 0 C W).length = W * C := by rw [swapTo_len, piece_len (by omega)]
    have hzl : (List.replicate (st - W * C) (0 : Int)).length = st - W * C := List.length_replicate ..
    have x1 : List.take (W * C) (List.drop 0 (swapTo (piece p (W * C) (H - 1 - k)) 0 C W)) = swapTo (piece p (W * C) (H - 1 - k)) 0 C W := by rw [List.drop_zero]; exact List.take_of_length_le (by omega)
    have x2 : List.take (st - W * C) (List.drop 0 (List.replicate (st - W * C) (0 : Int))) = List.replicate (st - W * C) 0 := by rw [List.drop_zero]; exact List.take_of_length_le (by omega)
    have x3 : A ++ catK (wrRow p C W H st) k ++ List.take (W * C) (List.drop 0 (swapTo (piece p (W * C) (H - 1 - k)) 0 C W)) ++ List.take (st - W * C) (List.drop 0 (List.replicate (st - W * C) (0 : Int))) = A ++ catK (wrRow p C W H st) (k + 1) := by
      rw [x1, x2]
      show _ = A ++ (catK (wrRow p C W H st) k ++ wrRow p C W H st k)
      unfold wrRow
      simp only [List.append_assoc]
    have x4 : (List.take (W * C) (List.drop 0 (swapTo (piece p (W * C) (H - 1 - k)) 0 C W))).length = W * C := by rw [x1, hsl]
    have x5 : (List.take (st - W * C) (List.drop 0 (List.replicate (st - W * C) (0 : Int)))).length = st - W * C := by rw [x2, hzl]
    (repeat' (first | (refine xI (fun hfk => ?_) (fun hfk => ?_) <;> ((try (first | replace hfk := oT hfk | replace hfk := oF hfk | simp only [oA, oB, dh1, dh0, ne_eq, reduceCtorEq] at hfk)); (try exact oX))) | (refine And.intro ?ob ?_; (case ob => (exact oZ))) | exact True.intro | (show _ = _; first | exact oY | (skip; done) | exact rfl) | exact oW | (apply And.intro)))
    refine ⟨k + 1, [some 0, some 1, some 6, some 3], hlt, ?mu, ?_⟩
    case mu => (show H - (k + 1) < H - k; omega)
    have x6 : (k + 1) * st = k * st + st := Nat.succ_mul _ _
    (repeat' (first | (refine And.intro ?_ ?_) | exact True.intro | (show _ = _; with_reducible rfl) | exact Chk.mk (by kernel_rfl)))
    all_goals first | rfl | exact x3 | (show (_ : Int) = _; omega) | (show (_ : Nat) = _; simp only [List.length_append, hAl, hcl, x4, x5, x6]; omega)
  · obtain rfl : k = H := by omega
    have z1 : List.take (54 + k * st) (List.drop 0 (A ++ catK (wrRow p C W k st) k)) = A ++ wrB p C W k st := by
      rw [List.drop_zero]; exact List.take_of_length_le (by omega)
    (repeat' (first | (refine xI (fun hfk => ?_) (fun hfk => ?_) <;> ((try (first | replace hfk := oT hfk | replace hfk := oF hfk | simp only [oA, oB, dh1, dh0, ne_eq, reduceCtorEq] at hfk)); (try exact oX))) | (refine And.intro ?ob ?_; (case ob => (exact oZ))) | exact True.intro | (show _ = _; first | exact oY | (exact z1; done) | exact rfl) | exact oW | (apply And.intro)))
theorem bwrite_s : SOK Tryd.prog 52 bwS := by
  refine sok_of (C := wpCx) wpCx_ok rfl mixed ⟨Tryd.func52, by kernel_rfl, by kernel_rfl, by kernel_rfl⟩ fun l obs v h ho => ?_
  (unfold bwS at h; split at h; rotate_left; (focus (cases h)); rename_i w hh c p; simp only [Option.some.injEq, Prod.mk.injEq] at h; obtain ⟨rfl, rfl⟩ := h; simp only [List.mem_cons, List.not_mem_nil, or_false, forall_eq_or_imp, forall_eq, false_implies, implies_true] at ho)
  refine ⟨Nat.le_of_ble_eq_true rfl, ?_⟩
  by_cases e : wrE w hh c p.length = 0
  · exact wp_good ho e
  · exact wp_bad ho e
end Go.Proofs.YtocboijpmmlegaaDoor
namespace Go.Proofs.YtocboijpmmlegaaDoor
open Go Go.RowKit
set_option maxHeartbeats 16000000
abbrev rputS : PSpec := fun l => match l with | [.int .i64 x, .int .i64 n] => some ([0 ≤ x, x < 4294967296, 0 ≤ n, n ≤ 4], .roi .u8 (byts x n.toNat)) | _ => none
theorem byt_next {x : Int} (h0 : 0 ≤ x) (t : Nat) : (x / 256 ^ t).tdiv 256 = x / 256 ^ (t + 1) := by
  have hp : (0 : Int) < 256 ^ t := Int.pow_pos (by decide)
  rw [Int.tdiv_eq_ediv_of_nonneg (Int.ediv_nonneg h0 (Int.le_of_lt hp)), Int.ediv_ediv_of_nonneg (Int.le_of_lt hp), Int.pow_succ]
theorem rput_s : SOK Tryd.prog 54 rputS := by
  refine sok_of (C := mkC 0 [] noG) (mkC_ok pok_nil noG_ok) rfl mixed ⟨Tryd.func54, by kernel_rfl, by kernel_rfl, by kernel_rfl⟩ fun l obs v h ho => ?_
  (unfold rputS at h; split at h; rotate_left; (focus (cases h)); rename_i x n; simp only [Option.some.injEq, Prod.mk.injEq] at h; obtain ⟨rfl, rfl⟩ := h; simp only [List.mem_cons, List.not_mem_nil, or_false, forall_eq_or_imp, forall_eq, false_implies, implies_true] at ho)
  obtain ⟨x0, x1, n0, n1⟩ := ho
  refine ⟨Nat.le_of_ble_eq_true rfl, ?_⟩
  (repeat' (first | (refine xI (fun hfk => ?_) (fun hfk => ?_) <;> ((try (first | replace hfk := oT hfk | replace hfk := oF hfk | simp only [oA, oB, dh1, dh0, ne_eq, reduceCtorEq] at hfk)); (try exact oX))) | (refine And.intro ?ob ?_; (case ob => (exact oZ))) | exact True.intro | (show _ = _; first | exact oY | (skip; done) | exact rfl) | exact oW | (apply And.intro)))
  refine ⟨Nat, fun t => [(1, .int .i64 n), (5, .sl 0 1 0 t), (6, .int .i64 (x / 256 ^ t)), (7, .int .i64 (t : Int))], fun t => ⟨1, [(0, some (bE (byts x t)))]⟩, fun t => t ≤ n.toNat, fun t => n.toNat - t, ⟨0, [none], Nat.zero_le _, ?_⟩, fun t ht => ?_⟩
  · have e0 : x = x / 256 ^ 0 := by show x = x / 1; omega
    (repeat' (first | (refine And.intro ?_ ?_) | exact True.intro | (show _ = _; with_reducible rfl) | exact Chk.mk (by kernel_rfl)))
    all_goals first | rfl | exact e0
  have ht : t ≤ n.toNat := ht
  have hp : (0 : Int) < 256 ^ t := Int.pow_pos (by decide)
  have q0 : 0 ≤ x / 256 ^ t := Int.ediv_nonneg x0 (Int.le_of_lt hp)
  have q1 : x / 256 ^ t ≤ x := Int.ediv_le_self _ x0
  have hyn := byt_next x0 t
  have hbt : byt x t = x / 256 ^ t % 256 := rfl
  have hbl := byts_len x t
  by_cases hlt : t < n.toNat
  · have e1 : IntKind.u8.wrap ((x / 256 ^ t).tmod 256) = byt x t := by
      rw [Int.tmod_eq_emod_of_nonneg q0, hbt]; exact w8 (by omega) (by omega)
    have rq : rngI .i64 ((x / 256 ^ t).tdiv 256) := by rw [Int.tdiv_eq_ediv_of_nonneg q0]; exact rng64 (by omega) (by omega)
    have rt : rngI .i64 ((t : Int) + 1) := rng64 (by omega) (by omega)
    have e2 : byts x t ++ List.take 1 (List.drop 0 [IntKind.u8.wrap ((x / 256 ^ t).tmod 256)]) = byts x (t + 1) := by rw [e1, byts_succ]; rfl
    (repeat' (first | (refine xI (fun hfk => ?_) (fun hfk => ?_) <;> ((try (first | replace hfk := oT hfk | replace hfk := oF hfk | simp only [oA, oB, dh1, dh0, ne_eq, reduceCtorEq] at hfk)); (try exact oX))) | (refine And.intro ?ob ?_; (case ob => (exact oZ))) | exact True.intro | (show _ = _; first | exact oY | (skip; done) | exact rfl) | exact oW | (apply And.intro)))
    refine ⟨t + 1, [some 2], hlt, ?mu, ?_⟩
    case mu => (show n.toNat - (t + 1) < n.toNat - t; omega)
    (repeat' (first | (refine And.intro ?_ ?_) | exact True.intro | (show _ = _; with_reducible rfl) | exact Chk.mk (by kernel_rfl)))
    all_goals first | rfl | exact e2 | exact hyn | (show (_ : Int) = _; omega) | (show (_ : Nat) = _; rw [hbl]; rfl)
  · obtain rfl : t = n.toNat := by omega
    have e3 : List.take n.toNat (List.drop 0 (byts x n.toNat)) = byts x n.toNat := by rw [List.drop_zero]; exact List.take_of_length_le (by omega)
    (repeat' (first | (refine xI (fun hfk => ?_) (fun hfk => ?_) <;> ((try (first | replace hfk := oT hfk | replace hfk := oF hfk | simp only [oA, oB, dh1, dh0, ne_eq, reduceCtorEq] at hfk)); (try exact oX))) | (refine And.intro ?ob ?_; (case ob => (exact oZ))) | exact True.intro | (show _ = _; first | exact oY | (exact e3; done) | exact rfl) | exact oW | (apply And.intro)))
theorem cp54 {E Z q : List Int} {o n : Nat} (hE : E.length = 54) (ho : o + q.length ≤ 54) (hn : q.length ≤ n) :
    List.take o (E ++ Z) ++ (List.take (Nat.min q.length n) q ++ List.drop (o + Nat.min q.length n) (E ++ Z)) = spl E o q ++ Z := by
  have hm : Nat.min q.length n = q.length := Nat.min_eq_left hn
  rw [hm, List.take_length, List.take_append_of_le_length (by omega), List.drop_append_of_le_length (by omega)]
  unfold spl
  simp only [List.append_assoc]
theorem cpS {E Z q : List Int} {o : Nat} (hE : E.length = 54) (ho : o + q.length ≤ 54) : List.take o (E ++ Z) ++ (q ++ List.drop (o + q.length) (E ++ Z)) = spl E o q ++ Z := by
  rw [List.take_append_of_le_length (by omega), List.drop_append_of_le_length (by omega)]
  unfold spl
  simp only [List.append_assoc]
def wHd (E : List Int) : Nat → List Int
  | 0 => E
  | i + 1 => spl (wHd E i) (wtG i).1.toNat (byts (wtG i).2.2 (wtG i).2.1.toNat)
theorem wHd_len {E : List Int} (h : E.length = 54) : ∀ i, i ≤ 7 → (wHd E i).length = 54
  | 0, _ => h
  | i + 1, hi => by
    have ih := wHd_len h i (by omega)
    obtain ⟨a1, a2, a3, a4⟩ := wt_in (show i < 7 by omega)
    rw [wHd, spl_len (by rw [byts_len]; omega), ih]
abbrev hE1 : List Int := spl (List.replicate 54 0) 0 [66, 77]
abbrev hE2 (n : Int) : List Int := spl hE1 2 (byts n 4)
abbrev hE3 (n : Int) : List Int := wHd (hE2 n) 7
abbrev hE4 (n w : Int) : List Int := spl (hE3 n) 18 (byts w 4)
abbrev hE5 (n w h : Int) : List Int := spl (hE4 n w) 22 (byts h 4)
abbrev hE6 (n w h c : Int) : List Int := spl (hE5 n w h) 28 (byts c 2)
theorem hE6_is (n w h c : Int) : hE6 n w h c = hdOut n 0 54 40 w h 1 c 0 0 0 0 0 0 := by kernel_rfl
theorem wt_x {j : Nat} (h : j < 7) : 0 ≤ (wtG j).2.2 ∧ (wtG j).2.2 < 4294967296 := by
  have : j = 0 ∨ j = 1 ∨ j = 2 ∨ j = 3 ∨ j = 4 ∨ j = 5 ∨ j = 6 := by omega
  rcases this with k | k | k | k | k | k | k <;> subst k <;> decide
def sx (C q : Nat) : Nat := q / C * C + sw (q % C)
abbrev srcI (W C H r q : Nat) : Nat := (H - 1 - r) * (W * C) + sx C q
def PxI (p : List Int) (W C H st i : Nat) (B : List Int) : Prop :=
  B.length = H * st ∧ ∀ r q, r < H → q < st → B.getD (r * st + q) 0 = if q < W * C ∧ srcI W C H r q < i then p.getD (srcI W C H r q) 0 else 0
theorem sx_lt {C W q : Nat} (hc : 3 ≤ C) (hq : q < W * C) : sx C q < W * C := by
  unfold sx
  have h1 : q / C < W := (Nat.div_lt_iff_lt_mul (by omega)).2 hq
  have h2 := prod_of (n := C) h1
  have h3 := sw_lt (Nat.mod_lt q (show 0 < C by omega)) hc
  omega
theorem sx_sx {C q : Nat} (hc : 3 ≤ C) : sx C (sx C q) = q := by
  have h3 := sw_lt (Nat.mod_lt q (show 0 < C by omega)) hc
  have h1 : sx C q / C = q / C := by
    unfold sx
    rw [Nat.add_comm, Nat.add_mul_div_right _ _ (by omega), Nat.div_eq_of_lt h3, Nat.zero_add]
  have h2 : sx C q % C = sw (q % C) := mod_of h3
  have h4 : sx C (sx C q) = sx C q / C * C + sw (sx C q % C) := rfl
  rw [h4, h1, h2, sw_sw, Nat.mul_comm]
  exact Nat.div_add_mod q C
theorem px0 (p : List Int) (W C H st : Nat) : PxI p W C H st 0 (List.replicate (H * st) 0) := by
  refine ⟨by simp, fun r q hr hq => ?_⟩
  rw [if_neg (by omega)]
  have := prod_of (n := st) hr
  simp only [List.getD, List.getElem?_replicate]
  split <;> rfl
theorem px_next {p B : List Int} {W C H st i Y M : Nat} (hc : 3 ≤ C) (h : PxI p W C H st i B) (hy : Y < H) (hm : M < W * C) (hi : i = Y * (W * C) + M) (hst : W * C ≤ st) :
    PxI p W C H st (i + 1) (B.set ((H - 1 - Y) * st + sx C M) (p.getD i 0)) := by
  obtain ⟨h1, h2⟩ := h
  have hs := sx_lt hc hm
  have hp := prod_of (n := st) (show H - 1 - Y < H by omega)
  refine ⟨by rw [List.length_set]; exact h1, fun r q hr hq => ?_⟩
  rw [set_getD (by omega)]
  by_cases he : r = H - 1 - Y ∧ q = sx C M
  · obtain ⟨rfl, rfl⟩ := he
    have e : srcI W C H (H - 1 - Y) (sx C M) = i := by
      unfold srcI
      rw [sx_sx hc, show H - 1 - (H - 1 - Y) = Y by omega, hi]
    rw [if_pos rfl, if_pos ⟨hs, by rw [e]; omega⟩, e]
  · have hne : ¬ r * st + q = (H - 1 - Y) * st + sx C M := fun k => by
      have hst0 : 0 < st := by omega
      have d1 : (r * st + q) / st = r := by rw [Nat.add_comm, Nat.add_mul_div_right _ _ hst0, Nat.div_eq_of_lt hq, Nat.zero_add]
      have d2 : ((H - 1 - Y) * st + sx C M) / st = H - 1 - Y := by rw [Nat.add_comm, Nat.add_mul_div_right _ _ hst0, Nat.div_eq_of_lt (by omega), Nat.zero_add]
      rw [k, d2] at d1
      exact he ⟨d1.symm, by rw [← d1] at k; omega⟩
    rw [if_neg hne, h2 r q hr hq]
    by_cases hqw : q < W * C
    · have hni : srcI W C H r q ≠ i := fun k => by
        apply he
        have k1 := sx_lt hc hqw
        have k4 : (H - 1 - r) * (W * C) + sx C q = Y * (W * C) + M := by rw [← hi]; exact k
        have hw0 : 0 < W * C := by omega
        have d1 : ((H - 1 - r) * (W * C) + sx C q) / (W * C) = H - 1 - r := by rw [Nat.add_comm, Nat.add_mul_div_right _ _ hw0, Nat.div_eq_of_lt k1, Nat.zero_add]
        have d2 : (Y * (W * C) + M) / (W * C) = Y := by rw [Nat.add_comm, Nat.add_mul_div_right _ _ hw0, Nat.div_eq_of_lt hm, Nat.zero_add]
        rw [k4, d2] at d1
        have d3 : M = sx C q := by rw [← d1] at k4; omega
        exact ⟨by omega, by rw [d3, sx_sx hc]⟩
      by_cases hlt : srcI W C H r q < i
      · rw [if_pos ⟨hqw, hlt⟩, if_pos ⟨hqw, by omega⟩]
      · rw [if_neg (fun k => hlt k.2), if_neg (fun k => hlt (by have := k.2; omega))]
    · rw [if_neg (fun k => hqw k.1), if_neg (fun k => hqw k.1)]
theorem px_end {p B : List Int} {W C H st : Nat} (hc : 3 ≤ C) (h : PxI p W C H st (H * (W * C)) B) (hp : p.length = H * (W * C)) (hst : W * C ≤ st) : B = wrB p C W H st := by
  obtain ⟨h1, h2⟩ := h
  have hl : ∀ k, k < H → (wrRow p C W H st k).length = st := fun k hk => by
    unfold wrRow
    have := prod_of (n := W * C) (show H - 1 - k < H by omega)
    rw [List.length_append, swapTo_len, piece_len (by omega), List.length_replicate]; omega
  refine eq_pieces (Q := H) (d := st) h1 (catK_len hl H (Nat.le_refl _)) fun r q hr hq => ?_
  rw [h2 r q hr hq]
  unfold wrB
  rw [catK_get hl H (Nat.le_refl _) r q hr hq]
  unfold wrRow
  have hrw := prod_of (n := W * C) (show H - 1 - r < H by omega)
  have hpl : (piece p (W * C) (H - 1 - r)).length = W * C := piece_len (by omega)
  have hsl : (swapTo (piece p (W * C) (H - 1 - r)) 0 C W).length = W * C := by rw [swapTo_len, hpl]
  by_cases hqw : q < W * C
  · have hsx := sx_lt hc hqw
    rw [if_pos ⟨hqw, by unfold srcI; omega⟩, List.getD_eq_getElem?_getD (l := _ ++ _), List.getElem?_append_left (by omega), ← List.getD_eq_getElem?_getD]
    have h3 : q / C < W := (Nat.div_lt_iff_lt_mul (by omega)).2 hqw
    have h4 := (swapTo_get (L := piece p (W * C) (H - 1 - r)) (o := 0) (c := C) hc W (by omega)).1 (q / C) (q % C) h3 (Nat.mod_lt q (by omega))
    simp only [Nat.zero_add] at h4
    rw [show q / C * C + q % C = q by rw [Nat.mul_comm]; exact Nat.div_add_mod q C] at h4
    rw [h4, piece_get (by exact hsx)]; rfl
  · rw [if_neg (fun k => hqw k.1), List.getD_eq_getElem?_getD (l := _ ++ _), List.getElem?_append_right (by omega), hsl, List.getElem?_replicate, if_pos (by omega)]; rfl
end Go.Proofs.YtocboijpmmlegaaDoor
namespace Go.Proofs.YtocboijpmmlegaaDoor
open Go Go.RowKit
set_option maxHeartbeats 16000000
noncomputable def wdCx : Ctx := mkE 0 [(23, checkS), (53, rstrS), (54, rputS), (55, sN wantsA)] noG [] [] [6, 7, 8, 12, 14, 15, 16, 22]
theorem wdCx_ok : COK Tryd.prog wdCx := mkE_ok (pok_cons rcheck7_s (pok_cons rstr_s (pok_cons rput_s (pok_cons wants_s pok_nil)))) noG_ok dl_nil
theorem wd_bad {w h c : Int} {p : List Int} (hp : p.length ≤ 20000) (e : wrE w h c p.length ≠ 0) : vcFn wdCx Tryd.f35 [.agg [.int .i64 w, .int .i64 h, .int .i64 c, .roi .u8 p]] ⟨0, []⟩ (Ret (.tup [.roi .u8 (wrL w h c p), .int .i64 (wrE w h c p.length)])) := by
  have z : wrL w h c p = [] := if_neg e
  rw [z]
  by_cases k1 : imCheck w h c p.length = 0
  · have e1 : wrE w h c p.length = if c = 1 then 10 else 0 := if_neg (fun k => k k1)
    have hc : c = 1 := Classical.byContradiction fun k => e (by rw [e1, if_neg k])
    rw [e1, if_pos hc]
    (repeat' (first | (refine xI (fun hfk => ?_) (fun hfk => ?_) <;> ((try (first | replace hfk := oT hfk | replace hfk := oF hfk | simp only [oA, oB, dh1, dh0, ne_eq, reduceCtorEq] at hfk)); (try exact oX))) | (refine And.intro ?ob ?_; (case ob => (exact oZ))) | exact True.intro | (show _ = _; first | exact oY | (rfl; done) | exact rfl) | exact oW | (apply And.intro)))
  · have e1 : wrE w h c p.length = imCheck w h c p.length := if_pos k1
    rw [e1]
    (repeat' (first | (refine xI (fun hfk => ?_) (fun hfk => ?_) <;> ((try (first | replace hfk := oT hfk | replace hfk := oF hfk | simp only [oA, oB, dh1, dh0, ne_eq, reduceCtorEq] at hfk)); (try exact oX))) | (refine And.intro ?ob ?_; (case ob => (exact oZ))) | exact True.intro | (show _ = _; first | exact oY | (rfl; done) | exact rfl) | exact oW | (apply And.intro)))
theorem px_idx {i W C H : Nat} (hc : 3 ≤ C) (hw : 1 ≤ W) (h : i < H * (W * C)) : i % C < C ∧ i / C % W < W ∧ i / C / W < H ∧ i = i / C / W * (W * C) + (i / C % W * C + i % C) := by
  refine ⟨Nat.mod_lt _ (by omega), Nat.mod_lt _ (by omega), ?_, ?_⟩
  · rw [Nat.div_div_eq_div_mul, Nat.mul_comm C W]
    exact (Nat.div_lt_iff_lt_mul (Nat.mul_pos (by omega) (by omega))).2 h
  · have h1 := Nat.div_add_mod i C
    have h2 := Nat.div_add_mod (i / C) W
    have h3 : i / C / W * (W * C) + i / C % W * C = C * (i / C) := by
      rw [← Nat.mul_assoc, ← Nat.add_mul, Nat.mul_comm (i / C / W) W, h2, Nat.mul_comm]
    omega
theorem sx_at {C X K : Nat} (hc : 3 ≤ C) (hk : K < C) : sx C (X * C + K) = X * C + sw K := by
  unfold sx
  rw [mod_of hk, Nat.add_comm (X * C) K, Nat.add_mul_div_right _ _ (by omega), Nat.div_eq_of_lt hk, Nat.zero_add]
theorem set54 {E B : List Int} (hE : E.length = 54) (j : Nat) (v : Int) : (E ++ B).set (0 + (54 + j)) v = E ++ B.set j v := by
  rw [Nat.zero_add, List.set_append_right _ _ (by omega), hE, Nat.add_sub_cancel_left]
theorem wd_good {w h c : Int} {p : List Int} (hp : p.length ≤ 20000) (e : wrE w h c p.length = 0) : vcFn wdCx Tryd.f35 [.agg [.int .i64 w, .int .i64 h, .int .i64 c, .roi .u8 p]] ⟨0, []⟩ (Ret (.tup [.roi .u8 (wrL w h c p), .int .i64 (wrE w h c p.length)])) := by
  have hi := im_of e
  have z : wrL w h c p = wrHd w.toNat h.toNat c.toNat (up4 (w * c)).toNat ++ wrB p c.toNat w.toNat h.toNat (up4 (w * c)).toNat := if_pos e
  rw [z, e]
  obtain ⟨W, hW⟩ : ∃ W, w.toNat = W := ⟨_, rfl⟩
  obtain ⟨H, hH⟩ : ∃ H, h.toNat = H := ⟨_, rfl⟩
  obtain ⟨C, hC⟩ : ∃ C, c.toNat = C := ⟨_, rfl⟩
  obtain ⟨st, hst⟩ : ∃ st, (up4 (w * c)).toNat = st := ⟨_, rfl⟩
  rw [hW, hH, hC, hst] at hi ⊢
  clear z e hW hH hC hst
  obtain ⟨rfl, rfl, rfl, chk, c34, w1, w2, h1, h2, wh, len, st_, st1, st2⟩ := hi
  have hc1 : ¬ (C : Int) = 1 := by omega
  have cwc : ((W * C : Nat) : Int) = (W : Int) * (C : Int) := Int.natCast_mul _ _
  have chs : ((H * st : Nat) : Int) = (st : Int) * (H : Int) := by rw [Int.natCast_mul, Int.mul_comm]
  have wcb : 3 ≤ W * C ∧ W * C ≤ 131072 := by rcases c34 with k | k <;> subst k <;> omega
  have hn4 : H * st ≤ 200000 := by
    have q1 : H * (W * C) ≤ 20000 := by omega
    have q2 : H * st ≤ H * (W * C + 3) := Nat.mul_le_mul_left _ st2
    rw [Nat.mul_add] at q2
    omega
  have wc1 : 0 ≤ (W : Int) * (C : Int) := by omega
  have wc2 : (W : Int) * (C : Int) ≤ 4294967296 := by omega
  have un : up4 ((W : Int) * (C : Int)) * (H : Int) = ((H * st : Nat) : Int) := by rw [st_, chs]
  have r1 : rngI .i64 (up4 ((W : Int) * (C : Int)) * (H : Int)) := by rw [un]; exact rng64 (by omega) (by omega)
  have r2 : rngI .i64 (54 + up4 ((W : Int) * (C : Int)) * (H : Int)) := by rw [un]; exact rng64 (by omega) (by omega)
  have om : 0 ≤ 54 + up4 ((W : Int) * (C : Int)) * (H : Int) ∧ 54 + up4 ((W : Int) * (C : Int)) * (H : Int) ≤ 54 + up4 ((W : Int) * (C : Int)) * (H : Int) ∧ 54 + up4 ((W : Int) * (C : Int)) * (H : Int) ≤ 140737488355328 ∧ (54 + up4 ((W : Int) * (C : Int)) * (H : Int)) * ((1 : Nat) : Int) ≤ 140737488355328 := by rw [un]; omega
  have z1 : (54 + up4 ((W : Int) * (C : Int)) * (H : Int)).toNat = 54 + H * st := by rw [un]; omega
  have z2 : List.replicate (54 + up4 ((W : Int) * (C : Int)) * (H : Int)).toNat 0 = List.replicate 54 0 ++ List.replicate (H * st) (0 : Int) := by rw [z1, List.replicate_append_replicate]
  (repeat' (first | (refine xI (fun hfk => ?_) (fun hfk => ?_) <;> ((try (first | replace hfk := oT hfk | replace hfk := oF hfk | simp only [oA, oB, dh1, dh0, ne_eq, reduceCtorEq] at hfk)); (try exact oX))) | (refine And.intro ?ob ?_; (case ob => (exact oZ))) | exact True.intro | (show _ = _; first | exact oY | (exact om; done) | exact rfl) | exact oW | (apply And.intro)))
  obtain ⟨Z, hZ⟩ : ∃ Z, List.replicate (H * st) (0 : Int) = Z := ⟨_, rfl⟩
  have hZl : Z.length = H * st := by rw [← hZ]; simp
  obtain ⟨E0, q0⟩ : ∃ E, List.replicate 54 (0 : Int) = E := ⟨_, rfl⟩
  rw [hZ, q0] at z2
  refine ⟨[(1, .ptr 0 0), (5, .sl 1 1 0 (54 + H * st))], ⟨2, [(0, some (.cells 24 [.int .i64 (W : Int), .int .i64 (H : Int), .int .i64 (C : Int), .roi .u8 p])), (1, some (bE (E0 ++ Z)))]⟩, [some 0, some 1], ?_, ?_⟩
  · (repeat' (first | (refine And.intro ?_ ?_) | exact True.intro | (show _ = _; with_reducible rfl) | exact Chk.mk (by kernel_rfl)))
    all_goals first | exact z1 | exact z2 | rfl
  clear r1 r2 om z1 z2 wc1 wc2 un chs
  have e0l : E0.length = 54 := by rw [← q0]; rfl
  have l0 : (E0 ++ Z).length = 54 + H * st := by rw [List.length_append, hZl, e0l]
  obtain ⟨N, hN⟩ : ∃ N : Int, ((54 + H * st : Nat) : Int) = N := ⟨_, rfl⟩
  have hN0 : 0 ≤ N ∧ N < 4294967296 := by omega
  have r8 : rngI .i64 (8 * (C : Int)) := rng64 (by omega) (by omega)
  (repeat' (first | (refine xI (fun hfk => ?_) (fun hfk => ?_) <;> ((try (first | replace hfk := oT hfk | replace hfk := oF hfk | simp only [oA, oB, dh1, dh0, ne_eq, reduceCtorEq] at hfk)); (try exact oX))) | (refine And.intro ?ob ?_; (case ob => (exact oZ))) | exact True.intro | (show _ = _; first | exact oY | (skip; done) | exact rfl) | exact oW | (apply And.intro)))
  obtain ⟨E1, q1⟩ : ∃ E, spl E0 0 [66, 77] = E := ⟨_, rfl⟩
  have e1l : E1.length = 54 := by rw [← q1, spl_len (by rw [e0l]; decide), e0l]
  refine ⟨[(1, .ptr 0 0), (5, .sl 1 1 0 (54 + H * st))], ⟨2, [(0, some (.cells 24 [.int .i64 (W : Int), .int .i64 (H : Int), .int .i64 (C : Int), .roi .u8 p])), (1, some (bE (E1 ++ Z)))]⟩, [some 0, some 1], ?_, ?_⟩
  · have c7 := cpS (E := E0) (Z := Z) (o := 0) (q := (ByteArray.mk #[66, 77]).data.toList.map (fun c => (c.toNat : Int))) e0l (by decide)
    have c8 := congrArg (· ++ Z) q1
    (repeat' (first | (refine And.intro ?_ ?_) | exact True.intro | (show _ = _; with_reducible rfl) | exact Chk.mk (by kernel_rfl)))
    all_goals first | exact c7.trans c8 | rfl
  have l1 : (E1 ++ Z).length = 54 + H * st := by rw [List.length_append, hZl, e1l]
  (repeat' (first | (refine xI (fun hfk => ?_) (fun hfk => ?_) <;> ((try (first | replace hfk := oT hfk | replace hfk := oF hfk | simp only [oA, oB, dh1, dh0, ne_eq, reduceCtorEq] at hfk)); (try exact oX))) | (refine And.intro ?ob ?_; (case ob => (exact oZ))) | exact True.intro | (show _ = _; first | exact oY | (skip; done) | exact rfl) | exact oW | (apply And.intro)))
  obtain ⟨E2, q2⟩ : ∃ E, spl E1 2 (byts N 4) = E := ⟨_, rfl⟩
  have e2l : E2.length = 54 := by rw [← q2, spl_len (by rw [byts_len, e1l]; omega), e1l]
  have l2 : (E2 ++ Z).length = 54 + H * st := by rw [List.length_append, hZl, e2l]
  refine ⟨[(1, .ptr 0 0), (5, .sl 1 1 0 (54 + H * st))], ⟨2, [(0, some (.cells 24 [.int .i64 (W : Int), .int .i64 (H : Int), .int .i64 (C : Int), .roi .u8 p])), (1, some (bE (E2 ++ Z)))]⟩, [some 0, some 1], ?_, ?_⟩
  · (repeat' (first | (refine And.intro ?_ ?_) | exact True.intro | (show _ = _; with_reducible rfl) | exact Chk.mk (by kernel_rfl)))
    rw [hN]
    all_goals first | rfl | exact (cp54 e1l (by rw [byts_len]; omega) (by rw [byts_len]; omega)).trans (congrArg (· ++ Z) q2)
  clear l2
  have l2 : (E2 ++ Z).length = 54 + H * st := by rw [List.length_append, hZl, e2l]
  (repeat' (first | (refine xI (fun hfk => ?_) (fun hfk => ?_) <;> ((try (first | replace hfk := oT hfk | replace hfk := oF hfk | simp only [oA, oB, dh1, dh0, ne_eq, reduceCtorEq] at hfk)); (try exact oX))) | (refine And.intro ?ob ?_; (case ob => (exact oZ))) | exact True.intro | (show _ = _; first | exact oY | (skip; done) | exact rfl) | exact oW | (apply And.intro)))
  refine ⟨Nat, fun i => [(1, .ptr 0 0), (5, .sl 1 1 0 (54 + H * st)), (38, wantsA), (39, .int .i64 7), (40, .int .i64 (i : Int))], fun i => ⟨2, [(0, some (.cells 24 [.int .i64 (W : Int), .int .i64 (H : Int), .int .i64 (C : Int), .roi .u8 p])), (1, some (bE (wHd E2 i ++ Z)))]⟩, fun i => i ≤ 7, fun i => 7 - i, ⟨0, [some 0, some 1], Nat.zero_le _, ?_⟩, fun i hi => ?_⟩
  · (repeat' (first | (refine And.intro ?_ ?_) | exact True.intro | (show _ = _; with_reducible rfl) | exact Chk.mk (by kernel_rfl)))
    all_goals first | (intro j hj; rfl) | rfl
  have hi : i ≤ 7 := hi
  have ewl := wHd_len e2l i hi
  have lw7 : (wHd E2 i ++ Z).length = 54 + H * st := by rw [List.length_append, hZl, ewl]
  by_cases hlt : i < 7
  · obtain ⟨a1, a2, a3, a4⟩ := wt_in hlt
    have a5 := wt_x hlt
    have a1' : 0 ≤ (wtG (i : Int).toNat).1 := a1
    have a2' : 0 ≤ (wtG (i : Int).toNat).2.1 := a2
    have a3' : (wtG (i : Int).toNat).2.1 ≤ 4 := a3
    have a4' : (wtG (i : Int).toNat).1 + (wtG (i : Int).toNat).2.1 ≤ 54 := a4
    have a5' : 0 ≤ (wtG (i : Int).toNat).2.2 ∧ (wtG (i : Int).toNat).2.2 < 4294967296 := a5
    have ri : rngI .i64 ((i : Int) + 1) := rng64 (by omega) (by omega)
    have bl : (byts (wtG (i : Int).toNat).2.2 (wtG (i : Int).toNat).2.1.toNat).length = (wtG (i : Int).toNat).2.1.toNat := byts_len _ _
    (repeat' (first | (refine xI (fun hfk => ?_) (fun hfk => ?_) <;> ((try (first | replace hfk := oT hfk | replace hfk := oF hfk | simp only [oA, oB, dh1, dh0, ne_eq, reduceCtorEq] at hfk)); (try exact oX))) | (refine And.intro ?ob ?_; (case ob => (exact oZ))) | exact True.intro | (show _ = _; first | exact oY | (skip; done) | exact rfl) | exact oW | (apply And.intro)))
    refine ⟨[(1, .ptr 0 0), (5, .sl 1 1 0 (54 + H * st)), (38, wantsA), (39, .int .i64 7), (40, .int .i64 (i : Int))], ⟨2, [(0, some (.cells 24 [.int .i64 (W : Int), .int .i64 (H : Int), .int .i64 (C : Int), .roi .u8 p])), (1, some (bE (wHd E2 (i + 1) ++ Z)))]⟩, [some 0, some 1], ?_, ?_⟩
    · have cw : ∀ n : Nat, (wtG (i : Int).toNat).2.1.toNat ≤ n → List.take (0 + (wtG (i : Int).toNat).1.toNat) (wHd E2 i ++ Z) ++ (List.take (Nat.min (byts (wtG (i : Int).toNat).2.2 (wtG (i : Int).toNat).2.1.toNat).length n) (byts (wtG (i : Int).toNat).2.2 (wtG (i : Int).toNat).2.1.toNat) ++ List.drop (0 + (wtG (i : Int).toNat).1.toNat + Nat.min (byts (wtG (i : Int).toNat).2.2 (wtG (i : Int).toNat).2.1.toNat).length n) (wHd E2 i ++ Z)) = wHd E2 (i + 1) ++ Z := fun n hn => by
        rw [cp54 ewl (by rw [bl]; omega) (by rw [bl]; exact hn), Nat.zero_add]; rfl
      (repeat' (first | (refine And.intro ?_ ?_) | exact True.intro | (show _ = _; with_reducible rfl) | exact Chk.mk (by kernel_rfl)))
      all_goals first | (intro j hj; rfl) | rfl | exact cw _ (by omega)
    (repeat' (first | (refine xI (fun hfk => ?_) (fun hfk => ?_) <;> ((try (first | replace hfk := oT hfk | replace hfk := oF hfk | simp only [oA, oB, dh1, dh0, ne_eq, reduceCtorEq] at hfk)); (try exact oX))) | (refine And.intro ?ob ?_; (case ob => (exact oZ))) | exact True.intro | (show _ = _; first | exact oY | (skip; done) | exact rfl) | exact oW | (apply And.intro)))
    refine ⟨i + 1, [some 0, some 1], hlt, ?mu, ?_⟩
    case mu => (show 7 - (i + 1) < 7 - i; omega)
    (repeat' (first | (refine And.intro ?_ ?_) | exact True.intro | (show _ = _; with_reducible rfl) | exact Chk.mk (by kernel_rfl)))
    all_goals first | (intro j hj; rfl) | rfl | (show (_ : Int) = _; omega)
  obtain rfl : i = 7 := by omega
  (repeat' (first | (refine xI (fun hfk => ?_) (fun hfk => ?_) <;> ((try (first | replace hfk := oT hfk | replace hfk := oF hfk | simp only [oA, oB, dh1, dh0, ne_eq, reduceCtorEq] at hfk)); (try exact oX))) | (refine And.intro ?ob ?_; (case ob => (exact oZ))) | exact True.intro | (show _ = _; first | exact oY | (skip; done) | exact rfl) | exact oW | (apply And.intro)))
  obtain ⟨E4, q4⟩ : ∃ E, spl (wHd E2 7) 18 (byts (W : Int) 4) = E := ⟨_, rfl⟩
  have e4l : E4.length = 54 := by rw [← q4, spl_len (by rw [byts_len, ewl]; omega), ewl]
  have l4 : (E4 ++ Z).length = 54 + H * st := by rw [List.length_append, hZl, e4l]
  refine ⟨[(1, .ptr 0 0), (5, .sl 1 1 0 (54 + H * st))], ⟨2, [(0, some (.cells 24 [.int .i64 (W : Int), .int .i64 (H : Int), .int .i64 (C : Int), .roi .u8 p])), (1, some (bE (E4 ++ Z)))]⟩, [some 0, some 1], ?_, ?_⟩
  · (repeat' (first | (refine And.intro ?_ ?_) | exact True.intro | (show _ = _; with_reducible rfl) | exact Chk.mk (by kernel_rfl)))
    all_goals first | rfl | exact (cp54 ewl (by rw [byts_len]; omega) (by rw [byts_len]; omega)).trans (congrArg (· ++ Z) q4)
  clear l4
  have l4 : (E4 ++ Z).length = 54 + H * st := by rw [List.length_append, hZl, e4l]
  (repeat' (first | (refine xI (fun hfk => ?_) (fun hfk => ?_) <;> ((try (first | replace hfk := oT hfk | replace hfk := oF hfk | simp only [oA, oB, dh1, dh0, ne_eq, reduceCtorEq] at hfk)); (try exact oX))) | (refine And.intro ?ob ?_; (case ob => (exact oZ))) | exact True.intro | (show _ = _; first | exact oY | (skip; done) | exact rfl) | exact oW | (apply And.intro)))
  obtain ⟨E5, q5⟩ : ∃ E, spl E4 22 (byts (H : Int) 4) = E := ⟨_, rfl⟩
  have e5l : E5.length = 54 := by rw [← q5, spl_len (by rw [byts_len, e4l]; omega), e4l]
  have l5 : (E5 ++ Z).length = 54 + H * st := by rw [List.length_append, hZl, e5l]
  refine ⟨[(1, .ptr 0 0), (5, .sl 1 1 0 (54 + H * st))], ⟨2, [(0, some (.cells 24 [.int .i64 (W : Int), .int .i64 (H : Int), .int .i64 (C : Int), .roi .u8 p])), (1, some (bE (E5 ++ Z)))]⟩, [some 0, some 1], ?_, ?_⟩
  · (repeat' (first | (refine And.intro ?_ ?_) | exact True.intro | (show _ = _; with_reducible rfl) | exact Chk.mk (by kernel_rfl)))
    all_goals first | rfl | exact (cp54 e4l (by rw [byts_len]; omega) (by rw [byts_len]; omega)).trans (congrArg (· ++ Z) q5)
  clear l5
  have l5 : (E5 ++ Z).length = 54 + H * st := by rw [List.length_append, hZl, e5l]
  (repeat' (first | (refine xI (fun hfk => ?_) (fun hfk => ?_) <;> ((try (first | replace hfk := oT hfk | replace hfk := oF hfk | simp only [oA, oB, dh1, dh0, ne_eq, reduceCtorEq] at hfk)); (try exact oX))) | (refine And.intro ?ob ?_; (case ob => (exact oZ))) | exact True.intro | (show _ = _; first | exact oY | (skip; done) | exact rfl) | exact oW | (apply And.intro)))
  obtain ⟨E6, q6⟩ : ∃ E, spl E5 28 (byts (8 * (C : Int)) 2) = E := ⟨_, rfl⟩
  have e6l : E6.length = 54 := by rw [← q6, spl_len (by rw [byts_len, e5l]; omega), e5l]
  have l6 : (E6 ++ Z).length = 54 + H * st := by rw [List.length_append, hZl, e6l]
  refine ⟨[(1, .ptr 0 0), (5, .sl 1 1 0 (54 + H * st))], ⟨2, [(0, some (.cells 24 [.int .i64 (W : Int), .int .i64 (H : Int), .int .i64 (C : Int), .roi .u8 p])), (1, some (bE (E6 ++ Z)))]⟩, [some 0, some 1], ?_, ?_⟩
  · (repeat' (first | (refine And.intro ?_ ?_) | exact True.intro | (show _ = _; with_reducible rfl) | exact Chk.mk (by kernel_rfl)))
    all_goals first | rfl | exact (cp54 e5l (by rw [byts_len]; omega) (by rw [byts_len]; omega)).trans (congrArg (· ++ Z) q6)
  clear l6
  have l6 : (E6 ++ Z).length = 54 + H * st := by rw [List.length_append, hZl, e6l]
  (repeat' (first | (refine xI (fun hfk => ?_) (fun hfk => ?_) <;> ((try (first | replace hfk := oT hfk | replace hfk := oF hfk | simp only [oA, oB, dh1, dh0, ne_eq, reduceCtorEq] at hfk)); (try exact oX))) | (refine And.intro ?ob ?_; (case ob => (exact oZ))) | exact True.intro | (show _ = _; first | exact oY | (skip; done) | exact rfl) | exact oW | (apply And.intro)))
  have e6 : E6 = wrHd W H C st := by
    rw [← q6, ← q5, ← q4, ← q2, ← q1, ← q0]
    refine (hE6_is N W H (8 * (C : Int))).trans ?_
    rw [← hN, show (8 * (C : Int)) = ((8 * C : Nat) : Int) by omega]
  refine ⟨Nat × List Int, fun g => [(1, .ptr 0 0), (5, .sl 1 1 0 (54 + H * st)), (8, .int .i64 (g.1 : Int))], fun g => ⟨2, [(0, some (.cells 24 [.int .i64 (W : Int), .int .i64 (H : Int), .int .i64 (C : Int), .roi .u8 p])), (1, some (bE (E6 ++ g.2)))]⟩,
    fun g => g.1 ≤ H * (W * C) ∧ PxI p W C H st g.1 g.2, fun g => H * (W * C) - g.1, ⟨(0, Z), [some 0, some 1], ⟨Nat.zero_le _, by rw [← hZ]; exact px0 p W C H st⟩, ?_⟩, fun g hg => ?_⟩
  · (repeat' (first | (refine And.intro ?_ ?_) | exact True.intro | (show _ = _; with_reducible rfl) | exact Chk.mk (by kernel_rfl)))
    all_goals rfl
  obtain ⟨i, B⟩ := g
  obtain ⟨g1, g2⟩ := hg
  have g1 : i ≤ H * (W * C) := g1
  have g2 : PxI p W C H st i B := g2
  have hBl := g2.1
  dsimp only
  have c3 : 3 ≤ C := by omega
  by_cases hlt : i < H * (W * C)
  · clear q6 q5 q4 q2 q1 q0 e5l e4l e2l e1l e0l l6 l5 l4 l1 l0 r8 e6 hZ hZl hN hN0 chk ewl lw7
    have hi := px_idx c3 w1 hlt
    have eK : (i : Int).tmod (C : Int) = ((i % C : Nat) : Int) := rfl
    have eX : ((i : Int).tdiv (C : Int)).tmod (W : Int) = ((i / C % W : Nat) : Int) := rfl
    have eY : ((i : Int).tdiv (C : Int)).tdiv (W : Int) = ((i / C / W : Nat) : Int) := rfl
    obtain ⟨Q, eQ, dQ⟩ : ∃ Q : Nat, (i : Int).tdiv (C : Int) = (Q : Int) ∧ Q ≤ i := ⟨i / C, rfl, Nat.div_le_self i C⟩
    obtain ⟨K, hK⟩ : ∃ K, i % C = K := ⟨_, rfl⟩
    obtain ⟨X, hX⟩ : ∃ X, i / C % W = X := ⟨_, rfl⟩
    obtain ⟨Y, hY⟩ : ∃ Y, i / C / W = Y := ⟨_, rfl⟩
    rw [hK, hX, hY] at hi
    rw [hK] at eK
    rw [hX] at eX
    rw [hY] at eY
    clear hK hX hY
    obtain ⟨k1, k2, k3, k4⟩ := hi
    have ri : i < 4294967296 := by omega
    have rq : rngI .i64 ((i : Int).tdiv (C : Int)) := by rw [eQ]; exact rng64 (by omega) (by omega)
    have ry : rngI .i64 (((i : Int).tdiv (C : Int)).tdiv (W : Int)) := by rw [eY]; exact rng64 (by omega) (by omega)
    have nC : (C : Int) ≠ 0 := by omega
    have nW : (W : Int) ≠ 0 := by omega
    clear eQ dQ
    (repeat' (first | (refine xI (fun hfk => ?_) (fun hfk => ?_) <;> ((try (first | replace hfk := oT hfk | replace hfk := oF hfk | simp only [oA, oB, dh1, dh0, ne_eq, reduceCtorEq] at hfk)); (try exact oX))) | (refine And.intro ?ob ?_; (case ob => (exact oZ))) | exact True.intro | (show _ = _; first | exact oY | (skip; done) | exact rfl) | exact oW | (apply And.intro)))
    refine ⟨[(1, .ptr 0 0), (5, .sl 1 1 0 (54 + H * st)), (8, .int .i64 (i : Int)), (9, .int .i64 (K : Int)), (10, .int .i64 (X : Int)), (11, .int .i64 (Y : Int))], ⟨2, [(0, some (.cells 24 [.int .i64 (W : Int), .int .i64 (H : Int), .int .i64 (C : Int), .roi .u8 p])), (1, some (bE (E6 ++ B)))]⟩, [some 0, some 1], ?_, ?_⟩
    · (repeat' (first | (refine And.intro ?_ ?_) | exact True.intro | (show _ = _; with_reducible rfl) | exact Chk.mk (by kernel_rfl)))
      all_goals first | rfl | exact eK | exact eX | exact eY
    clear eK eX eY rq ry nC nW
    have eR : (((H - 1 - Y) * st : Nat) : Int) = ((H : Int) - 1 - (Y : Int)) * up4 ((W : Int) * (C : Int)) := by
      rw [st_, Int.natCast_mul, show ((H - 1 - Y : Nat) : Int) = (H : Int) - 1 - (Y : Int) by omega]
    have bR := prod_of (n := st) (show H - 1 - Y < H by omega)
    have eX : ((X * C : Nat) : Int) = (X : Int) * (C : Int) := Int.natCast_mul _ _
    have bX := prod_of (n := C) k2
    have hs := sx_at (X := X) c3 k1
    have hpx := px_next c3 g2 k3 (show X * C + K < W * C by omega) k4 st1
    have s1 : H * st ≤ 200000 := hn4
    have hlen : p.length = H * (W * C) := len
    have rh1 : rngI .i64 ((H : Int) - 1) := rng64 (by omega) (by omega)
    have rh2 : rngI .i64 ((H : Int) - 1 - (Y : Int)) := rng64 (by omega) (by omega)
    have wc1 : 0 ≤ (W : Int) * (C : Int) := by omega
    have wc2 : (W : Int) * (C : Int) ≤ 4294967296 := by omega
    have rh3 : rngI .i64 (((H : Int) - 1 - (Y : Int)) * up4 ((W : Int) * (C : Int))) := rng64 (by omega) (by omega)
    have rh4 : rngI .i64 (54 + ((H : Int) - 1 - (Y : Int)) * up4 ((W : Int) * (C : Int))) := rng64 (by omega) (by omega)
    have rh5 : rngI .i64 ((X : Int) * (C : Int)) := rng64 (by omega) (by omega)
    have rh6 : rngI .i64 (54 + ((H : Int) - 1 - (Y : Int)) * up4 ((W : Int) * (C : Int)) + (X : Int) * (C : Int)) := rng64 (by omega) (by omega)
    have rh8 : rngI .i64 ((i : Int) + 1) := rng64 (by omega) (by omega)
    have hlp : (i : Int) < (p.length : Int) := by omega
    have lB : (E6 ++ B).length = 54 + H * st := by rw [List.length_append, e6l, hBl]
    by_cases hk : K < 3
    · have hsw : sw K = 2 - K := by unfold sw; (repeat' split) <;> omega
      have rk : rngI .i64 (2 - (K : Int)) := rng64 (by omega) (by omega)
      have rh7 : rngI .i64 (54 + ((H : Int) - 1 - (Y : Int)) * up4 ((W : Int) * (C : Int)) + (X : Int) * (C : Int) + (2 - (K : Int))) := rng64 (by omega) (by omega)
      have b1 : 0 ≤ 54 + ((H : Int) - 1 - (Y : Int)) * up4 ((W : Int) * (C : Int)) + (X : Int) * (C : Int) + (2 - (K : Int)) := by omega
      have b2 : 54 + ((H : Int) - 1 - (Y : Int)) * up4 ((W : Int) * (C : Int)) + (X : Int) * (C : Int) + (2 - (K : Int)) < ((54 + H * st : Nat) : Int) := by omega
      have ix : (54 + ((H : Int) - 1 - (Y : Int)) * up4 ((W : Int) * (C : Int)) + (X : Int) * (C : Int) + (2 - (K : Int))).toNat = 54 + ((H - 1 - Y) * st + sx C (X * C + K)) := by rw [hs, hsw]; omega
      have eS : (E6 ++ B).set (0 + (54 + ((H : Int) - 1 - (Y : Int)) * up4 ((W : Int) * (C : Int)) + (X : Int) * (C : Int) + (2 - (K : Int))).toNat) (p.getD (i : Int).toNat 0) = E6 ++ B.set ((H - 1 - Y) * st + sx C (X * C + K)) (p.getD i 0) := by rw [ix, set54 e6l]; rfl
      clear hs hsw eR eX bR bX g2 c34 w1 w2 h1 h2 wh st_ st1 st2 cwc wcb hn4 hc1 ix
      (repeat' (first | (refine xI (fun hfk => ?_) (fun hfk => ?_) <;> ((try (first | replace hfk := oT hfk | replace hfk := oF hfk | simp only [oA, oB, dh1, dh0, ne_eq, reduceCtorEq] at hfk)); (try exact oX))) | (refine And.intro ?ob ?_; (case ob => (exact oZ))) | exact True.intro | (show _ = _; first | exact oY | (skip; done) | exact rfl) | exact oW | (apply And.intro)))
      refine ⟨(i + 1, B.set ((H - 1 - Y) * st + sx C (X * C + K)) (p.getD i 0)), [some 0, some 1], ⟨hlt, hpx⟩, ?mu, ?_⟩
      case mu => (show H * (W * C) - (i + 1) < H * (W * C) - i; omega)
      (repeat' (first | (refine And.intro ?_ ?_) | exact True.intro | (show _ = _; with_reducible rfl) | exact Chk.mk (by kernel_rfl)))
      all_goals first | rfl | exact eS | (show (_ : Int) = _; omega)
    · have hsw : sw K = K := by unfold sw; (repeat' split) <;> omega
      have rh7 : rngI .i64 (54 + ((H : Int) - 1 - (Y : Int)) * up4 ((W : Int) * (C : Int)) + (X : Int) * (C : Int) + (K : Int)) := rng64 (by omega) (by omega)
      have b1 : 0 ≤ 54 + ((H : Int) - 1 - (Y : Int)) * up4 ((W : Int) * (C : Int)) + (X : Int) * (C : Int) + (K : Int) := by omega
      have b2 : 54 + ((H : Int) - 1 - (Y : Int)) * up4 ((W : Int) * (C : Int)) + (X : Int) * (C : Int) + (K : Int) < ((54 + H * st : Nat) : Int) := by omega
      have ix : (54 + ((H : Int) - 1 - (Y : Int)) * up4 ((W : Int) * (C : Int)) + (X : Int) * (C : Int) + (K : Int)).toNat = 54 + ((H - 1 - Y) * st + sx C (X * C + K)) := by rw [hs, hsw]; omega
      have eS : (E6 ++ B).set (0 + (54 + ((H : Int) - 1 - (Y : Int)) * up4 ((W : Int) * (C : Int)) + (X : Int) * (C : Int) + (K : Int)).toNat) (p.getD (i : Int).toNat 0) = E6 ++ B.set ((H - 1 - Y) * st + sx C (X * C + K)) (p.getD i 0) := by rw [ix, set54 e6l]; rfl
      clear hs hsw eR eX bR bX g2 c34 w1 w2 h1 h2 wh st_ st1 st2 cwc wcb hn4 hc1 ix
      (repeat' (first | (refine xI (fun hfk => ?_) (fun hfk => ?_) <;> ((try (first | replace hfk := oT hfk | replace hfk := oF hfk | simp only [oA, oB, dh1, dh0, ne_eq, reduceCtorEq] at hfk)); (try exact oX))) | (refine And.intro ?ob ?_; (case ob => (exact oZ))) | exact True.intro | (show _ = _; first | exact oY | (skip; done) | exact rfl) | exact oW | (apply And.intro)))
      refine ⟨(i + 1, B.set ((H - 1 - Y) * st + sx C (X * C + K)) (p.getD i 0)), [some 0, some 1], ⟨hlt, hpx⟩, ?mu, ?_⟩
      case mu => (show H * (W * C) - (i + 1) < H * (W * C) - i; omega)
      (repeat' (first | (refine And.intro ?_ ?_) | exact True.intro | (show _ = _; with_reducible rfl) | exact Chk.mk (by kernel_rfl)))
      all_goals first | rfl | exact eS | (show (_ : Int) = _; omega)
  · obtain rfl : i = H * (W * C) := by omega
    have hB := px_end c3 g2 len st1
    have z9 : List.take (54 + H * st) (List.drop 0 (E6 ++ B)) = wrHd W H C st ++ wrB p C W H st := by
      rw [List.drop_zero, List.take_of_length_le (by rw [List.length_append]; omega), e6, hB]
    (repeat' (first | (refine xI (fun hfk => ?_) (fun hfk => ?_) <;> ((try (first | replace hfk := oT hfk | replace hfk := oF hfk | simp only [oA, oB, dh1, dh0, ne_eq, reduceCtorEq] at hfk)); (try exact oX))) | (refine And.intro ?ob ?_; (case ob => (exact oZ))) | exact True.intro | (show _ = _; first | exact oY | (exact z9; done) | exact rfl) | exact oW | (apply And.intro)))
theorem rwrite16_s : SOK Tryd.prog 35 bwS := by
  refine sok_of (C := wdCx) wdCx_ok rfl mixed ⟨Tryd.func35, by kernel_rfl, by kernel_rfl, by kernel_rfl⟩ fun l obs v h ho => ?_
  (unfold bwS at h; split at h; rotate_left; (focus (cases h)); rename_i w hh c p; simp only [Option.some.injEq, Prod.mk.injEq] at h; obtain ⟨rfl, rfl⟩ := h; simp only [List.mem_cons, List.not_mem_nil, or_false, forall_eq_or_imp, forall_eq, false_implies, implies_true] at ho)
  refine ⟨Nat.le_of_ble_eq_true rfl, ?_⟩
  by_cases e : wrE w hh c p.length = 0
  · exact wd_good ho e
  · exact wd_bad ho e
end Go.Proofs.YtocboijpmmlegaaDoor
namespace Go.Proofs.YtocboijpmmlegaaDoor
open Go Go.RowKit
set_option maxHeartbeats 4000000
theorem low4 {x : Int} (h0 : 0 ≤ x) (h1 : x < 4294967296) : lowV (byts x 4) = x := by
  show x / 256 ^ 0 % 256 + 256 * (x / 256 ^ 1 % 256 + 256 * (x / 256 ^ 2 % 256 + 256 * (x / 256 ^ 3 % 256 + 256 * 0))) = x
  have p0 : (256 : Int) ^ 0 = 1 := rfl
  have p1 : (256 : Int) ^ 1 = 256 := rfl
  have p2 : (256 : Int) ^ 2 = 65536 := rfl
  have p3 : (256 : Int) ^ 3 = 16777216 := rfl
  rw [p0, p1, p2, p3]
  omega
theorem low2 {x : Int} (h0 : 0 ≤ x) (h1 : x < 65536) : lowV (byts x 2) = x := by
  show x / 256 ^ 0 % 256 + 256 * (x / 256 ^ 1 % 256 + 256 * 0) = x
  have p0 : (256 : Int) ^ 0 = 1 := rfl
  have p1 : (256 : Int) ^ 1 = 256 := rfl
  rw [p0, p1]
  omega
section
variable {x0 x1 x2 x3 x4 x5 x6 x7 x8 x9 x10 x11 x12 x13 : Int} {B : List Int}
theorem hdOut_len : (hdOut x0 x1 x2 x3 x4 x5 x6 x7 x8 x9 x10 x11 x12 x13).length = 54 := by kernel_rfl
theorem at2 : ((hdOut x0 x1 x2 x3 x4 x5 x6 x7 x8 x9 x10 x11 x12 x13 ++ B).drop 2).take 4 = byts x0 4 := by kernel_rfl
theorem at6 : ((hdOut x0 x1 x2 x3 x4 x5 x6 x7 x8 x9 x10 x11 x12 x13 ++ B).drop 6).take 4 = byts x1 4 := by kernel_rfl
theorem at10 : ((hdOut x0 x1 x2 x3 x4 x5 x6 x7 x8 x9 x10 x11 x12 x13 ++ B).drop 10).take 4 = byts x2 4 := by kernel_rfl
theorem at14 : ((hdOut x0 x1 x2 x3 x4 x5 x6 x7 x8 x9 x10 x11 x12 x13 ++ B).drop 14).take 4 = byts x3 4 := by kernel_rfl
theorem at18 : ((hdOut x0 x1 x2 x3 x4 x5 x6 x7 x8 x9 x10 x11 x12 x13 ++ B).drop 18).take 4 = byts x4 4 := by kernel_rfl
theorem at22 : ((hdOut x0 x1 x2 x3 x4 x5 x6 x7 x8 x9 x10 x11 x12 x13 ++ B).drop 22).take 4 = byts x5 4 := by kernel_rfl
theorem at26 : ((hdOut x0 x1 x2 x3 x4 x5 x6 x7 x8 x9 x10 x11 x12 x13 ++ B).drop 26).take 2 = byts x6 2 := by kernel_rfl
theorem at28 : ((hdOut x0 x1 x2 x3 x4 x5 x6 x7 x8 x9 x10 x11 x12 x13 ++ B).drop 28).take 2 = byts x7 2 := by kernel_rfl
theorem at30 : ((hdOut x0 x1 x2 x3 x4 x5 x6 x7 x8 x9 x10 x11 x12 x13 ++ B).drop 30).take 4 = byts x8 4 := by kernel_rfl
theorem at34 : ((hdOut x0 x1 x2 x3 x4 x5 x6 x7 x8 x9 x10 x11 x12 x13 ++ B).drop 34).take 4 = byts x9 4 := by kernel_rfl
theorem at46 : ((hdOut x0 x1 x2 x3 x4 x5 x6 x7 x8 x9 x10 x11 x12 x13 ++ B).drop 46).take 4 = byts x12 4 := by kernel_rfl
theorem at50 : ((hdOut x0 x1 x2 x3 x4 x5 x6 x7 x8 x9 x10 x11 x12 x13 ++ B).drop 50).take 4 = byts x13 4 := by kernel_rfl
end
structure HdIs (b : List Int) (W H0 C N : Int) : Prop where
  s0 : lw b 2 4 = N
  w : hW b = W
  h : hH0 b = H0
  c : lw b 28 2 = 8 * C
  n : lw b 34 4 = 0
  e : hdE b = 0
theorem hd_is {W H0 N : Int} {C : Nat} {B : List Int} (hw : 0 ≤ W ∧ W < 4294967296) (hh : 0 ≤ H0 ∧ H0 < 4294967296) (hn : 0 ≤ N ∧ N < 4294967296) (hc : C = 3 ∨ C = 4) :
    HdIs (hdOut N 0 54 40 W H0 1 ((8 * C : Nat) : Int) 0 0 0 0 0 0 ++ B) W H0 C N := by
  obtain ⟨b, hb⟩ : ∃ b, hdOut N 0 54 40 W H0 1 ((8 * C : Nat) : Int) 0 0 0 0 0 0 ++ B = b := ⟨_, rfl⟩
  have e2 : lw b 2 4 = N := by rw [← hb]; exact (congrArg lowV at2).trans (low4 hn.1 hn.2)
  have e6 : lw b 6 4 = 0 := by rw [← hb]; exact (congrArg lowV at6).trans (low4 (by decide) (by decide))
  have e10 : lw b 10 4 = 54 := by rw [← hb]; exact (congrArg lowV at10).trans (low4 (by decide) (by decide))
  have e14 : lw b 14 4 = 40 := by rw [← hb]; exact (congrArg lowV at14).trans (low4 (by decide) (by decide))
  have e18 : lw b 18 4 = W := by rw [← hb]; exact (congrArg lowV at18).trans (low4 hw.1 hw.2)
  have e22 : lw b 22 4 = H0 := by rw [← hb]; exact (congrArg lowV at22).trans (low4 hh.1 hh.2)
  have e26 : lw b 26 2 = 1 := by rw [← hb]; exact (congrArg lowV at26).trans (low2 (by decide) (by decide))
  have e28 : lw b 28 2 = ((8 * C : Nat) : Int) := by rw [← hb]; exact (congrArg lowV at28).trans (low2 (by omega) (by omega))
  have e30 : lw b 30 4 = 0 := by rw [← hb]; exact (congrArg lowV at30).trans (low4 (by decide) (by decide))
  have e34 : lw b 34 4 = 0 := by rw [← hb]; exact (congrArg lowV at34).trans (low4 (by decide) (by decide))
  have e46 : lw b 46 4 = 0 := by rw [← hb]; exact (congrArg lowV at46).trans (low4 (by decide) (by decide))
  have e50 : lw b 50 4 = 0 := by rw [← hb]; exact (congrArg lowV at50).trans (low4 (by decide) (by decide))
  have hl : 54 ≤ b.length := by rw [← hb, List.length_append, hdOut_len]; omega
  have g0 : b.getD 0 0 = 66 := by rw [← hb]; rfl
  have g1 : b.getD 1 0 = 77 := by rw [← hb]; rfl
  rw [hb]
  refine ⟨e2, e18, e22, by rw [e28]; omega, e34, ?_⟩
  unfold hdE
  rw [if_neg (by omega), if_neg (by omega), if_neg (by omega), if_pos ⟨⟨e6, e10, e14, e26, e30, e46, e50⟩, by omega⟩]
theorem catK_piece {p : List Int} {wc H : Nat} (h : p.length = H * wc) : catK (piece p wc) H = p := by
  have hl : ∀ k, k < H → (piece p wc k).length = wc := fun k hk => piece_len (by have := prod_of (n := wc) hk; omega)
  refine eq_pieces (Q := H) (d := wc) (catK_len hl H (Nat.le_refl _)) h fun k j hk hj => ?_
  rw [catK_get hl H (Nat.le_refl _) k j hk hj, piece_get hj]
theorem wrRow_len {p : List Int} {c w h st k : Nat} (hp : p.length = h * (w * c)) (hst : w * c ≤ st) (hk : k < h) : (wrRow p c w h st k).length = st := by
  unfold wrRow
  have := prod_of (n := w * c) (show h - 1 - k < h by omega)
  rw [List.length_append, swapTo_len, piece_len (by omega), List.length_replicate]; omega
theorem fRow_wr {A p : List Int} {c w h st k : Nat} (hA : A.length = 54) (hp : p.length = h * (w * c)) (hst : w * c ≤ st) (hk : k < h) :
    fRow (A ++ wrB p c w h st) st (w * c) k = swapTo (piece p (w * c) (h - 1 - k)) 0 c w := by
  have hl : ∀ k, k < h → (wrRow p c w h st k).length = st := fun k hk => wrRow_len hp hst hk
  have hB : (wrB p c w h st).length = h * st := catK_len hl h (Nat.le_refl _)
  have hks := prod_of (n := st) hk
  have hkw := prod_of (n := w * c) (show h - 1 - k < h by omega)
  have hs : (swapTo (piece p (w * c) (h - 1 - k)) 0 c w).length = w * c := by rw [swapTo_len, piece_len (by omega)]
  refine list_getD (by rw [fRow_len (by rw [List.length_append]; omega), hs]) fun j hj => ?_
  rw [fRow_len (by rw [List.length_append]; omega)] at hj
  rw [fRow_get hj, List.getD_eq_getElem?_getD, List.getElem?_append_right (by omega), hA, show 54 + k * st + j - 54 = k * st + j by omega, ← List.getD_eq_getElem?_getD]
  unfold wrB
  rw [catK_get hl h (Nat.le_refl _) k j hk (by omega)]
  unfold wrRow
  rw [List.getD_eq_getElem?_getD, List.getElem?_append_left (by omega), ← List.getD_eq_getElem?_getD]
theorem rd_wr {w h c : Int} {p : List Int} {W H C st : Nat} (hi : ImOK w h c p W H C st) (hb : Byt (wrHd W H C st ++ wrB p C W H st)) :
    rdE (wrHd W H C st ++ wrB p C W H st) = 0 ∧ rdL (wrHd W H C st ++ wrB p C W H st) = p ∧ hW (wrHd W H C st ++ wrB p C W H st) = w ∧ hrV (hH0 (wrHd W H C st ++ wrB p C W H st)) = h ∧ hCn (wrHd W H C st ++ wrB p C W H st) = c := by
  obtain ⟨rfl, rfl, rfl, chk, c34, w1, w2, h1, h2, wh, len, st_, st1, st2⟩ := hi
  have hl : ∀ k, k < H → (wrRow p C W H st k).length = st := fun k hk => wrRow_len len st1 hk
  have hBl : (wrB p C W H st).length = H * st := catK_len hl H (Nat.le_refl _)
  have hll : (wrHd W H C st ++ wrB p C W H st).length = 54 + H * st := by rw [List.length_append, hBl]; rfl
  have hbl := hb.le
  rw [hll] at hbl
  obtain ⟨s0, gw, gh, gc, gn, ge⟩ := hd_is (W := (W : Int)) (H0 := (H : Int)) (N := ((54 + H * st : Nat) : Int)) (C := C) (B := wrB p C W H st) ⟨by omega, by omega⟩ ⟨by omega, by omega⟩ ⟨by omega, by omega⟩ c34
  obtain ⟨b, hbe⟩ : ∃ b, wrHd W H C st ++ wrB p C W H st = b := ⟨_, rfl⟩
  have hbe2 : hdOut ((54 + H * st : Nat) : Int) 0 54 40 (W : Int) (H : Int) 1 ((8 * C : Nat) : Int) 0 0 0 0 0 0 ++ wrB p C W H st = b := hbe
  rw [hbe2] at s0 gw gh gc gn ge
  rw [hbe] at hll hb ⊢
  have g1 : hrV (hH0 b) = H := by rw [gh]; unfold hrV; rw [if_neg (by omega)]
  have g2 : hCn b = C := by unfold hCn; rw [gc]; omega
  have cwh : ((W * H : Nat) : Int) = (W : Int) * (H : Int) := Int.natCast_mul _ _
  have chs : ((H * st : Nat) : Int) = (st : Int) * (H : Int) := by rw [Int.natCast_mul, Int.mul_comm]
  have gN : hNn b = ((H * st : Nat) : Int) := by unfold hNn; rw [gw, g2, st_, g1, chs]
  have gs : shC (hW b) (hrV (hH0 b)) = 0 := by rw [gw, g1]; unfold shC; rw [if_neg (by omega), if_neg (by omega)]
  have e : rdE b = 0 := by
    unfold rdE
    rw [if_neg (fun k => k ge), if_neg (fun k => k gs), gN, if_neg (by omega), if_neg (by omega), if_pos ⟨by rw [s0]; omega, .inl gn⟩]
  refine ⟨e, ?_, gw, g1, g2⟩
  unfold rdL
  rw [if_pos e, gw, g1, g2, st_, gh]
  simp only [Int.toNat_natCast]
  rw [decide_eq_false (by omega)]
  unfold rdPx
  have : catK (fun r => swapTo (fRow b st (W * C) (if false = true then r else H - 1 - r)) 0 C W) H = catK (piece p (W * C)) H := by
    refine catK_congr (Q := H) (fun r hr => ?_) H (Nat.le_refl _)
    show swapTo (fRow b st (W * C) (H - 1 - r)) 0 C W = _
    have hk := prod_of (n := W * C) hr
    rw [← hbe, fRow_wr rfl len st1 (by omega), show H - 1 - (H - 1 - r) = r by omega, trn_trn (by omega) (piece_len (by omega))]
  rw [this, catK_piece len]
end Go.Proofs.YtocboijpmmlegaaDoor
namespace Go.Proofs.YtocboijpmmlegaaDoor
open Go Go.RowKit
set_option maxHeartbeats 4000000
theorem bytes_app {A B : List Int} (ha : Bytes A) (hb : Bytes B) : Bytes (A ++ B) := fun x hx => (List.mem_append.1 hx).elim (ha x) (hb x)
theorem bytes_byts (x : Int) (n : Nat) : Bytes (byts x n) := fun y hy => by
  obtain ⟨t, _, rfl⟩ := List.mem_map.1 hy
  exact byt_bd x t
theorem bytes_zero (n : Nat) : Bytes (List.replicate n 0) := fun x hx => by rw [(List.mem_replicate.1 hx).2]; omega
theorem bytes_set {L : List Int} (h : Bytes L) (i : Nat) {v : Int} (hv : 0 ≤ v ∧ v ≤ 255) : Bytes (L.set i v) := fun x hx => (List.mem_or_eq_of_mem_set hx).elim (h x) (fun e => e ▸ hv)
theorem bytes_swap {L : List Int} (h : Bytes L) (o c : Nat) : ∀ k, Bytes (swapTo L o c k)
  | 0 => h
  | k + 1 => bytes_set (bytes_set (bytes_swap h o c k) _ ((bytes_swap h o c k).get _)) _ ((bytes_swap h o c k).get _)
theorem bytes_cat {f : Nat → List Int} (h : ∀ k, Bytes (f k)) : ∀ n, Bytes (catK f n)
  | 0 => fun x hx => by cases hx
  | n + 1 => bytes_app (bytes_cat h n) (h n)
theorem bytes_piece {p : List Int} (h : Bytes p) (c k : Nat) : Bytes (piece p c k) := fun x hx => h x (List.mem_of_mem_drop (List.mem_of_mem_take hx))
theorem bytes_wr {p : List Int} (hp : Bytes p) (W H C st : Nat) : Bytes (wrHd W H C st ++ wrB p C W H st) := by
  refine bytes_app ?_ (bytes_cat (fun k => bytes_app (bytes_swap (bytes_piece hp _ _) _ _ _) (bytes_zero _)) H)
  refine bytes_app (bytes_app (bytes_app (bytes_app (bytes_app (bytes_app (bytes_app (bytes_app (bytes_app (bytes_app (bytes_app (bytes_app (bytes_app (bytes_app ?_ ?_) ?_) ?_) ?_) ?_) ?_) ?_) ?_) ?_) ?_) ?_) ?_) ?_) ?_
  all_goals first | exact bytes_byts _ _ | (intro x hx; have : x = 66 ∨ x = 77 := by simpa using hx
                                            omega)
theorem bytes_wrL {w h c : Int} {p : List Int} (hp : Bytes p) : Bytes (wrL w h c p) := by
  unfold wrL
  split
  · exact bytes_wr hp _ _ _ _
  · intro x hx; cases hx
theorem wr_len {w h c : Int} {p : List Int} {W H C st : Nat} (hi : ImOK w h c p W H C st) : (wrHd W H C st ++ wrB p C W H st).length = 54 + H * st := by
  have hl : ∀ k, k < H → (wrRow p C W H st k).length = st := fun k hk => wrRow_len hi.len hi.st1 hk
  have hBl : (wrB p C W H st).length = H * st := catK_len hl H (Nat.le_refl _)
  rw [List.length_append, hBl]; rfl
theorem bsz_im {w h c : Int} {p : List Int} {W H C st : Nat} (hi : ImOK w h c p W H C st) : bszV w h c = ((54 + H * st : Nat) : Int) := by
  obtain ⟨rfl, rfl, rfl, chk, c34, w1, w2, h1, h2, wh, len, st_, st1, st2⟩ := hi
  have cwh : ((W * H : Nat) : Int) = (W : Int) * (H : Int) := Int.natCast_mul _ _
  have chs : ((H * st : Nat) : Int) = (st : Int) * (H : Int) := by rw [Int.natCast_mul, Int.mul_comm]
  have e : strV (W : Int) (C : Int) = (st : Int) := by unfold strV; rw [if_neg (by omega)]; exact st_
  have s0 : 0 < W * C := Nat.mul_pos (by omega) (by omega)
  unfold bszV
  rw [e, if_neg (by omega), ← chs]
  omega
structure WrOK (w h c : Int) (p q : List Int) : Prop where
  by_ : Byt q
  e : rdE q = 0
  k1 : rdK q (hW q) = w
  k2 : rdK q (hrV (hH0 q)) = h
  k3 : rdK q (hCn q) = c
  l : rdL q = p
  len : (q.length : Int) = bszV w h c
theorem wr_ok {w h c : Int} {p : List Int} (hw : wrE w h c p.length = 0) (hp : p.length ≤ 20000) (hB : Bytes p) : WrOK w h c p (wrL w h c p) := by
  have hi := im_of hw
  have e : wrL w h c p = wrHd w.toNat h.toNat c.toNat (up4 (w * c)).toNat ++ wrB p c.toNat w.toNat h.toNat (up4 (w * c)).toNat := if_pos hw
  have hbl := bytes_wrL (w := w) (h := h) (c := c) hB
  have hs := bsz_im hi
  have hl := wr_len hi
  have i1 := hi.len
  have i2 := hi.st2
  have i3 := hi.c34
  have i4 := hi.w1
  revert hi hs hl i1 i2 i3 i4
  rw [e] at hbl ⊢
  revert hbl
  generalize w.toNat = W, h.toNat = H, c.toNat = C, (up4 (w * c)).toNat = st
  intro hbl hi hs hl i1 i2 i3 i4
  have q1 : H * st ≤ H * (W * C + 3) := Nat.mul_le_mul_left _ i2
  rw [Nat.mul_add] at q1
  have q2 : H * 3 ≤ H * (W * C) := Nat.mul_le_mul_left _ (by rcases i3 with k | k <;> subst k <;> omega)
  have hb : Byt (wrHd W H C st ++ wrB p C W H st) := ⟨by omega, fun i => hbl.get i⟩
  obtain ⟨r1, r2, r3, r4, r5⟩ := rd_wr hi hb
  exact ⟨hb, r1, by unfold rdK; rw [if_pos r1, r3], by unfold rdK; rw [if_pos r1, r4], by unfold rdK; rw [if_pos r1, r5], r2, by rw [hs, hl]⟩
end Go.Proofs.YtocboijpmmlegaaDoor

