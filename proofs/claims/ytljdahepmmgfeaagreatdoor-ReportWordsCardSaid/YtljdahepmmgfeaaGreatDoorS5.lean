/- Texts laid together. No condition. -/
import Derived.Test.YtljdahepmmgfeaaGreatDoorS4
set_option maxRecDepth 100000
set_option linter.unusedVariables false
set_option linter.unusedSimpArgs false
namespace Go.Proofs.YtljdahepmmgfeaaGreatDoor
open Go Go.RowKit
set_option maxHeartbeats 4000000
noncomputable def rdCx : Ctx := mkK 0 [(70, rform16S), (71, rlw16S), (72, rstrS)] (glook [(69, fG madeF)]) [31, 32]
theorem rdCx_ok : COK Tryz.prog rdCx := mkK_ok (pok_cons rform16_s (pok_cons rlw16_s (pok_cons rstr_s pok_nil))) (gl_cons made_g gl_nil)
set_option maxHeartbeats 16000000 in
theorem rread16_good {b : List Int} (hb : Byt b) (e : rdE b = 0) : vcFn rdCx Tryz.f43 [.roi .u8 b] ⟨0, []⟩ (Ret (.tup [imA (rdK b (hW b)) (rdK b (hrV (hH0 b))) (rdK b (hCn b)) (rdL b), .int .i64 (rdE b)])) := by
  have bl := hb.le
  have k1 : hdE b = 0 := (gd_of hb e).hd
  obtain ⟨_, _, k6, k7, k8⟩ := hd_inv k1
  have wb := lw_bd hb (a := 18) (n := 4) (by decide)
  have hb0 := lw_bd hb (a := 22) (n := 4) (by decide)
  obtain ⟨T, hT⟩ : ∃ T, hrV (hH0 b) = T := ⟨_, rfl⟩
  have hTc : (2147483648 ≤ lw b 22 4 ∧ T = 4294967296 - lw b 22 4) ∨ (lw b 22 4 < 2147483648 ∧ T = lw b 22 4) := by
    have : hH0 b = lw b 22 4 := rfl
    rw [← hT]; unfold hrV; split
    · left; omega
    · right; omega
  have hc8' : hCn b = (lw b 28 2).tdiv 8 := by unfold hCn; rcases k8 with k | k <;> rw [k] <;> rfl
  have hg0 := gd_of hb e
  have hL0 : rdL b = rdPx b (hCn b).toNat (hW b).toNat (hrV (hH0 b)).toNat (up4 (hW b * hCn b)).toNat (decide (2147483648 ≤ hH0 b)) := if_pos e
  have kk : ∀ x, rdK b x = x := fun x => if_pos e
  obtain ⟨W, hWe⟩ : ∃ W, (hW b).toNat = W := ⟨_, rfl⟩
  obtain ⟨H, hHe⟩ : ∃ H, (hrV (hH0 b)).toNat = H := ⟨_, rfl⟩
  obtain ⟨c, hce⟩ : ∃ c, (hCn b).toNat = c := ⟨_, rfl⟩
  obtain ⟨st, hse⟩ : ∃ st, (up4 (hW b * hCn b)).toNat = st := ⟨_, rfl⟩
  obtain ⟨dn, hde⟩ : ∃ dn, decide (2147483648 ≤ hH0 b) = dn := ⟨_, rfl⟩
  rw [hWe, hHe, hce, hse, hde] at hg0 hL0
  have hg := hg0
  rw [rdPx_pxb hg] at hL0
  have gw : lw b 18 4 = (W : Int) := hg.w
  have gh : T = (H : Int) := by rw [← hT]; exact hg.h
  have gc : (lw b 28 2).tdiv 8 = (c : Int) := by rw [hg.c_]; rcases hg.c34 with k | k <;> subst k <;> rfl
  have gcn : (c : Int) = hCn b := by rw [hc8', gc]
  have ghn : (H : Int) = hrV (hH0 b) := hg.h.symm
  have gst : up4 ((W : Int) * (c : Int)) = (st : Int) := hg.st_
  have gd : decide (2147483648 ≤ lw b 22 4) = dn := hde
  have c34 := hg.c34
  have glen := hg.len
  have st1 := hg.st1
  have st2 := hg.st2
  have g1 := hg.w1
  have g2 := hg.w2
  have g3 := hg.h1
  have g4 := hg.h2
  have cwc : (((W * c : Nat)) : Int) = (W : Int) * (c : Int) := Int.natCast_mul _ _
  have wcb : W * c ≤ 131072 := by rcases c34 with k | k <;> subst k <;> omega
  have wcp : 0 ≤ (W : Int) * (c : Int) ∧ (W : Int) * (c : Int) ≤ 4294967296 := by omega
  have hwc : H * (W * c) ≤ 16777216 := by
    have k1 := hg.wh
    have k2 : H * (W * c) = (W * H) * c := by rw [← Nat.mul_assoc, Nat.mul_comm H W]
    have k3 : (W * H) * c ≤ 4194304 * 4 := Nat.mul_le_mul k1 (by omega)
    omega
  obtain ⟨F, hF⟩ : ∃ F : Nat → List Int, F = fun r => catK (pxb b c (54 + fr dn H r * st)) W := ⟨_, rfl⟩
  have hFl : ∀ r, r < H → (F r).length = W * c := fun r _ => by rw [hF]; exact catK_len (fun k _ => pxb_len c34 _ k) W (Nat.le_refl _)
  rw [← hF] at hL0
  rw [kk, kk, kk, hL0, e]
  have hTH : T = (H : Int) := gh
  have p0 : (((W * H : Nat)) : Int) = (W : Int) * (H : Int) := Int.natCast_mul _ _
  have pr1 : lw b 18 4 * T = ((W * H : Nat) : Int) := by rw [gw, gh, p0]
  have pwh := hg.wh
  have p1 : 0 ≤ lw b 18 4 * T := by rw [pr1]; exact Int.natCast_nonneg _
  have a3 : ¬ 4194304 < lw b 18 4 * T := by rw [pr1]; omega
  have q1 : rngI .i64 ((lw b 28 2).tdiv 8) := by rw [gc]; exact rng64 (by omega) (by omega)
  have q2 : rngI .i64 (lw b 18 4 * T) := by rw [pr1]; exact rng64 (by omega) (by omega)
  have wc1 : 0 ≤ lw b 18 4 * (lw b 28 2).tdiv 8 := by rw [gw, gc]; exact wcp.1
  have wc2 : lw b 18 4 * (lw b 28 2).tdiv 8 ≤ 4294967296 := by rw [gw, gc]; exact wcp.2
  have pn : up4 (lw b 18 4 * (lw b 28 2).tdiv 8) * T = ((H * st : Nat) : Int) := by rw [gw, gc, gst, gh, Int.natCast_mul, Int.mul_comm]
  have q3 : rngI .i64 (up4 (lw b 18 4 * (lw b 28 2).tdiv 8) * T) := by rw [pn]; exact rng64 (by omega) (by omega)
  have a4 : ¬ (b.length : Int) - 54 < up4 (lw b 18 4 * (lw b 28 2).tdiv 8) * T := by rw [pn]; omega
  have a5 : ¬ up4 (lw b 18 4 * (lw b 28 2).tdiv 8) * T < (b.length : Int) - 54 := by rw [pn]; omega
  have a6 : lw b 2 4 = (b.length : Int) := hg.s1
  have a7 : lw b 34 4 = 0 ∨ lw b 34 4 = up4 (lw b 18 4 * (lw b 28 2).tdiv 8) * T := by rw [pn]; exact hg.s2
  rcases hTc with ⟨hd, rfl⟩ | ⟨hd, rfl⟩
  · have hdn : dn = true := by rw [← gd]; exact decide_eq_true hd
    (repeat' (first | (refine xI (fun hfk => ?_) (fun hfk => ?_) <;> ((try (first | replace hfk := oT hfk | replace hfk := oF hfk | simp only [oA, oB, dh1, dh0, ne_eq, reduceCtorEq] at hfk)); (try exact oX))) | (refine And.intro ?ob ?_; (case ob => (exact oZ))) | exact True.intro | (show _ = _; first | exact oY | (exact hb; done) | exact rfl) | exact oW | (apply And.intro)))
    all_goals
      refine ⟨Nat, fun y => [(0, .roi .u8 b), (2, .ptr 0 0), (5, .int .i64 (W : Int)), (6, .int .i64 (H : Int)), (7, .int .i64 (c : Int)), (8, .bool dn), (10, .sl 1 1 0 (y * (W * c))), (11, .int .i64 (y : Int))],
        fun y => ⟨2, [(0, some (.cells 42 [.int .i64 0, .int .i64 0, .int .i64 0, .nils])), (1, some (bE (catK F y)))]⟩,
        fun y => y ≤ H, fun y => H - y, ⟨0, [some 0, none], Nat.zero_le _, ?_⟩, fun y hy => ?_⟩
      · (repeat' (first | (refine And.intro ?_ ?_) | exact True.intro | (show _ = _; with_reducible rfl) | exact Chk.mk (by kernel_rfl)))
        all_goals first | exact gw | exact hTH | exact gc | exact gd | exact Nat.zero_mul _ | rfl
      have hy : y ≤ H := hy
      have hyl := catK_len hFl y hy
      have rfy : rngI .i64 ((y : Int) + 1) := rng64 (by omega) (by omega)
      by_cases hlt : y < H
      · have hfr := fr_lt (dn := dn) hlt
        have hfs := prod_of (n := st) hfr
        have hyw := prod_of (n := W * c) hlt
        have ry1 : rngI .i64 ((H : Int) - 1) := rng64 (by omega) (by omega)
        have ry2 : rngI .i64 ((H : Int) - 1 - (y : Int)) := rng64 (by omega) (by omega)
        all_goals
          have hrow : (if dn = true then (y : Int) else (H : Int) - 1 - (y : Int)) = ((fr dn H y : Nat) : Int) := by unfold fr; split <;> omega
          rw [if_pos hdn] at hrow
          (repeat' (first | (refine xI (fun hfk => ?_) (fun hfk => ?_) <;> ((try (first | replace hfk := oT hfk | replace hfk := oF hfk | simp only [oA, oB, dh1, dh0, ne_eq, reduceCtorEq] at hfk)); (try exact oX))) | (refine And.intro ?ob ?_; (case ob => (exact oZ))) | exact True.intro | (show _ = _; first | exact oY | (skip; done) | exact rfl) | exact oW | (apply And.intro)))
          obtain ⟨A0, hA0⟩ : ∃ A0, 54 + fr dn H y * st = A0 := ⟨_, rfl⟩
          refine ⟨Nat, fun x => [(0, .roi .u8 b), (2, .ptr 0 0), (5, .int .i64 (W : Int)), (6, .int .i64 (H : Int)), (7, .int .i64 (c : Int)), (8, .bool dn), (10, .sl 1 1 0 (y * (W * c) + x * c)), (11, .int .i64 (y : Int)), (12, .int .i64 ((fr dn H y : Nat) : Int)), (13, .int .i64 (x : Int))],
            fun x => ⟨2, [(0, some (.cells 42 [.int .i64 0, .int .i64 0, .int .i64 0, .nils])), (1, some (bE (catK F y ++ catK (pxb b c A0) x)))]⟩,
            fun x => x ≤ W, fun x => W - x, ⟨0, [some 0, some 1], Nat.zero_le _, ?_⟩, fun x hx => ?_⟩
          · have en : y * (W * c) = y * (W * c) + 0 * c := by omega
            have el : catK F y = catK F y ++ catK (pxb b c A0) 0 := (List.append_nil _).symm
            (repeat' (first | (refine And.intro ?_ ?_) | exact True.intro | (show _ = _; with_reducible rfl) | exact Chk.mk (by kernel_rfl)))
            all_goals first | rfl | exact hrow | exact en | exact el
          have hx : x ≤ W := hx
          have hxl := catK_len (fun k (_ : k < W) => pxb_len c34 (b := b) A0 k) x hx
          have rfx : rngI .i64 ((x : Int) + 1) := rng64 (by omega) (by omega)
          by_cases hxlt : x < W
          · have hxc := prod_of (n := c) hxlt
            have cxc : ((x * c : Nat) : Int) = (x : Int) * (c : Int) := Int.natCast_mul _ _
            have cfs : ((fr dn H y * st : Nat) : Int) = ((fr dn H y : Nat) : Int) * (st : Int) := Int.natCast_mul _ _
            have cfu : ((fr dn H y : Nat) : Int) * up4 ((W : Int) * (c : Int)) = ((fr dn H y * st : Nat) : Int) := by rw [gst, cfs]
            have rg1 : rngI .i64 (((fr dn H y : Nat) : Int) * up4 ((W : Int) * (c : Int))) := by rw [cfu]; exact rng64 (by omega) (by omega)
            have rg2 : rngI .i64 (54 + ((fr dn H y : Nat) : Int) * up4 ((W : Int) * (c : Int))) := by rw [cfu]; exact rng64 (by omega) (by omega)
            have rg3 : rngI .i64 ((x : Int) * (c : Int)) := by rw [← cxc]; exact rng64 (by omega) (by omega)
            have rg4 : rngI .i64 (54 + ((fr dn H y : Nat) : Int) * up4 ((W : Int) * (c : Int)) + (x : Int) * (c : Int)) := by rw [cfu, ← cxc]; exact rng64 (by omega) (by omega)
            have eA : 54 + ((fr dn H y : Nat) : Int) * up4 ((W : Int) * (c : Int)) + (x : Int) * (c : Int) = ((A0 + x * c : Nat) : Int) := by rw [cfu, ← cxc]; omega
            have hAl : A0 + x * c + c ≤ b.length := by omega
            (repeat' (first | (refine xI (fun hfk => ?_) (fun hfk => ?_) <;> ((try (first | replace hfk := oT hfk | replace hfk := oF hfk | simp only [oA, oB, dh1, dh0, ne_eq, reduceCtorEq] at hfk)); (try exact oX))) | (refine And.intro ?ob ?_; (case ob => (exact oZ))) | exact True.intro | (show _ = _; first | exact oY | (skip; done) | exact rfl) | exact oW | (apply And.intro)))
            obtain ⟨A, hA⟩ : ∃ A, A0 + x * c = A := ⟨_, rfl⟩
            refine ⟨[(0, .roi .u8 b), (2, .ptr 0 0), (5, .int .i64 (W : Int)), (6, .int .i64 (H : Int)), (7, .int .i64 (c : Int)), (8, .bool dn), (10, .sl 1 1 0 (y * (W * c) + x * c)), (11, .int .i64 (y : Int)), (12, .int .i64 ((fr dn H y : Nat) : Int)), (13, .int .i64 (x : Int)), (14, .int .i64 (A : Int))],
              ⟨2, [(0, some (.cells 42 [.int .i64 0, .int .i64 0, .int .i64 0, .nils])), (1, some (bE (catK F y ++ catK (pxb b c A0) x)))]⟩, [some 0, some 1], ?_, ?_⟩
            · rw [hA] at eA
              (repeat' (first | (refine And.intro ?_ ?_) | exact True.intro | (show _ = _; with_reducible rfl) | exact Chk.mk (by kernel_rfl)))
              all_goals first | rfl | exact eA
            clear rg1 rg2 rg3 rg4 eA cfu cfs cxc
            rw [hA] at hAl
            have rg5 : rngI .i64 ((A : Int) + 2) := rng64 (by omega) (by omega)
            have rg6 : rngI .i64 ((A : Int) + 1) := rng64 (by omega) (by omega)
            have t2 : ((A : Int) + 2).toNat = A + 2 := by omega
            have t1 : ((A : Int) + 1).toNat = A + 1 := by omega
            have t0 : (A : Int).toNat = A := by omega
            have e3 : catK F y ++ catK (pxb b c A0) x ++ List.take 3 (List.drop 0 [b.getD ((A : Int) + 2).toNat 0, b.getD ((A : Int) + 1).toNat 0, b.getD (A : Int).toNat 0]) = catK F y ++ catK (pxb b c A0) x ++ [b.getD (A + 2) 0, b.getD (A + 1) 0, b.getD A 0] := by rw [t2, t1, t0]; rfl
            have hPl : (catK F y ++ catK (pxb b c A0) x).length = y * (W * c) + x * c := by rw [List.length_append, hyl, hxl]
            (repeat' (first | (refine xI (fun hfk => ?_) (fun hfk => ?_) <;> ((try (first | replace hfk := oT hfk | replace hfk := oF hfk | simp only [oA, oB, dh1, dh0, ne_eq, reduceCtorEq] at hfk)); (try exact oX))) | (refine And.intro ?ob ?_; (case ob => (exact oZ))) | exact True.intro | (show _ = _; first | exact oY | (skip; done) | exact rfl) | exact oW | (apply And.intro)))
            refine ⟨[(0, .roi .u8 b), (2, .ptr 0 0), (5, .int .i64 (W : Int)), (6, .int .i64 (H : Int)), (7, .int .i64 (c : Int)), (8, .bool dn), (10, .sl 1 1 0 (y * (W * c) + x * c + 3)), (11, .int .i64 (y : Int)), (12, .int .i64 ((fr dn H y : Nat) : Int)), (13, .int .i64 (x : Int)), (14, .int .i64 (A : Int))],
              ⟨2, [(0, some (.cells 42 [.int .i64 0, .int .i64 0, .int .i64 0, .nils])), (1, some (bE (catK F y ++ catK (pxb b c A0) x ++ [b.getD (A + 2) 0, b.getD (A + 1) 0, b.getD A 0])))]⟩, [some 0, some 3], ?_, ?_⟩
            · have el3 : (catK F y ++ catK (pxb b c A0) x).length + (List.take 3 (List.drop 0 [b.getD ((A : Int) + 2).toNat 0, b.getD ((A : Int) + 1).toNat 0, b.getD (A : Int).toNat 0])).length = y * (W * c) + x * c + 3 := by rw [hPl]; rfl
              (repeat' (first | (refine And.intro ?_ ?_) | exact True.intro | (show _ = _; with_reducible rfl) | exact Chk.mk (by kernel_rfl)))
              all_goals first | rfl | exact e3 | exact el3
            have hl3 : (catK F y ++ catK (pxb b c A0) x ++ [b.getD (A + 2) 0, b.getD (A + 1) 0, b.getD A 0]).length = y * (W * c) + x * c + 3 := by rw [List.length_append, List.length_append, hyl, hxl]; rfl
            by_cases h4 : c = 4
            · have h4' : (c : Int) = 4 := by omega
              have rg7 : rngI .i64 ((A : Int) + 3) := rng64 (by omega) (by omega)
              have t3 : ((A : Int) + 3).toNat = A + 3 := by omega
              have ex : catK F y ++ catK (pxb b c A0) x ++ [b.getD (A + 2) 0, b.getD (A + 1) 0, b.getD A 0] ++ List.take 1 (List.drop 0 [b.getD ((A : Int) + 3).toNat 0]) = catK F y ++ catK (pxb b c A0) (x + 1) := by
                rw [t3]
                show _ = catK F y ++ (catK (pxb b c A0) x ++ pxb b c A0 x)
                unfold pxb
                rw [if_pos h4, hA]
                simp only [List.append_assoc]; rfl
              have el4 : (catK F y ++ catK (pxb b c A0) x ++ [b.getD (A + 2) 0, b.getD (A + 1) 0, b.getD A 0]).length + (List.take 1 (List.drop 0 [b.getD ((A : Int) + 3).toNat 0])).length = y * (W * c) + (x + 1) * c := by
                rw [hl3, Nat.succ_mul, h4]; show _ + 3 + 1 = _; omega
              (repeat' (first | (refine xI (fun hfk => ?_) (fun hfk => ?_) <;> ((try (first | replace hfk := oT hfk | replace hfk := oF hfk | simp only [oA, oB, dh1, dh0, ne_eq, reduceCtorEq] at hfk)); (try exact oX))) | (refine And.intro ?ob ?_; (case ob => (exact oZ))) | exact True.intro | (show _ = _; first | exact oY | (skip; done) | exact rfl) | exact oW | (apply And.intro)))
              refine ⟨x + 1, [some 0, some 3], hxlt, ?mu, ?_⟩
              case mu => (show W - (x + 1) < W - x; omega)
              (repeat' (first | (refine And.intro ?_ ?_) | exact True.intro | (show _ = _; with_reducible rfl) | exact Chk.mk (by kernel_rfl)))
              all_goals first | rfl | exact ex | exact el4 | (show (_ : Int) = _; omega)
            · have h4' : ¬ (c : Int) = 4 := by omega
              have ex : catK F y ++ catK (pxb b c A0) x ++ [b.getD (A + 2) 0, b.getD (A + 1) 0, b.getD A 0] = catK F y ++ catK (pxb b c A0) (x + 1) := by
                show _ = catK F y ++ (catK (pxb b c A0) x ++ pxb b c A0 x)
                unfold pxb
                rw [if_neg h4, hA]
                simp only [List.append_assoc]; rfl
              have el4 : y * (W * c) + x * c + 3 = y * (W * c) + (x + 1) * c := by rw [Nat.succ_mul]; omega
              (repeat' (first | (refine xI (fun hfk => ?_) (fun hfk => ?_) <;> ((try (first | replace hfk := oT hfk | replace hfk := oF hfk | simp only [oA, oB, dh1, dh0, ne_eq, reduceCtorEq] at hfk)); (try exact oX))) | (refine And.intro ?ob ?_; (case ob => (exact oZ))) | exact True.intro | (show _ = _; first | exact oY | (skip; done) | exact rfl) | exact oW | (apply And.intro)))
              refine ⟨x + 1, [some 0, some 1], hxlt, ?mu, ?_⟩
              case mu => (show W - (x + 1) < W - x; omega)
              (repeat' (first | (refine And.intro ?_ ?_) | exact True.intro | (show _ = _; with_reducible rfl) | exact Chk.mk (by kernel_rfl)))
              all_goals first | rfl | exact ex | exact el4 | (show (_ : Int) = _; omega)
          · obtain rfl : x = W := by omega
            have ey : catK F y ++ catK (pxb b c A0) x = catK F (y + 1) := by rw [← hA0]; show _ = catK F y ++ F y; rw [hF]
            have el5 : y * (x * c) + x * c = (y + 1) * (x * c) := (Nat.succ_mul _ _).symm
            (repeat' (first | (refine xI (fun hfk => ?_) (fun hfk => ?_) <;> ((try (first | replace hfk := oT hfk | replace hfk := oF hfk | simp only [oA, oB, dh1, dh0, ne_eq, reduceCtorEq] at hfk)); (try exact oX))) | (refine And.intro ?ob ?_; (case ob => (exact oZ))) | exact True.intro | (show _ = _; first | exact oY | (skip; done) | exact rfl) | exact oW | (apply And.intro)))
            refine ⟨y + 1, [some 0, some 1], hlt, ?mu, ?_⟩
            case mu => (show H - (y + 1) < H - y; omega)
            (repeat' (first | (refine And.intro ?_ ?_) | exact True.intro | (show _ = _; with_reducible rfl) | exact Chk.mk (by kernel_rfl)))
            all_goals first | rfl | exact ey | exact el5 | (show (_ : Int) = _; omega)
      · obtain rfl : y = H := by omega
        have ef : List.take (y * (W * c)) (List.drop 0 (catK F y)) = catK F y := by rw [List.drop_zero, ← hyl, List.take_length]
        have gw' := gw.symm
        (repeat' (first | (refine xI (fun hfk => ?_) (fun hfk => ?_) <;> ((try (first | replace hfk := oT hfk | replace hfk := oF hfk | simp only [oA, oB, dh1, dh0, ne_eq, reduceCtorEq] at hfk)); (try exact oX))) | (refine And.intro ?ob ?_; (case ob => (exact oZ))) | exact True.intro | (show _ = _; first | exact oY | (skip; done) | exact rfl) | exact oW | (apply And.intro)))
        (refine ⟨[1], ⟨by kernel_rfl⟩, ?_⟩)
        (repeat' (first | (refine xI (fun hfk => ?_) (fun hfk => ?_) <;> ((try (first | replace hfk := oT hfk | replace hfk := oF hfk | simp only [oA, oB, dh1, dh0, ne_eq, reduceCtorEq] at hfk)); (try exact oX))) | (refine And.intro ?ob ?_; (case ob => (exact oZ))) | exact True.intro | (show _ = _; first | exact oY | (first | exact ef | exact gw' | exact ghn | exact gcn | rfl; done) | exact rfl) | exact oW | (apply And.intro)))
  · have hdn : dn = false := by rw [← gd]; exact decide_eq_false (by omega)
    (repeat' (first | (refine xI (fun hfk => ?_) (fun hfk => ?_) <;> ((try (first | replace hfk := oT hfk | replace hfk := oF hfk | simp only [oA, oB, dh1, dh0, ne_eq, reduceCtorEq] at hfk)); (try exact oX))) | (refine And.intro ?ob ?_; (case ob => (exact oZ))) | exact True.intro | (show _ = _; first | exact oY | (exact hb; done) | exact rfl) | exact oW | (apply And.intro)))
    all_goals
      refine ⟨Nat, fun y => [(0, .roi .u8 b), (2, .ptr 0 0), (5, .int .i64 (W : Int)), (6, .int .i64 (H : Int)), (7, .int .i64 (c : Int)), (8, .bool dn), (10, .sl 1 1 0 (y * (W * c))), (11, .int .i64 (y : Int))],
        fun y => ⟨2, [(0, some (.cells 42 [.int .i64 0, .int .i64 0, .int .i64 0, .nils])), (1, some (bE (catK F y)))]⟩,
        fun y => y ≤ H, fun y => H - y, ⟨0, [some 0, none], Nat.zero_le _, ?_⟩, fun y hy => ?_⟩
      · (repeat' (first | (refine And.intro ?_ ?_) | exact True.intro | (show _ = _; with_reducible rfl) | exact Chk.mk (by kernel_rfl)))
        all_goals first | exact gw | exact hTH | exact gc | exact gd | exact Nat.zero_mul _ | rfl
      have hy : y ≤ H := hy
      have hyl := catK_len hFl y hy
      have rfy : rngI .i64 ((y : Int) + 1) := rng64 (by omega) (by omega)
      by_cases hlt : y < H
      · have hfr := fr_lt (dn := dn) hlt
        have hfs := prod_of (n := st) hfr
        have hyw := prod_of (n := W * c) hlt
        have ry1 : rngI .i64 ((H : Int) - 1) := rng64 (by omega) (by omega)
        have ry2 : rngI .i64 ((H : Int) - 1 - (y : Int)) := rng64 (by omega) (by omega)
        all_goals
          have hrow : (if dn = true then (y : Int) else (H : Int) - 1 - (y : Int)) = ((fr dn H y : Nat) : Int) := by unfold fr; split <;> omega
          rw [if_neg (by rw [hdn]; decide)] at hrow
          (repeat' (first | (refine xI (fun hfk => ?_) (fun hfk => ?_) <;> ((try (first | replace hfk := oT hfk | replace hfk := oF hfk | simp only [oA, oB, dh1, dh0, ne_eq, reduceCtorEq] at hfk)); (try exact oX))) | (refine And.intro ?ob ?_; (case ob => (exact oZ))) | exact True.intro | (show _ = _; first | exact oY | (skip; done) | exact rfl) | exact oW | (apply And.intro)))
          obtain ⟨A0, hA0⟩ : ∃ A0, 54 + fr dn H y * st = A0 := ⟨_, rfl⟩
          refine ⟨Nat, fun x => [(0, .roi .u8 b), (2, .ptr 0 0), (5, .int .i64 (W : Int)), (6, .int .i64 (H : Int)), (7, .int .i64 (c : Int)), (8, .bool dn), (10, .sl 1 1 0 (y * (W * c) + x * c)), (11, .int .i64 (y : Int)), (12, .int .i64 ((fr dn H y : Nat) : Int)), (13, .int .i64 (x : Int))],
            fun x => ⟨2, [(0, some (.cells 42 [.int .i64 0, .int .i64 0, .int .i64 0, .nils])), (1, some (bE (catK F y ++ catK (pxb b c A0) x)))]⟩,
            fun x => x ≤ W, fun x => W - x, ⟨0, [some 0, some 1], Nat.zero_le _, ?_⟩, fun x hx => ?_⟩
          · have en : y * (W * c) = y * (W * c) + 0 * c := by omega
            have el : catK F y = catK F y ++ catK (pxb b c A0) 0 := (List.append_nil _).symm
            (repeat' (first | (refine And.intro ?_ ?_) | exact True.intro | (show _ = _; with_reducible rfl) | exact Chk.mk (by kernel_rfl)))
            all_goals first | rfl | exact hrow | exact en | exact el
          have hx : x ≤ W := hx
          have hxl := catK_len (fun k (_ : k < W) => pxb_len c34 (b := b) A0 k) x hx
          have rfx : rngI .i64 ((x : Int) + 1) := rng64 (by omega) (by omega)
          by_cases hxlt : x < W
          · have hxc := prod_of (n := c) hxlt
            have cxc : ((x * c : Nat) : Int) = (x : Int) * (c : Int) := Int.natCast_mul _ _
            have cfs : ((fr dn H y * st : Nat) : Int) = ((fr dn H y : Nat) : Int) * (st : Int) := Int.natCast_mul _ _
            have cfu : ((fr dn H y : Nat) : Int) * up4 ((W : Int) * (c : Int)) = ((fr dn H y * st : Nat) : Int) := by rw [gst, cfs]
            have rg1 : rngI .i64 (((fr dn H y : Nat) : Int) * up4 ((W : Int) * (c : Int))) := by rw [cfu]; exact rng64 (by omega) (by omega)
            have rg2 : rngI .i64 (54 + ((fr dn H y : Nat) : Int) * up4 ((W : Int) * (c : Int))) := by rw [cfu]; exact rng64 (by omega) (by omega)
            have rg3 : rngI .i64 ((x : Int) * (c : Int)) := by rw [← cxc]; exact rng64 (by omega) (by omega)
            have rg4 : rngI .i64 (54 + ((fr dn H y : Nat) : Int) * up4 ((W : Int) * (c : Int)) + (x : Int) * (c : Int)) := by rw [cfu, ← cxc]; exact rng64 (by omega) (by omega)
            have eA : 54 + ((fr dn H y : Nat) : Int) * up4 ((W : Int) * (c : Int)) + (x : Int) * (c : Int) = ((A0 + x * c : Nat) : Int) := by rw [cfu, ← cxc]; omega
            have hAl : A0 + x * c + c ≤ b.length := by omega
            (repeat' (first | (refine xI (fun hfk => ?_) (fun hfk => ?_) <;> ((try (first | replace hfk := oT hfk | replace hfk := oF hfk | simp only [oA, oB, dh1, dh0, ne_eq, reduceCtorEq] at hfk)); (try exact oX))) | (refine And.intro ?ob ?_; (case ob => (exact oZ))) | exact True.intro | (show _ = _; first | exact oY | (skip; done) | exact rfl) | exact oW | (apply And.intro)))
            obtain ⟨A, hA⟩ : ∃ A, A0 + x * c = A := ⟨_, rfl⟩
            refine ⟨[(0, .roi .u8 b), (2, .ptr 0 0), (5, .int .i64 (W : Int)), (6, .int .i64 (H : Int)), (7, .int .i64 (c : Int)), (8, .bool dn), (10, .sl 1 1 0 (y * (W * c) + x * c)), (11, .int .i64 (y : Int)), (12, .int .i64 ((fr dn H y : Nat) : Int)), (13, .int .i64 (x : Int)), (14, .int .i64 (A : Int))],
              ⟨2, [(0, some (.cells 42 [.int .i64 0, .int .i64 0, .int .i64 0, .nils])), (1, some (bE (catK F y ++ catK (pxb b c A0) x)))]⟩, [some 0, some 1], ?_, ?_⟩
            · rw [hA] at eA
              (repeat' (first | (refine And.intro ?_ ?_) | exact True.intro | (show _ = _; with_reducible rfl) | exact Chk.mk (by kernel_rfl)))
              all_goals first | rfl | exact eA
            clear rg1 rg2 rg3 rg4 eA cfu cfs cxc
            rw [hA] at hAl
            have rg5 : rngI .i64 ((A : Int) + 2) := rng64 (by omega) (by omega)
            have rg6 : rngI .i64 ((A : Int) + 1) := rng64 (by omega) (by omega)
            have t2 : ((A : Int) + 2).toNat = A + 2 := by omega
            have t1 : ((A : Int) + 1).toNat = A + 1 := by omega
            have t0 : (A : Int).toNat = A := by omega
            have e3 : catK F y ++ catK (pxb b c A0) x ++ List.take 3 (List.drop 0 [b.getD ((A : Int) + 2).toNat 0, b.getD ((A : Int) + 1).toNat 0, b.getD (A : Int).toNat 0]) = catK F y ++ catK (pxb b c A0) x ++ [b.getD (A + 2) 0, b.getD (A + 1) 0, b.getD A 0] := by rw [t2, t1, t0]; rfl
            have hPl : (catK F y ++ catK (pxb b c A0) x).length = y * (W * c) + x * c := by rw [List.length_append, hyl, hxl]
            (repeat' (first | (refine xI (fun hfk => ?_) (fun hfk => ?_) <;> ((try (first | replace hfk := oT hfk | replace hfk := oF hfk | simp only [oA, oB, dh1, dh0, ne_eq, reduceCtorEq] at hfk)); (try exact oX))) | (refine And.intro ?ob ?_; (case ob => (exact oZ))) | exact True.intro | (show _ = _; first | exact oY | (skip; done) | exact rfl) | exact oW | (apply And.intro)))
            refine ⟨[(0, .roi .u8 b), (2, .ptr 0 0), (5, .int .i64 (W : Int)), (6, .int .i64 (H : Int)), (7, .int .i64 (c : Int)), (8, .bool dn), (10, .sl 1 1 0 (y * (W * c) + x * c + 3)), (11, .int .i64 (y : Int)), (12, .int .i64 ((fr dn H y : Nat) : Int)), (13, .int .i64 (x : Int)), (14, .int .i64 (A : Int))],
              ⟨2, [(0, some (.cells 42 [.int .i64 0, .int .i64 0, .int .i64 0, .nils])), (1, some (bE (catK F y ++ catK (pxb b c A0) x ++ [b.getD (A + 2) 0, b.getD (A + 1) 0, b.getD A 0])))]⟩, [some 0, some 3], ?_, ?_⟩
            · have el3 : (catK F y ++ catK (pxb b c A0) x).length + (List.take 3 (List.drop 0 [b.getD ((A : Int) + 2).toNat 0, b.getD ((A : Int) + 1).toNat 0, b.getD (A : Int).toNat 0])).length = y * (W * c) + x * c + 3 := by rw [hPl]; rfl
              (repeat' (first | (refine And.intro ?_ ?_) | exact True.intro | (show _ = _; with_reducible rfl) | exact Chk.mk (by kernel_rfl)))
              all_goals first | rfl | exact e3 | exact el3
            have hl3 : (catK F y ++ catK (pxb b c A0) x ++ [b.getD (A + 2) 0, b.getD (A + 1) 0, b.getD A 0]).length = y * (W * c) + x * c + 3 := by rw [List.length_append, List.length_append, hyl, hxl]; rfl
            by_cases h4 : c = 4
            · have h4' : (c : Int) = 4 := by omega
              have rg7 : rngI .i64 ((A : Int) + 3) := rng64 (by omega) (by omega)
              have t3 : ((A : Int) + 3).toNat = A + 3 := by omega
              have ex : catK F y ++ catK (pxb b c A0) x ++ [b.getD (A + 2) 0, b.getD (A + 1) 0, b.getD A 0] ++ List.take 1 (List.drop 0 [b.getD ((A : Int) + 3).toNat 0]) = catK F y ++ catK (pxb b c A0) (x + 1) := by
                rw [t3]
                show _ = catK F y ++ (catK (pxb b c A0) x ++ pxb b c A0 x)
                unfold pxb
                rw [if_pos h4, hA]
                simp only [List.append_assoc]; rfl
              have el4 : (catK F y ++ catK (pxb b c A0) x ++ [b.getD (A + 2) 0, b.getD (A + 1) 0, b.getD A 0]).length + (List.take 1 (List.drop 0 [b.getD ((A : Int) + 3).toNat 0])).length = y * (W * c) + (x + 1) * c := by
                rw [hl3, Nat.succ_mul, h4]; show _ + 3 + 1 = _; omega
              (repeat' (first | (refine xI (fun hfk => ?_) (fun hfk => ?_) <;> ((try (first | replace hfk := oT hfk | replace hfk := oF hfk | simp only [oA, oB, dh1, dh0, ne_eq, reduceCtorEq] at hfk)); (try exact oX))) | (refine And.intro ?ob ?_; (case ob => (exact oZ))) | exact True.intro | (show _ = _; first | exact oY | (skip; done) | exact rfl) | exact oW | (apply And.intro)))
              refine ⟨x + 1, [some 0, some 3], hxlt, ?mu, ?_⟩
              case mu => (show W - (x + 1) < W - x; omega)
              (repeat' (first | (refine And.intro ?_ ?_) | exact True.intro | (show _ = _; with_reducible rfl) | exact Chk.mk (by kernel_rfl)))
              all_goals first | rfl | exact ex | exact el4 | (show (_ : Int) = _; omega)
            · have h4' : ¬ (c : Int) = 4 := by omega
              have ex : catK F y ++ catK (pxb b c A0) x ++ [b.getD (A + 2) 0, b.getD (A + 1) 0, b.getD A 0] = catK F y ++ catK (pxb b c A0) (x + 1) := by
                show _ = catK F y ++ (catK (pxb b c A0) x ++ pxb b c A0 x)
                unfold pxb
                rw [if_neg h4, hA]
                simp only [List.append_assoc]; rfl
              have el4 : y * (W * c) + x * c + 3 = y * (W * c) + (x + 1) * c := by rw [Nat.succ_mul]; omega
              (repeat' (first | (refine xI (fun hfk => ?_) (fun hfk => ?_) <;> ((try (first | replace hfk := oT hfk | replace hfk := oF hfk | simp only [oA, oB, dh1, dh0, ne_eq, reduceCtorEq] at hfk)); (try exact oX))) | (refine And.intro ?ob ?_; (case ob => (exact oZ))) | exact True.intro | (show _ = _; first | exact oY | (skip; done) | exact rfl) | exact oW | (apply And.intro)))
              refine ⟨x + 1, [some 0, some 1], hxlt, ?mu, ?_⟩
              case mu => (show W - (x + 1) < W - x; omega)
              (repeat' (first | (refine And.intro ?_ ?_) | exact True.intro | (show _ = _; with_reducible rfl) | exact Chk.mk (by kernel_rfl)))
              all_goals first | rfl | exact ex | exact el4 | (show (_ : Int) = _; omega)
          · obtain rfl : x = W := by omega
            have ey : catK F y ++ catK (pxb b c A0) x = catK F (y + 1) := by rw [← hA0]; show _ = catK F y ++ F y; rw [hF]
            have el5 : y * (x * c) + x * c = (y + 1) * (x * c) := (Nat.succ_mul _ _).symm
            (repeat' (first | (refine xI (fun hfk => ?_) (fun hfk => ?_) <;> ((try (first | replace hfk := oT hfk | replace hfk := oF hfk | simp only [oA, oB, dh1, dh0, ne_eq, reduceCtorEq] at hfk)); (try exact oX))) | (refine And.intro ?ob ?_; (case ob => (exact oZ))) | exact True.intro | (show _ = _; first | exact oY | (skip; done) | exact rfl) | exact oW | (apply And.intro)))
            refine ⟨y + 1, [some 0, some 1], hlt, ?mu, ?_⟩
            case mu => (show H - (y + 1) < H - y; omega)
            (repeat' (first | (refine And.intro ?_ ?_) | exact True.intro | (show _ = _; with_reducible rfl) | exact Chk.mk (by kernel_rfl)))
            all_goals first | rfl | exact ey | exact el5 | (show (_ : Int) = _; omega)
      · obtain rfl : y = H := by omega
        have ef : List.take (y * (W * c)) (List.drop 0 (catK F y)) = catK F y := by rw [List.drop_zero, ← hyl, List.take_length]
        have gw' := gw.symm
        (repeat' (first | (refine xI (fun hfk => ?_) (fun hfk => ?_) <;> ((try (first | replace hfk := oT hfk | replace hfk := oF hfk | simp only [oA, oB, dh1, dh0, ne_eq, reduceCtorEq] at hfk)); (try exact oX))) | (refine And.intro ?ob ?_; (case ob => (exact oZ))) | exact True.intro | (show _ = _; first | exact oY | (skip; done) | exact rfl) | exact oW | (apply And.intro)))
        (refine ⟨[1], ⟨by kernel_rfl⟩, ?_⟩)
        (repeat' (first | (refine xI (fun hfk => ?_) (fun hfk => ?_) <;> ((try (first | replace hfk := oT hfk | replace hfk := oF hfk | simp only [oA, oB, dh1, dh0, ne_eq, reduceCtorEq] at hfk)); (try exact oX))) | (refine And.intro ?ob ?_; (case ob => (exact oZ))) | exact True.intro | (show _ = _; first | exact oY | (first | exact ef | exact gw' | exact ghn | exact gcn | rfl; done) | exact rfl) | exact oW | (apply And.intro)))
theorem rread16_s : SOK Tryz.prog 43 bmS := by
  refine sok_of (C := rdCx) rdCx_ok rfl mixed ⟨Tryz.func43, by kernel_rfl, by kernel_rfl, by kernel_rfl⟩ fun l obs v h ho => ?_
  (unfold bmS at h; split at h; rotate_left; (focus (cases h)); rename_i b; simp only [Option.some.injEq, Prod.mk.injEq] at h; obtain ⟨rfl, rfl⟩ := h; simp only [List.mem_cons, List.not_mem_nil, or_false, forall_eq_or_imp, forall_eq, false_implies, implies_true] at ho)
  have hb := ho
  have bl := hb.le
  refine ⟨Nat.le_of_ble_eq_true rfl, ?_⟩
  by_cases k1 : hdE b = 0
  rotate_left
  · have e : rdE b = hdE b := if_pos k1
    obtain ⟨z1, z2⟩ := rd_bad (b := b) (by rw [e]; exact k1)
    rw [z1, z1, z1, z2, e]
    (repeat' (first | (refine xI (fun hfk => ?_) (fun hfk => ?_) <;> ((try (first | replace hfk := oT hfk | replace hfk := oF hfk | simp only [oA, oB, dh1, dh0, ne_eq, reduceCtorEq] at hfk)); (try exact oX))) | (refine And.intro ?ob ?_; (case ob => (exact oZ))) | exact True.intro | (show _ = _; first | exact oY | (first | exact hb | rfl; done) | exact rfl) | exact oW | (apply And.intro)))
  obtain ⟨_, _, k6, k7, k8⟩ := hd_inv k1
  have wb := lw_bd hb (a := 18) (n := 4) (by decide)
  have hb0 := lw_bd hb (a := 22) (n := 4) (by decide)
  have hrb := hr_bd hb0.1 hb0.2
  have e0 : rdE b = if shC (hW b) (hrV (hH0 b)) ≠ 0 then shC (hW b) (hrV (hH0 b)) else if (b.length : Int) - 54 < hNn b then 20 else if hNn b < (b.length : Int) - 54 then 22
    else if lw b 2 4 = b.length ∧ (lw b 34 4 = 0 ∨ lw b 34 4 = hNn b) then 0 else 21 := if_neg (fun k => k k1)
  obtain ⟨T, hT⟩ : ∃ T, hrV (hH0 b) = T := ⟨_, rfl⟩
  have hTc : (2147483648 ≤ lw b 22 4 ∧ T = 4294967296 - lw b 22 4) ∨ (lw b 22 4 < 2147483648 ∧ T = lw b 22 4) := by
    have : hH0 b = lw b 22 4 := rfl
    rw [← hT]; unfold hrV; split
    · left; omega
    · right; omega
  obtain ⟨w, hw⟩ : ∃ w, hW b = w := ⟨_, rfl⟩
  have hw' : lw b 18 4 = w := hw
  rw [hT, hw] at e0
  rw [hT] at hrb
  have hc8 : (lw b 28 2).tdiv 8 = 3 ∨ (lw b 28 2).tdiv 8 = 4 := by rcases k8 with k | k <;> rw [k] <;> decide
  have hc8' : hCn b = (lw b 28 2).tdiv 8 := by unfold hCn; rcases k8 with k | k <;> rw [k] <;> rfl
  have q1 : rngI .i64 ((lw b 28 2).tdiv 8) := rng64 (by omega) (by omega)
  rw [← hw] at e0
  by_cases a1 : lw b 18 4 = 0 ∨ T = 0
  · have es : shC (hW b) T = 12 := if_pos a1
    have e : rdE b = 12 := by rw [e0, es]; rfl
    obtain ⟨z1, z2⟩ := rd_bad (b := b) (by rw [e]; decide)
    rw [z1, z1, z1, z2, e]
    rcases hTc with ⟨hd, rfl⟩ | ⟨hd, rfl⟩
    all_goals
      rcases a1 with a1 | a1
      · (repeat' (first | (refine xI (fun hfk => ?_) (fun hfk => ?_) <;> ((try (first | replace hfk := oT hfk | replace hfk := oF hfk | simp only [oA, oB, dh1, dh0, ne_eq, reduceCtorEq] at hfk)); (try exact oX))) | (refine And.intro ?ob ?_; (case ob => (exact oZ))) | exact True.intro | (show _ = _; first | exact oY | (first | exact hb | rfl; done) | exact rfl) | exact oW | (apply And.intro)))
      · by_cases a2 : lw b 18 4 = 0
        · (repeat' (first | (refine xI (fun hfk => ?_) (fun hfk => ?_) <;> ((try (first | replace hfk := oT hfk | replace hfk := oF hfk | simp only [oA, oB, dh1, dh0, ne_eq, reduceCtorEq] at hfk)); (try exact oX))) | (refine And.intro ?ob ?_; (case ob => (exact oZ))) | exact True.intro | (show _ = _; first | exact oY | (first | exact hb | rfl; done) | exact rfl) | exact oW | (apply And.intro)))
        · (repeat' (first | (refine xI (fun hfk => ?_) (fun hfk => ?_) <;> ((try (first | replace hfk := oT hfk | replace hfk := oF hfk | simp only [oA, oB, dh1, dh0, ne_eq, reduceCtorEq] at hfk)); (try exact oX))) | (refine And.intro ?ob ?_; (case ob => (exact oZ))) | exact True.intro | (show _ = _; first | exact oY | (first | exact hb | rfl; done) | exact rfl) | exact oW | (apply And.intro)))
  by_cases a2 : 32768 < lw b 18 4 ∨ 32768 < T
  · have es : shC (hW b) T = 30 := by unfold shC; rw [if_neg a1, if_pos (by omega)]
    have e : rdE b = 30 := by rw [e0, es]; rfl
    obtain ⟨z1, z2⟩ := rd_bad (b := b) (by rw [e]; decide)
    rw [z1, z1, z1, z2, e]
    rcases hTc with ⟨hd, rfl⟩ | ⟨hd, rfl⟩
    all_goals
      by_cases a3 : 32768 < lw b 18 4
      · (repeat' (first | (refine xI (fun hfk => ?_) (fun hfk => ?_) <;> ((try (first | replace hfk := oT hfk | replace hfk := oF hfk | simp only [oA, oB, dh1, dh0, ne_eq, reduceCtorEq] at hfk)); (try exact oX))) | (refine And.intro ?ob ?_; (case ob => (exact oZ))) | exact True.intro | (show _ = _; first | exact oY | (first | exact hb | rfl; done) | exact rfl) | exact oW | (apply And.intro)))
      · (repeat' (first | (refine xI (fun hfk => ?_) (fun hfk => ?_) <;> ((try (first | replace hfk := oT hfk | replace hfk := oF hfk | simp only [oA, oB, dh1, dh0, ne_eq, reduceCtorEq] at hfk)); (try exact oX))) | (refine And.intro ?ob ?_; (case ob => (exact oZ))) | exact True.intro | (show _ = _; first | exact oY | (first | exact hb | rfl; done) | exact rfl) | exact oW | (apply And.intro)))
  have p1 : 0 ≤ lw b 18 4 * T := Int.mul_nonneg (by omega) (by omega)
  have p2 : lw b 18 4 * T ≤ 32768 * 32768 := Int.le_trans (Int.mul_le_mul_of_nonneg_right (by omega) (by omega)) (Int.mul_le_mul_of_nonneg_left (by omega) (by omega))
  have q2 : rngI .i64 (lw b 18 4 * T) := rng64 (by omega) (by omega)
  by_cases a3 : 4194304 < lw b 18 4 * T
  · have es : shC (hW b) T = 30 := by unfold shC; rw [if_neg a1, if_pos (.inr (.inr a3))]
    have e : rdE b = 30 := by rw [e0, es]; rfl
    obtain ⟨z1, z2⟩ := rd_bad (b := b) (by rw [e]; decide)
    rw [z1, z1, z1, z2, e]
    rcases hTc with ⟨hd, rfl⟩ | ⟨hd, rfl⟩
    all_goals
      (repeat' (first | (refine xI (fun hfk => ?_) (fun hfk => ?_) <;> ((try (first | replace hfk := oT hfk | replace hfk := oF hfk | simp only [oA, oB, dh1, dh0, ne_eq, reduceCtorEq] at hfk)); (try exact oX))) | (refine And.intro ?ob ?_; (case ob => (exact oZ))) | exact True.intro | (show _ = _; first | exact oY | (first | exact hb | rfl; done) | exact rfl) | exact oW | (apply And.intro)))
  have es : shC (hW b) T = 0 := by unfold shC; rw [if_neg a1, if_neg (fun k => k.elim (fun k => a2 (.inl k)) fun k => k.elim (fun k => a2 (.inr k)) a3)]
  rw [es, if_neg (fun k => k rfl)] at e0
  have eN : hNn b = up4 (lw b 18 4 * (lw b 28 2).tdiv 8) * T := by unfold hNn; rw [hT, hc8']
  rw [eN] at e0
  have wc0 : 3 ≤ lw b 18 4 * (lw b 28 2).tdiv 8 ∧ lw b 18 4 * (lw b 28 2).tdiv 8 ≤ 131072 := by rcases hc8 with k | k <;> rw [k] <;> omega
  have ub := up4_bd (lw b 18 4 * (lw b 28 2).tdiv 8)
  have wc1 : 0 ≤ lw b 18 4 * (lw b 28 2).tdiv 8 := by omega
  have wc2 : lw b 18 4 * (lw b 28 2).tdiv 8 ≤ 4294967296 := by omega
  have n1 : 0 ≤ up4 (lw b 18 4 * (lw b 28 2).tdiv 8) * T := Int.mul_nonneg (by omega) (by omega)
  have n2 : up4 (lw b 18 4 * (lw b 28 2).tdiv 8) * T ≤ 131075 * 32768 := Int.le_trans (Int.mul_le_mul_of_nonneg_right (by omega) (by omega)) (Int.mul_le_mul_of_nonneg_left (by omega) (by omega))
  have q3 : rngI .i64 (up4 (lw b 18 4 * (lw b 28 2).tdiv 8) * T) := rng64 (by omega) (by omega)
  by_cases a4 : (b.length : Int) - 54 < up4 (lw b 18 4 * (lw b 28 2).tdiv 8) * T
  · have e : rdE b = 20 := by rw [e0, if_pos a4]
    obtain ⟨z1, z2⟩ := rd_bad (b := b) (by rw [e]; decide)
    rw [z1, z1, z1, z2, e]
    rcases hTc with ⟨hd, rfl⟩ | ⟨hd, rfl⟩
    all_goals
      (repeat' (first | (refine xI (fun hfk => ?_) (fun hfk => ?_) <;> ((try (first | replace hfk := oT hfk | replace hfk := oF hfk | simp only [oA, oB, dh1, dh0, ne_eq, reduceCtorEq] at hfk)); (try exact oX))) | (refine And.intro ?ob ?_; (case ob => (exact oZ))) | exact True.intro | (show _ = _; first | exact oY | (first | exact hb | rfl; done) | exact rfl) | exact oW | (apply And.intro)))
  by_cases a5 : up4 (lw b 18 4 * (lw b 28 2).tdiv 8) * T < (b.length : Int) - 54
  · have e : rdE b = 22 := by rw [e0, if_neg a4, if_pos a5]
    obtain ⟨z1, z2⟩ := rd_bad (b := b) (by rw [e]; decide)
    rw [z1, z1, z1, z2, e]
    rcases hTc with ⟨hd, rfl⟩ | ⟨hd, rfl⟩
    all_goals
      (repeat' (first | (refine xI (fun hfk => ?_) (fun hfk => ?_) <;> ((try (first | replace hfk := oT hfk | replace hfk := oF hfk | simp only [oA, oB, dh1, dh0, ne_eq, reduceCtorEq] at hfk)); (try exact oX))) | (refine And.intro ?ob ?_; (case ob => (exact oZ))) | exact True.intro | (show _ = _; first | exact oY | (first | exact hb | rfl; done) | exact rfl) | exact oW | (apply And.intro)))
  rw [if_neg a4, if_neg a5] at e0
  by_cases a6 : lw b 2 4 = b.length ∧ (lw b 34 4 = 0 ∨ lw b 34 4 = up4 (lw b 18 4 * (lw b 28 2).tdiv 8) * T)
  rotate_left
  · have e : rdE b = 21 := by rw [e0, if_neg a6]
    obtain ⟨z1, z2⟩ := rd_bad (b := b) (by rw [e]; decide)
    rw [z1, z1, z1, z2, e]
    rcases hTc with ⟨hd, rfl⟩ | ⟨hd, rfl⟩
    all_goals
      by_cases a7 : lw b 2 4 = b.length
      · have a8 : ¬ lw b 34 4 = 0 := fun k => a6 ⟨a7, .inl k⟩
        have a9 := fun k => a6 ⟨a7, .inr k⟩
        (repeat' (first | (refine xI (fun hfk => ?_) (fun hfk => ?_) <;> ((try (first | replace hfk := oT hfk | replace hfk := oF hfk | simp only [oA, oB, dh1, dh0, ne_eq, reduceCtorEq] at hfk)); (try exact oX))) | (refine And.intro ?ob ?_; (case ob => (exact oZ))) | exact True.intro | (show _ = _; first | exact oY | (first | exact hb | exact absurd (by assumption) a9 | rfl; done) | exact rfl) | exact oW | (apply And.intro)))
      · (repeat' (first | (refine xI (fun hfk => ?_) (fun hfk => ?_) <;> ((try (first | replace hfk := oT hfk | replace hfk := oF hfk | simp only [oA, oB, dh1, dh0, ne_eq, reduceCtorEq] at hfk)); (try exact oX))) | (refine And.intro ?ob ?_; (case ob => (exact oZ))) | exact True.intro | (show _ = _; first | exact oY | (first | exact hb | rfl; done) | exact rfl) | exact oW | (apply And.intro)))
  exact rread16_good hb (by rw [e0, if_pos a6])
end Go.Proofs.YtljdahepmmgfeaaGreatDoor
namespace Go.Proofs.YtljdahepmmgfeaaGreatDoor
open Go Go.RowKit
set_option maxHeartbeats 4000000
theorem hd_take {b : List Int} : hdE b = if tkC b ≠ 0 then tkC b else if fmP (lw b 6 4) (lw b 10 4) (lw b 14 4) (lw b 26 2) (lw b 28 2) (lw b 30 4) (lw b 46 4) (lw b 50 4) then 0 else 21 := by
  have hf : (frm0 b ∧ (lw b 28 2 = 24 ∨ lw b 28 2 = 32)) ↔ fmP (lw b 6 4) (lw b 10 4) (lw b 14 4) (lw b 26 2) (lw b 28 2) (lw b 30 4) (lw b 46 4) (lw b 50 4) := by
    unfold frm0 fmP
    constructor
    · rintro ⟨⟨a, b, c, d, e, f, g⟩, h⟩; exact ⟨a, e, f, g, b, c, d, h⟩
    · rintro ⟨a, e, f, g, b, c, d, h⟩; exact ⟨⟨a, b, c, d, e, f, g⟩, h⟩
  have hw : wordC b [66, 77] = if b.length = 0 ∨ (b.length = 1 ∧ b.getD 0 0 = 66) then 20 else if b.getD 0 0 ≠ 66 ∨ (1 < b.length ∧ b.getD 1 0 ≠ 77) then 21 else 0 := by
    match b with
    | [] => rfl
    | [x] =>
      show (if x = 66 then wordC [] [77] else 21) = _
      by_cases hx : x = 66
      · subst hx; rfl
      · rw [if_neg hx, if_neg (by simp [hx]), if_pos (by simp [hx])]
    | x :: y :: r =>
      show (if x = 66 then (if y = 77 then wordC r [] else 21) else 21) = _
      have h0 : ¬ ((x :: y :: r).length = 0 ∨ ((x :: y :: r).length = 1 ∧ (x :: y :: r).getD 0 0 = 66)) := by simp
      rw [if_neg h0]
      by_cases hx : x = 66
      · by_cases hy : y = 77
        · rw [if_pos hx, if_pos hy, if_neg (by simp [hx, hy])]; cases r <;> rfl
        · rw [if_pos hx, if_neg hy, if_pos (by simp [hy])]
      · rw [if_neg hx, if_pos (by simp [hx])]
  unfold hdE tkC
  rw [hw]
  by_cases k1 : b.length = 0 ∨ (b.length = 1 ∧ b.getD 0 0 = 66)
  · rw [if_pos k1, if_pos k1]; rfl
  rw [if_neg k1, if_neg k1]
  by_cases k2 : b.getD 0 0 ≠ 66 ∨ (1 < b.length ∧ b.getD 1 0 ≠ 77)
  · rw [if_pos k2, if_pos k2]; rfl
  rw [if_neg k2, if_neg k2]
  simp only [ne_eq, not_true_eq_false, if_false]
  by_cases k3 : b.length < 54
  · rw [if_pos k3, if_pos k3]; rfl
  rw [if_neg k3, if_neg k3]
  simp only [not_true_eq_false, if_false]
  by_cases k4 : frm0 b ∧ (lw b 28 2 = 24 ∨ lw b 28 2 = 32)
  · rw [if_pos k4, if_pos (hf.1 k4)]
  · rw [if_neg k4, if_neg (fun k => k4 (hf.2 k))]
end Go.Proofs.YtljdahepmmgfeaaGreatDoor
namespace Go.Proofs.YtljdahepmmgfeaaGreatDoor
open Go Go.RowKit
set_option maxHeartbeats 16000000
noncomputable def rpCx : Ctx := mkK 0 [(57, strideS), (52, leftS), (55, hformS), (56, hshapeS), (58, hsumsS), (59, hdownS)] (glook [(50, fG newcF), (54, fG takeHF), (53, fG takeF), (60, fG turnF)]) [2, 7, 10, 24, 25]
theorem rpCx_ok : COK Tryz.prog rpCx := mkK_ok (pok_cons stride_s (pok_cons left_s (pok_cons hform_s (pok_cons hshape_s (pok_cons hsums_s (pok_cons hdown_s pok_nil)))))) (gl_cons newc_g (gl_cons takeH_g (gl_cons take_g (gl_cons turn_g gl_nil))))
theorem tk_bad1 {b : List Int} (hb : Byt b) (h : tkC b ≠ 0) : vcFn rpCx Tryz.f32 [.roi .u8 b] ⟨0, []⟩ (Ret (.tup [imA (rdK b (hW b)) (rdK b (hrV (hH0 b))) (rdK b (hCn b)) (rdL b), .int .i64 (rdE b)])) := by
  have bl := hb.le
  have e1 : hdE b = tkC b := by rw [hd_take, if_pos h]
  have e : rdE b = tkC b := by unfold rdE; rw [e1, if_pos h]
  obtain ⟨z1, z2⟩ := rd_bad (b := b) (by rw [e]; exact h)
  rw [z1, z1, z1, z2, e]
  (repeat' (first | (refine xI (fun hfk => ?_) (fun hfk => ?_) <;> ((try (first | replace hfk := oT hfk | replace hfk := oF hfk | simp only [oA, oB, dh1, dh0, ne_eq, reduceCtorEq] at hfk)); (try exact oX))) | (refine And.intro ?ob ?_; (case ob => (exact oZ))) | exact True.intro | (show _ = _; first | exact oY | (exact hb; done) | exact rfl) | exact oW | (apply And.intro)))
  (refine ⟨[], ⟨by kernel_rfl⟩, ?_⟩)
  (repeat' (first | (refine xI (fun hfk => ?_) (fun hfk => ?_) <;> ((try (first | replace hfk := oT hfk | replace hfk := oF hfk | simp only [oA, oB, dh1, dh0, ne_eq, reduceCtorEq] at hfk)); (try exact oX))) | (refine And.intro ?ob ?_; (case ob => (exact oZ))) | exact True.intro | (show _ = _; first | exact oY | (exact hb; done) | exact rfl) | exact oW | (apply And.intro)))
  (refine ⟨[3, 1, 2], ⟨by kernel_rfl⟩, ?_⟩)
  (repeat' (first | (refine xI (fun hfk => ?_) (fun hfk => ?_) <;> ((try (first | replace hfk := oT hfk | replace hfk := oF hfk | simp only [oA, oB, dh1, dh0, ne_eq, reduceCtorEq] at hfk)); (try exact oX))) | (refine And.intro ?ob ?_; (case ob => (exact oZ))) | exact True.intro | (show _ = _; first | exact oY | (exact hb; done) | exact rfl) | exact oW | (apply And.intro)))
  refine ⟨[(0, .roi .u8 b), (2, .ptr 0 0), (4, .ptr 1 0), (5, .ptr 3 0), (6, .int .i64 (tkC b))], ⟨4, [(0, some (.cells 42 [.int .i64 0, .int .i64 0, .int .i64 0, .nils])), (1, some (.cells 120 [.sl 2 1 0 b.length, .int .i64 (tkA b)])), (2, some (bE b)), (3, some (.cells 89 [.int .u32 (if tkC b = 0 then lw b 2 4 else 0), .int .u32 (if tkC b = 0 then lw b 6 4 else 0), .int .u32 (if tkC b = 0 then lw b 10 4 else 0), .int .u32 (if tkC b = 0 then lw b 14 4 else 0), .int .u32 (if tkC b = 0 then lw b 18 4 else 0), .int .u32 (if tkC b = 0 then lw b 22 4 else 0), .int .u32 (if tkC b = 0 then lw b 26 2 else 0), .int .u32 (if tkC b = 0 then lw b 28 2 else 0), .int .u32 (if tkC b = 0 then lw b 30 4 else 0), .int .u32 (if tkC b = 0 then lw b 34 4 else 0), .int .u32 (if tkC b = 0 then lw b 38 4 else 0), .int .u32 (if tkC b = 0 then lw b 42 4 else 0), .int .u32 (if tkC b = 0 then lw b 46 4 else 0), .int .u32 (if tkC b = 0 then lw b 50 4 else 0)]))]⟩, [some 0, some 1, some 2, some 3], ?_, ?_⟩
  · (repeat' (first | (refine And.intro ?_ ?_) | exact True.intro | (show _ = _; with_reducible rfl) | exact Chk.mk (by kernel_rfl)))
    all_goals first | rfl
  (repeat' (first | (refine xI (fun hfk => ?_) (fun hfk => ?_) <;> ((try (first | replace hfk := oT hfk | replace hfk := oF hfk | simp only [oA, oB, dh1, dh0, ne_eq, reduceCtorEq] at hfk)); (try exact oX))) | (refine And.intro ?ob ?_; (case ob => (exact oZ))) | exact True.intro | (show _ = _; first | exact oY | (rfl; done) | exact rfl) | exact oW | (apply And.intro)))
theorem tk_bad2 {b : List Int} (hb : Byt b) (hk : tkC b = 0) (h : hdE b ≠ 0) : vcFn rpCx Tryz.f32 [.roi .u8 b] ⟨0, []⟩ (Ret (.tup [imA (rdK b (hW b)) (rdK b (hrV (hH0 b))) (rdK b (hCn b)) (rdL b), .int .i64 (rdE b)])) := by
  have bl := hb.le
  have hH : ∀ F : Int, (if tkC b = 0 then F else 0) = F := fun F => if_pos hk
  have hA : tkA b = 54 := by unfold tkC at hk; unfold tkA; split at hk; · rename_i k; exact absurd hk k
                             rename_i k; rw [if_neg k]; split at hk; · cases hk
                             rename_i k2; rw [if_neg k2]
  have hl54 : 54 ≤ b.length := by unfold tkC at hk; split at hk; · rename_i k; exact absurd hk k
                                  split at hk; · cases hk
                                  omega
  have e1 : hdE b = if fmP (lw b 6 4) (lw b 10 4) (lw b 14 4) (lw b 26 2) (lw b 28 2) (lw b 30 4) (lw b 46 4) (lw b 50 4) then 0 else 21 := by rw [hd_take, if_neg (fun k => k hk)]
  have hf : ¬ fmP (lw b 6 4) (lw b 10 4) (lw b 14 4) (lw b 26 2) (lw b 28 2) (lw b 30 4) (lw b 46 4) (lw b 50 4) := fun k => h (by rw [e1, if_pos k])
  have e : rdE b = 21 := by unfold rdE; rw [if_pos h, e1, if_neg hf]
  obtain ⟨z1, z2⟩ := rd_bad (b := b) (by rw [e]; decide)
  rw [z1, z1, z1, z2, e]
  (repeat' (first | (refine xI (fun hfk => ?_) (fun hfk => ?_) <;> ((try (first | replace hfk := oT hfk | replace hfk := oF hfk | simp only [oA, oB, dh1, dh0, ne_eq, reduceCtorEq] at hfk)); (try exact oX))) | (refine And.intro ?ob ?_; (case ob => (exact oZ))) | exact True.intro | (show _ = _; first | exact oY | (exact hb; done) | exact rfl) | exact oW | (apply And.intro)))
  (refine ⟨[], ⟨by kernel_rfl⟩, ?_⟩)
  (repeat' (first | (refine xI (fun hfk => ?_) (fun hfk => ?_) <;> ((try (first | replace hfk := oT hfk | replace hfk := oF hfk | simp only [oA, oB, dh1, dh0, ne_eq, reduceCtorEq] at hfk)); (try exact oX))) | (refine And.intro ?ob ?_; (case ob => (exact oZ))) | exact True.intro | (show _ = _; first | exact oY | (exact hb; done) | exact rfl) | exact oW | (apply And.intro)))
  (refine ⟨[3, 1, 2], ⟨by kernel_rfl⟩, ?_⟩)
  (repeat' (first | (refine xI (fun hfk => ?_) (fun hfk => ?_) <;> ((try (first | replace hfk := oT hfk | replace hfk := oF hfk | simp only [oA, oB, dh1, dh0, ne_eq, reduceCtorEq] at hfk)); (try exact oX))) | (refine And.intro ?ob ?_; (case ob => (exact oZ))) | exact True.intro | (show _ = _; first | exact oY | (exact hb; done) | exact rfl) | exact oW | (apply And.intro)))
  refine ⟨[(0, .roi .u8 b), (2, .ptr 0 0), (4, .ptr 1 0), (5, .ptr 3 0), (6, .int .i64 0)], ⟨4, [(0, some (.cells 42 [.int .i64 0, .int .i64 0, .int .i64 0, .nils])), (1, some (.cells 120 [.sl 2 1 0 b.length, .int .i64 54])), (2, some (bE b)), (3, some (.cells 89 [.int .u32 (lw b 2 4), .int .u32 (lw b 6 4), .int .u32 (lw b 10 4), .int .u32 (lw b 14 4), .int .u32 (lw b 18 4), .int .u32 (lw b 22 4), .int .u32 (lw b 26 2), .int .u32 (lw b 28 2), .int .u32 (lw b 30 4), .int .u32 (lw b 34 4), .int .u32 (lw b 38 4), .int .u32 (lw b 42 4), .int .u32 (lw b 46 4), .int .u32 (lw b 50 4)]))]⟩, [some 0, some 1, some 2, some 3], ?_, ?_⟩
  · (repeat' (first | (refine And.intro ?_ ?_) | exact True.intro | (show _ = _; with_reducible rfl) | exact Chk.mk (by kernel_rfl)))
    all_goals first | exact hk | exact hA | exact hH _ | rfl
  (repeat' (first | (refine xI (fun hfk => ?_) (fun hfk => ?_) <;> ((try (first | replace hfk := oT hfk | replace hfk := oF hfk | simp only [oA, oB, dh1, dh0, ne_eq, reduceCtorEq] at hfk)); (try exact oX))) | (refine And.intro ?ob ?_; (case ob => (exact oZ))) | exact True.intro | (show _ = _; first | exact oY | (rfl; done) | exact rfl) | exact oW | (apply And.intro)))
theorem tk_bad3 {b : List Int} (hb : Byt b) (hk : tkC b = 0) (h : hdE b = 0) (hs : shC (hW b) (hrV (hH0 b)) ≠ 0) : vcFn rpCx Tryz.f32 [.roi .u8 b] ⟨0, []⟩ (Ret (.tup [imA (rdK b (hW b)) (rdK b (hrV (hH0 b))) (rdK b (hCn b)) (rdL b), .int .i64 (rdE b)])) := by
  have bl := hb.le
  have hH : ∀ F : Int, (if tkC b = 0 then F else 0) = F := fun F => if_pos hk
  have hA : tkA b = 54 := by unfold tkC at hk; unfold tkA; split at hk; · rename_i k; exact absurd hk k
                             rename_i k; rw [if_neg k]; split at hk; · cases hk
                             rename_i k2; rw [if_neg k2]
  have hl54 : 54 ≤ b.length := by unfold tkC at hk; split at hk; · rename_i k; exact absurd hk k
                                  split at hk; · cases hk
                                  omega
  have hd := h
  obtain ⟨_, _, k6, k7, k8⟩ := hd_inv hd
  have hf : fmP (lw b 6 4) (lw b 10 4) (lw b 14 4) (lw b 26 2) (lw b 28 2) (lw b 30 4) (lw b 46 4) (lw b 50 4) := by
    obtain ⟨a1, a2, a3, a4, a5, a6, a7⟩ := k7
    exact ⟨a1, a5, a6, a7, a2, a3, a4, k8⟩
  have wb := lw_bd hb (a := 18) (n := 4) (by decide)
  have hb0 := lw_bd hb (a := 22) (n := 4) (by decide)
  obtain ⟨w0, w1⟩ := wb
  obtain ⟨h0, h1⟩ := hb0
  have e : rdE b = shC (hW b) (hrV (hH0 b)) := by unfold rdE; rw [if_neg (fun k => k h), if_pos hs]
  obtain ⟨z1, z2⟩ := rd_bad (b := b) (by rw [e]; exact hs)
  rw [z1, z1, z1, z2, e]
  have hs' : ¬ shC (lw b 18 4) (hrV (lw b 22 4)) = 0 := hs
  (repeat' (first | (refine xI (fun hfk => ?_) (fun hfk => ?_) <;> ((try (first | replace hfk := oT hfk | replace hfk := oF hfk | simp only [oA, oB, dh1, dh0, ne_eq, reduceCtorEq] at hfk)); (try exact oX))) | (refine And.intro ?ob ?_; (case ob => (exact oZ))) | exact True.intro | (show _ = _; first | exact oY | (exact hb; done) | exact rfl) | exact oW | (apply And.intro)))
  (refine ⟨[], ⟨by kernel_rfl⟩, ?_⟩)
  (repeat' (first | (refine xI (fun hfk => ?_) (fun hfk => ?_) <;> ((try (first | replace hfk := oT hfk | replace hfk := oF hfk | simp only [oA, oB, dh1, dh0, ne_eq, reduceCtorEq] at hfk)); (try exact oX))) | (refine And.intro ?ob ?_; (case ob => (exact oZ))) | exact True.intro | (show _ = _; first | exact oY | (exact hb; done) | exact rfl) | exact oW | (apply And.intro)))
  (refine ⟨[3, 1, 2], ⟨by kernel_rfl⟩, ?_⟩)
  (repeat' (first | (refine xI (fun hfk => ?_) (fun hfk => ?_) <;> ((try (first | replace hfk := oT hfk | replace hfk := oF hfk | simp only [oA, oB, dh1, dh0, ne_eq, reduceCtorEq] at hfk)); (try exact oX))) | (refine And.intro ?ob ?_; (case ob => (exact oZ))) | exact True.intro | (show _ = _; first | exact oY | (exact hb; done) | exact rfl) | exact oW | (apply And.intro)))
  refine ⟨[(0, .roi .u8 b), (2, .ptr 0 0), (4, .ptr 1 0), (5, .ptr 3 0), (6, .int .i64 0)], ⟨4, [(0, some (.cells 42 [.int .i64 0, .int .i64 0, .int .i64 0, .nils])), (1, some (.cells 120 [.sl 2 1 0 b.length, .int .i64 54])), (2, some (bE b)), (3, some (.cells 89 [.int .u32 (lw b 2 4), .int .u32 (lw b 6 4), .int .u32 (lw b 10 4), .int .u32 (lw b 14 4), .int .u32 (lw b 18 4), .int .u32 (lw b 22 4), .int .u32 (lw b 26 2), .int .u32 (lw b 28 2), .int .u32 (lw b 30 4), .int .u32 (lw b 34 4), .int .u32 (lw b 38 4), .int .u32 (lw b 42 4), .int .u32 (lw b 46 4), .int .u32 (lw b 50 4)]))]⟩, [some 0, some 1, some 2, some 3], ?_, ?_⟩
  · (repeat' (first | (refine And.intro ?_ ?_) | exact True.intro | (show _ = _; with_reducible rfl) | exact Chk.mk (by kernel_rfl)))
    all_goals first | exact hk | exact hA | exact hH _ | rfl
  (repeat' (first | (refine xI (fun hfk => ?_) (fun hfk => ?_) <;> ((try (first | replace hfk := oT hfk | replace hfk := oF hfk | simp only [oA, oB, dh1, dh0, ne_eq, reduceCtorEq] at hfk)); (try exact oX))) | (refine And.intro ?ob ?_; (case ob => (exact oZ))) | exact True.intro | (show _ = _; first | exact oY | (rfl; done) | exact rfl) | exact oW | (apply And.intro)))
  refine ⟨[(0, .roi .u8 b), (2, .ptr 0 0), (4, .ptr 1 0), (5, .ptr 3 0), (7, .ptr 4 0), (8, .int .i64 (shC (lw b 18 4) (hrV (lw b 22 4))))], ⟨5, [(0, some (.cells 42 [.int .i64 0, .int .i64 0, .int .i64 0, .nils])), (1, some (.cells 120 [.sl 2 1 0 b.length, .int .i64 54])), (2, some (bE b)), (3, some (.cells 89 [.int .u32 (lw b 2 4), .int .u32 (lw b 6 4), .int .u32 (lw b 10 4), .int .u32 (lw b 14 4), .int .u32 (lw b 18 4), .int .u32 (lw b 22 4), .int .u32 (lw b 26 2), .int .u32 (lw b 28 2), .int .u32 (lw b 30 4), .int .u32 (lw b 34 4), .int .u32 (lw b 38 4), .int .u32 (lw b 42 4), .int .u32 (lw b 46 4), .int .u32 (lw b 50 4)])), (4, some (.cells 42 [.int .i64 0, .int .i64 0, .int .i64 0, .nils]))]⟩, [some 0, some 1, some 2, some 3, some 4], ?_, ?_⟩
  · have i0 : ∀ x, shI (shC (lw b 18 4) (hrV (lw b 22 4))) x = 0 := fun x => if_neg hs
    (repeat' (first | (refine And.intro ?_ ?_) | exact True.intro | (show _ = _; with_reducible rfl) | exact Chk.mk (by kernel_rfl)))
    all_goals first | exact i0 _ | rfl
  (repeat' (first | (refine xI (fun hfk => ?_) (fun hfk => ?_) <;> ((try (first | replace hfk := oT hfk | replace hfk := oF hfk | simp only [oA, oB, dh1, dh0, ne_eq, reduceCtorEq] at hfk)); (try exact oX))) | (refine And.intro ?ob ?_; (case ob => (exact oZ))) | exact True.intro | (show _ = _; first | exact oY | (rfl; done) | exact rfl) | exact oW | (apply And.intro)))
theorem tk_bad4 {b : List Int} (hb : Byt b) (hk : tkC b = 0) (h : hdE b = 0) (hs : shC (hW b) (hrV (hH0 b)) = 0) (hn : rdE b ≠ 0) : vcFn rpCx Tryz.f32 [.roi .u8 b] ⟨0, []⟩ (Ret (.tup [imA (rdK b (hW b)) (rdK b (hrV (hH0 b))) (rdK b (hCn b)) (rdL b), .int .i64 (rdE b)])) := by
  have bl := hb.le
  have hH : ∀ F : Int, (if tkC b = 0 then F else 0) = F := fun F => if_pos hk
  have hA : tkA b = 54 := by unfold tkC at hk; unfold tkA; split at hk; · rename_i k; exact absurd hk k
                             rename_i k; rw [if_neg k]; split at hk; · cases hk
                             rename_i k2; rw [if_neg k2]
  have hl54 : 54 ≤ b.length := by unfold tkC at hk; split at hk; · rename_i k; exact absurd hk k
                                  split at hk; · cases hk
                                  omega
  have hd := h
  obtain ⟨_, _, k6, k7, k8⟩ := hd_inv hd
  have hf : fmP (lw b 6 4) (lw b 10 4) (lw b 14 4) (lw b 26 2) (lw b 28 2) (lw b 30 4) (lw b 46 4) (lw b 50 4) := by
    obtain ⟨a1, a2, a3, a4, a5, a6, a7⟩ := k7
    exact ⟨a1, a5, a6, a7, a2, a3, a4, k8⟩
  have wb := lw_bd hb (a := 18) (n := 4) (by decide)
  have hb0 := lw_bd hb (a := 22) (n := 4) (by decide)
  obtain ⟨w0, w1⟩ := wb
  obtain ⟨h0, h1⟩ := hb0
  have hrb := hr_bd h0 h1
  obtain ⟨hw1, hw2, hh1, hh2, hwh⟩ := sh_inv (w := hW b) (r := hrV (hH0 b)) w0 hrb.1 hs
  obtain ⟨W, gw⟩ : ∃ W : Nat, hW b = W := ⟨(hW b).toNat, by omega⟩
  obtain ⟨H, gh⟩ : ∃ H : Nat, hrV (hH0 b) = H := ⟨(hrV (hH0 b)).toNat, by omega⟩
  obtain ⟨c, gc, c34⟩ : ∃ c : Nat, hCn b = c ∧ (c = 3 ∨ c = 4) := by
    unfold hCn
    rcases k8 with k | k
    · exact ⟨3, by rw [k]; rfl, .inl rfl⟩
    · exact ⟨4, by rw [k]; rfl, .inr rfl⟩
  rw [gw] at hw1 hw2 hwh
  rw [gh] at hh1 hh2 hwh
  have cwh : ((W * H : Nat) : Int) = (W : Int) * (H : Int) := Int.natCast_mul _ _
  have cwc : ((W * c : Nat) : Int) = (W : Int) * (c : Int) := Int.natCast_mul _ _
  have wcb : 3 ≤ W * c ∧ W * c ≤ 131072 := by rcases c34 with k | k <;> subst k <;> omega
  obtain ⟨st, gst⟩ : ∃ st : Nat, up4 ((W : Int) * (c : Int)) = st := ⟨(up4 ((W : Int) * (c : Int))).toNat, by have := up4_bd ((W : Int) * (c : Int)); omega⟩
  have ub := up4_bd ((W : Int) * (c : Int))
  rw [gst, ← cwc] at ub
  obtain ⟨ub1, ub2, _⟩ := ub
  have sv : strV (W : Int) (c : Int) = (st : Int) := by
    unfold strV
    rw [if_neg (by omega)]; exact gst
  have chs : ((H * st : Nat) : Int) = (st : Int) * (H : Int) := by rw [Int.natCast_mul, Int.mul_comm]
  have hsb : H * st ≤ 32768 * 131075 := Nat.mul_le_mul (by omega) (by omega)
  have qn : rngI .i64 ((st : Int) * (H : Int)) := by rw [← chs]; exact rng64 (by omega) (by omega)
  have gN : hNn b = ((H * st : Nat) : Int) := by unfold hNn; rw [gw, gc, gst, gh, chs]
  have hs' : shC (lw b 18 4) (hrV (lw b 22 4)) = 0 := hs
  have i0 : ∀ x, shI (shC (lw b 18 4) (hrV (lw b 22 4))) x = x := fun x => if_pos hs
  have gw' : shI (shC (lw b 18 4) (hrV (lw b 22 4))) (lw b 18 4) = (W : Int) := by rw [i0]; exact gw
  have gh' : shI (shC (lw b 18 4) (hrV (lw b 22 4))) (hrV (lw b 22 4)) = (H : Int) := by rw [i0]; exact gh
  have gc' : shI (shC (lw b 18 4) (hrV (lw b 22 4))) (lw b 28 2 / 8) = (c : Int) := by rw [i0]; exact gc
  have e0 : rdE b = if (b.length : Int) - 54 < hNn b then 20 else if hNn b < (b.length : Int) - 54 then 22 else if lw b 2 4 = b.length ∧ (lw b 34 4 = 0 ∨ lw b 34 4 = hNn b) then 0 else 21 := by
    unfold rdE; rw [if_neg (fun k => k h), if_neg (fun k => k hs)]
  rw [gN] at e0
  have : (List.take (b).length (List.drop 0 (b))).length = (b).length := by simp
  obtain ⟨z1, z2⟩ := rd_bad hn
  rw [z1, z1, z1, z2]
  by_cases a1 : (b.length : Int) - 54 < ((H * st : Nat) : Int)
  · rw [e0, if_pos a1]
    rw [chs] at a1
    (repeat' (first | (refine xI (fun hfk => ?_) (fun hfk => ?_) <;> ((try (first | replace hfk := oT hfk | replace hfk := oF hfk | simp only [oA, oB, dh1, dh0, ne_eq, reduceCtorEq] at hfk)); (try exact oX))) | (refine And.intro ?ob ?_; (case ob => (exact oZ))) | exact True.intro | (show _ = _; first | exact oY | (exact hb; done) | exact rfl) | exact oW | (apply And.intro)))
    (refine ⟨[], ⟨by kernel_rfl⟩, ?_⟩)
    (repeat' (first | (refine xI (fun hfk => ?_) (fun hfk => ?_) <;> ((try (first | replace hfk := oT hfk | replace hfk := oF hfk | simp only [oA, oB, dh1, dh0, ne_eq, reduceCtorEq] at hfk)); (try exact oX))) | (refine And.intro ?ob ?_; (case ob => (exact oZ))) | exact True.intro | (show _ = _; first | exact oY | (exact hb; done) | exact rfl) | exact oW | (apply And.intro)))
    (refine ⟨[3, 1, 2], ⟨by kernel_rfl⟩, ?_⟩)
    (repeat' (first | (refine xI (fun hfk => ?_) (fun hfk => ?_) <;> ((try (first | replace hfk := oT hfk | replace hfk := oF hfk | simp only [oA, oB, dh1, dh0, ne_eq, reduceCtorEq] at hfk)); (try exact oX))) | (refine And.intro ?ob ?_; (case ob => (exact oZ))) | exact True.intro | (show _ = _; first | exact oY | (exact hb; done) | exact rfl) | exact oW | (apply And.intro)))
    refine ⟨[(0, .roi .u8 b), (2, .ptr 0 0), (4, .ptr 1 0), (5, .ptr 3 0), (6, .int .i64 0)], ⟨4, [(0, some (.cells 42 [.int .i64 0, .int .i64 0, .int .i64 0, .nils])), (1, some (.cells 120 [.sl 2 1 0 b.length, .int .i64 54])), (2, some (bE b)), (3, some (.cells 89 [.int .u32 (lw b 2 4), .int .u32 (lw b 6 4), .int .u32 (lw b 10 4), .int .u32 (lw b 14 4), .int .u32 (lw b 18 4), .int .u32 (lw b 22 4), .int .u32 (lw b 26 2), .int .u32 (lw b 28 2), .int .u32 (lw b 30 4), .int .u32 (lw b 34 4), .int .u32 (lw b 38 4), .int .u32 (lw b 42 4), .int .u32 (lw b 46 4), .int .u32 (lw b 50 4)]))]⟩, [some 0, some 1, some 2, some 3], ?_, ?_⟩
    · (repeat' (first | (refine And.intro ?_ ?_) | exact True.intro | (show _ = _; with_reducible rfl) | exact Chk.mk (by kernel_rfl)))
      all_goals first | exact hk | exact hA | exact hH _ | rfl
    (repeat' (first | (refine xI (fun hfk => ?_) (fun hfk => ?_) <;> ((try (first | replace hfk := oT hfk | replace hfk := oF hfk | simp only [oA, oB, dh1, dh0, ne_eq, reduceCtorEq] at hfk)); (try exact oX))) | (refine And.intro ?ob ?_; (case ob => (exact oZ))) | exact True.intro | (show _ = _; first | exact oY | (rfl; done) | exact rfl) | exact oW | (apply And.intro)))
    refine ⟨[(0, .roi .u8 b), (2, .ptr 0 0), (4, .ptr 1 0), (5, .ptr 3 0), (7, .ptr 4 0), (8, .int .i64 0)], ⟨5, [(0, some (.cells 42 [.int .i64 0, .int .i64 0, .int .i64 0, .nils])), (1, some (.cells 120 [.sl 2 1 0 b.length, .int .i64 54])), (2, some (bE b)), (3, some (.cells 89 [.int .u32 (lw b 2 4), .int .u32 (lw b 6 4), .int .u32 (lw b 10 4), .int .u32 (lw b 14 4), .int .u32 (lw b 18 4), .int .u32 (lw b 22 4), .int .u32 (lw b 26 2), .int .u32 (lw b 28 2), .int .u32 (lw b 30 4), .int .u32 (lw b 34 4), .int .u32 (lw b 38 4), .int .u32 (lw b 42 4), .int .u32 (lw b 46 4), .int .u32 (lw b 50 4)])), (4, some (.cells 42 [.int .i64 (W : Int), .int .i64 (H : Int), .int .i64 (c : Int), .nils]))]⟩, [some 0, some 1, some 2, some 3, some 4], ?_, ?_⟩
    · (repeat' (first | (refine And.intro ?_ ?_) | exact True.intro | (show _ = _; with_reducible rfl) | exact Chk.mk (by kernel_rfl)))
      all_goals first | exact hs' | exact gw' | exact gh' | exact gc' | rfl
    (repeat' (first | (refine xI (fun hfk => ?_) (fun hfk => ?_) <;> ((try (first | replace hfk := oT hfk | replace hfk := oF hfk | simp only [oA, oB, dh1, dh0, ne_eq, reduceCtorEq] at hfk)); (try exact oX))) | (refine And.intro ?ob ?_; (case ob => (exact oZ))) | exact True.intro | (show _ = _; first | exact oY | (rfl; done) | exact rfl) | exact oW | (apply And.intro)))
    refine ⟨[(0, .roi .u8 b), (2, .ptr 0 0), (4, .ptr 1 0), (5, .ptr 3 0), (7, .ptr 4 0), (9, .int .i64 (st : Int))], ⟨5, [(0, some (.cells 42 [.int .i64 0, .int .i64 0, .int .i64 0, .nils])), (1, some (.cells 120 [.sl 2 1 0 b.length, .int .i64 54])), (2, some (bE b)), (3, some (.cells 89 [.int .u32 (lw b 2 4), .int .u32 (lw b 6 4), .int .u32 (lw b 10 4), .int .u32 (lw b 14 4), .int .u32 (lw b 18 4), .int .u32 (lw b 22 4), .int .u32 (lw b 26 2), .int .u32 (lw b 28 2), .int .u32 (lw b 30 4), .int .u32 (lw b 34 4), .int .u32 (lw b 38 4), .int .u32 (lw b 42 4), .int .u32 (lw b 46 4), .int .u32 (lw b 50 4)])), (4, some (.cells 42 [.int .i64 (W : Int), .int .i64 (H : Int), .int .i64 (c : Int), .nils]))]⟩, [some 0, some 1, some 2, some 3, some 4], ?_, ?_⟩
    · (repeat' (first | (refine And.intro ?_ ?_) | exact True.intro | (show _ = _; with_reducible rfl) | exact Chk.mk (by kernel_rfl)))
      all_goals first | exact sv | rfl
    (repeat' (first | (refine xI (fun hfk => ?_) (fun hfk => ?_) <;> ((try (first | replace hfk := oT hfk | replace hfk := oF hfk | simp only [oA, oB, dh1, dh0, ne_eq, reduceCtorEq] at hfk)); (try exact oX))) | (refine And.intro ?ob ?_; (case ob => (exact oZ))) | exact True.intro | (show _ = _; first | exact oY | (rfl; done) | exact rfl) | exact oW | (apply And.intro)))
  rw [if_neg a1] at e0
  by_cases a2 : ((H * st : Nat) : Int) < (b.length : Int) - 54
  · rw [e0, if_pos a2]
    rw [chs] at a1 a2
    (repeat' (first | (refine xI (fun hfk => ?_) (fun hfk => ?_) <;> ((try (first | replace hfk := oT hfk | replace hfk := oF hfk | simp only [oA, oB, dh1, dh0, ne_eq, reduceCtorEq] at hfk)); (try exact oX))) | (refine And.intro ?ob ?_; (case ob => (exact oZ))) | exact True.intro | (show _ = _; first | exact oY | (exact hb; done) | exact rfl) | exact oW | (apply And.intro)))
    (refine ⟨[], ⟨by kernel_rfl⟩, ?_⟩)
    (repeat' (first | (refine xI (fun hfk => ?_) (fun hfk => ?_) <;> ((try (first | replace hfk := oT hfk | replace hfk := oF hfk | simp only [oA, oB, dh1, dh0, ne_eq, reduceCtorEq] at hfk)); (try exact oX))) | (refine And.intro ?ob ?_; (case ob => (exact oZ))) | exact True.intro | (show _ = _; first | exact oY | (exact hb; done) | exact rfl) | exact oW | (apply And.intro)))
    (refine ⟨[3, 1, 2], ⟨by kernel_rfl⟩, ?_⟩)
    (repeat' (first | (refine xI (fun hfk => ?_) (fun hfk => ?_) <;> ((try (first | replace hfk := oT hfk | replace hfk := oF hfk | simp only [oA, oB, dh1, dh0, ne_eq, reduceCtorEq] at hfk)); (try exact oX))) | (refine And.intro ?ob ?_; (case ob => (exact oZ))) | exact True.intro | (show _ = _; first | exact oY | (exact hb; done) | exact rfl) | exact oW | (apply And.intro)))
    refine ⟨[(0, .roi .u8 b), (2, .ptr 0 0), (4, .ptr 1 0), (5, .ptr 3 0), (6, .int .i64 0)], ⟨4, [(0, some (.cells 42 [.int .i64 0, .int .i64 0, .int .i64 0, .nils])), (1, some (.cells 120 [.sl 2 1 0 b.length, .int .i64 54])), (2, some (bE b)), (3, some (.cells 89 [.int .u32 (lw b 2 4), .int .u32 (lw b 6 4), .int .u32 (lw b 10 4), .int .u32 (lw b 14 4), .int .u32 (lw b 18 4), .int .u32 (lw b 22 4), .int .u32 (lw b 26 2), .int .u32 (lw b 28 2), .int .u32 (lw b 30 4), .int .u32 (lw b 34 4), .int .u32 (lw b 38 4), .int .u32 (lw b 42 4), .int .u32 (lw b 46 4), .int .u32 (lw b 50 4)]))]⟩, [some 0, some 1, some 2, some 3], ?_, ?_⟩
    · (repeat' (first | (refine And.intro ?_ ?_) | exact True.intro | (show _ = _; with_reducible rfl) | exact Chk.mk (by kernel_rfl)))
      all_goals first | exact hk | exact hA | exact hH _ | rfl
    (repeat' (first | (refine xI (fun hfk => ?_) (fun hfk => ?_) <;> ((try (first | replace hfk := oT hfk | replace hfk := oF hfk | simp only [oA, oB, dh1, dh0, ne_eq, reduceCtorEq] at hfk)); (try exact oX))) | (refine And.intro ?ob ?_; (case ob => (exact oZ))) | exact True.intro | (show _ = _; first | exact oY | (rfl; done) | exact rfl) | exact oW | (apply And.intro)))
    refine ⟨[(0, .roi .u8 b), (2, .ptr 0 0), (4, .ptr 1 0), (5, .ptr 3 0), (7, .ptr 4 0), (8, .int .i64 0)], ⟨5, [(0, some (.cells 42 [.int .i64 0, .int .i64 0, .int .i64 0, .nils])), (1, some (.cells 120 [.sl 2 1 0 b.length, .int .i64 54])), (2, some (bE b)), (3, some (.cells 89 [.int .u32 (lw b 2 4), .int .u32 (lw b 6 4), .int .u32 (lw b 10 4), .int .u32 (lw b 14 4), .int .u32 (lw b 18 4), .int .u32 (lw b 22 4), .int .u32 (lw b 26 2), .int .u32 (lw b 28 2), .int .u32 (lw b 30 4), .int .u32 (lw b 34 4), .int .u32 (lw b 38 4), .int .u32 (lw b 42 4), .int .u32 (lw b 46 4), .int .u32 (lw b 50 4)])), (4, some (.cells 42 [.int .i64 (W : Int), .int .i64 (H : Int), .int .i64 (c : Int), .nils]))]⟩, [some 0, some 1, some 2, some 3, some 4], ?_, ?_⟩
    · (repeat' (first | (refine And.intro ?_ ?_) | exact True.intro | (show _ = _; with_reducible rfl) | exact Chk.mk (by kernel_rfl)))
      all_goals first | exact hs' | exact gw' | exact gh' | exact gc' | rfl
    (repeat' (first | (refine xI (fun hfk => ?_) (fun hfk => ?_) <;> ((try (first | replace hfk := oT hfk | replace hfk := oF hfk | simp only [oA, oB, dh1, dh0, ne_eq, reduceCtorEq] at hfk)); (try exact oX))) | (refine And.intro ?ob ?_; (case ob => (exact oZ))) | exact True.intro | (show _ = _; first | exact oY | (rfl; done) | exact rfl) | exact oW | (apply And.intro)))
    refine ⟨[(0, .roi .u8 b), (2, .ptr 0 0), (4, .ptr 1 0), (5, .ptr 3 0), (7, .ptr 4 0), (9, .int .i64 (st : Int))], ⟨5, [(0, some (.cells 42 [.int .i64 0, .int .i64 0, .int .i64 0, .nils])), (1, some (.cells 120 [.sl 2 1 0 b.length, .int .i64 54])), (2, some (bE b)), (3, some (.cells 89 [.int .u32 (lw b 2 4), .int .u32 (lw b 6 4), .int .u32 (lw b 10 4), .int .u32 (lw b 14 4), .int .u32 (lw b 18 4), .int .u32 (lw b 22 4), .int .u32 (lw b 26 2), .int .u32 (lw b 28 2), .int .u32 (lw b 30 4), .int .u32 (lw b 34 4), .int .u32 (lw b 38 4), .int .u32 (lw b 42 4), .int .u32 (lw b 46 4), .int .u32 (lw b 50 4)])), (4, some (.cells 42 [.int .i64 (W : Int), .int .i64 (H : Int), .int .i64 (c : Int), .nils]))]⟩, [some 0, some 1, some 2, some 3, some 4], ?_, ?_⟩
    · (repeat' (first | (refine And.intro ?_ ?_) | exact True.intro | (show _ = _; with_reducible rfl) | exact Chk.mk (by kernel_rfl)))
      all_goals first | exact sv | rfl
    (repeat' (first | (refine xI (fun hfk => ?_) (fun hfk => ?_) <;> ((try (first | replace hfk := oT hfk | replace hfk := oF hfk | simp only [oA, oB, dh1, dh0, ne_eq, reduceCtorEq] at hfk)); (try exact oX))) | (refine And.intro ?ob ?_; (case ob => (exact oZ))) | exact True.intro | (show _ = _; first | exact oY | (rfl; done) | exact rfl) | exact oW | (apply And.intro)))
  rw [if_neg a2] at e0
  have a3 : ¬ (lw b 2 4 = b.length ∧ (lw b 34 4 = 0 ∨ lw b 34 4 = ((H * st : Nat) : Int))) := fun k => hn (by rw [e0, if_pos k])
  rw [e0, if_neg a3]
  have a4 : decide (lw b 2 4 = (b.length : Int) ∧ (lw b 34 4 = 0 ∨ lw b 34 4 = (b.length : Int) - 54)) = false := decide_eq_false fun k => a3 ⟨k.1, k.2.imp id fun k => by omega⟩
  rw [chs] at a1 a2
  (repeat' (first | (refine xI (fun hfk => ?_) (fun hfk => ?_) <;> ((try (first | replace hfk := oT hfk | replace hfk := oF hfk | simp only [oA, oB, dh1, dh0, ne_eq, reduceCtorEq] at hfk)); (try exact oX))) | (refine And.intro ?ob ?_; (case ob => (exact oZ))) | exact True.intro | (show _ = _; first | exact oY | (exact hb; done) | exact rfl) | exact oW | (apply And.intro)))
  (refine ⟨[], ⟨by kernel_rfl⟩, ?_⟩)
  (repeat' (first | (refine xI (fun hfk => ?_) (fun hfk => ?_) <;> ((try (first | replace hfk := oT hfk | replace hfk := oF hfk | simp only [oA, oB, dh1, dh0, ne_eq, reduceCtorEq] at hfk)); (try exact oX))) | (refine And.intro ?ob ?_; (case ob => (exact oZ))) | exact True.intro | (show _ = _; first | exact oY | (exact hb; done) | exact rfl) | exact oW | (apply And.intro)))
  (refine ⟨[3, 1, 2], ⟨by kernel_rfl⟩, ?_⟩)
  (repeat' (first | (refine xI (fun hfk => ?_) (fun hfk => ?_) <;> ((try (first | replace hfk := oT hfk | replace hfk := oF hfk | simp only [oA, oB, dh1, dh0, ne_eq, reduceCtorEq] at hfk)); (try exact oX))) | (refine And.intro ?ob ?_; (case ob => (exact oZ))) | exact True.intro | (show _ = _; first | exact oY | (exact hb; done) | exact rfl) | exact oW | (apply And.intro)))
  refine ⟨[(0, .roi .u8 b), (2, .ptr 0 0), (4, .ptr 1 0), (5, .ptr 3 0), (6, .int .i64 0)], ⟨4, [(0, some (.cells 42 [.int .i64 0, .int .i64 0, .int .i64 0, .nils])), (1, some (.cells 120 [.sl 2 1 0 b.length, .int .i64 54])), (2, some (bE b)), (3, some (.cells 89 [.int .u32 (lw b 2 4), .int .u32 (lw b 6 4), .int .u32 (lw b 10 4), .int .u32 (lw b 14 4), .int .u32 (lw b 18 4), .int .u32 (lw b 22 4), .int .u32 (lw b 26 2), .int .u32 (lw b 28 2), .int .u32 (lw b 30 4), .int .u32 (lw b 34 4), .int .u32 (lw b 38 4), .int .u32 (lw b 42 4), .int .u32 (lw b 46 4), .int .u32 (lw b 50 4)]))]⟩, [some 0, some 1, some 2, some 3], ?_, ?_⟩
  · (repeat' (first | (refine And.intro ?_ ?_) | exact True.intro | (show _ = _; with_reducible rfl) | exact Chk.mk (by kernel_rfl)))
    all_goals first | exact hk | exact hA | exact hH _ | rfl
  (repeat' (first | (refine xI (fun hfk => ?_) (fun hfk => ?_) <;> ((try (first | replace hfk := oT hfk | replace hfk := oF hfk | simp only [oA, oB, dh1, dh0, ne_eq, reduceCtorEq] at hfk)); (try exact oX))) | (refine And.intro ?ob ?_; (case ob => (exact oZ))) | exact True.intro | (show _ = _; first | exact oY | (rfl; done) | exact rfl) | exact oW | (apply And.intro)))
  refine ⟨[(0, .roi .u8 b), (2, .ptr 0 0), (4, .ptr 1 0), (5, .ptr 3 0), (7, .ptr 4 0), (8, .int .i64 0)], ⟨5, [(0, some (.cells 42 [.int .i64 0, .int .i64 0, .int .i64 0, .nils])), (1, some (.cells 120 [.sl 2 1 0 b.length, .int .i64 54])), (2, some (bE b)), (3, some (.cells 89 [.int .u32 (lw b 2 4), .int .u32 (lw b 6 4), .int .u32 (lw b 10 4), .int .u32 (lw b 14 4), .int .u32 (lw b 18 4), .int .u32 (lw b 22 4), .int .u32 (lw b 26 2), .int .u32 (lw b 28 2), .int .u32 (lw b 30 4), .int .u32 (lw b 34 4), .int .u32 (lw b 38 4), .int .u32 (lw b 42 4), .int .u32 (lw b 46 4), .int .u32 (lw b 50 4)])), (4, some (.cells 42 [.int .i64 (W : Int), .int .i64 (H : Int), .int .i64 (c : Int), .nils]))]⟩, [some 0, some 1, some 2, some 3, some 4], ?_, ?_⟩
  · (repeat' (first | (refine And.intro ?_ ?_) | exact True.intro | (show _ = _; with_reducible rfl) | exact Chk.mk (by kernel_rfl)))
    all_goals first | exact hs' | exact gw' | exact gh' | exact gc' | rfl
  (repeat' (first | (refine xI (fun hfk => ?_) (fun hfk => ?_) <;> ((try (first | replace hfk := oT hfk | replace hfk := oF hfk | simp only [oA, oB, dh1, dh0, ne_eq, reduceCtorEq] at hfk)); (try exact oX))) | (refine And.intro ?ob ?_; (case ob => (exact oZ))) | exact True.intro | (show _ = _; first | exact oY | (rfl; done) | exact rfl) | exact oW | (apply And.intro)))
  refine ⟨[(0, .roi .u8 b), (2, .ptr 0 0), (4, .ptr 1 0), (5, .ptr 3 0), (7, .ptr 4 0), (9, .int .i64 (st : Int))], ⟨5, [(0, some (.cells 42 [.int .i64 0, .int .i64 0, .int .i64 0, .nils])), (1, some (.cells 120 [.sl 2 1 0 b.length, .int .i64 54])), (2, some (bE b)), (3, some (.cells 89 [.int .u32 (lw b 2 4), .int .u32 (lw b 6 4), .int .u32 (lw b 10 4), .int .u32 (lw b 14 4), .int .u32 (lw b 18 4), .int .u32 (lw b 22 4), .int .u32 (lw b 26 2), .int .u32 (lw b 28 2), .int .u32 (lw b 30 4), .int .u32 (lw b 34 4), .int .u32 (lw b 38 4), .int .u32 (lw b 42 4), .int .u32 (lw b 46 4), .int .u32 (lw b 50 4)])), (4, some (.cells 42 [.int .i64 (W : Int), .int .i64 (H : Int), .int .i64 (c : Int), .nils]))]⟩, [some 0, some 1, some 2, some 3, some 4], ?_, ?_⟩
  · (repeat' (first | (refine And.intro ?_ ?_) | exact True.intro | (show _ = _; with_reducible rfl) | exact Chk.mk (by kernel_rfl)))
    all_goals first | exact sv | rfl
  (repeat' (first | (refine xI (fun hfk => ?_) (fun hfk => ?_) <;> ((try (first | replace hfk := oT hfk | replace hfk := oF hfk | simp only [oA, oB, dh1, dh0, ne_eq, reduceCtorEq] at hfk)); (try exact oX))) | (refine And.intro ?ob ?_; (case ob => (exact oZ))) | exact True.intro | (show _ = _; first | exact oY | (rfl; done) | exact rfl) | exact oW | (apply And.intro)))
def fil (dn : Bool) (H y r : Nat) : Bool := if dn = true then decide (r < y) else decide (H ≤ r + y)
theorem fil_next {dn : Bool} {H y r : Nat} (hy : y < H) (hr : r < H) : fil dn H (y + 1) r = (decide (r = fr dn H y) || fil dn H y r) := by
  unfold fil fr
  cases dn
  · simp only [Bool.false_eq_true, if_false]
    by_cases h1 : H ≤ r + y
    · rw [decide_eq_true h1, decide_eq_true (by omega)]; simp
    · by_cases h2 : r = H - 1 - y
      · rw [decide_eq_true h2, decide_eq_true (by omega)]; rfl
      · rw [decide_eq_false h2, decide_eq_false h1, decide_eq_false (by omega)]; rfl
  · simp only [if_true]
    by_cases h1 : r < y
    · rw [decide_eq_true h1, decide_eq_true (by omega)]; simp
    · by_cases h2 : r = y
      · rw [decide_eq_true h2, decide_eq_true (by omega)]; rfl
      · rw [decide_eq_false h2, decide_eq_false h1, decide_eq_false (by omega)]; rfl
def pxk (dn : Bool) (H wc : Nat) (R : Nat → List Int) (y r : Nat) : List Int := if fil dn H y r = true then R r else List.replicate wc 0
theorem fr_fr {dn : Bool} {H y : Nat} (h : y < H) : fr dn H (fr dn H y) = y := by unfold fr; split <;> omega
theorem tk_good {b : List Int} (hb : Byt b) (e : rdE b = 0) : vcFn rpCx Tryz.f32 [.roi .u8 b] ⟨0, []⟩ (Ret (.tup [imA (rdK b (hW b)) (rdK b (hrV (hH0 b))) (rdK b (hCn b)) (rdL b), .int .i64 (rdE b)])) := by
  have hg0 := gd_of hb e
  have h : hdE b = 0 := hg0.hd
  have hk : tkC b = 0 := by
    have := h
    rw [hd_take] at this
    split at this
    · rename_i k; exact absurd this k
    · rename_i k; exact Classical.not_not.1 k
  have hs : shC (hW b) (hrV (hH0 b)) = 0 := by
    have := e
    unfold rdE at this
    rw [if_neg (fun k => k h)] at this
    split at this
    · rename_i k; exact absurd this k
    · rename_i k; exact Classical.not_not.1 k
  have bl := hb.le
  have hH : ∀ F : Int, (if tkC b = 0 then F else 0) = F := fun F => if_pos hk
  have hA : tkA b = 54 := by unfold tkC at hk; unfold tkA; split at hk; · rename_i k; exact absurd hk k
                             rename_i k; rw [if_neg k]; split at hk; · cases hk
                             rename_i k2; rw [if_neg k2]
  have hl54 : 54 ≤ b.length := by unfold tkC at hk; split at hk; · rename_i k; exact absurd hk k
                                  split at hk; · cases hk
                                  omega
  have hd := h
  obtain ⟨_, _, k6, k7, k8⟩ := hd_inv hd
  have hf : fmP (lw b 6 4) (lw b 10 4) (lw b 14 4) (lw b 26 2) (lw b 28 2) (lw b 30 4) (lw b 46 4) (lw b 50 4) := by
    obtain ⟨a1, a2, a3, a4, a5, a6, a7⟩ := k7
    exact ⟨a1, a5, a6, a7, a2, a3, a4, k8⟩
  have wb := lw_bd hb (a := 18) (n := 4) (by decide)
  have hb0 := lw_bd hb (a := 22) (n := 4) (by decide)
  obtain ⟨w0, w1⟩ := wb
  obtain ⟨h0, h1⟩ := hb0
  have hrb := hr_bd h0 h1
  obtain ⟨hw1, hw2, hh1, hh2, hwh⟩ := sh_inv (w := hW b) (r := hrV (hH0 b)) w0 hrb.1 hs
  obtain ⟨W, gw⟩ : ∃ W : Nat, hW b = W := ⟨(hW b).toNat, by omega⟩
  obtain ⟨H, gh⟩ : ∃ H : Nat, hrV (hH0 b) = H := ⟨(hrV (hH0 b)).toNat, by omega⟩
  obtain ⟨c, gc, c34⟩ : ∃ c : Nat, hCn b = c ∧ (c = 3 ∨ c = 4) := by
    unfold hCn
    rcases k8 with k | k
    · exact ⟨3, by rw [k]; rfl, .inl rfl⟩
    · exact ⟨4, by rw [k]; rfl, .inr rfl⟩
  rw [gw] at hw1 hw2 hwh
  rw [gh] at hh1 hh2 hwh
  have cwh : ((W * H : Nat) : Int) = (W : Int) * (H : Int) := Int.natCast_mul _ _
  have cwc : ((W * c : Nat) : Int) = (W : Int) * (c : Int) := Int.natCast_mul _ _
  have wcb : 3 ≤ W * c ∧ W * c ≤ 131072 := by rcases c34 with k | k <;> subst k <;> omega
  obtain ⟨st, gst⟩ : ∃ st : Nat, up4 ((W : Int) * (c : Int)) = st := ⟨(up4 ((W : Int) * (c : Int))).toNat, by have := up4_bd ((W : Int) * (c : Int)); omega⟩
  have ub := up4_bd ((W : Int) * (c : Int))
  rw [gst, ← cwc] at ub
  obtain ⟨ub1, ub2, _⟩ := ub
  have sv : strV (W : Int) (c : Int) = (st : Int) := by
    unfold strV
    rw [if_neg (by omega)]; exact gst
  have chs : ((H * st : Nat) : Int) = (st : Int) * (H : Int) := by rw [Int.natCast_mul, Int.mul_comm]
  have hsb : H * st ≤ 32768 * 131075 := Nat.mul_le_mul (by omega) (by omega)
  have qn : rngI .i64 ((st : Int) * (H : Int)) := by rw [← chs]; exact rng64 (by omega) (by omega)
  have gN : hNn b = ((H * st : Nat) : Int) := by unfold hNn; rw [gw, gc, gst, gh, chs]
  have hs' : shC (lw b 18 4) (hrV (lw b 22 4)) = 0 := hs
  have i0 : ∀ x, shI (shC (lw b 18 4) (hrV (lw b 22 4))) x = x := fun x => if_pos hs
  have gw' : shI (shC (lw b 18 4) (hrV (lw b 22 4))) (lw b 18 4) = (W : Int) := by rw [i0]; exact gw
  have gh' : shI (shC (lw b 18 4) (hrV (lw b 22 4))) (hrV (lw b 22 4)) = (H : Int) := by rw [i0]; exact gh
  have gc' : shI (shC (lw b 18 4) (hrV (lw b 22 4))) (lw b 28 2 / 8) = (c : Int) := by rw [i0]; exact gc
  have e0 : rdE b = if (b.length : Int) - 54 < hNn b then 20 else if hNn b < (b.length : Int) - 54 then 22 else if lw b 2 4 = b.length ∧ (lw b 34 4 = 0 ∨ lw b 34 4 = hNn b) then 0 else 21 := by
    unfold rdE; rw [if_neg (fun k => k h), if_neg (fun k => k hs)]
  rw [gN] at e0
  have : (List.take (b).length (List.drop 0 (b))).length = (b).length := by simp
  obtain ⟨dn, hdn⟩ : ∃ dn, decide (2147483648 ≤ hH0 b) = dn := ⟨_, rfl⟩
  have hdn' : decide (2147483648 ≤ lw b 22 4) = dn := hdn
  have tW : (hW b).toNat = W := by omega
  have tH : (hrV (hH0 b)).toNat = H := by omega
  have tc : (hCn b).toNat = c := by omega
  have ts : (up4 (hW b * hCn b)).toNat = st := by rw [gw, gc, gst]; omega
  have hL0 : rdL b = rdPx b c W H st dn := by unfold rdL; rw [if_pos e, tW, tH, tc, ts, hdn]
  rw [tW, tH, tc, ts, hdn] at hg0
  have hg := hg0
  have kk : ∀ x, rdK b x = x := fun x => if_pos e
  rw [kk, kk, kk, hL0, e]
  have glen := hg.len
  have a1 : ¬ (b.length : Int) - 54 < (st : Int) * (H : Int) := by rw [← chs]; omega
  have a2 : ¬ (st : Int) * (H : Int) < (b.length : Int) - 54 := by rw [← chs]; omega
  have a4 : decide (lw b 2 4 = (b.length : Int) ∧ (lw b 34 4 = 0 ∨ lw b 34 4 = (b.length : Int) - 54)) = true := decide_eq_true ⟨hg.s1, hg.s2.imp id fun k => by omega⟩
  obtain ⟨R, hR⟩ : ∃ R : Nat → List Int, R = fun r => swapTo (fRow b st (W * c) (fr dn H r)) 0 c W := ⟨_, rfl⟩
  have hwc : H * (W * c) ≤ 16777216 := by
    have k1 := hg.wh
    have k2 : H * (W * c) = (W * H) * c := by rw [← Nat.mul_assoc, Nat.mul_comm H W]
    have k3 : (W * H) * c ≤ 4194304 * 4 := Nat.mul_le_mul k1 (by omega)
    omega
  have chc : (W : Int) * (H : Int) * (c : Int) = ((H * (W * c) : Nat) : Int) := by rw [← cwh, ← Int.natCast_mul, Nat.mul_comm W H, Nat.mul_assoc]
  have qwh : rngI .i64 ((W : Int) * (H : Int)) := by rw [← cwh]; exact rng64 (by omega) (by omega)
  have qwc : rngI .i64 ((W : Int) * (H : Int) * (c : Int)) := by rw [chc]; exact rng64 (by omega) (by omega)
  have om : 0 ≤ (W : Int) * (H : Int) * (c : Int) ∧ (W : Int) * (H : Int) * (c : Int) ≤ (W : Int) * (H : Int) * (c : Int) ∧ (W : Int) * (H : Int) * (c : Int) ≤ 140737488355328 ∧ (W : Int) * (H : Int) * (c : Int) * ((1 : Nat) : Int) ≤ 140737488355328 := by rw [chc]; omega
  have hRl : ∀ r, r < H → (R r).length = W * c := fun r hr => by
    have hf : fr dn H r < H := fr_lt hr
    have := prod_of (n := st) hf
    rw [hR]
    show (swapTo _ 0 c W).length = _
    rw [swapTo_len]; exact fRow_len (by rw [glen]; omega)
  (repeat' (first | (refine xI (fun hfk => ?_) (fun hfk => ?_) <;> ((try (first | replace hfk := oT hfk | replace hfk := oF hfk | simp only [oA, oB, dh1, dh0, ne_eq, reduceCtorEq] at hfk)); (try exact oX))) | (refine And.intro ?ob ?_; (case ob => (exact oZ))) | exact True.intro | (show _ = _; first | exact oY | (exact hb; done) | exact rfl) | exact oW | (apply And.intro)))
  (refine ⟨[], ⟨by kernel_rfl⟩, ?_⟩)
  (repeat' (first | (refine xI (fun hfk => ?_) (fun hfk => ?_) <;> ((try (first | replace hfk := oT hfk | replace hfk := oF hfk | simp only [oA, oB, dh1, dh0, ne_eq, reduceCtorEq] at hfk)); (try exact oX))) | (refine And.intro ?ob ?_; (case ob => (exact oZ))) | exact True.intro | (show _ = _; first | exact oY | (exact hb; done) | exact rfl) | exact oW | (apply And.intro)))
  (refine ⟨[3, 1, 2], ⟨by kernel_rfl⟩, ?_⟩)
  (repeat' (first | (refine xI (fun hfk => ?_) (fun hfk => ?_) <;> ((try (first | replace hfk := oT hfk | replace hfk := oF hfk | simp only [oA, oB, dh1, dh0, ne_eq, reduceCtorEq] at hfk)); (try exact oX))) | (refine And.intro ?ob ?_; (case ob => (exact oZ))) | exact True.intro | (show _ = _; first | exact oY | (exact hb; done) | exact rfl) | exact oW | (apply And.intro)))
  refine ⟨[(0, .roi .u8 b), (2, .ptr 0 0), (4, .ptr 1 0), (5, .ptr 3 0), (6, .int .i64 0)], ⟨4, [(0, some (.cells 42 [.int .i64 0, .int .i64 0, .int .i64 0, .nils])), (1, some (.cells 120 [.sl 2 1 0 b.length, .int .i64 54])), (2, some (bE b)), (3, some (.cells 89 [.int .u32 (lw b 2 4), .int .u32 (lw b 6 4), .int .u32 (lw b 10 4), .int .u32 (lw b 14 4), .int .u32 (lw b 18 4), .int .u32 (lw b 22 4), .int .u32 (lw b 26 2), .int .u32 (lw b 28 2), .int .u32 (lw b 30 4), .int .u32 (lw b 34 4), .int .u32 (lw b 38 4), .int .u32 (lw b 42 4), .int .u32 (lw b 46 4), .int .u32 (lw b 50 4)]))]⟩, [some 0, some 1, some 2, some 3], ?_, ?_⟩
  · (repeat' (first | (refine And.intro ?_ ?_) | exact True.intro | (show _ = _; with_reducible rfl) | exact Chk.mk (by kernel_rfl)))
    all_goals first | exact hk | exact hA | exact hH _ | rfl
  (repeat' (first | (refine xI (fun hfk => ?_) (fun hfk => ?_) <;> ((try (first | replace hfk := oT hfk | replace hfk := oF hfk | simp only [oA, oB, dh1, dh0, ne_eq, reduceCtorEq] at hfk)); (try exact oX))) | (refine And.intro ?ob ?_; (case ob => (exact oZ))) | exact True.intro | (show _ = _; first | exact oY | (rfl; done) | exact rfl) | exact oW | (apply And.intro)))
  refine ⟨[(0, .roi .u8 b), (2, .ptr 0 0), (4, .ptr 1 0), (5, .ptr 3 0), (7, .ptr 4 0), (8, .int .i64 0)], ⟨5, [(0, some (.cells 42 [.int .i64 0, .int .i64 0, .int .i64 0, .nils])), (1, some (.cells 120 [.sl 2 1 0 b.length, .int .i64 54])), (2, some (bE b)), (3, some (.cells 89 [.int .u32 (lw b 2 4), .int .u32 (lw b 6 4), .int .u32 (lw b 10 4), .int .u32 (lw b 14 4), .int .u32 (lw b 18 4), .int .u32 (lw b 22 4), .int .u32 (lw b 26 2), .int .u32 (lw b 28 2), .int .u32 (lw b 30 4), .int .u32 (lw b 34 4), .int .u32 (lw b 38 4), .int .u32 (lw b 42 4), .int .u32 (lw b 46 4), .int .u32 (lw b 50 4)])), (4, some (.cells 42 [.int .i64 (W : Int), .int .i64 (H : Int), .int .i64 (c : Int), .nils]))]⟩, [some 0, some 1, some 2, some 3, some 4], ?_, ?_⟩
  · (repeat' (first | (refine And.intro ?_ ?_) | exact True.intro | (show _ = _; with_reducible rfl) | exact Chk.mk (by kernel_rfl)))
    all_goals first | exact hs' | exact gw' | exact gh' | exact gc' | rfl
  (repeat' (first | (refine xI (fun hfk => ?_) (fun hfk => ?_) <;> ((try (first | replace hfk := oT hfk | replace hfk := oF hfk | simp only [oA, oB, dh1, dh0, ne_eq, reduceCtorEq] at hfk)); (try exact oX))) | (refine And.intro ?ob ?_; (case ob => (exact oZ))) | exact True.intro | (show _ = _; first | exact oY | (rfl; done) | exact rfl) | exact oW | (apply And.intro)))
  refine ⟨[(0, .roi .u8 b), (2, .ptr 0 0), (4, .ptr 1 0), (5, .ptr 3 0), (7, .ptr 4 0), (9, .int .i64 (st : Int))], ⟨5, [(0, some (.cells 42 [.int .i64 0, .int .i64 0, .int .i64 0, .nils])), (1, some (.cells 120 [.sl 2 1 0 b.length, .int .i64 54])), (2, some (bE b)), (3, some (.cells 89 [.int .u32 (lw b 2 4), .int .u32 (lw b 6 4), .int .u32 (lw b 10 4), .int .u32 (lw b 14 4), .int .u32 (lw b 18 4), .int .u32 (lw b 22 4), .int .u32 (lw b 26 2), .int .u32 (lw b 28 2), .int .u32 (lw b 30 4), .int .u32 (lw b 34 4), .int .u32 (lw b 38 4), .int .u32 (lw b 42 4), .int .u32 (lw b 46 4), .int .u32 (lw b 50 4)])), (4, some (.cells 42 [.int .i64 (W : Int), .int .i64 (H : Int), .int .i64 (c : Int), .nils]))]⟩, [some 0, some 1, some 2, some 3, some 4], ?_, ?_⟩
  · (repeat' (first | (refine And.intro ?_ ?_) | exact True.intro | (show _ = _; with_reducible rfl) | exact Chk.mk (by kernel_rfl)))
    all_goals first | exact sv | rfl
  (repeat' (first | (refine xI (fun hfk => ?_) (fun hfk => ?_) <;> ((try (first | replace hfk := oT hfk | replace hfk := oF hfk | simp only [oA, oB, dh1, dh0, ne_eq, reduceCtorEq] at hfk)); (try exact oX))) | (refine And.intro ?ob ?_; (case ob => (exact oZ))) | exact True.intro | (show _ = _; first | exact oY | (exact om; done) | exact rfl) | exact oW | (apply And.intro)))
  refine ⟨Nat, fun y => [(0, .roi .u8 b), (2, .ptr 0 0), (4, .ptr 1 0), (5, .ptr 3 0), (7, .ptr 4 0), (9, .int .i64 (st : Int)), (79, .int .i64 (H : Int)), (80, .int .i64 (y : Int))],
    fun y => ⟨6, [(0, some (.cells 42 [.int .i64 0, .int .i64 0, .int .i64 0, .nils])), (1, some (.cells 120 [.sl 2 1 0 b.length, .int .i64 ((54 + y * st : Nat) : Int)])), (2, some (bE b)), (3, some (.cells 89 [.int .u32 (lw b 2 4), .int .u32 (lw b 6 4), .int .u32 (lw b 10 4), .int .u32 (lw b 14 4), .int .u32 (lw b 18 4), .int .u32 (lw b 22 4), .int .u32 (lw b 26 2), .int .u32 (lw b 28 2), .int .u32 (lw b 30 4), .int .u32 (lw b 34 4), .int .u32 (lw b 38 4), .int .u32 (lw b 42 4), .int .u32 (lw b 46 4), .int .u32 (lw b 50 4)])), (4, some (.cells 42 [.int .i64 (W : Int), .int .i64 (H : Int), .int .i64 (c : Int), .sl 5 1 0 (H * (W * c))])), (5, some (bE (catK (pxk dn H (W * c) R y) H)))]⟩,
    fun y => y ≤ H, fun y => H - y, ⟨0, [some 0, some 1, some 2, some 3, some 4, some 5], Nat.zero_le _, ?_⟩, fun y hy => ?_⟩
  · have z0 : List.replicate ((W : Int) * (H : Int) * (c : Int)).toNat 0 = catK (pxk dn H (W * c) R 0) H := by
      have z1 : catK (pxk dn H (W * c) R 0) H = catK (fun _ => List.replicate (W * c) (0 : Int)) H := catK_congr (Q := H) (fun r hr => by
        have : fil dn H 0 r = false := by unfold fil; split <;> simp <;> omega
        unfold pxk; rw [if_neg (by rw [this]; decide)]) H (Nat.le_refl _)
      rw [z1, chc, Int.toNat_natCast]
      have : ∀ k, List.replicate (k * (W * c)) (0 : Int) = catK (fun _ => List.replicate (W * c) (0 : Int)) k := by
        intro k
        induction k with
        | zero => simp [catK]
        | succ k ih => rw [catK, ← ih, Nat.succ_mul, List.replicate_append_replicate]
      exact this H
    have z2 : ((W : Int) * (H : Int) * (c : Int)).toNat = H * (W * c) := by rw [chc, Int.toNat_natCast]
    have z3 : (54 : Int) = ((54 + 0 * st : Nat) : Int) := by omega
    (repeat' (first | (refine And.intro ?_ ?_) | exact True.intro | (show _ = _; with_reducible rfl) | exact Chk.mk (by kernel_rfl)))
    all_goals first | exact z0 | exact z2 | exact z3 | rfl
  have hy : y ≤ H := hy
  have rfy : rngI .i64 ((y : Int) + 1) := rng64 (by omega) (by omega)
  have hgl : ∀ r, r < H → (pxk dn H (W * c) R y r).length = W * c := fun r hr => by
    unfold pxk
    split
    · exact hRl r hr
    · simp
  have hcl := catK_len hgl H (Nat.le_refl _)
  by_cases hlt : y < H
  · have hfr := fr_lt (dn := dn) hlt
    have hys := prod_of (n := st) hlt
    have hfw := prod_of (n := W * c) hfr
    have t0 : takeL (cR b ((54 + y * st : Nat) : Int)) (st : Int) = (b.drop (54 + y * st)).take st := by
      unfold takeL takeC
      have el : (cR b ((54 + y * st : Nat) : Int)).length = b.length - (54 + y * st) := by
        unfold cR; rw [List.length_take, List.length_drop, Int.toNat_natCast]; omega
      rw [if_neg (show ¬ (st : Int) < 0 by omega), if_neg (show ¬ ((cR b ((54 + y * st : Nat) : Int)).length : Int) < (st : Int) by rw [el]; omega), if_pos rfl]
      unfold cR
      rw [List.take_take, Int.toNat_natCast, Int.toNat_natCast, Nat.min_eq_left (by omega)]
    have t1 : ((takeL (cR b ((54 + y * st : Nat) : Int)) (st : Int)).length : Int) = st := by rw [t0, List.length_take, List.length_drop]; omega
    have t2 : (takeL (cR b ((54 + y * st : Nat) : Int)) (st : Int)).length = st := by omega
    have rh1 : rngI .i64 ((H : Int) - 1) := rng64 (by omega) (by omega)
    have rh2 : rngI .i64 ((H : Int) - 1 - (y : Int)) := rng64 (by omega) (by omega)
    obtain ⟨r, hr⟩ : ∃ r, fr dn H y = r := ⟨_, rfl⟩
    rw [hr] at hfr hfw
    have f1 : (r : Int) * (W : Int) * (c : Int) = ((r * (W * c) : Nat) : Int) := by rw [Int.mul_assoc, ← cwc, ← Int.natCast_mul]
    have f2 : ((r : Int) + 1) * (W : Int) * (c : Int) = ((r * (W * c) + W * c : Nat) : Int) := by rw [Int.mul_assoc, ← cwc, Int.add_mul, Int.one_mul, ← Int.natCast_mul]; omega
    have f3 : 0 ≤ (r : Int) * (W : Int) ∧ (r : Int) * (W : Int) ≤ 32768 * 32768 := ⟨Int.mul_nonneg (by omega) (by omega), Int.le_trans (Int.mul_le_mul_of_nonneg_right (by omega) (by omega)) (Int.mul_le_mul_of_nonneg_left (by omega) (by omega))⟩
    have f4 : ((r : Int) + 1) * (W : Int) = (r : Int) * (W : Int) + W := by rw [Int.add_mul, Int.one_mul]
    have s1 : rngI .i64 ((r : Int) * (W : Int)) := rng64 (by omega) (by omega)
    have s2 : rngI .i64 ((r : Int) * (W : Int) * (c : Int)) := by rw [f1]; exact rng64 (by omega) (by omega)
    have s3 : rngI .i64 ((r : Int) + 1) := rng64 (by omega) (by omega)
    have s4 : rngI .i64 (((r : Int) + 1) * (W : Int)) := by rw [f4]; exact rng64 (by omega) (by omega)
    have s5 : rngI .i64 (((r : Int) + 1) * (W : Int) * (c : Int)) := by rw [f2]; exact rng64 (by omega) (by omega)
    have b1 : 0 ≤ ((r : Int) + 1) * (W : Int) * (c : Int) ∧ ((r : Int) + 1) * (W : Int) * (c : Int) ≤ ((H * (W * c) : Nat) : Int) := by rw [f2]; omega
    have b2 : 0 ≤ (r : Int) * (W : Int) * (c : Int) ∧ (r : Int) * (W : Int) * (c : Int) ≤ ((((r : Int) + 1) * (W : Int) * (c : Int)).toNat : Int) := by rw [f1, f2]; omega
    have b3 : 0 + ((r : Int) * (W : Int) * (c : Int)).toNat = r * (W * c) := by rw [f1]; omega
    have b4 : (((r : Int) + 1) * (W : Int) * (c : Int)).toNat - ((r : Int) * (W : Int) * (c : Int)).toNat = W * c := by rw [f1, f2]; omega
    have t3 : ((54 + y * st : Nat) : Int) + ((takeL (cR b ((54 + y * st : Nat) : Int)) (st : Int)).length : Int) = ((54 + (y + 1) * st : Nat) : Int) := by rw [t1, Nat.succ_mul]; omega
    have hfl : (fRow b st (W * c) y).length = W * c := fRow_len (by rw [glen]; omega)
    have hrl : ((b.drop (54 + y * st)).take st).length = st := by rw [List.length_take, List.length_drop]; omega
    have tcn : (c : Int).toNat = c := Int.toNat_natCast c
    have wdc : W * c / c = W := Nat.mul_div_cancel _ (by omega)
    by_cases hd1 : dn = true
    all_goals
      have hrow : (if dn = true then (y : Int) else (H : Int) - 1 - (y : Int)) = (r : Int) := by rw [← hr]; unfold fr; split <;> omega
      have hdp : if dn = true then 2147483648 ≤ lw b 22 4 else lw b 22 4 < 2147483648 := by
        rw [← hdn']; split
        · rename_i k; exact of_decide_eq_true k
        · rename_i k; have := mt decide_eq_true k; omega
      first | rw [if_pos hd1] at hrow hdp | rw [if_neg hd1] at hrow hdp
      rw [← hrow] at s1 s2 s3 s4 s5 b1 b2 b3 b4
      (repeat' (first | (refine xI (fun hfk => ?_) (fun hfk => ?_) <;> ((try (first | replace hfk := oT hfk | replace hfk := oF hfk | simp only [oA, oB, dh1, dh0, ne_eq, reduceCtorEq] at hfk)); (try exact oX))) | (refine And.intro ?ob ?_; (case ob => (exact oZ))) | exact True.intro | (show _ = _; first | exact oY | (skip; done) | exact rfl) | exact oW | (apply And.intro)))
      (refine ⟨[1, 2], ⟨by kernel_rfl⟩, ?_⟩)
      (repeat' (first | (refine xI (fun hfk => ?_) (fun hfk => ?_) <;> ((try (first | replace hfk := oT hfk | replace hfk := oF hfk | simp only [oA, oB, dh1, dh0, ne_eq, reduceCtorEq] at hfk)); (try exact oX))) | (refine And.intro ?ob ?_; (case ob => (exact oZ))) | exact True.intro | (show _ = _; first | exact oY | (skip; done) | exact rfl) | exact oW | (apply And.intro)))
      refine ⟨[(0, .roi .u8 b), (2, .ptr 0 0), (4, .ptr 1 0), (5, .ptr 3 0), (7, .ptr 4 0), (9, .int .i64 (st : Int)), (79, .int .i64 (H : Int)), (80, .int .i64 (y : Int)), (11, .sl 6 1 0 st), (13, .sl 5 1 (r * (W * c)) (W * c))], ⟨7, [(0, some (.cells 42 [.int .i64 0, .int .i64 0, .int .i64 0, .nils])), (1, some (.cells 120 [.sl 2 1 0 b.length, .int .i64 ((54 + (y + 1) * st : Nat) : Int)])), (2, some (bE b)), (3, some (.cells 89 [.int .u32 (lw b 2 4), .int .u32 (lw b 6 4), .int .u32 (lw b 10 4), .int .u32 (lw b 14 4), .int .u32 (lw b 18 4), .int .u32 (lw b 22 4), .int .u32 (lw b 26 2), .int .u32 (lw b 28 2), .int .u32 (lw b 30 4), .int .u32 (lw b 34 4), .int .u32 (lw b 38 4), .int .u32 (lw b 42 4), .int .u32 (lw b 46 4), .int .u32 (lw b 50 4)])), (4, some (.cells 42 [.int .i64 (W : Int), .int .i64 (H : Int), .int .i64 (c : Int), .sl 5 1 0 (H * (W * c))])), (5, some (bE (catK (pxk dn H (W * c) R y) H))), (6, some (bE ((b.drop (54 + y * st)).take st)))]⟩, [some 0, some 1, some 2, some 3, some 4, some 5, some 6], ?_, ?_⟩
      · (repeat' (first | (refine And.intro ?_ ?_) | exact True.intro | (show _ = _; with_reducible rfl) | exact Chk.mk (by kernel_rfl)))
        all_goals first | rfl | exact t0 | exact t2 | exact t3 | exact b3 | exact b4
      clear s1 s2 s3 s4 s5 b1 b2 b3 b4 f1 f2 f3 f4 t1 t2 t3 t0
      (repeat' (first | (refine xI (fun hfk => ?_) (fun hfk => ?_) <;> ((try (first | replace hfk := oT hfk | replace hfk := oF hfk | simp only [oA, oB, dh1, dh0, ne_eq, reduceCtorEq] at hfk)); (try exact oX))) | (refine And.intro ?ob ?_; (case ob => (exact oZ))) | exact True.intro | (show _ = _; first | exact oY | (skip; done) | exact rfl) | exact oW | (apply And.intro)))
      refine ⟨[(0, .roi .u8 b), (2, .ptr 0 0), (4, .ptr 1 0), (5, .ptr 3 0), (7, .ptr 4 0), (9, .int .i64 (st : Int)), (79, .int .i64 (H : Int)), (80, .int .i64 (y : Int)), (13, .sl 5 1 (r * (W * c)) (W * c))], ⟨6, [(0, some (.cells 42 [.int .i64 0, .int .i64 0, .int .i64 0, .nils])), (1, some (.cells 120 [.sl 2 1 0 b.length, .int .i64 ((54 + (y + 1) * st : Nat) : Int)])), (2, some (bE b)), (3, some (.cells 89 [.int .u32 (lw b 2 4), .int .u32 (lw b 6 4), .int .u32 (lw b 10 4), .int .u32 (lw b 14 4), .int .u32 (lw b 18 4), .int .u32 (lw b 22 4), .int .u32 (lw b 26 2), .int .u32 (lw b 28 2), .int .u32 (lw b 30 4), .int .u32 (lw b 34 4), .int .u32 (lw b 38 4), .int .u32 (lw b 42 4), .int .u32 (lw b 46 4), .int .u32 (lw b 50 4)])), (4, some (.cells 42 [.int .i64 (W : Int), .int .i64 (H : Int), .int .i64 (c : Int), .sl 5 1 0 (H * (W * c))])), (5, some (bE (spl (catK (pxk dn H (W * c) R y) H) (r * (W * c)) (fRow b st (W * c) y))))]⟩, [some 0, some 1, some 2, some 3, some 4, some 5], ?_, ?_⟩
      · have x1 : List.take st (List.drop 0 ((b.drop (54 + y * st)).take st)) = (b.drop (54 + y * st)).take st := by rw [List.drop_zero]; exact List.take_of_length_le (by omega)
        have x2 : Nat.min (List.take st (List.drop 0 ((b.drop (54 + y * st)).take st))).length (W * c) = W * c := by rw [x1, hrl]; exact Nat.min_eq_right (by omega)
        have x3 : List.take (W * c) (List.take st (List.drop 0 ((b.drop (54 + y * st)).take st))) = fRow b st (W * c) y := by rw [x1, List.take_take, Nat.min_eq_left (by omega)]; rfl
        have x4 : List.take (r * (W * c)) (catK (pxk dn H (W * c) R y) H) ++ (List.take (Nat.min (List.take st (List.drop 0 ((b.drop (54 + y * st)).take st))).length (W * c)) (List.take st (List.drop 0 ((b.drop (54 + y * st)).take st))) ++ List.drop (r * (W * c) + Nat.min (List.take st (List.drop 0 ((b.drop (54 + y * st)).take st))).length (W * c)) (catK (pxk dn H (W * c) R y) H)) = spl (catK (pxk dn H (W * c) R y) H) (r * (W * c)) (fRow b st (W * c) y) := by
          rw [x2, x3]; unfold spl; rw [hfl]
        (repeat' (first | (refine And.intro ?_ ?_) | exact True.intro | (show _ = _; with_reducible rfl) | exact Chk.mk (by kernel_rfl)))
        all_goals first | rfl | exact x4
      have y1 : W * c = W * c / (c : Int).toNat * (c : Int).toNat := by rw [tcn, wdc]
      have y2 : r * (W * c) + W * c ≤ (spl (catK (pxk dn H (W * c) R y) H) (r * (W * c)) (fRow b st (W * c) y)).length := by rw [spl_len (by omega)]; omega
      have y3 : swapTo (spl (catK (pxk dn H (W * c) R y) H) (r * (W * c)) (fRow b st (W * c) y)) (r * (W * c)) (c : Int).toNat (W * c / (c : Int).toNat) = catK (pxk dn H (W * c) R (y + 1)) H := by
        rw [tcn, wdc, swapTo_spl (w := W) (by omega) hfl (by omega) W (Nat.le_refl _), catK_upd hgl hfr (by rw [swapTo_len]; exact hfl)]
        refine catK_congr (Q := H) (fun k hk => ?_) H (Nat.le_refl _)
        unfold pxk
        rw [fil_next hlt hk, hr]
        by_cases hkr : k = r
        · rw [if_pos hkr, if_pos (by rw [decide_eq_true hkr]; rfl), hR, hkr, ← hr]
          show _ = swapTo (fRow b st (W * c) (fr dn H (fr dn H y))) 0 c W
          rw [fr_fr hlt]
        · rw [if_neg hkr, decide_eq_false hkr]; rfl
      (repeat' (first | (refine xI (fun hfk => ?_) (fun hfk => ?_) <;> ((try (first | replace hfk := oT hfk | replace hfk := oF hfk | simp only [oA, oB, dh1, dh0, ne_eq, reduceCtorEq] at hfk)); (try exact oX))) | (refine And.intro ?ob ?_; (case ob => (exact oZ))) | exact True.intro | (show _ = _; first | exact oY | (skip; done) | exact rfl) | exact oW | (apply And.intro)))
      (refine ⟨[5], ⟨by kernel_rfl⟩, ?_⟩)
      (repeat' (first | (refine xI (fun hfk => ?_) (fun hfk => ?_) <;> ((try (first | replace hfk := oT hfk | replace hfk := oF hfk | simp only [oA, oB, dh1, dh0, ne_eq, reduceCtorEq] at hfk)); (try exact oX))) | (refine And.intro ?ob ?_; (case ob => (exact oZ))) | exact True.intro | (show _ = _; first | exact oY | (skip; done) | exact rfl) | exact oW | (apply And.intro)))
      refine ⟨y + 1, [some 0, some 1, some 2, some 3, some 4, some 5], hlt, ?mu, ?_⟩
      case mu => (show H - (y + 1) < H - y; omega)
      (repeat' (first | (refine And.intro ?_ ?_) | exact True.intro | (show _ = _; with_reducible rfl) | exact Chk.mk (by kernel_rfl)))
      all_goals first | rfl | exact y3 | (show (_ : Int) = _; omega)
  · obtain rfl : y = H := by omega
    have z1 : List.take (y * (W * c)) (List.drop 0 (catK (pxk dn y (W * c) R y) y)) = rdPx b c W y st dn := by
      rw [List.drop_zero, List.take_of_length_le (by omega)]
      unfold rdPx
      refine catK_congr (Q := y) (fun k hk => ?_) y (Nat.le_refl _)
      have : fil dn y y k = true := by unfold fil; split <;> simp <;> omega
      unfold pxk
      rw [if_pos this, hR]; rfl
    have gw2 := gw.symm
    have gh2 := gh.symm
    have gc2 := gc.symm
    (repeat' (first | (refine xI (fun hfk => ?_) (fun hfk => ?_) <;> ((try (first | replace hfk := oT hfk | replace hfk := oF hfk | simp only [oA, oB, dh1, dh0, ne_eq, reduceCtorEq] at hfk)); (try exact oX))) | (refine And.intro ?ob ?_; (case ob => (exact oZ))) | exact True.intro | (show _ = _; first | exact oY | (first | exact z1 | exact gw2 | exact gh2 | exact gc2 | rfl; done) | exact rfl) | exact oW | (apply And.intro)))
theorem bread_s : SOK Tryz.prog 32 bmS := by
  refine sok_of (C := rpCx) rpCx_ok rfl mixed ⟨Tryz.func32, by kernel_rfl, by kernel_rfl, by kernel_rfl⟩ fun l obs v h ho => ?_
  (unfold bmS at h; split at h; rotate_left; (focus (cases h)); rename_i b; simp only [Option.some.injEq, Prod.mk.injEq] at h; obtain ⟨rfl, rfl⟩ := h; simp only [List.mem_cons, List.not_mem_nil, or_false, forall_eq_or_imp, forall_eq, false_implies, implies_true] at ho)
  refine ⟨Nat.le_of_ble_eq_true rfl, ?_⟩
  by_cases e : rdE b = 0
  · exact tk_good ho e
  by_cases hk : tkC b = 0
  rotate_left
  · exact tk_bad1 ho hk
  by_cases h : hdE b = 0
  rotate_left
  · exact tk_bad2 ho hk h
  by_cases hs : shC (hW b) (hrV (hH0 b)) = 0
  · exact tk_bad4 ho hk h hs e
  · exact tk_bad3 ho hk h hs
end Go.Proofs.YtljdahepmmgfeaaGreatDoor
namespace Go.Proofs.YtljdahepmmgfeaaGreatDoor
open Go Go.RowKit
set_option maxHeartbeats 4000000
theorem rdPx_len {b : List Int} {W H c st : Nat} {dn : Bool} (hg : BmOK b W H c st dn) : (rdPx b c W H st dn).length = H * (W * c) := by
  unfold rdPx
  refine catK_len (fun r hr => ?_) H (Nat.le_refl _)
  have hf : fr dn H r < H := fr_lt hr
  have := prod_of (n := st) hf
  show (swapTo (fRow b st (W * c) (fr dn H r)) 0 c W).length = _
  have h1 := hg.st1
  have h2 := hg.len
  rw [swapTo_len]; exact fRow_len (by omega)
theorem bm_n {b : List Int} {W H c st : Nat} {dn : Bool} (hg : BmOK b W H c st dn) : H * (W * c) ≤ 16777216 := by
  have k1 := hg.wh
  have k2 : H * (W * c) = (W * H) * c := by rw [← Nat.mul_assoc, Nat.mul_comm H W]
  have k3 : (W * H) * c ≤ 4194304 * 4 := Nat.mul_le_mul k1 (by have := hg.c34; omega)
  omega
theorem rdL_len {b : List Int} (hb : Byt b) : (rdL b).length ≤ 16777216 := by
  unfold rdL
  split
  · rename_i e
    have hg := gd_of hb e
    rw [rdPx_len hg]; exact bm_n hg
  · exact Nat.zero_le _
end Go.Proofs.YtljdahepmmgfeaaGreatDoor
namespace Go.Proofs.YtljdahepmmgfeaaGreatDoor
open Go Go.RowKit
set_option maxHeartbeats 4000000
def crE (b : List Int) : Int := if b.length = 0 then 20 else if b.getD 0 0 = 80 then pnE b else if b.getD 0 0 = 66 then rdE b else 21
def crW (b : List Int) : Int := if b.getD 0 0 = 80 then pnK b (pgW b) else if b.getD 0 0 = 66 then rdK b (hW b) else 0
def crH (b : List Int) : Int := if b.getD 0 0 = 80 then pnK b (pgH b) else if b.getD 0 0 = 66 then rdK b (hrV (hH0 b)) else 0
def crC (b : List Int) : Int := if b.getD 0 0 = 80 then pnK b (kdV b) else if b.getD 0 0 = 66 then rdK b (hCn b) else 0
def crL (b : List Int) : List Int := if b.getD 0 0 = 80 then pnL b else if b.getD 0 0 = 66 then rdL b else []
def crN (b : List Int) : Int := if crE b = 0 then kndV b else 0
abbrev crdS : PSpec := fun l => match l with
  | [.roi .u8 b] => some ([Byt b], .tup [imA (crW b) (crH b) (crC b) (crL b), .int .i64 (crN b), .int .i64 (crE b)])
  | _ => none
theorem byt_bytes {b : List Int} (h : Byt b) : Bytes b := fun x hx => by
  obtain ⟨i, hi, rfl⟩ := List.mem_iff_getElem.1 hx
  have := h.bd i
  rwa [List.getD_eq_getElem?_getD, List.getElem?_eq_getElem hi] at this
theorem pnL_len (b : List Int) : (pnL b).length ≤ b.length := by
  unfold pnL
  split
  · rw [List.length_drop]; omega
  · exact Nat.zero_le _
theorem cr_cs (b : List Int) :
    (b.length = 0 ∧ crE b = 20 ∧ crW b = 0 ∧ crH b = 0 ∧ crC b = 0 ∧ crL b = [] ∧ crN b = 0) ∨
    (1 ≤ b.length ∧ b.getD 0 0 = 80 ∧ pnE b ≠ 0 ∧ crE b = pnE b ∧ crW b = 0 ∧ crH b = 0 ∧ crC b = 0 ∧ crL b = [] ∧ crN b = 0) ∨
    (1 ≤ b.length ∧ b.getD 0 0 = 80 ∧ pnE b = 0 ∧ crE b = 0 ∧ crW b = pnK b (pgW b) ∧ crH b = pnK b (pgH b) ∧ crC b = pnK b (kdV b) ∧ crL b = pnL b ∧ crN b = kndV b) ∨
    (1 ≤ b.length ∧ b.getD 0 0 = 66 ∧ rdE b ≠ 0 ∧ crE b = rdE b ∧ crW b = 0 ∧ crH b = 0 ∧ crC b = 0 ∧ crL b = [] ∧ crN b = 0) ∨
    (1 ≤ b.length ∧ b.getD 0 0 = 66 ∧ rdE b = 0 ∧ crE b = 0 ∧ crW b = rdK b (hW b) ∧ crH b = rdK b (hrV (hH0 b)) ∧ crC b = rdK b (hCn b) ∧ crL b = rdL b ∧ crN b = kndV b) ∨
    (1 ≤ b.length ∧ b.getD 0 0 ≠ 80 ∧ b.getD 0 0 ≠ 66 ∧ crE b = 21 ∧ crW b = 0 ∧ crH b = 0 ∧ crC b = 0 ∧ crL b = [] ∧ crN b = 0) := by
  unfold crN
  by_cases h0 : b.length = 0
  · left
    have e : crE b = 20 := if_pos h0
    have hb : b = [] := List.length_eq_zero_iff.1 h0
    refine ⟨h0, e, ?_, ?_, ?_, ?_, by rw [e]; rfl⟩ <;> subst hb <;> rfl
  right
  have h1 : 1 ≤ b.length := by omega
  by_cases k1 : b.getD 0 0 = 80
  · have e : crE b = pnE b := by unfold crE; rw [if_neg h0, if_pos k1]
    have e1 : crW b = pnK b (pgW b) := if_pos k1
    have e2 : crH b = pnK b (pgH b) := if_pos k1
    have e3 : crC b = pnK b (kdV b) := if_pos k1
    have e4 : crL b = pnL b := if_pos k1
    by_cases k2 : pnE b = 0
    · right; left
      exact ⟨h1, k1, k2, e.trans k2, e1, e2, e3, e4, if_pos (e.trans k2)⟩
    · left
      obtain ⟨z1, z2⟩ := pn_bad k2
      exact ⟨h1, k1, k2, e, by rw [e1, z1], by rw [e2, z1], by rw [e3, z1], by rw [e4, z2], if_neg (by rw [e]; exact k2)⟩
  right; right
  by_cases k3 : b.getD 0 0 = 66
  · have e : crE b = rdE b := by unfold crE; rw [if_neg h0, if_neg k1, if_pos k3]
    have e1 : crW b = rdK b (hW b) := by unfold crW; rw [if_neg k1, if_pos k3]
    have e2 : crH b = rdK b (hrV (hH0 b)) := by unfold crH; rw [if_neg k1, if_pos k3]
    have e3 : crC b = rdK b (hCn b) := by unfold crC; rw [if_neg k1, if_pos k3]
    have e4 : crL b = rdL b := by unfold crL; rw [if_neg k1, if_pos k3]
    by_cases k2 : rdE b = 0
    · right; left
      exact ⟨h1, k3, k2, e.trans k2, e1, e2, e3, e4, if_pos (e.trans k2)⟩
    · left
      obtain ⟨z1, z2⟩ := rd_bad k2
      exact ⟨h1, k3, k2, e, by rw [e1, z1], by rw [e2, z1], by rw [e3, z1], by rw [e4, z2], if_neg (by rw [e]; exact k2)⟩
  · right; right
    have e : crE b = 21 := by unfold crE; rw [if_neg h0, if_neg k1, if_neg k3]
    exact ⟨h1, k1, k3, e, by unfold crW; rw [if_neg k1, if_neg k3], by unfold crH; rw [if_neg k1, if_neg k3], by unfold crC; rw [if_neg k1, if_neg k3], by unfold crL; rw [if_neg k1, if_neg k3], if_neg (by rw [e]; decide)⟩
attribute [local irreducible] crE crW crH crC crL crN pnE pnK pnL pgW pgH kdV rdE rdK rdL kndV hrV
theorem cread_s : SOK Tryz.prog 15 crdS := by
  refine sok_of (C := mkC 0 [(31, pnmS), (32, bmS), (33, kndS)] noG) (mkC_ok (pok_cons pread_s (pok_cons bread_s (pok_cons knd_s pok_nil))) noG_ok) rfl mixed ⟨Tryz.func15, by kernel_rfl, by kernel_rfl, by kernel_rfl⟩ fun l obs v h ho => ?_
  (unfold crdS at h; split at h; rotate_left; (focus (cases h)); rename_i b; simp only [Option.some.injEq, Prod.mk.injEq] at h; obtain ⟨rfl, rfl⟩ := h; simp only [List.mem_cons, List.not_mem_nil, or_false, forall_eq_or_imp, forall_eq, false_implies, implies_true] at ho)
  refine ⟨Nat.le_of_ble_eq_true rfl, ?_⟩
  have bl := ho.le
  have hB := byt_bytes ho
  rcases cr_cs b with ⟨a1, a2, a3, a4, a5, a6, a7⟩ | ⟨a0, a1, a8, a2, a3, a4, a5, a6, a7⟩ | ⟨a0, a1, a8, a2, a3, a4, a5, a6, a7⟩ | ⟨a0, a1, a8, a2, a3, a4, a5, a6, a7⟩ | ⟨a0, a1, a8, a2, a3, a4, a5, a6, a7⟩ | ⟨a0, a1, a8, a2, a3, a4, a5, a6, a7⟩
  all_goals (
    rw [a2, a3, a4, a5, a6, a7]
    clear a2 a3 a4 a5 a6 a7
    try (have g0 : b.getD (Int.toNat 0) 0 = b.getD 0 0 := rfl)
    (repeat' (first | (refine xI (fun hfk => ?_) (fun hfk => ?_) <;> ((try (first | replace hfk := oT hfk | replace hfk := oF hfk | simp only [oA, oB, dh1, dh0, ne_eq, reduceCtorEq] at hfk)); (try exact oX))) | (refine And.intro ?ob ?_; (case ob => (exact oZ))) | exact True.intro | (show _ = _; first | exact oY | (first | exact ho | exact hB | rfl; done) | exact rfl) | exact oW | (apply And.intro))))
theorem rcread_s : SOK Tryz.prog 23 crdS := by
  refine sok_of (C := mkC 0 [(42, pnmS), (43, bmS), (44, kndS)] noG) (mkC_ok (pok_cons rread15_s (pok_cons rread16_s (pok_cons rknd_s pok_nil))) noG_ok) rfl mixed ⟨Tryz.func23, by kernel_rfl, by kernel_rfl, by kernel_rfl⟩ fun l obs v h ho => ?_
  (unfold crdS at h; split at h; rotate_left; (focus (cases h)); rename_i b; simp only [Option.some.injEq, Prod.mk.injEq] at h; obtain ⟨rfl, rfl⟩ := h; simp only [List.mem_cons, List.not_mem_nil, or_false, forall_eq_or_imp, forall_eq, false_implies, implies_true] at ho)
  refine ⟨Nat.le_of_ble_eq_true rfl, ?_⟩
  have bl := ho.le
  have hB := byt_bytes ho
  rcases cr_cs b with ⟨a1, a2, a3, a4, a5, a6, a7⟩ | ⟨a0, a1, a8, a2, a3, a4, a5, a6, a7⟩ | ⟨a0, a1, a8, a2, a3, a4, a5, a6, a7⟩ | ⟨a0, a1, a8, a2, a3, a4, a5, a6, a7⟩ | ⟨a0, a1, a8, a2, a3, a4, a5, a6, a7⟩ | ⟨a0, a1, a8, a2, a3, a4, a5, a6, a7⟩
  all_goals (
    rw [a2, a3, a4, a5, a6, a7]
    clear a2 a3 a4 a5 a6 a7
    try (have g0 : b.getD (Int.toNat 0) 0 = b.getD 0 0 := rfl)
    (repeat' (first | (refine xI (fun hfk => ?_) (fun hfk => ?_) <;> ((try (first | replace hfk := oT hfk | replace hfk := oF hfk | simp only [oA, oB, dh1, dh0, ne_eq, reduceCtorEq] at hfk)); (try exact oX))) | (refine And.intro ?ob ?_; (case ob => (exact oZ))) | exact True.intro | (show _ = _; first | exact oY | (first | exact ho | exact hB | rfl; done) | exact rfl) | exact oW | (apply And.intro))))
end Go.Proofs.YtljdahepmmgfeaaGreatDoor
namespace Go.Proofs.YtljdahepmmgfeaaGreatDoor
open Go Go.RowKit
set_option maxHeartbeats 4000000
theorem byu_app {A B : List Int} (ha : Bytes A) (hb : Bytes B) : Bytes (A ++ B) := fun x hx => (List.mem_append.1 hx).elim (ha x) (hb x)
theorem byu_set {L : List Int} (h : Bytes L) (i : Nat) {v : Int} (hv : 0 ≤ v ∧ v ≤ 255) : Bytes (L.set i v) := fun x hx => (List.mem_or_eq_of_mem_set hx).elim (h x) (fun e => e ▸ hv)
theorem byu_swap {L : List Int} (h : Bytes L) (o c : Nat) : ∀ k, Bytes (swapTo L o c k)
  | 0 => h
  | k + 1 => byu_set (byu_set (byu_swap h o c k) _ ((byu_swap h o c k).get _)) _ ((byu_swap h o c k).get _)
theorem byu_cat {f : Nat → List Int} (h : ∀ k, Bytes (f k)) : ∀ n, Bytes (catK f n)
  | 0 => fun x hx => by cases hx
  | n + 1 => byu_app (byu_cat h n) (h n)
theorem byu_rdL {b : List Int} (hb : Bytes b) : Bytes (rdL b) := by
  unfold rdL
  split
  · exact byu_cat (fun k => byu_swap (fun x hx => hb x (List.mem_of_mem_drop (List.mem_of_mem_take hx))) _ _ _) _
  · intro x hx; cases hx
theorem byu_pnL {b : List Int} (h : Bytes b) : Bytes (pnL b) := by
  unfold pnL
  split
  · exact fun x hx => h x (List.mem_of_mem_drop hx)
  · exact fun x hx => by cases hx
theorem pnE_pgE {b : List Int} (h : pnE b = 0) : pgE b = 0 := by
  unfold pnE at h
  split at h
  · rename_i k; exact absurd h k
  · rename_i k; exact Classical.not_not.1 k
structure I64 (x : Int) : Prop where
  lo : -9223372036854775808 ≤ x
  hi : x ≤ 9223372036854775807
theorem i64_sm {x : Int} (h0 : 0 ≤ x) (h1 : x ≤ 100000000) : I64 x := ⟨by omega, by omega⟩
theorem cr_num {b : List Int} (hb : Byt b) : I64 (crW b) ∧ I64 (crH b) ∧ I64 (crC b) ∧ Bytes (crL b) ∧ (crL b).length ≤ 16777216 := by
  have z : I64 0 := i64_sm (by omega) (by omega)
  have be : Bytes ([] : List Int) := fun x hx => by cases hx
  have hB := byt_bytes hb
  rcases cr_cs b with ⟨a1, a2, a3, a4, a5, a6, a7⟩ | ⟨a0, a1, a8, a2, a3, a4, a5, a6, a7⟩ | ⟨a0, a1, a8, a2, a3, a4, a5, a6, a7⟩ | ⟨a0, a1, a8, a2, a3, a4, a5, a6, a7⟩ | ⟨a0, a1, a8, a2, a3, a4, a5, a6, a7⟩ | ⟨a0, a1, a8, a2, a3, a4, a5, a6, a7⟩ <;> rw [a3, a4, a5, a6]
  · exact ⟨z, z, z, be, Nat.zero_le _⟩
  · exact ⟨z, z, z, be, Nat.zero_le _⟩
  · have eK : ∀ x, pnK b x = x := fun x => if_pos a8
    obtain ⟨h1, h2, h3, h4, h5, h6, h7, h8⟩ := pn_sz (pnE_pgE a8)
    have h9 := kdV_cs b
    have hl := pnL_len b
    have hle := hb.le
    rw [eK, eK, eK]
    exact ⟨i64_sm (by omega) (by omega), i64_sm (by omega) (by omega), i64_sm (by omega) (by omega), byu_pnL hB, by omega⟩
  · exact ⟨z, z, z, be, Nat.zero_le _⟩
  · have eK : ∀ x, rdK b x = x := fun x => if_pos a8
    have hg := gd_of hb a8
    have e5 : hCn b = ((hCn b).toNat : Int) := by have := hg.c_; have := hg.c34; show lw b 28 2 / 8 = _; omega
    have hw := hg.w
    have hh := hg.h
    have w2 := hg.w2
    have h2 := hg.h2
    have c34 := hg.c34
    rw [eK, eK, eK]
    exact ⟨i64_sm (by omega) (by omega), i64_sm (by omega) (by omega), i64_sm (by omega) (by omega), byu_rdL hB, rdL_len hb⟩
  · exact ⟨z, z, z, be, Nat.zero_le _⟩
end Go.Proofs.YtljdahepmmgfeaaGreatDoor
namespace Go.Proofs.YtljdahepmmgfeaaGreatDoor
open Go Go.RowKit
set_option maxHeartbeats 4000000
def fbS (b : BitVec 64) (v : Int) : BitVec 64 := (b ^^^ BitVec.ofInt 64 v) * 1099511628211#64
def fb0 : BitVec 64 := 14695981039346656037#64
def fbL (b : BitVec 64) (l : List Int) : BitVec 64 := l.foldl fbS b
theorem fbL_app (b : BitVec 64) (l m : List Int) : fbL b (l ++ m) = fbL (fbL b l) m := by simp [fbL, List.foldl_append]
theorem fbL_snoc (b : BitVec 64) (l : List Int) (v : Int) : fbL b (l ++ [v]) = fbS (fbL b l) v := by rw [fbL_app]; rfl
theorem bv_of (b : BitVec 64) : BitVec.ofInt 64 ((b.toNat : Nat) : Int) = b := by
  apply BitVec.eq_of_toNat_eq
  rw [BitVec.toNat_ofInt]
  have := b.isLt
  have e : ((b.toNat : Nat) : Int) % ((2 ^ 64 : Nat) : Int) = ((b.toNat : Nat) : Int) := Int.emod_eq_of_lt (by omega) (by omega)
  rw [e, Int.toNat_natCast]
theorem w64_bv (b : BitVec 64) : IntKind.u64.wrap ((b.toNat : Nat) : Int) = ((b.toNat : Nat) : Int) := by
  have := b.isLt
  exact wrap_rng ⟨by show (0 : Int) ≤ _; omega, by show _ ≤ (18446744073709551615 : Int); omega⟩
theorem w64_mul (a b : BitVec 64) : IntKind.u64.wrap (((a.toNat : Nat) : Int) * ((b.toNat : Nat) : Int)) = (((a * b).toNat : Nat) : Int) := by
  rw [BitVec.toNat_mul, ← Int.natCast_mul]
  have e : ∀ x : Nat, IntKind.u64.wrap (x : Int) = ((x % 2 ^ 64 : Nat) : Int) := fun x => by
    show (x : Int) % (2 ^ 64 : Int) = ((x % 2 ^ 64 : Nat) : Int)
    omega
  exact e _
theorem fb_step (b : BitVec 64) (v : Int) : IntKind.u64.wrap (IntKind.u64.wrap (((BitVec.ofInt 64 ((b.toNat : Nat) : Int) ^^^ BitVec.ofInt 64 v).toNat : Nat) : Int) * 1099511628211) = (((fbS b v).toNat : Nat) : Int) := by
  rw [bv_of, w64_bv]
  exact w64_mul (b ^^^ BitVec.ofInt 64 v) 1099511628211#64
theorem xor_self (a b : BitVec 64) : a ^^^ b ^^^ b = a := by rw [BitVec.xor_assoc, BitVec.xor_self, BitVec.xor_zero]
structure U64 (x : Int) : Prop where
  lo : 0 ≤ x
  hi : x < 18446744073709551616
theorem U64.bv {x : Int} (h : U64 x) : ∃ b : BitVec 64, x = ((b.toNat : Nat) : Int) ∧ BitVec.ofInt 64 x = b := by
  obtain ⟨h0, h1⟩ := h
  obtain ⟨n, rfl⟩ := Int.eq_ofNat_of_zero_le h0
  have hn : n < 2 ^ 64 := by omega
  refine ⟨BitVec.ofNat 64 n, ?_, ?_⟩
  · rw [BitVec.toNat_ofNat, Nat.mod_eq_of_lt hn]
  · have := bv_of (BitVec.ofNat 64 n)
    rw [BitVec.toNat_ofNat, Nat.mod_eq_of_lt hn] at this
    exact this
theorem U64_bv (b : BitVec 64) : U64 ((b.toNat : Nat) : Int) := by
  have := b.isLt
  exact ⟨by omega, by omega⟩
def hxV (x : Int) (b : List Int) : Int := (((fbL (BitVec.ofInt 64 x ^^^ fb0) b ^^^ fb0).toNat : Nat) : Int)
def dgV (b : List Int) : Int := (((fbL fb0 b).toNat : Nat) : Int)
theorem xor_b0 (b : BitVec 64) : IntKind.u64.wrap (((BitVec.ofInt 64 ((b.toNat : Nat) : Int) ^^^ BitVec.ofInt 64 14695981039346656037).toNat : Nat) : Int) = (((b ^^^ fb0).toNat : Nat) : Int) := by
  rw [bv_of, w64_bv]; rfl
end Go.Proofs.YtljdahepmmgfeaaGreatDoor

