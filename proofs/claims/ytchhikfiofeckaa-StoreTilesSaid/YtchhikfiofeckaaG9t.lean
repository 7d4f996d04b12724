
/- The document's tiles of a grid. Condition: the grid is right. -/
import Derived.Test.YtchhikfiofeckaaG9
namespace Go.Proofs.Ytchhikfiofeckaa
open Go Go.RowKit
set_option linter.unusedVariables false
set_option linter.unusedSimpArgs false
set_option maxRecDepth 100000

abbrev rectsA (l : List R4) : AV := .ro 4 l.length (fun j => (l.getD j .zero).av)
def tilesS : PSpec := fun l => match l with | [.agg [.int .i64 a, .int .i64 b, .int .i64 c, .int .i64 d]] => some ([gcheck ⟨a, b, c, d⟩ = 0], rectsA (tilesL ⟨a, b, c, d⟩ (rN ⟨a, b, c, d⟩))) | _ => none

theorem getD_snoc (l : List R4) (x : R4) (i : Nat) (h : i < l.length + 1) : (l ++ [x]).getD i .zero = if i < l.length then l.getD i .zero else x := by
  by_cases hc : i < l.length
  · rw [if_pos hc]; simp [List.getD, List.getElem?_append_left hc]
  · rw [if_neg hc]
    have : i = l.length := by omega
    subst this; simp [List.getD]

theorem tiles_s : SOK Try.prog 114 tilesS := by
  refine sok_of (C := mkC 0 [] noG) (mkC_ok pok_nil noG_ok) rfl mixed ⟨Try.func114, by kernel_rfl, by kernel_rfl, by kernel_rfl⟩ fun l obs v h ho => ?_
  unfold tilesS at h
  split at h
  · rename_i W H TW TH
    simp only [Option.some.injEq, Prod.mk.injEq] at h
    obtain ⟨rfl, rfl⟩ := h
    have hg : gcheck ⟨W, H, TW, TH⟩ = 0 := ho _ (by simp)
    have hb := gcheck_inv hg
    simp only at hb
    generalize hgg : (R4.mk W H TW TH) = g at *
    have g0 : g.x0 = W := by rw [← hgg]
    have g1 : g.y0 = H := by rw [← hgg]
    have g2 : g.x1 = TW := by rw [← hgg]
    have g3 : g.y1 = TH := by rw [← hgg]
    refine ⟨Nat.le_of_ble_eq_true rfl, ?_⟩
    refine ⟨Nat, fun j => [(1, .ptr 0 0), (3, .sl 1 4 0 (tilesL g j).length), (4, .int .i64 (j * TH))],
      fun j => ⟨2, [(0, some (.cells 177 [.int .i64 W, .int .i64 H, .int .i64 TW, .int .i64 TH])), (1, some (.recs 86 4 (tilesL g j).length (fun k => ((tilesL g j).getD k .zero).av)))]⟩,
      fun j => j ≤ rN g, fun j => rN g - j, ⟨0, [some 0, none], Nat.zero_le _, ?_⟩, fun j hj => ?_⟩
    · (repeat' (first | apply And.intro | intro h)); (all_goals (try exact Chk.mk (by kernel_rfl)))
      (all_goals (try first | exact True.intro | exact rfl | exact And.intro rfl rfl | exact And.intro rfl (fun _ _ => rfl)))
      show _ = _
      simp
    · refine ⟨fun hy => ?_, fun hy => ?_⟩
      · refine ⟨Nat, fun k => [(1, .ptr 0 0), (3, .sl 1 4 0 (partL g j k).length), (4, .int .i64 (j * TH)), (5, .int .i64 (k * TW))],
          fun k => ⟨2, [(0, some (.cells 177 [.int .i64 W, .int .i64 H, .int .i64 TW, .int .i64 TH])), (1, some (.recs 86 4 (partL g j k).length (fun i => ((partL g j k).getD i .zero).av)))]⟩,
          fun k => k ≤ cN g, fun k => cN g - k, ⟨0, [some 0, some 1], Nat.zero_le _, ?_⟩, fun k hk => ?_⟩
        · have e0 := partL_zero g j
          (repeat' (first | apply And.intro | intro h)); (all_goals (try exact Chk.mk (by kernel_rfl)))
          (all_goals (try first | exact True.intro | exact rfl | exact And.intro rfl rfl | exact And.intro rfl (fun _ _ => rfl)))
          all_goals (show _ = _; simp [e0])
        · refine ⟨fun hx => ?_, fun hx => ?_⟩
          · replace hx : ((k : Int) * TW < W) := of_decide_eq_true hx
            replace hy : ((j : Int) * TH < H) := of_decide_eq_true hy
            have hk' : k < cN g := by unfold cN; rw [g0, g2]; exact (lt_ceil (by omega) (by omega)).1 hx
            have hk0 : 0 ≤ (k : Int) * TW := Int.mul_nonneg (by omega) (by omega)
            have hj0 : 0 ≤ (j : Int) * TH := Int.mul_nonneg (by omega) (by omega)
            refine ⟨rng64 (by omega) (by omega), ?_⟩
            refine ⟨rng64 (by omega) (by omega), ?_⟩
            refine ⟨rfl, ?_⟩
            refine ⟨Nat.le_refl _, ?_⟩
            have hj' : j < rN g := by unfold rN; rw [g1, g3]; exact (lt_ceil (by omega) (by omega)).1 hy
            have hbd := partL_bd hg hj' hk'
            refine ⟨?_, ?_⟩
            · show ((partL g j k).length + (1 : Nat) : Int) * (32 : Nat) ≤ _
              omega
            refine ⟨?_, ?_⟩
            · show (partL g j k).length + 1 ≤ 140737488355328
              omega
            refine ⟨rng64 (by omega) (by omega), ?_⟩
            refine ⟨k + 1, [some 0, some 3], hk', (by show cN g - (k + 1) < cN g - k; omega), ?_⟩
            have e1 := partL_succ g j k
            (repeat' (first | apply And.intro | intro h)); (all_goals (try exact Chk.mk (by kernel_rfl)))
            (all_goals (try first | exact True.intro | exact rfl | exact And.intro rfl rfl | exact And.intro rfl (fun _ _ => rfl)))
            · show _ = _; simp [e1]
            · show _ = _; simp [Int.add_mul]
            · show _ = _; simp [e1]
            · rename_i i
              have hi : i < (partL g j (k + 1)).length := h
              rw [e1, List.length_append] at hi
              rw [e1]
              show _ = ((partL g j k ++ [tileAt g j k]).getD i .zero).av
              rw [getD_snoc _ _ _ hi]
              by_cases hc : i < (partL g j k).length
              · rw [if_pos hc]
                exact if_pos hc
              · rw [if_neg hc]
                refine (if_neg hc).trans ?_
                have hi' : i - (partL g j k).length = 0 := by
                  replace hi : i < (partL g j k).length + 1 := hi
                  omega
                rw [hi']
                show _ = (R4.mk (k * g.x1) (j * g.y1) (min (k * g.x1 + g.x1) g.x0) (min (j * g.y1 + g.y1) g.y0)).av
                rw [g0, g1, g2, g3]
                rfl
          · replace hx : ¬ ((k : Int) * TW < W) := of_decide_eq_false hx
            replace hy : ((j : Int) * TH < H) := of_decide_eq_true hy
            have hk' : ¬ k < cN g := by unfold cN; rw [g0, g2]; exact fun h => hx ((lt_ceil (by omega) (by omega)).2 h)
            have hj' : j < rN g := by unfold rN; rw [g1, g3]; exact (lt_ceil (by omega) (by omega)).1 hy
            have ek : k = cN g := by omega
            have hj0 : 0 ≤ (j : Int) * TH := Int.mul_nonneg (by omega) (by omega)
            refine ⟨rng64 (by omega) (by omega), ?_⟩
            refine ⟨j + 1, [some 0, some 1], hj', (by show rN g - (j + 1) < rN g - j; omega), ?_⟩
            have e1 := partL_end g j
            subst ek
            (repeat' (first | apply And.intro | intro h)); (all_goals (try exact Chk.mk (by kernel_rfl)))
            (all_goals (try first | exact True.intro | exact rfl | exact And.intro rfl rfl | exact And.intro rfl (fun _ _ => rfl)))
            all_goals (try first | (show _ = _; simp [e1]; done) | (show _ = _; simp [Int.add_mul]; done))
      · replace hy : ¬ ((j : Int) * TH < H) := of_decide_eq_false hy
        have hj' : ¬ j < rN g := by unfold rN; rw [g1, g3]; exact fun h => hy ((lt_ceil (by omega) (by omega)).2 h)
        have ej : j = rN g := by omega
        subst ej
        (repeat' (first | apply And.intro | intro h)); (all_goals (try exact Chk.mk (by kernel_rfl)))
        (all_goals (try first | exact True.intro | exact rfl | exact And.intro rfl rfl | exact And.intro rfl (fun _ _ => rfl)))
        · omega
        · show (fun k => ((tilesL g (rN g)).getD k R4.zero).av) (0 + _) = _
          simp
  · cases h
end Go.Proofs.Ytchhikfiofeckaa
