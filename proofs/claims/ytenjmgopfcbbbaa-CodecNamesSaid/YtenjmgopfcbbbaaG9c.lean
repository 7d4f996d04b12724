/- The document's columns of a grid. Condition: the grid is right. -/
import Derived.Test.YtenjmgopfcbbbaaG9b
namespace Go.Proofs.Ytenjmgopfcbbbaa
open Go Go.RowKit
set_option linter.unusedVariables false
set_option linter.unusedSimpArgs false
set_option maxRecDepth 100000

def rcolsS : PSpec := fun l => match l with | [.agg [.int .i64 a, .int .i64 b, .int .i64 c, .int .i64 d]] => some ([gcheck ⟨a, b, c, d⟩ = 0], .int .i64 (gcols ⟨a, b, c, d⟩)) | _ => none

theorem tiles_len {g : R4} (h : gcheck g = 0) : (tilesL g (rN g)).length ≤ 1073741824 := by
  rw [tilesL_len]
  have := gcount_bd g
  rw [gcount_eq h] at this
  omega
theorem rcols_s : SOK Try.prog 56 rcolsS := by
  refine sok_of (C := mkC 0 [(55, tilesS)] noG) (mkC_ok (pok_cons tiles_s pok_nil) noG_ok) rfl mixed ⟨Try.func56, by kernel_rfl, by kernel_rfl, by kernel_rfl⟩ fun l obs v h ho => ?_
  unfold rcolsS at h
  split at h
  · rename_i W H TW TH
    simp only [Option.some.injEq, Prod.mk.injEq] at h
    obtain ⟨rfl, rfl⟩ := h
    have hg : gcheck ⟨W, H, TW, TH⟩ = 0 := ho _ (by simp)
    have hb := gcheck_inv hg
    simp only at hb
    have hlen := tiles_len hg
    refine ⟨Nat.le_of_ble_eq_true rfl, ?_⟩
    refine ⟨hg, ?_⟩
    refine ⟨Nat, fun i => [(1, .ptr 0 0), (3, .int .i64 (min i (cN ⟨W, H, TW, TH⟩) : Nat)), (7, rectsA (tilesL ⟨W, H, TW, TH⟩ (rN ⟨W, H, TW, TH⟩))), (8, .int .i64 ((tilesL ⟨W, H, TW, TH⟩ (rN ⟨W, H, TW, TH⟩)).length : Nat)), (9, .int .i64 (i : Nat))],
      fun i => ⟨1, [(0, some (.cells 52 [.int .i64 W, .int .i64 H, .int .i64 TW, .int .i64 TH]))]⟩,
      fun i => i ≤ (tilesL ⟨W, H, TW, TH⟩ (rN ⟨W, H, TW, TH⟩)).length, fun i => (tilesL ⟨W, H, TW, TH⟩ (rN ⟨W, H, TW, TH⟩)).length - i, ⟨0, [some 0], Nat.zero_le _, ?_⟩, fun i hi => ?_⟩
    · (repeat' (first | apply And.intro | intro h)); (all_goals (try exact Chk.mk (by kernel_rfl)))
      (all_goals (try first | exact True.intro | exact rfl | exact And.intro rfl rfl | exact And.intro rfl (fun _ _ => rfl)))
      all_goals trace_state
    · refine ⟨fun hx => ?_, fun hx => ?_⟩
      · have hx : i < (tilesL ⟨W, H, TW, TH⟩ (rN ⟨W, H, TW, TH⟩)).length := by
          have := of_decide_eq_true hx
          exact Int.ofNat_lt.1 this
        have hi2 : i < rN ⟨W, H, TW, TH⟩ * cN ⟨W, H, TW, TH⟩ := by rw [← tilesL_len]; exact hx
        have hp := cN_pos hg
        have hy : ((tilesL ⟨W, H, TW, TH⟩ (rN ⟨W, H, TW, TH⟩)).getD i .zero).y0 = 0 ↔ i < cN ⟨W, H, TW, TH⟩ := by
          rw [tilesL_get _ _ _ hi2]
          show ((i / cN ⟨W, H, TW, TH⟩ : Nat) : Int) * TH = 0 ↔ _
          rw [Int.mul_eq_zero]
          constructor
          · rintro (h | h)
            · have h : i / cN ⟨W, H, TW, TH⟩ = 0 := by omega
              exact (Nat.div_eq_zero_iff_lt hp).1 h
            · omega
          · intro h
            exact .inl (by rw [Nat.div_eq_of_lt h]; rfl)
        refine ⟨⟨by omega, by omega⟩, fun h1 => ?_, fun h1 => ?_⟩
        · have h1 : ((tilesL ⟨W, H, TW, TH⟩ (rN ⟨W, H, TW, TH⟩)).getD i .zero).y0 = 0 := of_decide_eq_true h1
          have h1 := hy.1 h1
          refine ⟨rng64 (by omega) (by omega), rng64 (by omega) (by omega), i + 1, [some 0], hx, (by show _ - (i + 1) < _ - i; omega), ?_⟩
          (repeat' (first | apply And.intro | intro h)); (all_goals (try exact Chk.mk (by kernel_rfl)))
          (all_goals (try first | exact True.intro | exact rfl | exact And.intro rfl rfl | exact And.intro rfl (fun _ _ => rfl)))
          all_goals (show _ = _; omega)
        · have h1 : ¬ ((tilesL ⟨W, H, TW, TH⟩ (rN ⟨W, H, TW, TH⟩)).getD i .zero).y0 = 0 := of_decide_eq_false h1
          have h1 := fun h => h1 (hy.2 h)
          refine ⟨rng64 (by omega) (by omega), i + 1, [some 0], hx, (by show _ - (i + 1) < _ - i; omega), ?_⟩
          (repeat' (first | apply And.intro | intro h)); (all_goals (try exact Chk.mk (by kernel_rfl)))
          (all_goals (try first | exact True.intro | exact rfl | exact And.intro rfl rfl | exact And.intro rfl (fun _ _ => rfl)))
          all_goals (show _ = _; omega)
      · have hx : ¬ i < (tilesL ⟨W, H, TW, TH⟩ (rN ⟨W, H, TW, TH⟩)).length := by
          have := of_decide_eq_false hx
          exact fun h => this (Int.ofNat_lt.2 h)
        have hl := tilesL_len ⟨W, H, TW, TH⟩ (rN ⟨W, H, TW, TH⟩)
        have hr : 0 < rN ⟨W, H, TW, TH⟩ := (lt_ceil (k := 0) (a := H) (b := TH) (by omega) (by omega)).1 (by simp; omega)
        have hle : cN ⟨W, H, TW, TH⟩ ≤ rN ⟨W, H, TW, TH⟩ * cN ⟨W, H, TW, TH⟩ := Nat.le_mul_of_pos_left _ hr
        show _ = _
        rw [← cN_eq hg]
        omega
  · cases h
end Go.Proofs.Ytenjmgopfcbbbaa
