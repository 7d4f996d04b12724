
/- The laws' own words of the layer grid. No condition. -/
import Derived.Test.YtpgikaeddhaiiaaG9c
namespace Go.Proofs.Ytpgikaeddhaiiaa
open Go Go.RowKit
set_option linter.unusedVariables false
set_option linter.unusedSimpArgs false
set_option maxRecDepth 100000

/-- A function of no argument. -/
def sN (v : AV) : PSpec := fun l => match l with | [] => some ([], v) | _ => none
theorem sN_inv {w : AV} {l : List AV} {obs : List Prop} {v : AV} (h : sN w l = some (obs, v)) : l = [] ∧ v = w := by
  unfold sN at h
  split at h
  · simp only [Option.some.injEq, Prod.mk.injEq] at h; exact ⟨rfl, h.2.symm⟩
  · cases h
abbrev gtileS : PSpec := sRI fun g i => .tup [(gtile g i).av, .bool (gis g i)]
theorem alive9_s : SOK Try.prog 57 (sN (.bool true)) := by
  refine sok_of (C := mkC 0 [(96, gtileS), (95, sR fun g => .int .i64 (gcols g)), (97, sR fun g => .int .i64 (grows g))] noG)
    (mkC_ok (pok_cons gtile_s (pok_cons gcols_s (pok_cons grows_s pok_nil))) noG_ok) rfl mixed ⟨Try.func57, by kernel_rfl, by kernel_rfl, by kernel_rfl⟩ fun l obs v h ho => ?_
  obtain ⟨rfl, rfl⟩ := sN_inv h
  have e1 : gcols ⟨5, 4, 2, 3⟩ = 3 := by decide
  have e2 : grows ⟨5, 4, 2, 3⟩ = 2 := by decide
  have e3 : gis ⟨5, 4, 2, 3⟩ 5 = true := by decide
  have e4 : gtile ⟨5, 4, 2, 3⟩ 5 = ⟨4, 3, 5, 4⟩ := by rfl
  refine ⟨Nat.le_of_ble_eq_true rfl, ?_⟩
  (repeat' (first | apply And.intro | intro h)); (all_goals (try exact Chk.mk (by kernel_rfl)))
  all_goals first
    | (show (decide ((gtile ⟨5, 4, 2, 3⟩ 5).x0 = 4) && (decide ((gtile ⟨5, 4, 2, 3⟩ 5).y0 = 3) && (decide ((gtile ⟨5, 4, 2, 3⟩ 5).x1 = 5) && (decide ((gtile ⟨5, 4, 2, 3⟩ 5).y1 = 4) && true)))) = true
       rw [e4]; rfl)
    | (exfalso; simp only [e1, e2, e3] at *; simp_all)
end Go.Proofs.Ytpgikaeddhaiiaa
