
/- Listed variables that are arrays of integers, as the engine's table has them. No condition. -/
import Derived.Test.YtblloaajiaoblaaDoorFr
import Derived.LaidMore
import Derived.OpenShut
namespace Go.Proofs.YtblloaajiaoblaaDoor
open Go Go.ChangeShapes Go.WideShapes Go.ChangeAt Go.RowKit

theorem laid_ints {P : Program} {W : World} {t e : TypeId} {n fuel : Nat} {k : IntKind} {cs : Array Value} {xs : List Int} {p : List MemPlace} (ht : P.underlying t = some (.array n e)) (he : P.underlying e = some (.int k)) (hsz : P.cellsOf e = 1) (hct : P.cellsOf t = n)
    (h : DataW.trod (fun _ => ()) P W 0 (fun _ => true) false fuel t cs.toList = some (.agg (xs.map fun x => .lit (.int k x)), p)) : cs.toList = xs.map (Value.int k) := by
  obtain ⟨ys, m, rfl, hx, hlen, hn, hel⟩ := DataW.trod_array ht h
  simp only [Prod.mk.injEq, DataW.agg.injEq] at hx
  have hxl : xs.length = n := by have := congrArg List.length hx.1; simpa [hn] using this
  refine List.ext_getElem? fun i => ?_
  by_cases hi : i < n
  · have h1 := hel i hi
    rw [hsz, Nat.mul_one] at h1
    obtain ⟨y, hy⟩ : ∃ y, ys[i]? = some y := ⟨ys[i], List.getElem?_eq_getElem (by omega)⟩
    rw [hy] at h1
    obtain ⟨v, e1, e2, _⟩ := DataW.trod_int he h1
    have h3 := congrArg (fun l => l[i]?) hx.1
    simp only [List.getElem?_map, hy, Option.map_some] at h3
    rw [e2] at h3
    obtain ⟨x, hxi⟩ : ∃ x, xs[i]? = some x := ⟨xs[i], List.getElem?_eq_getElem (by omega)⟩
    rw [hxi] at h3
    simp only [Option.map_some, Option.some.injEq, DataW.lit.injEq, Lit.int.injEq, true_and] at h3
    rw [List.getElem?_map, hxi, h3]
    have h4 : ((cs.toList.drop i).take 1)[0]? = some (.int k v) := by rw [e1]; rfl
    rw [List.getElem?_take_of_lt (by omega), List.getElem?_drop, Nat.add_zero] at h4
    exact h4
  · rw [List.getElem?_eq_none (by omega), List.getElem?_eq_none (by rw [List.length_map]; omega)]
theorem laid_cells {P : Program} {W : World} {nm : String} {g : Nat} {cs : Array Value} {k : IntKind} {xs : List Int} (hg : P.globalNamed nm = some g) (hv : W.var? P nm = some cs) (hc : cs.toList = xs.map (Value.int k)) :
    g < W.heap.size ∧ ¬ NoO g ∧ ∃ ty fr, W.heap[g]? = some (.cells (xs.map (Value.int k)).toArray ty fr) := by
  have e : cs = (xs.map (Value.int k)).toArray := by rw [← hc, Array.toArray_toList]
  subst e
  simp only [World.var?, hg, Option.bind_some] at hv
  split at hv
  · rename_i cs ty fr hh
    simp only [Option.some.injEq] at hv
    subst hv
    exact ⟨(Array.getElem?_eq_some_iff.1 hh).1, fun h => h.elim, ty, fr, hh⟩
  · cases hv
end Go.Proofs.YtblloaajiaoblaaDoor
