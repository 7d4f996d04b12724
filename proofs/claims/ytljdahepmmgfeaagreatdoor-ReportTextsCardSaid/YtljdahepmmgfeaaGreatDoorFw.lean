
/- What a struct with rows of bytes looks like to the engine; no row is longer than memory. No condition. -/
import Derived.Test.YtljdahepmmgfeaaGreatDoorFb
import Derived.SizedLaws
namespace Go.Proofs.YtljdahepmmgfeaaGreatDoor
open Go.ChangeShapes Go.WideShapes Go.ChangeAt Go.RowKit Go.Deep
set_option linter.unusedVariables false
set_option maxRecDepth 100000

section
variable {H : Type} {enc : TypeId × Value → H} {P : Program} {w : World} {base : Nat} {spare : Nat → Bool} {held : Bool}
theorem weights_mem_all {e : TypeId} : ∀ {ds : List (DataW H)} {j : Nat} {d : DataW H}, ds[j]? = some d → ∀ n ∈ d.weights P e, n ∈ DataW.weightsAll P e ds
  | d0 :: ds, 0, d, hd, n, hn => by
    simp only [List.getElem?_cons_zero, Option.some.injEq] at hd
    subst hd
    simp only [DataW.weightsAll, List.mem_append]
    exact Or.inl hn
  | d0 :: ds, j + 1, d, hd, n, hn => by
    simp only [List.getElem?_cons_succ] at hd
    simp only [DataW.weightsAll, List.mem_append]
    exact Or.inr (weights_mem_all hd n hn)
  | [], _, _, hd, _, _ => by simp at hd
theorem open_fieldsW {r : Reach} {b0 : Nat} {t : TypeId} {fs : Array Field} {v : Value} {d : DataW H} {p : List MemPlace} (hs : P.underlying t = some (.struct fs)) (hone : oneCellFields P fs = true) (hC : P.cellsOf t = fs.size)
    (hv : Value.okWide P w r b0 t v) (h : DataW.Trod enc P w base spare held t v d p) :
    ∃ l : List Value, v = .agg l.toArray ∧ l.length = fs.size ∧ ∀ (j : Nat) (f : Field), fs[j]? = some f → ∃ n y x, l[j]? = some x ∧ DataW.trod enc P w base spare held n f.type [x] = some y ∧ ∀ m ∈ y.1.weights P f.type, m ∈ d.weights P t := by
  obtain ⟨cs, rfl, hsz⟩ := okWide_struct hs hv
  obtain ⟨l⟩ := cs
  have hl : l.length = fs.size := by rw [← hC, ← hsz]; rfl
  obtain ⟨fuel, hf⟩ := h
  obtain ⟨xs, n, _, hx, _, hlen, hg⟩ := DataW.trod_struct hs hf
  refine ⟨l, rfl, hl, fun j f hj => ?_⟩
  obtain ⟨ho, hk⟩ := hone_of hone j f hj
  have hjl : j < fs.size := (Array.getElem?_eq_some_iff.1 hj).1
  have h1 := hg j f hj
  rw [ho, hk] at h1
  have e : ((Value.agg l.toArray).cells.toList.drop j).take 1 = [l[j]'(by omega)] := by
    show (l.drop j).take 1 = _
    rw [List.drop_eq_getElem_cons (by omega)]
    rfl
  rw [e] at h1
  have hxj : xs[j]? = some (xs[j]'(by omega)) := List.getElem?_eq_getElem (by omega)
  refine ⟨n, xs[j]'(by omega), l[j]'(by omega), List.getElem?_eq_getElem (by omega), h1.trans hxj, fun m hm => ?_⟩
  have hd : d = .agg (xs.map (·.1)) := by have := congrArg Prod.fst hx; exact this
  rw [hd]
  simp only [DataW.weights, hs]
  refine DataW.weights_mem_each (j := j) (t := f.type) (d := (xs[j]'(by omega)).1) ?_ ?_ m hm
  · rw [List.getElem?_map, Array.getElem?_toList, hj]; rfl
  · rw [List.getElem?_map, hxj]; rfl
/-- The length of a row of bytes, by its datum. -/
theorem row_len {P : Program} {spare : Nat → Bool} {fuel : Nat} {t e : TypeId} {A : Option Addr} {n c : Nat} {y : DataW H × List MemPlace} (ht : P.underlying t = some (.slice e)) (hb : P.bytesOf e = 1) (h : DataW.trod enc P w base spare held fuel t [.slice A n c] = some y)
    (hz : ∀ m ∈ y.1.weights P t, m ≤ reachBytes) : n ≤ reachBytes := by
  rcases DataW.trod_slice ht h with ⟨hcs, _⟩ | ⟨a, len, cap, elems, rest, n0, _, hcs, hx, _, hl, _, hlen, _, _, _⟩
  · simp at hcs
    obtain ⟨_, rfl, _⟩ := hcs
    exact Nat.zero_le _
  · simp at hcs
    obtain ⟨_, rfl, _⟩ := hcs
    subst hx
    have := hz ((elems.length + rest.length) * P.bytesOf e) (by simp [DataW.weights, ht])
    rw [hb] at this
    omega
theorem open_rowsW {w : World} {base : Nat} {held : Bool} {fuel : Nat} {t : TypeId} {v : Value} {y : DataW H × List MemPlace} (ht : Tryz.prog.underlying t = some (.slice 22)) (h : DataW.trod enc Tryz.prog w base (fun _ => true) held fuel t [v] = some y) :
    ∃ (A : Option Addr) (n c : Nat) (L : List (List Int)), v = .slice A n c ∧ L.length = n ∧ (∀ l ∈ L, ∀ x ∈ l, (Lit.int .u8 x).wf = true) ∧ (Adr w A n c → Rep noN w NoO (bsA L) (.slice A n c)) ∧
      ((∀ m ∈ y.1.weights Tryz.prog t, m ≤ reachBytes) → ∀ l ∈ L, l.length ≤ reachBytes) := by
  rcases DataW.trod_slice ht h with ⟨hcs, _⟩ | ⟨a, len, cap, elems, rest, n0, _, hcs, hyy, hb, hl, hm, hlen, hel, _, _⟩
  · simp at hcs
    subst hcs
    exact ⟨none, 0, 0, [], rfl, rfl, (fun l hl => by cases hl), (fun _ => .ronil _ _), fun _ l hl => by cases hl⟩
  · simp at hcs
    subst hcs
    have e1 : Tryz.prog.cellsOf 22 = 1 := by kernel_rfl
    have each : ∀ i, i < len → ∃ (m : List Int) (A : Option Addr) (n c : Nat), w.cell? (a.add i) = some (.slice A n c) ∧ (∀ x ∈ m, (Lit.int .u8 x).wf = true) ∧ Rep noN w NoO (.roi .u8 m) (.slice A n c) ∧ ((∀ m ∈ y.1.weights Tryz.prog t, m ≤ reachBytes) → m.length ≤ reachBytes) := by
      intro i hi
      have h1 := hel i hi
      rw [e1] at h1
      have hlt : i < elems.length := by omega
      rw [List.getElem?_eq_getElem hlt] at h1
      obtain ⟨cs, hcs, htr⟩ := Option.bind_eq_some_iff.1 h1
      obtain ⟨hlen1, hcell⟩ := cells?_inv hcs
      match cs, hlen1 with
      | [c0], _ =>
        obtain ⟨A, n, c, p, f3, g1, g2, g3, g4⟩ := sl_of Tryz.underlying22 Tryz.underlying5 (by kernel_rfl) htr
        subst f3
        have hc := hcell 0 (by decide)
        refine ⟨p, A, n, c, ?_, g1.wf, rep_slz g1 g2 g3 g4, fun hz => ?_⟩
        · rw [Nat.mul_one] at hc
          exact hc
        · rw [g1.len]
          refine row_len Tryz.underlying22 (by kernel_rfl) htr fun k hk => hz k ?_
          rw [hyy]
          simp only [DataW.weights, ht, List.mem_cons, List.mem_append]
          refine Or.inr (Or.inl (weights_mem_all (j := i) (d := (elems[i]).1) ?_ k hk))
          rw [List.getElem?_map, List.getElem?_eq_getElem hlt]
          rfl
    have each2 : ∀ i : Nat, ∃ (m : List Int) (v : Value), i < len → (w.cell? (a.add i) = some v) ∧ v.cells = #[v] ∧ (∀ x ∈ m, (Lit.int .u8 x).wf = true) ∧ Rep noN w NoO (.roi .u8 m) v ∧ ((∀ m ∈ y.1.weights Tryz.prog t, m ≤ reachBytes) → m.length ≤ reachBytes) := by
      intro i
      by_cases hi : i < len
      · obtain ⟨m, A, n, c, h1, h2, h3, h4⟩ := each i hi
        exact ⟨m, .slice A n c, fun _ => ⟨h1, rfl, h2, h3, h4⟩⟩
      · exact ⟨[], undef, fun h => absurd h hi⟩
    have ⟨fm, hfm⟩ := Classical.axiomOfChoice each2
    have ⟨fv, hfv⟩ := Classical.axiomOfChoice hfm
    refine ⟨some a, len, cap, (List.range len).map fm, rfl, by simp, fun l hl => ?_, fun hadr => ?_, fun hz l hl => ?_⟩
    · obtain ⟨i, hi, rfl⟩ := List.mem_map.1 hl
      exact (hfv i (List.mem_range.1 hi)).2.2.1
    · rcases hadr with ⟨h0, _, _⟩ | ⟨b, o, he, hbk⟩
      · cases h0
      · cases he
        have hll : ((List.range len).map fm).length = len := by simp
        have := Rep.ro (R := noN) (w := w) (O := NoO) 1 ((List.range len).map fm).length (fun j => .roi .u8 (((List.range len).map fm).getD j [])) b o cap fv (by omega) hm (fun h => h) hbk
          (fun j hj f hf => by
            obtain ⟨k1, k2, _⟩ := hfv j (by omega)
            have hf0 : f = 0 := by omega
            subst hf0
            rw [Addr.add_mid] at k1
            rw [k2, Nat.mul_one, Nat.add_zero]
            exact k1) (fun j hj => by rw [(hfv j (by omega)).2.1]; rfl)
          (fun j hj => by
            have hj' : j < len := by omega
            have : ((List.range len).map fm).getD j [] = fm j := by simp [List.getD, hj']
            rw [this]; exact (hfv j hj').2.2.2.1)
        rw [hll] at this
        unfold bsA
        rw [hll]
        exact this
    · obtain ⟨i, hi, rfl⟩ := List.mem_map.1 hl
      exact (hfv i (List.mem_range.1 hi)).2.2.2.2 hz
end
end Go.Proofs.YtljdahepmmgfeaaGreatDoor
