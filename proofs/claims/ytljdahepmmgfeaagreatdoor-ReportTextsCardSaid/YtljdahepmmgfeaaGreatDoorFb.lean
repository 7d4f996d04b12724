
/- What a slice of rows of bytes looks like to the engine. No condition. -/
import Derived.Test.YtljdahepmmgfeaaGreatDoorFi
namespace Go.Proofs.YtljdahepmmgfeaaGreatDoor
open Go.ChangeShapes Go.WideShapes Go.ChangeAt Go.RowKit Go.Deep
set_option linter.unusedVariables false
set_option maxRecDepth 100000

abbrev bsA (L : List (List Int)) : AV := .ro 1 L.length (fun j => .roi .u8 (L.getD j []))
section
variable {H : Type} {enc : TypeId × Value → H} {w : World} {base : Nat} {held : Bool}
/-- A slice of rows of bytes. -/
theorem open_rows {fuel : Nat} {t : TypeId} {v : Value} {y : DataW H × List MemPlace} (ht : Tryz.prog.underlying t = some (.slice 22)) (h : DataW.trod enc Tryz.prog w base (fun _ => true) held fuel t [v] = some y) :
    ∃ (A : Option Addr) (n c : Nat) (L : List (List Int)), v = .slice A n c ∧ L.length = n ∧ (∀ l ∈ L, ∀ x ∈ l, (Lit.int .u8 x).wf = true) ∧ (Adr w A n c → Rep noN w NoO (bsA L) (.slice A n c)) := by
  rcases DataW.trod_slice ht h with ⟨hcs, _⟩ | ⟨a, len, cap, elems, rest, n0, _, hcs, _, hb, hl, hm, hlen, hel, _, _⟩
  · simp at hcs
    subst hcs
    exact ⟨none, 0, 0, [], rfl, rfl, (fun l hl => by cases hl), fun _ => .ronil _ _⟩
  · simp at hcs
    subst hcs
    have e1 : Tryz.prog.cellsOf 22 = 1 := by kernel_rfl
    have each : ∀ i, i < len → ∃ (m : List Int) (A : Option Addr) (n c : Nat), w.cell? (a.add i) = some (.slice A n c) ∧ (∀ x ∈ m, (Lit.int .u8 x).wf = true) ∧ Rep noN w NoO (.roi .u8 m) (.slice A n c) := by
      intro i hi
      have h1 := hel i hi
      rw [e1] at h1
      have hlt : i < elems.length := by omega
      rw [List.getElem?_eq_getElem hlt] at h1
      obtain ⟨cs, hcs, htr⟩ := Option.bind_eq_some_iff.1 h1
      obtain ⟨hlen1, hcell⟩ := cells?_inv hcs
      match cs, hlen1 with
      | [c0], _ =>
        obtain ⟨A, n, c, p, f3, g1, g2, g3, g4⟩ := sl_of Tryz.underlying22 Tryz.underlying5 (by kernel_rfl) htr
        subst f3
        have hc := hcell 0 (by decide)
        refine ⟨p, A, n, c, ?_, g1.wf, rep_slz g1 g2 g3 g4⟩
        rw [Nat.mul_one] at hc
        exact hc
    have each2 : ∀ i : Nat, ∃ (m : List Int) (v : Value), i < len → (w.cell? (a.add i) = some v) ∧ v.cells = #[v] ∧ (∀ x ∈ m, (Lit.int .u8 x).wf = true) ∧ Rep noN w NoO (.roi .u8 m) v := by
      intro i
      by_cases hi : i < len
      · obtain ⟨m, A, n, c, h1, h2, h3⟩ := each i hi
        exact ⟨m, .slice A n c, fun _ => ⟨h1, rfl, h2, h3⟩⟩
      · exact ⟨[], undef, fun h => absurd h hi⟩
    have ⟨fm, hfm⟩ := Classical.axiomOfChoice each2
    have ⟨fv, hfv⟩ := Classical.axiomOfChoice hfm
    refine ⟨some a, len, cap, (List.range len).map fm, rfl, by simp, fun l hl => ?_, fun hadr => ?_⟩
    · obtain ⟨i, hi, rfl⟩ := List.mem_map.1 hl
      exact (hfv i (List.mem_range.1 hi)).2.2.1
    rcases hadr with ⟨h0, _, _⟩ | ⟨b, o, he, hbk⟩
    · cases h0
    · cases he
      have hll : ((List.range len).map fm).length = len := by simp
      have := Rep.ro (R := noN) (w := w) (O := NoO) 1 ((List.range len).map fm).length (fun j => .roi .u8 (((List.range len).map fm).getD j [])) b o cap fv (by omega) hm (fun h => h) hbk
        (fun j hj f hf => by
          obtain ⟨k1, k2, _⟩ := hfv j (by omega)
          have hf0 : f = 0 := by omega
          subst hf0
          rw [Addr.add_mid] at k1
          rw [k2, Nat.mul_one, Nat.add_zero]
          exact k1) (fun j hj => by rw [(hfv j (by omega)).2.1]; rfl)
        (fun j hj => by
          have hj' : j < len := by omega
          have : ((List.range len).map fm).getD j [] = fm j := by simp [List.getD, hj']
          rw [this]; exact (hfv j hj').2.2.2)
      rw [hll] at this
      unfold bsA
      rw [hll]
      exact this
end
end Go.Proofs.YtljdahepmmgfeaaGreatDoor
