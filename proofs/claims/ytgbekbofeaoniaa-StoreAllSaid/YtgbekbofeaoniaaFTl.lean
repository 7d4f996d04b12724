
/- What a slice of such structs looks like to the engine: Tl. Printed by wip/tools/recs.py. No condition. -/
import Derived.Test.YtgbekbofeaoniaaFi
namespace Go.Proofs.Ytgbekbofeaoniaa
open Go.ChangeShapes Go.WideShapes Go.ChangeAt Go.RowKit Go.Deep
set_option linter.unusedVariables false
set_option linter.unusedSimpArgs false
set_option maxRecDepth 100000

structure Tl where
  level : Int
  i : Int
def Tl.z : Tl := ⟨0, 0⟩
abbrev Tl.av (m : Tl) : AV := .agg [.int .i64 m.level, .int .i64 m.i]
abbrev TlA (L : List Tl) : AV := .ro 2 L.length (fun j => (L.getD j Tl.z).av)
def Tl.ok (m : Tl) : Prop := (Lit.int .i64 m.level).wf = true ∧ (Lit.int .i64 m.i).wf = true
abbrev Tl.val (m : Tl) : List Value := [.int .i64 m.level, .int .i64 m.i]
theorem Tl.rep {W : World} (m : Tl) : Rep noN W NoO m.av (.agg m.val.toArray) :=
  rep_fields (crel_cons (.int _ _) (crel_cons (.int _ _) crel_nil))
section
variable {H : Type} {enc : TypeId × Value → H} {w : World} {base : Nat} {held : Bool}
theorem Tl_list2 {α : Type} {l : List α} (h : l.length = 2) : ∃ a0 a1, l = [a0, a1] := by
  match l, h with
  | [a0, a1], _ => exact ⟨a0, a1, rfl⟩
theorem open_Tl1 {fuel : Nat} {cs : List Value} {y : DataW H × List MemPlace} (h : DataW.trod enc Try.prog w base (fun _ => true) held fuel 62 cs = some y) :
    ∃ m : Tl, cs = m.val ∧ m.ok := by
  obtain ⟨c0, c1, rfl⟩ : ∃ c0 c1, cs = [c0, c1] := by
    obtain ⟨xs, n, _, hx, hlen, hxl, hg⟩ := DataW.trod_struct Try.underlying62 h
    exact Tl_list2 (hlen.trans (by kernel_rfl))
  obtain ⟨xs, n, _, hx, hlen, hxl, hg⟩ := DataW.trod_struct Try.underlying62 h
  obtain ⟨x_0, x_1, rfl⟩ := Tl_list2 (show xs.length = 2 from hxl)
  have ek_0 : Try.prog.cellsOf 3 = 1 := by kernel_rfl
  have k_0 : DataW.trod enc Try.prog w base (fun _ => true) held n 3 [c0] = some x_0 := by have := hg 0 _ rfl; simpa [ek_0] using this
  obtain ⟨v_level, f_level, _, w_level⟩ := DataW.trod_int Try.underlying3 k_0
  simp only [List.cons.injEq, and_true] at f_level
  subst f_level
  have ek_1 : Try.prog.cellsOf 3 = 1 := by kernel_rfl
  have k_1 : DataW.trod enc Try.prog w base (fun _ => true) held n 3 [c1] = some x_1 := by have := hg 1 _ rfl; simpa [ek_1] using this
  obtain ⟨v_i, f_i, _, w_i⟩ := DataW.trod_int Try.underlying3 k_1
  simp only [List.cons.injEq, and_true] at f_i
  subst f_i
  exact ⟨⟨v_level, v_i⟩, rfl, ⟨w_level, w_i⟩⟩
theorem open_Tl {fuel : Nat} {t : TypeId} {v : Value} {y : DataW H × List MemPlace} (ht : Try.prog.underlying t = some (.slice 62)) (h : DataW.trod enc Try.prog w base (fun _ => true) held fuel t [v] = some y) :
    ∃ (A : Option Addr) (n c : Nat) (L : List Tl), v = .slice A n c ∧ L.length = n ∧ (∀ m ∈ L, m.ok) ∧ (Adr w A n c → Rep noN w NoO (TlA L) (.slice A n c)) := by
  rcases DataW.trod_slice ht h with ⟨hcs, _⟩ | ⟨a, len, cap, elems, rest, n0, _, hcs, _, hb, hl, hm, hlen, hel, _, _⟩
  · simp at hcs
    subst hcs
    exact ⟨none, 0, 0, [], rfl, rfl, fun _ h => by simp at h, fun _ => .ronil _ _⟩
  · simp at hcs
    subst hcs
    have e4 : Try.prog.cellsOf 62 = 2 := by kernel_rfl
    have each : ∀ i, ∃ m : Tl, i < len → (∀ f, f < 2 → w.cell? ((a.add (i * 2)).add f) = m.val[f]?) ∧ m.ok := by
      intro i
      by_cases hi : i < len
      · have h1 := hel i hi
        rw [e4] at h1
        have hlt : i < elems.length := by omega
        rw [List.getElem?_eq_getElem hlt] at h1
        obtain ⟨cs, hcs, htr⟩ := Option.bind_eq_some_iff.1 h1
        obtain ⟨hlen4, hcell⟩ := cells?_inv hcs
        obtain ⟨m, rfl, hr⟩ := open_Tl1 htr
        exact ⟨m, fun _ => ⟨hcell, hr⟩⟩
      · exact ⟨Tl.z, fun h => absurd h hi⟩
    have ⟨fm, hfm⟩ := Classical.axiomOfChoice each
    refine ⟨some a, len, cap, (List.range len).map fm, rfl, by simp, fun m hm => ?_, fun hadr => ?_⟩
    · obtain ⟨i, hi, rfl⟩ := List.mem_map.1 hm
      exact (hfm i (by simpa using hi)).2
    rcases hadr with ⟨h0, _, _⟩ | ⟨b, o, he, hbk⟩
    · cases h0
    · cases he
      have hll : ((List.range len).map fm).length = len := by simp
      have := Rep.ro (R := noN) (w := w) (O := NoO) 2 ((List.range len).map fm).length (fun j => (((List.range len).map fm).getD j Tl.z).av) b o cap (fun j => .agg (fm j).val.toArray) (by omega) hm (fun h => h) hbk
        (fun j hj f hf => by
          have hk := (hfm j (by omega)).1 f hf
          rw [Addr.add_mid, Addr.add_mid] at hk
          rw [hk]
          simp [Value.cells]) (fun j hj => rfl)
        (fun j hj => by
          have hj' : j < len := by omega
          have : ((List.range len).map fm).getD j Tl.z = fm j := by simp [List.getD, hj']
          rw [this]; exact Tl.rep _)
      rw [hll] at this
      unfold TlA
      rw [hll]
      exact this
end
end Go.Proofs.Ytgbekbofeaoniaa
