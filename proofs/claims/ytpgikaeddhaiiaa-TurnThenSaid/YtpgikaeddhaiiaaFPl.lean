
/- What a slice of such structs looks like to the engine: Pl. Printed by wip/tools/recs.py. No condition. -/
import Derived.Test.YtpgikaeddhaiiaaFi
namespace Go.Proofs.Ytpgikaeddhaiiaa
open Go.ChangeShapes Go.WideShapes Go.ChangeAt Go.RowKit Go.Deep
set_option linter.unusedVariables false
set_option linter.unusedSimpArgs false
set_option maxRecDepth 100000

structure Pl where
  x : Int
  y : Int
  d : Int
def Pl.z : Pl := ⟨0, 0, 0⟩
abbrev Pl.av (m : Pl) : AV := .agg [.int .i64 m.x, .int .i64 m.y, .int .i64 m.d]
abbrev PlA (L : List Pl) : AV := .ro 3 L.length (fun j => (L.getD j Pl.z).av)
def Pl.ok (m : Pl) : Prop := (Lit.int .i64 m.x).wf = true ∧ (Lit.int .i64 m.y).wf = true ∧ (Lit.int .i64 m.d).wf = true
abbrev Pl.val (m : Pl) : List Value := [.int .i64 m.x, .int .i64 m.y, .int .i64 m.d]
theorem Pl.rep {W : World} (m : Pl) : Rep noN W NoO m.av (.agg m.val.toArray) :=
  rep_fields (crel_cons (.int _ _) (crel_cons (.int _ _) (crel_cons (.int _ _) crel_nil)))
section
variable {H : Type} {enc : TypeId × Value → H} {w : World} {base : Nat} {held : Bool}
theorem Pl_list3 {α : Type} {l : List α} (h : l.length = 3) : ∃ a0 a1 a2, l = [a0, a1, a2] := by
  match l, h with
  | [a0, a1, a2], _ => exact ⟨a0, a1, a2, rfl⟩
theorem open_Pl1 {fuel : Nat} {cs : List Value} {y : DataW H × List MemPlace} (h : DataW.trod enc Try.prog w base (fun _ => true) held fuel 62 cs = some y) :
    ∃ m : Pl, cs = m.val ∧ m.ok := by
  obtain ⟨c0, c1, c2, rfl⟩ : ∃ c0 c1 c2, cs = [c0, c1, c2] := by
    obtain ⟨xs, n, _, hx, hlen, hxl, hg⟩ := DataW.trod_struct Try.underlying62 h
    exact Pl_list3 (hlen.trans (by kernel_rfl))
  obtain ⟨xs, n, _, hx, hlen, hxl, hg⟩ := DataW.trod_struct Try.underlying62 h
  obtain ⟨x_0, x_1, x_2, rfl⟩ := Pl_list3 (show xs.length = 3 from hxl)
  have ek_0 : Try.prog.cellsOf 2 = 1 := by kernel_rfl
  have k_0 : DataW.trod enc Try.prog w base (fun _ => true) held n 2 [c0] = some x_0 := by have := hg 0 _ rfl; simpa [ek_0] using this
  obtain ⟨v_x, f_x, _, w_x⟩ := DataW.trod_int Try.underlying2 k_0
  simp only [List.cons.injEq, and_true] at f_x
  subst f_x
  have ek_1 : Try.prog.cellsOf 2 = 1 := by kernel_rfl
  have k_1 : DataW.trod enc Try.prog w base (fun _ => true) held n 2 [c1] = some x_1 := by have := hg 1 _ rfl; simpa [ek_1] using this
  obtain ⟨v_y, f_y, _, w_y⟩ := DataW.trod_int Try.underlying2 k_1
  simp only [List.cons.injEq, and_true] at f_y
  subst f_y
  have ek_2 : Try.prog.cellsOf 2 = 1 := by kernel_rfl
  have k_2 : DataW.trod enc Try.prog w base (fun _ => true) held n 2 [c2] = some x_2 := by have := hg 2 _ rfl; simpa [ek_2] using this
  obtain ⟨v_d, f_d, _, w_d⟩ := DataW.trod_int Try.underlying2 k_2
  simp only [List.cons.injEq, and_true] at f_d
  subst f_d
  exact ⟨⟨v_x, v_y, v_d⟩, rfl, ⟨w_x, w_y, w_d⟩⟩
theorem open_Pl {fuel : Nat} {t : TypeId} {v : Value} {y : DataW H × List MemPlace} (ht : Try.prog.underlying t = some (.slice 62)) (h : DataW.trod enc Try.prog w base (fun _ => true) held fuel t [v] = some y) :
    ∃ (A : Option Addr) (n c : Nat) (L : List Pl), v = .slice A n c ∧ L.length = n ∧ (∀ m ∈ L, m.ok) ∧ (Adr w A n c → Rep noN w NoO (PlA L) (.slice A n c)) := by
  rcases DataW.trod_slice ht h with ⟨hcs, _⟩ | ⟨a, len, cap, elems, rest, n0, _, hcs, _, hb, hl, hm, hlen, hel, _, _⟩
  · simp at hcs
    subst hcs
    exact ⟨none, 0, 0, [], rfl, rfl, fun _ h => by simp at h, fun _ => .ronil _ _⟩
  · simp at hcs
    subst hcs
    have e4 : Try.prog.cellsOf 62 = 3 := by kernel_rfl
    have each : ∀ i, ∃ m : Pl, i < len → (∀ f, f < 3 → w.cell? ((a.add (i * 3)).add f) = m.val[f]?) ∧ m.ok := by
      intro i
      by_cases hi : i < len
      · have h1 := hel i hi
        rw [e4] at h1
        have hlt : i < elems.length := by omega
        rw [List.getElem?_eq_getElem hlt] at h1
        obtain ⟨cs, hcs, htr⟩ := Option.bind_eq_some_iff.1 h1
        obtain ⟨hlen4, hcell⟩ := cells?_inv hcs
        obtain ⟨m, rfl, hr⟩ := open_Pl1 htr
        exact ⟨m, fun _ => ⟨hcell, hr⟩⟩
      · exact ⟨Pl.z, fun h => absurd h hi⟩
    have ⟨fm, hfm⟩ := Classical.axiomOfChoice each
    refine ⟨some a, len, cap, (List.range len).map fm, rfl, by simp, fun m hm => ?_, fun hadr => ?_⟩
    · obtain ⟨i, hi, rfl⟩ := List.mem_map.1 hm
      exact (hfm i (by simpa using hi)).2
    rcases hadr with ⟨h0, _, _⟩ | ⟨b, o, he, hbk⟩
    · cases h0
    · cases he
      have hll : ((List.range len).map fm).length = len := by simp
      have := Rep.ro (R := noN) (w := w) (O := NoO) 3 ((List.range len).map fm).length (fun j => (((List.range len).map fm).getD j Pl.z).av) b o cap (fun j => .agg (fm j).val.toArray) (by omega) hm (fun h => h) hbk
        (fun j hj f hf => by
          have hk := (hfm j (by omega)).1 f hf
          rw [Addr.add_mid, Addr.add_mid] at hk
          rw [hk]
          simp [Value.cells]) (fun j hj => rfl)
        (fun j hj => by
          have hj' : j < len := by omega
          have : ((List.range len).map fm).getD j Pl.z = fm j := by simp [List.getD, hj']
          rw [this]; exact Pl.rep _)
      rw [hll] at this
      unfold PlA
      rw [hll]
      exact this
end
end Go.Proofs.Ytpgikaeddhaiiaa
