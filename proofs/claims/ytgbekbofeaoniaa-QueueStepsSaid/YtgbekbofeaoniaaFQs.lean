
/- What a slice of such structs looks like to the engine: Qs. Printed by wip/tools/recs.py. No condition. -/
import Derived.Test.YtgbekbofeaoniaaFi
namespace Go.Proofs.Ytgbekbofeaoniaa
open Go.ChangeShapes Go.WideShapes Go.ChangeAt Go.RowKit Go.Deep
set_option linter.unusedVariables false
set_option linter.unusedSimpArgs false
set_option maxRecDepth 100000

structure Qs where
  pop : Bool
  l : Int
  i : Int
  p : Int
def Qs.z : Qs := ⟨false, 0, 0, 0⟩
abbrev Qs.av (m : Qs) : AV := .agg [.bool m.pop, .int .i64 m.l, .int .i64 m.i, .int .i64 m.p]
abbrev QsA (L : List Qs) : AV := .ro 4 L.length (fun j => (L.getD j Qs.z).av)
def Qs.ok (m : Qs) : Prop := True ∧ (Lit.int .i64 m.l).wf = true ∧ (Lit.int .i64 m.i).wf = true ∧ (Lit.int .i64 m.p).wf = true
abbrev Qs.val (m : Qs) : List Value := [.bool m.pop, .int .i64 m.l, .int .i64 m.i, .int .i64 m.p]
theorem Qs.rep {W : World} (m : Qs) : Rep noN W NoO m.av (.agg m.val.toArray) :=
  rep_fields (crel_cons (.bool _) (crel_cons (.int _ _) (crel_cons (.int _ _) (crel_cons (.int _ _) crel_nil))))
section
variable {H : Type} {enc : TypeId × Value → H} {w : World} {base : Nat} {held : Bool}
theorem Qs_list2 {α : Type} {l : List α} (h : l.length = 2) : ∃ a0 a1, l = [a0, a1] := by
  match l, h with
  | [a0, a1], _ => exact ⟨a0, a1, rfl⟩
theorem Qs_list3 {α : Type} {l : List α} (h : l.length = 3) : ∃ a0 a1 a2, l = [a0, a1, a2] := by
  match l, h with
  | [a0, a1, a2], _ => exact ⟨a0, a1, a2, rfl⟩
theorem Qs_list4 {α : Type} {l : List α} (h : l.length = 4) : ∃ a0 a1 a2 a3, l = [a0, a1, a2, a3] := by
  match l, h with
  | [a0, a1, a2, a3], _ => exact ⟨a0, a1, a2, a3, rfl⟩
theorem open_Qs1 {fuel : Nat} {cs : List Value} {y : DataW H × List MemPlace} (h : DataW.trod enc Try.prog w base (fun _ => true) held fuel 79 cs = some y) :
    ∃ m : Qs, cs = m.val ∧ m.ok := by
  obtain ⟨c0, c1, c2, c3, rfl⟩ : ∃ c0 c1 c2 c3, cs = [c0, c1, c2, c3] := by
    obtain ⟨xs, n, _, hx, hlen, hxl, hg⟩ := DataW.trod_struct Try.underlying79 h
    exact Qs_list4 (hlen.trans (by kernel_rfl))
  obtain ⟨xs, n, _, hx, hlen, hxl, hg⟩ := DataW.trod_struct Try.underlying79 h
  obtain ⟨x_0, x_1, x_2, rfl⟩ := Qs_list3 (show xs.length = 3 from hxl)
  have ek_0 : Try.prog.cellsOf 4 = 1 := by kernel_rfl
  have k_0 : DataW.trod enc Try.prog w base (fun _ => true) held n 4 [c0] = some x_0 := by have := hg 0 _ rfl; simpa [ek_0] using this
  obtain ⟨v_pop, f_pop, _⟩ := DataW.trod_bool Try.underlying4 k_0
  simp only [List.cons.injEq, and_true] at f_pop
  subst f_pop
  have ek_1 : Try.prog.cellsOf 62 = 2 := by kernel_rfl
  have k_1 : DataW.trod enc Try.prog w base (fun _ => true) held n 62 [c1, c2] = some x_1 := by have := hg 1 _ rfl; simpa [ek_1] using this
  obtain ⟨xs_1, n_1, _, hx_1, hlen_1, hxl_1, hg_1⟩ := DataW.trod_struct Try.underlying62 k_1
  obtain ⟨x_1_0, x_1_1, rfl⟩ := Qs_list2 (show xs_1.length = 2 from hxl_1)
  have ek_1_0 : Try.prog.cellsOf 3 = 1 := by kernel_rfl
  have k_1_0 : DataW.trod enc Try.prog w base (fun _ => true) held n_1 3 [c1] = some x_1_0 := by have := hg_1 0 _ rfl; simpa [ek_1_0] using this
  obtain ⟨v_l, f_l, _, w_l⟩ := DataW.trod_int Try.underlying3 k_1_0
  simp only [List.cons.injEq, and_true] at f_l
  subst f_l
  have ek_1_1 : Try.prog.cellsOf 3 = 1 := by kernel_rfl
  have k_1_1 : DataW.trod enc Try.prog w base (fun _ => true) held n_1 3 [c2] = some x_1_1 := by have := hg_1 1 _ rfl; simpa [ek_1_1] using this
  obtain ⟨v_i, f_i, _, w_i⟩ := DataW.trod_int Try.underlying3 k_1_1
  simp only [List.cons.injEq, and_true] at f_i
  subst f_i
  have ek_2 : Try.prog.cellsOf 2 = 1 := by kernel_rfl
  have k_2 : DataW.trod enc Try.prog w base (fun _ => true) held n 2 [c3] = some x_2 := by have := hg 2 _ rfl; simpa [ek_2] using this
  obtain ⟨v_p, f_p, _, w_p⟩ := DataW.trod_int Try.underlying2 k_2
  simp only [List.cons.injEq, and_true] at f_p
  subst f_p
  exact ⟨⟨v_pop, v_l, v_i, v_p⟩, rfl, ⟨True.intro, w_l, w_i, w_p⟩⟩
theorem open_Qs {fuel : Nat} {t : TypeId} {v : Value} {y : DataW H × List MemPlace} (ht : Try.prog.underlying t = some (.slice 79)) (h : DataW.trod enc Try.prog w base (fun _ => true) held fuel t [v] = some y) :
    ∃ (A : Option Addr) (n c : Nat) (L : List Qs), v = .slice A n c ∧ L.length = n ∧ (∀ m ∈ L, m.ok) ∧ (Adr w A n c → Rep noN w NoO (QsA L) (.slice A n c)) := by
  rcases DataW.trod_slice ht h with ⟨hcs, _⟩ | ⟨a, len, cap, elems, rest, n0, _, hcs, _, hb, hl, hm, hlen, hel, _, _⟩
  · simp at hcs
    subst hcs
    exact ⟨none, 0, 0, [], rfl, rfl, fun _ h => by simp at h, fun _ => .ronil _ _⟩
  · simp at hcs
    subst hcs
    have e4 : Try.prog.cellsOf 79 = 4 := by kernel_rfl
    have each : ∀ i, ∃ m : Qs, i < len → (∀ f, f < 4 → w.cell? ((a.add (i * 4)).add f) = m.val[f]?) ∧ m.ok := by
      intro i
      by_cases hi : i < len
      · have h1 := hel i hi
        rw [e4] at h1
        have hlt : i < elems.length := by omega
        rw [List.getElem?_eq_getElem hlt] at h1
        obtain ⟨cs, hcs, htr⟩ := Option.bind_eq_some_iff.1 h1
        obtain ⟨hlen4, hcell⟩ := cells?_inv hcs
        obtain ⟨m, rfl, hr⟩ := open_Qs1 htr
        exact ⟨m, fun _ => ⟨hcell, hr⟩⟩
      · exact ⟨Qs.z, fun h => absurd h hi⟩
    have ⟨fm, hfm⟩ := Classical.axiomOfChoice each
    refine ⟨some a, len, cap, (List.range len).map fm, rfl, by simp, fun m hm => ?_, fun hadr => ?_⟩
    · obtain ⟨i, hi, rfl⟩ := List.mem_map.1 hm
      exact (hfm i (by simpa using hi)).2
    rcases hadr with ⟨h0, _, _⟩ | ⟨b, o, he, hbk⟩
    · cases h0
    · cases he
      have hll : ((List.range len).map fm).length = len := by simp
      have := Rep.ro (R := noN) (w := w) (O := NoO) 4 ((List.range len).map fm).length (fun j => (((List.range len).map fm).getD j Qs.z).av) b o cap (fun j => .agg (fm j).val.toArray) (by omega) hm (fun h => h) hbk
        (fun j hj f hf => by
          have hk := (hfm j (by omega)).1 f hf
          rw [Addr.add_mid, Addr.add_mid] at hk
          rw [hk]
          simp [Value.cells]) (fun j hj => rfl)
        (fun j hj => by
          have hj' : j < len := by omega
          have : ((List.range len).map fm).getD j Qs.z = fm j := by simp [List.getD, hj']
          rw [this]; exact Qs.rep _)
      rw [hll] at this
      unfold QsA
      rw [hll]
      exact this
end
end Go.Proofs.Ytgbekbofeaoniaa
