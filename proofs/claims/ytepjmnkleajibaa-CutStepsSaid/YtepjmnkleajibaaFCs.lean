
/- What a slice of such structs looks like to the engine: Cs. Printed by wip/tools/recs.py. No condition. -/
import Derived.Test.YtepjmnkleajibaaFi
namespace Go.Proofs.Ytepjmnkleajibaa
open Go.ChangeShapes Go.WideShapes Go.ChangeAt Go.RowKit Go.Deep
set_option linter.unusedVariables false
set_option linter.unusedSimpArgs false
set_option maxRecDepth 100000

structure Cs where
  call : Int
  n : Int
  s : List UInt8
def Cs.z : Cs := ⟨0, 0, []⟩
abbrev Cs.av (m : Cs) : AV := .agg [.int .i64 m.call, .int .i64 m.n, .str m.s]
abbrev CsA (L : List Cs) : AV := .ro 3 L.length (fun j => (L.getD j Cs.z).av)
def Cs.ok (m : Cs) : Prop := (Lit.int .i64 m.call).wf = true ∧ (Lit.int .i64 m.n).wf = true ∧ (m.s).length ≤ maxLen
abbrev Cs.val (m : Cs) : List Value := [.int .i64 m.call, .int .i64 m.n, .string ⟨(m.s).toArray⟩]
theorem Cs.rep {W : World} (m : Cs) : Rep noN W NoO m.av (.agg m.val.toArray) :=
  rep_fields (crel_cons (.int _ _) (crel_cons (.int _ _) (crel_cons (.str _) crel_nil)))
section
variable {H : Type} {enc : TypeId × Value → H} {w : World} {base : Nat} {held : Bool}
theorem Cs_list3 {α : Type} {l : List α} (h : l.length = 3) : ∃ a0 a1 a2, l = [a0, a1, a2] := by
  match l, h with
  | [a0, a1, a2], _ => exact ⟨a0, a1, a2, rfl⟩
theorem open_Cs1 {fuel : Nat} {cs : List Value} {y : DataW H × List MemPlace} (h : DataW.trod enc Try.prog w base (fun _ => true) held fuel 29 cs = some y) :
    ∃ m : Cs, cs = m.val ∧ m.ok := by
  obtain ⟨c0, c1, c2, rfl⟩ : ∃ c0 c1 c2, cs = [c0, c1, c2] := by
    obtain ⟨xs, n, _, hx, hlen, hxl, hg⟩ := DataW.trod_struct Try.underlying29 h
    exact Cs_list3 (hlen.trans (by kernel_rfl))
  obtain ⟨xs, n, _, hx, hlen, hxl, hg⟩ := DataW.trod_struct Try.underlying29 h
  obtain ⟨x_0, x_1, x_2, rfl⟩ := Cs_list3 (show xs.length = 3 from hxl)
  have ek_0 : Try.prog.cellsOf 3 = 1 := by kernel_rfl
  have k_0 : DataW.trod enc Try.prog w base (fun _ => true) held n 3 [c0] = some x_0 := by have := hg 0 _ rfl; simpa [ek_0] using this
  obtain ⟨v_call, f_call, _, w_call⟩ := DataW.trod_int Try.underlying3 k_0
  simp only [List.cons.injEq, and_true] at f_call
  subst f_call
  have ek_1 : Try.prog.cellsOf 3 = 1 := by kernel_rfl
  have k_1 : DataW.trod enc Try.prog w base (fun _ => true) held n 3 [c1] = some x_1 := by have := hg 1 _ rfl; simpa [ek_1] using this
  obtain ⟨v_n, f_n, _, w_n⟩ := DataW.trod_int Try.underlying3 k_1
  simp only [List.cons.injEq, and_true] at f_n
  subst f_n
  have ek_2 : Try.prog.cellsOf 9 = 1 := by kernel_rfl
  have k_2 : DataW.trod enc Try.prog w base (fun _ => true) held n 9 [c2] = some x_2 := by have := hg 2 _ rfl; simpa [ek_2] using this
  obtain ⟨u_s, f_s, _, w_s⟩ := DataW.trod_string Try.underlying9 k_2
  obtain ⟨v_s, rfl⟩ : ∃ l : List UInt8, u_s = ⟨l.toArray⟩ := ⟨u_s.data.toList, by simp⟩
  simp only [List.cons.injEq, and_true] at f_s
  subst f_s
  exact ⟨⟨v_call, v_n, v_s⟩, rfl, ⟨w_call, w_n, w_s⟩⟩
theorem open_Cs {fuel : Nat} {t : TypeId} {v : Value} {y : DataW H × List MemPlace} (ht : Try.prog.underlying t = some (.slice 29)) (h : DataW.trod enc Try.prog w base (fun _ => true) held fuel t [v] = some y) :
    ∃ (A : Option Addr) (n c : Nat) (L : List Cs), v = .slice A n c ∧ L.length = n ∧ (∀ m ∈ L, m.ok) ∧ (Adr w A n c → Rep noN w NoO (CsA L) (.slice A n c)) := by
  rcases DataW.trod_slice ht h with ⟨hcs, _⟩ | ⟨a, len, cap, elems, rest, n0, _, hcs, _, hb, hl, hm, hlen, hel, _, _⟩
  · simp at hcs
    subst hcs
    exact ⟨none, 0, 0, [], rfl, rfl, fun _ h => by simp at h, fun _ => .ronil _ _⟩
  · simp at hcs
    subst hcs
    have e4 : Try.prog.cellsOf 29 = 3 := by kernel_rfl
    have each : ∀ i, ∃ m : Cs, i < len → (∀ f, f < 3 → w.cell? ((a.add (i * 3)).add f) = m.val[f]?) ∧ m.ok := by
      intro i
      by_cases hi : i < len
      · have h1 := hel i hi
        rw [e4] at h1
        have hlt : i < elems.length := by omega
        rw [List.getElem?_eq_getElem hlt] at h1
        obtain ⟨cs, hcs, htr⟩ := Option.bind_eq_some_iff.1 h1
        obtain ⟨hlen4, hcell⟩ := cells?_inv hcs
        obtain ⟨m, rfl, hr⟩ := open_Cs1 htr
        exact ⟨m, fun _ => ⟨hcell, hr⟩⟩
      · exact ⟨Cs.z, fun h => absurd h hi⟩
    have ⟨fm, hfm⟩ := Classical.axiomOfChoice each
    refine ⟨some a, len, cap, (List.range len).map fm, rfl, by simp, fun m hm => ?_, fun hadr => ?_⟩
    · obtain ⟨i, hi, rfl⟩ := List.mem_map.1 hm
      exact (hfm i (by simpa using hi)).2
    rcases hadr with ⟨h0, _, _⟩ | ⟨b, o, he, hbk⟩
    · cases h0
    · cases he
      have hll : ((List.range len).map fm).length = len := by simp
      have := Rep.ro (R := noN) (w := w) (O := NoO) 3 ((List.range len).map fm).length (fun j => (((List.range len).map fm).getD j Cs.z).av) b o cap (fun j => .agg (fm j).val.toArray) (by omega) hm (fun h => h) hbk
        (fun j hj f hf => by
          have hk := (hfm j (by omega)).1 f hf
          rw [Addr.add_mid, Addr.add_mid] at hk
          rw [hk]
          simp [Value.cells]) (fun j hj => rfl)
        (fun j hj => by
          have hj' : j < len := by omega
          have : ((List.range len).map fm).getD j Cs.z = fm j := by simp [List.getD, hj']
          rw [this]; exact Cs.rep _)
      rw [hll] at this
      unfold CsA
      rw [hll]
      exact this
end
end Go.Proofs.Ytepjmnkleajibaa
