
/- What the arguments of a law look like to the engine: integers, slices, structs and arrays of one-cell parts, opened once and for all. -/
import Derived.Test.YtdiflkabpjnncaaA
import Derived.WalkKit
import Derived.ProofKit
import Derived.OpenShut
import Derived.ShutString
import Derived.ChangeOld
import Derived.Below
import Derived.Deep.Slices
import Derived.Deep.Fields
import Derived.SizedLaws
namespace Go.Proofs.Ytdiflkabpjnncaa
open Go.ChangeShapes Go.WideShapes Go.ChangeAt Go.RowKit Go.Deep
set_option linter.unusedVariables false
set_option maxRecDepth 100000

theorem own : ownKnob Try.prog.godebug = none := by kernel_rfl
theorem laidOut : laidOutB Try.prog = true := by kernel_rfl

section
variable {H : Type} {enc : TypeId × Value → H} {P : Program} {w : World} {base : Nat} {spare : Nat → Bool} {held : Bool}
theorem open_fields {r : Reach} {b0 : Nat} {t : TypeId} {fs : Array Field} {v : Value} {d : DataW H} {p : List MemPlace} (hs : P.underlying t = some (.struct fs)) (hone : oneCellFields P fs = true) (hC : P.cellsOf t = fs.size)
    (hv : Value.okWide P w r b0 t v) (h : DataW.Trod enc P w base spare held t v d p) :
    ∃ l : List Value, v = .agg l.toArray ∧ l.length = fs.size ∧ ∀ (j : Nat) (f : Field), fs[j]? = some f → ∃ n y x, l[j]? = some x ∧ DataW.trod enc P w base spare held n f.type [x] = some y := by
  obtain ⟨cs, rfl, hsz⟩ := okWide_struct hs hv
  obtain ⟨l⟩ := cs
  have hl : l.length = fs.size := by rw [← hC, ← hsz]; rfl
  obtain ⟨fuel, hf⟩ := h
  obtain ⟨xs, n, _, hx, _, hlen, hg⟩ := DataW.trod_struct hs hf
  refine ⟨l, rfl, hl, fun j f hj => ?_⟩
  obtain ⟨ho, hk⟩ := hone_of hone j f hj
  have hjl : j < fs.size := (Array.getElem?_eq_some_iff.1 hj).1
  have h1 := hg j f hj
  rw [ho, hk] at h1
  have e : ((Value.agg l.toArray).cells.toList.drop j).take 1 = [l[j]'(by omega)] := by
    show (l.drop j).take 1 = _
    rw [List.drop_eq_getElem_cons (by omega)]
    rfl
  rw [e] at h1
  exact ⟨n, xs[j]'(by omega), l[j]'(by omega), List.getElem?_eq_getElem (by omega), h1.trans (List.getElem?_eq_getElem (by omega))⟩

theorem open_parts {r : Reach} {b0 : Nat} {t e : TypeId} {k : Nat} {v : Value} {d : DataW H} {p : List MemPlace} (hs : P.underlying t = some (.array k e)) (hone : P.cellsOf e = 1) (hC : P.cellsOf t = k)
    (hv : Value.okWide P w r b0 t v) (h : DataW.Trod enc P w base spare held t v d p) :
    ∃ l : List Value, v = .agg l.toArray ∧ l.length = k ∧ ∀ (j : Nat), j < k → ∃ n y x, l[j]? = some x ∧ DataW.trod enc P w base spare held n e [x] = some y := by
  simp only [Value.okWide, hs] at hv
  obtain ⟨cs, rfl, hsz, _⟩ := hv
  obtain ⟨l⟩ := cs
  have hl : l.length = k := by rw [← hC, ← hsz]; rfl
  obtain ⟨fuel, hf⟩ := h
  obtain ⟨xs, n, _, hx, _, hlen, hg⟩ := DataW.trod_array hs hf
  refine ⟨l, rfl, hl, fun j hj => ?_⟩
  have h1 := hg j hj
  rw [hone] at h1
  have e' : ((Value.agg l.toArray).cells.toList.drop (j * 1)).take 1 = [l[j]'(by omega)] := by
    show (l.drop (j * 1)).take 1 = _
    rw [Nat.mul_one, List.drop_eq_getElem_cons (by omega)]
    rfl
  rw [e'] at h1
  exact ⟨n, xs[j]'(by omega), l[j]'(by omega), List.getElem?_eq_getElem (by omega), h1.trans (List.getElem?_eq_getElem (by omega))⟩
end

theorem list2 {α : Type} {l : List α} (h : l.length = 2) : ∃ a b, l = [a, b] := by
  match l, h with
  | [a, b], _ => exact ⟨a, b, rfl⟩
theorem list3 {α : Type} {l : List α} (h : l.length = 3) : ∃ a b c, l = [a, b, c] := by
  match l, h with
  | [a, b, c], _ => exact ⟨a, b, c, rfl⟩
theorem list4 {α : Type} {l : List α} (h : l.length = 4) : ∃ a b c d, l = [a, b, c, d] := by
  match l, h with
  | [a, b, c, d], _ => exact ⟨a, b, c, d, rfl⟩
theorem list7 {α : Type} {l : List α} (h : l.length = 7) : ∃ a b c d e f g, l = [a, b, c, d, e, f, g] := by
  match l, h with
  | [a, b, c, d, e, f, g], _ => exact ⟨a, b, c, d, e, f, g, rfl⟩

/-- A slice of integers of kind k that reads as the list xs, below block number B: nil, empty or not. -/
structure Sl (w : World) (k : IntKind) (B : Nat) (A : Option Addr) (n : Nat) (xs : List Int) : Prop where
  len : xs.length = n
  wf : ∀ x ∈ xs, (Lit.int k x).wf = true
  cells : 0 < n → ∃ b o, A = some ⟨b, o, none⟩ ∧ b < B ∧ ∀ j, j < n → w.cell? ⟨b, o + j, none⟩ = some (.int k (xs.getD j 0))

theorem Sl.nil_ {w : World} {k : IntKind} {B : Nat} {A : Option Addr} : Sl w k B A 0 [] := ⟨rfl, fun _ h => by simp at h, fun h => by omega⟩
theorem Sl.below {w w' : World} {k : IntKind} {B : Nat} {A : Option Addr} {n : Nat} {xs : List Int} (h : Sl w k B A n xs) (hb : Below B w w') : Sl w' k B A n xs :=
  ⟨h.len, h.wf, fun hn => by
    obtain ⟨b, o, hA, hlt, hc⟩ := h.cells hn
    exact ⟨b, o, hA, hlt, fun j hj => (hb.cell (p := ⟨b, o + j, none⟩) hlt).trans (hc j hj)⟩⟩
theorem Sl.more {w : World} {k : IntKind} {B B' : Nat} {A : Option Addr} {n : Nat} {xs : List Int} (h : Sl w k B A n xs) (hB : B ≤ B') : Sl w k B' A n xs :=
  ⟨h.len, h.wf, fun hn => by
    obtain ⟨b, o, hA, hlt, hc⟩ := h.cells hn
    exact ⟨b, o, hA, by omega, hc⟩⟩

theorem sl_of {H : Type} {enc : TypeId × Value → H} {w : World} {base fuel : Nat} {held : Bool} {t e : TypeId} {k : IntKind} {v : Value} {y : DataW H × List MemPlace}
    (ht : Try.prog.underlying t = some (.slice e)) (he : Try.prog.underlying e = some (.int k)) (hC : Try.prog.cellsOf e = 1)
    (h : DataW.trod enc Try.prog w base (fun _ => true) held fuel t [v] = some y) :
    ∃ A n c xs, v = .slice A n c ∧ Sl w k w.heap.size A n xs ∧ n ≤ c ∧ c ≤ maxLen ∧ (A = none → n = 0 ∧ c = 0) := by
  rcases open_ints ht he hC h with ⟨hcs, _⟩ | ⟨x, l, c, zs, hcs, _, hl, hm, hz, _, hcell, hwz⟩
  · simp at hcs
    subst hcs
    exact ⟨none, 0, 0, [], rfl, Sl.nil_, Nat.le_refl _, Nat.zero_le _, fun _ => ⟨rfl, rfl⟩⟩
  · simp at hcs
    subst hcs
    have hz' : zs.length = c := by simpa using hz
    refine ⟨some x, l, c, zs.take l, rfl, ⟨by simp; omega, fun z hzm => hwz z (List.mem_of_mem_take hzm), fun hn => ?_⟩, hl, hm, fun h => by cases h⟩
    obtain ⟨b, o, sp⟩ := x
    have h0 := hcell 0 (by omega)
    have hsp : sp = none := by simpa [Addr.add] using World.cell?_spot h0
    subst hsp
    have h0' : w.cell? ⟨b, o, none⟩ = some (.int k (zs.getD 0 0)) := by simpa [Addr.add] using h0
    refine ⟨b, o, rfl, World.block_lt_of_cell? w _ h0', fun j hj => ?_⟩
    have h1 := hcell j (by omega)
    rw [Addr.add_lit] at h1
    rw [h1]
    simp [List.getD, hj]

/-! ### The engine's view of the arguments -/
/-- Where a slice that came in lies: nowhere, or in a block that there is. -/
def Adr (w : World) (A : Option Addr) (n c : Nat) : Prop := (A = none ∧ n = 0 ∧ c = 0) ∨ ∃ b o, A = some ⟨b, o, none⟩ ∧ b < w.heap.size
theorem adr_of {w : World} {r : Reach} {base : Nat} {t e : TypeId} {A : Option Addr} {n c : Nat} (ht : Try.prog.underlying t = some (.slice e)) (h : Cell.okWide Try.prog w r base t (.slice A n c)) : Adr w A n c := by
  cases A with
  | none =>
    have h0 : n = 0 ∧ c = 0 := by
      rcases n with _ | n <;> rcases c with _ | c <;> simp [Cell.okWide, ht, Cell.ok] at h ⊢
    exact .inl ⟨rfl, h0.1, h0.2⟩
  | some a =>
    simp only [Cell.okWide, ht, Cell.ok] at h
    obtain ⟨_, _, _, hs, row, cells, hsh, _⟩ := h
    obtain ⟨b, o, sp⟩ := a
    simp only at hs hsh
    subst hs
    exact .inr ⟨b, o, rfl, shape_lt hsh⟩
theorem adr_top {w : World} {r : Reach} {base : Nat} {t e : TypeId} {A : Option Addr} {n c : Nat} (ht : Try.prog.underlying t = some (.slice e)) (h : Value.okWide Try.prog w r base t (.slice A n c)) : Adr w A n c := by
  simp only [Value.okWide, ht] at h
  exact adr_of ht h
theorem okWide_cells {w : World} {r : Reach} {base : Nat} {t : TypeId} {fs : Array Field} {ts : List TypeId} {l : List Value} (hs : Try.prog.underlying t = some (.struct fs)) (hts : Try.prog.cellTypes Try.prog.depth t = some ts)
    (h : Value.okWide Try.prog w r base t (.agg l.toArray)) : ∀ (i : Nat) (v : Value), l[i]? = some v → ∃ u, ts[i % ts.length]? = some u ∧ Cell.okWide Try.prog w r base u v := by
  simp only [Value.okWide, hs] at h
  obtain ⟨cs, he, _, hr⟩ := h
  cases he
  obtain ⟨ts', h1, _, h3⟩ := hr
  rw [hts] at h1
  cases h1
  intro i v hv
  exact h3 i v (by simpa using hv)
theorem rep_sl {w : World} {k : IntKind} {A : Option Addr} {n c : Nat} {xs : List Int} (f : Sl w k w.heap.size A n xs) (g : n ≤ c) (m : c ≤ maxLen) (z : Adr w A n c) : Rep noN w NoO (.roi k xs) (.slice A n c) := by
  have hl := f.len
  rcases z with ⟨rfl, rfl, rfl⟩ | ⟨b, o, rfl, hb⟩
  · have : xs = [] := List.length_eq_zero_iff.1 hl
    subst this
    exact .roinil k
  · subst hl
    refine .roi k xs b o c g m (fun h => h) hb fun j x hj => ?_
    have hlt : j < xs.length := (List.getElem?_eq_some_iff.1 hj).1
    obtain ⟨b', o', he, _, hc⟩ := f.cells (by omega)
    cases he
    rw [hc j hlt]
    simp [List.getD, hj]
theorem rep_fields {R : PN} {W : World} {O : Nat → Prop} {l : List AV} {vs : List Value} (h : CRel R W O l vs) : Rep R W O (.agg l) (.agg vs.toArray) := .agg _ _ h.1 h.2
theorem rep_string {R : PN} {W : World} {O : Nat → Prop} (b : ByteArray) : Rep R W O (.str b.data.toList) (.string b) := .str b.data.toList
end Go.Proofs.Ytdiflkabpjnncaa
