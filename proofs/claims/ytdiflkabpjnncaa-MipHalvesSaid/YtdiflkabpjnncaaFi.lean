
/- What a slice of images looks like to the engine. No condition. -/
import Derived.Test.YtdiflkabpjnncaaFr
namespace Go.Proofs.Ytdiflkabpjnncaa
open Go.ChangeShapes Go.WideShapes Go.ChangeAt Go.RowKit Go.Deep
set_option linter.unusedVariables false
set_option maxRecDepth 100000

structure Im where
  w : Int
  h : Int
  c : Int
  p : List Int
def Im.z : Im := ⟨0, 0, 0, []⟩
abbrev Im.av (m : Im) : AV := .agg [.int .i64 m.w, .int .i64 m.h, .int .i64 m.c, .roi .u8 m.p]
abbrev imsA (L : List Im) : AV := .ro 4 L.length (fun j => (L.getD j Im.z).av)

theorem rep_slz {w : World} {k : IntKind} {B : Nat} {A : Option Addr} {n c : Nat} {xs : List Int} (f : Sl w k B A n xs) (g : n ≤ c) (m : c ≤ maxLen) (z : A = none → n = 0 ∧ c = 0) : Rep noN w NoO (.roi k xs) (.slice A n c) := by
  have hl := f.len
  cases A with
  | none =>
    obtain ⟨rfl, rfl⟩ := z rfl
    have : xs = [] := List.length_eq_zero_iff.1 hl
    subst this
    exact .roinil k
  | some a =>
    rcases Nat.eq_zero_or_pos n with h0 | h0
    · subst h0
      have : xs = [] := List.length_eq_zero_iff.1 hl
      subst this
      exact .roiz k a c m
    · obtain ⟨b, o, he, _, hc⟩ := f.cells h0
      cases he
      subst hl
      refine .roi k xs b o c g m (fun h => h) (World.block_lt_of_cell? w _ (hc 0 h0)) fun j x hj => ?_
      have hlt : j < xs.length := (List.getElem?_eq_some_iff.1 hj).1
      rw [hc j hlt]
      simp [List.getD, hj]

section
variable {H : Type} {enc : TypeId × Value → H} {w : World} {base : Nat} {held : Bool}
theorem cells?_inv {a : Addr} {n : Nat} {cs : List Value} (h : w.cells? base a n = some cs) : cs.length = n ∧ ∀ f, f < n → w.cell? (a.add f) = cs[f]? := by
  unfold World.cells? at h
  split at h
  · refine ⟨by simpa using mapM_some_length h, fun f hf => ?_⟩
    exact mapM_some_get h f f (by simp [hf])
  · cases h
theorem open_image {fuel : Nat} {cs : List Value} {y : DataW H × List MemPlace} (h : DataW.trod enc Try.prog w base (fun _ => true) held fuel 24 cs = some y) :
    ∃ (m : Im) (A : Option Addr) (n c : Nat), cs = [.int .i64 m.w, .int .i64 m.h, .int .i64 m.c, .slice A n c] ∧ Rep noN w NoO (.roi .u8 m.p) (.slice A n c) := by
  obtain ⟨xs, n0, _, hx, hlen, hxl, hg⟩ := DataW.trod_struct Try.underlying24 h
  have hl : cs.length = 4 := hlen.trans (by kernel_rfl)
  obtain ⟨c0, c1, c2, c3, rfl⟩ := list4 hl
  obtain ⟨x0, x1, x2, x3, rfl⟩ := list4 (show xs.length = 4 from hxl)
  have e3 : Try.prog.cellsOf 3 = 1 := by kernel_rfl
  have e22 : Try.prog.cellsOf 22 = 1 := by kernel_rfl
  have k0 : DataW.trod enc Try.prog w base (fun _ => true) held n0 3 [c0] = some x0 := by have := hg 0 _ rfl; simpa [e3] using this
  have k1 : DataW.trod enc Try.prog w base (fun _ => true) held n0 3 [c1] = some x1 := by have := hg 1 _ rfl; simpa [e3] using this
  have k2 : DataW.trod enc Try.prog w base (fun _ => true) held n0 3 [c2] = some x2 := by have := hg 2 _ rfl; simpa [e3] using this
  have k3 : DataW.trod enc Try.prog w base (fun _ => true) held n0 22 [c3] = some x3 := by have := hg 3 _ rfl; simpa [e22] using this
  obtain ⟨m0, f0, _, _⟩ := DataW.trod_int Try.underlying3 k0
  obtain ⟨m1, f1, _, _⟩ := DataW.trod_int Try.underlying3 k1
  obtain ⟨m2, f2, _, _⟩ := DataW.trod_int Try.underlying3 k2
  obtain ⟨A, n, c, p, f3, g1, g2, g3, g4⟩ := sl_of Try.underlying22 Try.underlying5 (by kernel_rfl) k3
  simp only [List.cons.injEq, and_true] at f0 f1 f2
  subst f0; subst f1; subst f2; subst f3
  exact ⟨⟨m0, m1, m2, p⟩, A, n, c, rfl, rep_slz g1 g2 g3 g4⟩
theorem im_rep {m : Im} {A : Option Addr} {n c : Nat} (h : Rep noN w NoO (.roi .u8 m.p) (.slice A n c)) : Rep noN w NoO m.av (.agg #[.int .i64 m.w, .int .i64 m.h, .int .i64 m.c, .slice A n c]) :=
  rep_fields (crel_cons (.int _ _) (crel_cons (.int _ _) (crel_cons (.int _ _) (crel_cons h crel_nil))))
/-- A slice of images. -/
theorem open_images {fuel : Nat} {t : TypeId} {v : Value} {y : DataW H × List MemPlace} (ht : Try.prog.underlying t = some (.slice 24)) (h : DataW.trod enc Try.prog w base (fun _ => true) held fuel t [v] = some y) :
    ∃ (A : Option Addr) (n c : Nat) (L : List Im), v = .slice A n c ∧ L.length = n ∧ (Adr w A n c → Rep noN w NoO (imsA L) (.slice A n c)) := by
  rcases DataW.trod_slice ht h with ⟨hcs, _⟩ | ⟨a, len, cap, elems, rest, n0, _, hcs, _, hb, hl, hm, hlen, hel, _, _⟩
  · simp at hcs
    subst hcs
    exact ⟨none, 0, 0, [], rfl, rfl, fun _ => .ronil _ _⟩
  · simp at hcs
    subst hcs
    have e4 : Try.prog.cellsOf 24 = 4 := by kernel_rfl
    have each : ∀ i, i < len → ∃ (m : Im) (A : Option Addr) (n c : Nat), (∀ f, f < 4 → w.cell? ((a.add (i * 4)).add f) = ([.int .i64 m.w, .int .i64 m.h, .int .i64 m.c, .slice A n c] : List Value)[f]?) ∧ Rep noN w NoO (.roi .u8 m.p) (.slice A n c) := by
      intro i hi
      have h1 := hel i hi
      rw [e4] at h1
      have hlt : i < elems.length := by omega
      rw [List.getElem?_eq_getElem hlt] at h1
      obtain ⟨cs, hcs, htr⟩ := Option.bind_eq_some_iff.1 h1
      obtain ⟨hlen4, hcell⟩ := cells?_inv hcs
      obtain ⟨m, A, n, c, rfl, hr⟩ := open_image htr
      exact ⟨m, A, n, c, hcell, hr⟩
    have each2 : ∀ i : Nat, ∃ (m : Im) (v : Value), i < len → (∀ f, f < 4 → w.cell? ((a.add (i * 4)).add f) = v.cells[f]?) ∧ v.cells.size = 4 ∧ Rep noN w NoO m.av v := by
      intro i
      by_cases hi : i < len
      · obtain ⟨m, A, n, c, h1, h2⟩ := each i hi
        exact ⟨m, .agg #[.int .i64 m.w, .int .i64 m.h, .int .i64 m.c, .slice A n c], fun _ => ⟨fun f hf => (h1 f hf).trans (by simp [Value.cells]), rfl, im_rep h2⟩⟩
      · exact ⟨Im.z, undef, fun h => absurd h hi⟩
    have ⟨fm, hfm⟩ := Classical.axiomOfChoice each2
    have ⟨fv, hfv⟩ := Classical.axiomOfChoice hfm
    refine ⟨some a, len, cap, (List.range len).map fm, rfl, by simp, fun hadr => ?_⟩
    rcases hadr with ⟨h0, _, _⟩ | ⟨b, o, he, hbk⟩
    · cases h0
    · cases he
      have hll : ((List.range len).map fm).length = len := by simp
      have := Rep.ro (R := noN) (w := w) (O := NoO) 4 ((List.range len).map fm).length (fun j => (((List.range len).map fm).getD j Im.z).av) b o cap fv (by omega) hm (fun h => h) hbk
        (fun j hj f hf => by
          have hk := (hfv j (by omega)).1 f hf
          rw [Addr.add_mid, Addr.add_mid] at hk
          exact hk) (fun j hj => (hfv j (by omega)).2.1)
        (fun j hj => by
          have hj' : j < len := by omega
          have : ((List.range len).map fm).getD j Im.z = fm j := by simp [List.getD, hj']
          rw [this]; exact (hfv j hj').2.2)
      rw [hll] at this
      unfold imsA
      rw [hll]
      exact this
end
end Go.Proofs.Ytdiflkabpjnncaa
