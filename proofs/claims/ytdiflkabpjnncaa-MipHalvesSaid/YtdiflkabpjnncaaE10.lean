
/- The engine, part 10: frames and heaps renamed; loops, code, functions: sound. No condition. -/
import Derived.Test.YtdiflkabpjnncaaE9e
import Derived.Deep.LoopGhost
namespace Go.Proofs.Ytdiflkabpjnncaa
open Go Go.RowKit
set_option linter.unusedVariables false
set_option linter.unusedSimpArgs false

section
variable {P : Program} {C : Ctx} {R : PN} {w : World} {F Ob : Nat → Prop} {W0 : World} {A : PN} {H H' : AH} {dz : List Deferred} {n : Nat} {O : Nat → Prop} {σ : Names}

/-- The blocks of the new names. -/
def reN (σ : Names) (R : PN) : PN := ⟨fun i => (σ[i]?).map fun o => match o with | some j => (R[j]?).getD none | none => none⟩
theorem reN_get (σ : Names) (R : PN) (i : Nat) : (reN σ R)[i]? = (σ[i]?).map fun o => match o with | some j => (R[j]?).getD none | none => none := rfl

theorem reN_some {i j : Nat} {x : Option Nat} (h : σ[i]? = some (some j)) (hR : R[j]? = some x) : (reN σ R)[i]? = some x := by simp [reN_get, h, hR]
theorem reN_none {i : Nat} (h : σ[i]? = some none) : (reN σ R)[i]? = some none := by simp [reN_get, h]
theorem reN_inv {i b : Nat} (h : (reN σ R)[i]? = some (some b)) : ∃ j, σ[i]? = some (some j) ∧ R[j]? = some (some b) := by
  simp only [reN_get, Option.map_eq_some_iff] at h
  obtain ⟨o, ho, he⟩ := h
  cases o with
  | none => simp at he
  | some j =>
    refine ⟨j, ho, ?_⟩
    simp only at he
    cases hR : R[j]? with
    | none => simp [hR] at he
    | some x => simp [hR] at he; rw [he]

theorem bif_true {c : Bool} {p : Prop} (h : bif c then p else False) : c = true ∧ p := by cases c; exact h.elim; exact ⟨rfl, h⟩

theorem mat0_rep {x y : AV} {v : Value} (h : mat0 σ x y) (hx : Rep R w O x v) : Rep (reN σ R) w O y v := by
  unfold mat0 at h
  split at h
  · obtain ⟨h1, h2⟩ := bif_true h
    have := beqK_eq h1
    subst this; subst h2
    cases hx; exact .int _ _
  · subst h; cases hx; exact .bool _
  · subst h; cases hx; exact .bool _
  · subst h; cases hx; exact .bool _
  · cases hx; exact .tru
  · cases hx; exact .fls
  · subst h; cases hx; exact .str _
  · cases hx; exact .nilp
  · cases hx; exact .nils
  · cases hx; exact .nilfn
  · split at h
    · rename_i j' hs
      obtain ⟨h1, h2⟩ := bif_true h
      have := beq_iff.1 h1
      subst this; subst h2
      cases hx with | ptr _ _ b hR => exact .ptr _ _ _ (reN_some hs hR)
    · exact h.elim
  · split at h
    · rename_i j' hs
      obtain ⟨h1, h2, h3⟩ := bif_true h
      rw [Bool.and_eq_true] at h1
      have e1 := beq_iff.1 h1.1
      have e2 := beq_iff.1 h1.2
      subst e1; subst e2; subst h2; subst h3
      cases hx with
      | slnil _ _ _ hR => exact .slnil _ _ _ (reN_some hs hR)
      | sl _ _ _ _ b c off s hR hn hc ho hss hl => exact .sl _ _ _ _ b c off s (reN_some hs hR) hn hc ho hss hl
    · exact h.elim
  · split at h
    · rename_i hs
      subst h
      cases hx
      exact .slnil _ _ _ (reN_none hs)
    · exact h.elim
  · split at h
    · rename_i j' hs
      obtain ⟨h1, h2, h3⟩ := bif_true h
      rw [Bool.and_eq_true] at h1
      have e1 := beq_iff.1 h1.1
      have e2 := beq_iff.1 h1.2
      subst e1; subst e2; subst h2; subst h3
      cases hx with | eptr _ _ _ _ b hR => exact .eptr _ _ _ _ _ (reN_some hs hR)
    · exact h.elim
  · obtain ⟨h1, h2, h3⟩ := bif_true h
    have := beq_iff.1 h1
    subst this; subst h2
    cases hx with
    | ronil => exact .ronil _ _
    | roz _ _ _ _ hc => exact .roz _ _ _ _ hc
    | ro _ _ _ b off c vals hn hc hO hb hcell hsz hv => exact .ro _ _ _ b off c vals hn hc hO hb hcell hsz fun j hj => by rw [← h3 j hj]; exact hv j hj
  · subst h
    cases hx
    exact .ronil _ _
  · obtain ⟨h1, h2⟩ := bif_true h
    have := beqK_eq h1
    subst this; subst h2
    cases hx with
    | roinil => exact .roinil _
    | roiz _ _ _ hc => exact .roiz _ _ _ hc
    | roi _ _ b off c hn hc hO hb hcell => exact .roi _ _ b off c hn hc hO hb hcell
  · subst h
    cases hx
    exact .roinil _
  · subst h
    cases hx with | rop _ b off v hO hb hcell hv => exact .rop _ b off v hO hb hcell hv
  · subst h
    cases hx
    exact .val _
  · obtain ⟨h1, _⟩ := bif_true h
    rw [Bool.and_eq_true] at h1
    have e1 := beq_iff.1 h1.1
    have e2 := beq_iff.1 h1.2
    subst e1; subst e2
    cases hx with | fn _ _ _ vs hl hv => exact .fn _ _ _ vs hl (fun j x v hj => by simp at hj)
  · exact .any _
  · exact h.elim

theorem matL_rel {f : AV → AV → Prop} (hf : ∀ x y v, f x y → Rep R w O x v → Rep (reN σ R) w O y v) : ∀ {l m : List AV} {vs : List Value}, matL f l m → CRel R w O l vs → CRel (reN σ R) w O m vs
  | [], [], vs, _, hc => ⟨hc.1, by simp⟩
  | [], y :: m, vs, h, hc => False.elim h
  | x :: l, [], vs, h, hc => False.elim h
  | x :: l, y :: m, [], h, hc => by have := hc.1; simp at this
  | x :: l, y :: m, v :: vs, h, hc => by
    have h' : f x y ∧ matL f l m := by
      cases l with
      | nil => cases m with
        | nil => exact ⟨h, trivial⟩
        | cons y2 m => exact h
      | cons x2 l => exact h
    have ih := matL_rel hf (vs := vs) h'.2 ⟨by have := hc.1; simpa using this, fun j a b ha hb => hc.2 (j + 1) a b (by simpa using ha) (by simpa using hb)⟩
    refine ⟨by simpa using ih.1, fun j a b ha hb => ?_⟩
    cases j with
    | zero => simp at ha hb; subst ha; subst hb; exact hf _ _ _ h'.1 (hc.2 0 x v rfl rfl)
    | succ j => exact ih.2 j a b (by simpa using ha) (by simpa using hb)

theorem matL0_rel {l m : List AV} {vs : List Value} (h : matL0 σ l m) (hc : CRel R w O l vs) : CRel (reN σ R) w O m vs := matL_rel (fun _ _ _ h k => mat0_rep h k) h hc

theorem rep_fn {f : FuncId} {k : Nat} {l : List AV} {v : Value} (h : Rep R w O (.fn f k l) v) : ∃ vs : List Value, v = .func (.func f) (vs.take k).toArray (vs.drop k).toArray ∧ CRel R w O l vs := by
  cases h with | fn _ _ _ vs hl hc => exact ⟨vs, rfl, hl, hc⟩
theorem matA_rep {x y : AV} {v : Value} (h : matA σ x y) (hx : Rep R w O x v) : Rep (reN σ R) w O y v := by
  unfold matA at h
  split at h
  · obtain ⟨vs, rfl, hc⟩ := rep_agg hx
    exact (matL0_rel h hc).rep
  · exact mat0_rep h hx

theorem mat1_rep {x y : AV} {v : Value} (h : mat1 σ x y) (hx : Rep R w O x v) : Rep (reN σ R) w O y v := by
  unfold mat1 at h
  split at h
  · obtain ⟨vs, rfl, hc⟩ := rep_agg hx
    exact (matL0_rel h hc).rep
  · obtain ⟨h1, h2⟩ := bif_true h
    rw [Bool.and_eq_true] at h1
    have e1 := beq_iff.1 h1.1
    have e2 := beq_iff.1 h1.2
    subst e1
    subst e2
    obtain ⟨vs, rfl, hc⟩ := rep_fn hx
    have := matL_rel (fun _ _ _ h k => matA_rep h k) h2 hc
    exact .fn _ _ _ vs this.1 this.2
  · obtain ⟨h1, h2⟩ := bif_true h
    have e1 := beq_iff.1 h1
    subst e1
    cases hx with
    | ifc _ _ vs hl hc =>
      have := matL_rel (fun _ _ _ h k => matA_rep h k) h2 ⟨hl, hc⟩
      exact .ifc _ _ vs this.1 this.2
  · exact mat0_rep h hx

theorem matL1_rel {l m : List AV} {vs : List Value} (h : matL1 σ l m) (hc : CRel R w O l vs) : CRel (reN σ R) w O m vs := matL_rel (fun _ _ _ h k => mat1_rep h k) h hc

theorem mat_rep {x y : AV} {v : Value} (h : mat σ x y) (hx : Rep R w O x v) : Rep (reN σ R) w O y v := by
  unfold mat at h
  split at h
  · obtain ⟨vs, rfl, hc⟩ := rep_tup hx
    have := matL1_rel h hc
    exact .tup _ vs this.1 this.2
  · exact mat1_rep h hx

theorem nodupN_inj : ∀ {σ : Names}, nodupN σ = true → ∀ {i i' j : Nat}, σ[i]? = some (some j) → σ[i']? = some (some j) → i = i'
  | [], _, i, i', j, h, _ => by simp at h
  | none :: r, hn, i, i', j, h1, h2 => by
    cases i with
    | zero => simp at h1
    | succ i => cases i' with
      | zero => simp at h2
      | succ i' => exact congrArg (· + 1) (nodupN_inj (σ := r) hn (by simpa using h1) (by simpa using h2))
  | some k :: r, hn, i, i', j, h1, h2 => by
    simp only [nodupN, Bool.and_eq_true, Bool.not_eq_true', List.any_eq_false] at hn
    have no : ∀ i : Nat, r[i]? ≠ some (some k) := fun i hi => by
      have := hn.1 (some k) (List.mem_of_getElem? hi)
      simp at this
    cases i with
    | zero =>
      simp at h1
      subst h1
      cases i' with
      | zero => rfl
      | succ i' => exact absurd (by simpa using h2) (no i')
    | succ i => cases i' with
      | zero =>
        simp at h2
        subst h2
        exact absurd (by simpa using h1) (no i)
      | succ i' => exact congrArg (· + 1) (nodupN_inj (σ := r) hn.2 (by simpa using h1) (by simpa using h2))

theorem fixN_get : ∀ {p : Nat}, fixN σ p = true → ∀ {i : Nat}, i < p → σ[i]? = some (some i)
  | 0, _, i, hi => by omega
  | p + 1, h, i, hi => by
    simp only [fixN, Bool.and_eq_true] at h
    by_cases hip : i = p
    · subst hip
      have h1 := h.1
      split at h1
      · rename_i j hj
        rw [hj, beq_iff.1 h1]
      · cases h1
    · exact fixN_get h.2 (by omega)

theorem leE_get {e : Env} : ∀ {e' : Env}, leE σ e e' → ∀ {t : Nat} {y : AV}, lk e' t = some y → ∃ x, lk e t = some x ∧ mat σ x y
  | [], _, t, y, h => by simp [lk] at h
  | (s, v) :: r, hl, t, y, h => by
    rw [lk_cons] at h
    split at h
    · rename_i hst
      subst hst
      cases h
      have h1 := hl.1
      split at h1
      · rename_i x hx
        exact ⟨x, hx, h1⟩
      · exact h1.elim
    · exact leE_get hl.2 h

theorem leH_get : ∀ {es : List (Nat × Option Ent)}, leH σ H es → ∀ {i : Nat} {y : Ent}, geth es i = some y →
    (∃ j x, σ[i]? = some (some j) ∧ H.get j = some x ∧ matE σ x y) ∨ (σ[i]? = some none ∧ nilE y)
  | [], _, i, y, h => by simp [geth] at h
  | (s, none) :: r, hl, i, y, h => by
    unfold geth at h
    cases hb : Nat.beq s i
    · rw [hb] at h; exact leH_get (es := r) hl h
    · rw [hb] at h; cases h
  | (s, some en) :: r, hl, i, y, h => by
    unfold geth at h
    cases hb : Nat.beq s i
    · rw [hb] at h; exact leH_get (es := r) hl.2 h
    · rw [hb] at h
      cases h
      have := beq_iff.1 hb
      subst this
      have h1 := hl.1
      split at h1
      · rename_i j hs
        split at h1
        · rename_i x hx
          exact .inl ⟨j, x, hs, hx, h1⟩
        · exact h1.elim
      · rename_i hs
        exact .inr ⟨hs, h1⟩
      · exact h1.elim

theorem matE_holds {x y : Ent} {b : Option Nat} {O' : Nat → Prop} (h : matE σ x y) (hx : x.holds R w O b) (hO : ∀ b, b < w.heap.size → O' b → O b) : y.holds (reN σ R) w O' b := by
  have hx0 : Ext O w w := Ext.refl _ _
  unfold matE at h
  split at h
  · obtain ⟨h1, h2⟩ := bif_true h
    have := beq_iff.1 h1
    subst this
    cases b with
    | none => exact hx.elim
    | some b =>
      obtain ⟨vs, fr, g1, g2, g3, g4⟩ := hx
      have hc := matL1_rel h2 (R := R) (w := w) (O := O) ⟨g3, fun j x v hx hv => (g4 j x v hx hv).2⟩
      refine ⟨vs, fr, g1, g2, hc.1, fun j x v hj hv => ⟨?_, (hc.2 j x v hj hv).mono (fun _ _ k => k) hx0 hO⟩⟩
      have hlt : j < vs.length := (List.getElem?_eq_some_iff.1 hv).1
      exact (g4 j _ v (List.getElem?_eq_getElem (by omega)) hv).1
  · obtain ⟨h1, h2⟩ := bif_true h
    rw [Bool.and_eq_true] at h1
    have e1 := beq_iff.1 h1.1
    have e2 := beqK_eq h1.2
    subst e1; subst e2; subst h2
    cases b with
    | none => exact hx
    | some b => exact hx
  · obtain ⟨h1, h2, h3⟩ := bif_true h
    rw [Bool.and_eq_true] at h1
    have e1 := beq_iff.1 h1.1
    have e2 := beq_iff.1 h1.2
    subst e1; subst e2; subst h2
    cases b with
    | none => exact hx
    | some b =>
      obtain ⟨vs, fr, vals, g1, g2, g3, g4, g5⟩ := hx
      exact ⟨vs, fr, vals, g1, g2, g3, fun j hj => ⟨(g4 j hj).1, by rw [← h3 j hj]; exact (g4 j hj).2.mono (fun _ _ k => k) hx0 hO⟩, g5⟩
  · obtain ⟨h1, ⟨h2, h3⟩, h4⟩ := bif_true h
    rw [Bool.and_eq_true, Bool.and_eq_true] at h1
    have e1 := beq_iff.1 h1.1
    have e2 := beq_iff.1 h1.2.1
    have e3 := beq_iff.1 h1.2.2
    subst e1; subst e2; subst e3; subst h2
    cases b with
    | none => exact hx
    | some b =>
      obtain ⟨vs, fr, vals, g1, g2, g3, ⟨g4, g5⟩, g6, g7, v, g8, g9⟩ := hx
      exact ⟨vs, fr, vals, g1, g2, g3, ⟨fun j hj => ⟨(g4 j hj).1, by rw [← h3 j hj]; exact (g4 j hj).2.mono (fun _ _ k => k) hx0 hO⟩, g5⟩, g6, g7, v, g8, (mat0_rep h4 g9).mono (fun _ _ k => k) hx0 hO⟩
  · exact h.elim

theorem nilE_holds {y : Ent} (h : nilE y) (R : PN) (w : World) (O : Nat → Prop) : y.holds R w O none := by
  cases y <;> exact h

theorem delN_get : ∀ (l : List Nat) (H : AH) (j : Nat) (e : Ent), (delN H l).get j = some e → H.get j = some e ∧ j ∉ l
  | [], H, j, e, h => ⟨h, by simp⟩
  | i :: r, H, j, e, h => by
    obtain ⟨h1, h2⟩ := delN_get r (H.del i) j e h
    rw [get_del] at h1
    split at h1
    · cases h1
    · rename_i hne
      exact ⟨h1, by simp only [List.mem_cons, not_or]; exact ⟨fun k => hne k.symm, h2⟩⟩
theorem delN_nx : ∀ (l : List Nat) (H : AH), (delN H l).nx = H.nx
  | [], H => rfl
  | i :: r, H => delN_nx r (H.del i)
theorem frz_rep {H1 : AH} (hH : HRel F Ob W0 R H w) (hsub : ∀ j e, H1.get j = some e → H.get j = some e) {x : AV} {v : Value} (hx : Rep R w (Wr F R H) x v) (hgone : ∀ i ∈ nms0 x, H1.get i = none) {obs : List Prop} {r : AV} (h : view0 H x = some (obs, r)) (ho : ∀ p ∈ obs, p) : Rep noN w (Wr F R H1) r v := by
  have wr : ∀ g, Wr F R H1 g → Wr F R H g := fun g k => k.imp id fun ⟨i, e, h1, h2⟩ => ⟨i, e, hsub i e h1, h2⟩
  have nwr : ∀ {i b : Nat} {e : Ent}, H.get i = some e → R[i]? = some (some b) → H1.get i = none → ¬ Wr F R H1 b := by
    intro i b e hi hR hg hb
    rcases hb with hb | ⟨j, e', hj, hRj⟩
    · exact hH.nf hi hR hb
    · have := hH.dis i j _ _ b hi (hsub j e' hj) hR hRj
      subst this
      rw [hg] at hj; cases hj
  unfold view0 at h
  split at h
  · rename_i i sz o n
    have hg := hgone i (by simp [nms0])
    split at h
    · rename_i el k l hi
      replace h := bif_some h; obtain ⟨hb, h⟩ := h
      have := beq_iff.1 hb
      subst this
      simp only [Option.some.injEq, Prod.mk.injEq] at h
      obtain ⟨rfl, rfl⟩ := h
      have hle : o + n ≤ l.length := ho _ (by simp)
      cases hx with
      | slnil _ _ _ hR => simpa using Rep.roinil (R := noN) (w := w) (O := Wr F R H1) k
      | sl _ _ _ _ b c off sh hR hn hc hof hss hl =>
        obtain ⟨vs, fr, g1, g2, g3, g4⟩ := ent_ints hH hi hR
        have hlen : ((l.drop o).take n).length = n := by simp; omega
        have := Rep.roi (R := noN) (w := w) (O := Wr F R H1) k ((l.drop o).take n) b off c (by omega) hc (nwr hi hR hg) (shape_lt hss) (fun j x hj => by
          have hj1 : j < n := by have := (List.getElem?_eq_some_iff.1 hj).1; omega
          have := hof (by omega)
          subst this
          rw [cell_of_heap g1, Nat.mul_one]
          rw [List.getElem?_take_of_lt hj1, List.getElem?_drop] at hj
          exact g4 _ x hj)
        rw [hlen] at this
        exact this
    · rename_i el sz' m get hi
      replace h := bif_some h; obtain ⟨hb, h⟩ := h
      have := beq_iff.1 hb
      subst this
      simp only [Option.some.injEq, Prod.mk.injEq] at h
      obtain ⟨rfl, rfl⟩ := h
      have hle : o + n ≤ m := ho _ (by simp)
      cases hx with
      | slnil _ _ _ hR => exact .ronil _ _
      | sl _ _ _ _ b c off sh hR hn hc hof hss hl =>
        obtain ⟨vs, fr, vals, g1, g2, g3, g4, g5⟩ := ent_recs hH hi hR
        refine .ro _ _ _ b off c (fun j => vals (o + j)) hn hc (nwr hi hR hg) (shape_lt hss) (fun j hj f hf => ?_) (fun j hj => (g4 _ (by omega)).1) (fun j hj => ((g4 _ (by omega)).2).mono (fun _ _ k => k) (Ext.refl (Wr F R H) _) (fun b _ k => wr b k))
        have := hof (by omega)
        subst this
        obtain ⟨u, h1, h2, _⟩ := g5 (o + j) (by omega) f hf
        rw [cell_of_heap g1, h2, ← h1, Nat.add_mul]
    · cases h
  all_goals first
    | (simp only [Option.some.injEq, Prod.mk.injEq] at h; obtain ⟨rfl, rfl⟩ := h; exact (nl0_rep hx rfl noN).mono (fun _ _ k => k) (Ext.refl (Wr F R H) _) (fun b _ k => wr b k))
    | (simp only [Option.some.injEq, Prod.mk.injEq] at h; obtain ⟨rfl, rfl⟩ := h; cases hx with | fn _ _ _ vs hl hv => exact .fn _ _ _ vs hl (fun j x v hj => by simp at hj))
    | (simp only [Option.some.injEq, Prod.mk.injEq] at h; obtain ⟨rfl, rfl⟩ := h; exact .any _)
    | (simp only [Option.some.injEq, Prod.mk.injEq] at h; obtain ⟨rfl, rfl⟩ := h; cases hx; exact .val _)
    | cases h
theorem mem_nmsC : ∀ {l : List AV} {x : AV}, x ∈ l → ∀ i ∈ nms0 x, i ∈ nmsC l
  | y :: l, x, h, i, hi => by
    unfold nmsC
    rcases List.mem_cons.1 h with rfl | h
    · exact List.mem_append_left _ hi
    · exact List.mem_append_right _ (mem_nmsC h i hi)
theorem frzC_rep {H1 : AH} (hH : HRel F Ob W0 R H w) (hsub : ∀ j e, H1.get j = some e → H.get j = some e) : ∀ {l : List AV} {vs : List Value} {obs : List Prop} {r : List AV}, CRel R w (Wr F R H) l vs → (∀ x ∈ l, ∀ i ∈ nms0 x, H1.get i = none) → viewL H l = some (obs, r) → (∀ p ∈ obs, p) → CRel noN w (Wr F R H1) r vs
  | [], vs, obs, r, hc, hg, h, ho => by
    simp [viewL] at h
    obtain ⟨rfl, rfl⟩ := h
    exact ⟨hc.1, by simp⟩
  | x :: l, [], obs, r, hc, hg, h, ho => by have := hc.1; simp at this
  | x :: l, v :: vs, obs, r, hc, hg, h, ho => by
    unfold viewL at h
    split at h
    · rename_i p y q r' h1 h2
      simp only [Option.some.injEq, Prod.mk.injEq] at h
      obtain ⟨rfl, rfl⟩ := h
      have e1 := frz_rep hH hsub (hc.2 0 x v rfl rfl) (hg x List.mem_cons_self) h1 (fun p hp => ho p (by simp [hp]))
      have e2 := frzC_rep hH hsub (vs := vs) ⟨by have := hc.1; simpa using this, fun j a b ha hb => hc.2 (j + 1) a b (by simpa using ha) (by simpa using hb)⟩ (fun x hx => hg x (List.mem_cons_of_mem _ hx)) h2 (fun p hp => ho p (by simp [hp]))
      refine ⟨by simp [e2.1], fun j a b ha hb => ?_⟩
      cases j with
      | zero => simp at ha hb; subst ha; subst hb; exact e1
      | succ j => exact e2.2 j a b (by simpa using ha) (by simpa using hb)
    · cases h
theorem frzF_rep {H1 : AH} (hH : HRel F Ob W0 R H w) (hsub : ∀ j e, H1.get j = some e → H.get j = some e) {x : AV} {v : Value} (hx : Rep R w (Wr F R H) x v) (hgone : ∀ i ∈ nmsF H x, H1.get i = none) {obs : List Prop} {r : AV} (h : viewF H x = some (obs, r)) (ho : ∀ p ∈ obs, p) : Rep noN w (Wr F R H1) r v := by
  have nwr : ∀ {i b : Nat} {e : Ent}, H.get i = some e → R[i]? = some (some b) → H1.get i = none → ¬ Wr F R H1 b := by
    intro i b e hi hR hg hb
    rcases hb with hb | ⟨j, e', hj, hRj⟩
    · exact hH.nf hi hR hb
    · have := hH.dis i j _ _ b hi (hsub j e' hj) hR hRj
      subst this
      rw [hg] at hj; cases hj
  unfold viewF at h
  split at h
  · rename_i i
    cases hx with | ptr _ _ b hR =>
    split at h
    · rename_i t l hg
      have hgo : ∀ j ∈ i :: nmsC l, H1.get j = none := by
        have : nmsF H (.ptr i 0) = i :: nmsC l := by show i :: (match H.get i with | some (.cells _ l) => nmsC l | _ => []) = _; rw [hg]
        rw [this] at hgone; exact hgone
      obtain ⟨vs, fr, g1, g2, g3, g4⟩ := ent_cells hH hg hR
      split at h
      · rename_i p r' h1
        simp only [Option.some.injEq, Prod.mk.injEq] at h
        obtain ⟨rfl, rfl⟩ := h
        refine .rop _ b 0 (.agg vs.toArray) (nwr hg hR (hgo i List.mem_cons_self)) (Array.getElem?_eq_some_iff.1 g1).1 (fun f hf => ?_) (frzC_rep hH hsub g3 (fun x hx j hj => hgo j (List.mem_cons_of_mem _ (mem_nmsC hx j hj))) h1 ho).rep
        rw [Nat.zero_add, cell_of_heap g1]
        simp [Value.cells]
      · cases h
    · cases h
  · rename_i hne
    exact frz_rep hH hsub hx (by
      have : nmsF H x = nms0 x := by
        unfold nmsF
        split
        · exact absurd rfl (hne _)
        · rfl
      rw [this] at hgone; exact hgone) h ho
theorem HRel.sub {H1 : AH} (hH : HRel F Ob W0 R H w) (hn : H1.nx = H.nx) (hsub : ∀ i e, H1.get i = some e → H.get i = some e) : HRel F Ob W0 R H1 w :=
  have wr : ∀ g, Wr F R H1 g → Wr F R H g := fun g k => k.imp id fun ⟨i, e, h1, h2⟩ => ⟨i, e, hsub i e h1, h2⟩
  ⟨fun i hi => hH.len i (by omega), hH.ext, hH.fb, fun b ⟨i, e, h1, h2⟩ => hH.own b ⟨i, e, hsub i e h1, h2⟩, fun i e hi => by
    obtain ⟨b, h1, h2⟩ := hH.ent i e (hsub i e hi)
    exact ⟨b, h1, Ent.holds_mono h2 (fun _ _ k => k) (Ext.refl _ _) (fun b _ k => wr b k) fun _ _ => rfl⟩, fun i j e e' b hi hj => hH.dis i j e e' b (hsub _ _ hi) (hsub _ _ hj)⟩
theorem frzGo_sound {K : Env → AH → Prop} : ∀ (ts : List Nat) {e : Env} {H : AH} {a : Act}, frzGo ts e H K → St F Ob W0 A dz n e H a w → ∃ e' H', K e' H' ∧ St F Ob W0 A dz n e' H' a w
  | [], e, H, a, h, hS => ⟨e, H, h, hS⟩
  | t :: ts, e, H, a, h, hS => by
    have h : (match lk e t with
      | some v => (match viewF H v with
        | some (q, r) => obl q (frzGo ts ((t, r) :: e) (delN H (nmsF H v)) K)
        | none => False)
      | none => False) := h
    split at h
    · rename_i v hv
      split at h
      · rename_i q r hr
        obtain ⟨ho, h⟩ := obl_inv h
        obtain ⟨R, hA, g1, g2, g3, g4⟩ := hS
        have hsub : ∀ i e, (delN H (nmsF H v)).get i = some e → H.get i = some e := fun i e h => (delN_get _ _ _ _ h).1
        have d1 := g1.sub (delN_nx (nmsF H v) H) hsub
        have d2 : ∀ g, Wr F R (delN H (nmsF H v)) g → Wr F R H g := fun g k => k.imp id fun ⟨i, e, h1, h2⟩ => ⟨i, e, hsub i e h1, h2⟩
        obtain ⟨t1, t2⟩ := g2 t v hv
        have t3 := frzF_rep g1 (fun j e h => (delN_get _ _ _ _ h).1) t2 (fun i hi => by
          cases hg : (delN H (nmsF H v)).get i with
          | none => rfl
          | some e => exact absurd hi (delN_get _ _ _ _ hg).2) hr ho
        refine frzGo_sound ts h ⟨R, hA, d1, fun s x hs => ?_, g3, g4⟩
        have hs : (bif Nat.beq t s then some r else lk e s) = some x := hs
        cases hb : Nat.beq t s with
        | true =>
          rw [hb] at hs
          cases hs
          have := beq_iff.1 hb
          subst this
          exact ⟨t1, t3.mono noN_mono (Ext.refl (Wr F R (delN H (nmsF H v))) _) fun _ _ k => k⟩
        | false =>
          rw [hb] at hs
          obtain ⟨s1, s2⟩ := g2 s x hs
          exact ⟨s1, s2.mono (fun _ _ k => k) (Ext.refl (Wr F R H) _) fun b _ k => d2 b k⟩
      · exact h.elim
    · exact h.elim


theorem Le.sound {p : Nat} (hp : ∀ (i : Nat) (x : Option Nat), A[i]? = some x → i < p) {e e' : Env} {a : Act} (h : Le p σ e H e' H') (hS : St F Ob W0 A dz n e H a w) : St F Ob W0 A dz n e' H' a w := by
  obtain ⟨⟨h1⟩, hE, hH⟩ := h
  obtain ⟨R, hA, g1, g2, g3, g4⟩ := hS
  simp only [Bool.and_eq_true] at h1
  obtain ⟨⟨h1, h2⟩, h3⟩ := h1
  have own : ∀ b, Own (reN σ R) H' b → Own R H b := by
    rintro b ⟨i, y, hi, hR⟩
    obtain ⟨j, hj, hRj⟩ := reN_inv hR
    rcases leH_get hH hi with ⟨j', x, hs, hx, _⟩ | ⟨hs, _⟩
    · rw [hj] at hs
      cases hs
      exact ⟨j, x, hx, hRj⟩
    · rw [hj] at hs; cases hs
  have wr : ∀ b, Wr F (reN σ R) H' b → Wr F R H b := fun b hb => hb.imp id (own b)
  refine .mk (reN σ R) (fun i x hx => ?_) ⟨?_, g1.ext, g1.fb, fun b hb => g1.own b (own b hb), fun i y hi => ?_, fun i i' y y' b hi hi' hb hb' => ?_⟩ (fun t y hy => ?_) g3 g4
  · exact reN_some (fixN_get h3 (hp i x hx)) (hA i x hx)
  · intro i hi
    rw [← beq_iff.1 h1] at hi
    simp [reN_get, hi]
  · rcases leH_get hH hi with ⟨j, x, hs, hx, hm⟩ | ⟨hs, hn⟩
    · obtain ⟨b, hb, hh⟩ := g1.ent j x hx
      exact ⟨b, reN_some hs hb, matE_holds hm hh fun b _ k => wr b k⟩
    · exact ⟨none, reN_none hs, nilE_holds hn _ _ _⟩
  · obtain ⟨j, hj, hRj⟩ := reN_inv hb
    obtain ⟨j', hj', hRj'⟩ := reN_inv hb'
    have h4 : ∀ {i j : Nat} {y : Ent}, H'.get i = some y → σ[i]? = some (some j) → ∃ x, H.get j = some x := by
      intro i j y hi hj
      rcases leH_get hH hi with ⟨k, x, hs, hx, _⟩ | ⟨hs, _⟩
      · rw [hj] at hs; cases hs; exact ⟨x, hx⟩
      · rw [hj] at hs; cases hs
    obtain ⟨x, hx⟩ := h4 hi hj
    obtain ⟨x', hx'⟩ := h4 hi' hj'
    have := g1.dis j j' x x' b hx hx' hRj hRj'
    subst this
    exact nodupN_inj h2 hj hj'
  · obtain ⟨x, hx, hm⟩ := leE_get hE hy
    obtain ⟨k1, k2⟩ := g2 t x hx
    exact ⟨k1, (mat_rep hm k2).mono (fun _ _ k => k) (Ext.refl (Wr F R H) _) fun b _ k => wr b k⟩

theorem vc_sound (hC : COK P C) (hp : ∀ (i : Nat) (x : Option Nat), A[i]? = some x → i < C.p) (hmo : P.follows .mixedOrders = true) : ∀ (c : Code) (K : KK) (Q : Exit → Act → World → Prop),
    (∀ e H a w, K.nor e H → St F Ob W0 A dz n e H a w → Q .normal a w) → (∀ i e H a w, K.ext i e H → St F Ob W0 A dz n e H a w → Q (.exit i) a w) → (∀ e H a w, K.ret e H → St F Ob W0 A dz n e H a w → Q .ret a w) →
    dstB n c = true → ∀ (e : Env) (H : AH) (a : Act) (w : World), vc C c e H K → St F Ob W0 A dz n e H a w → c.wp P Q a w := by
  intro c
  induction c with
  | skip => intro K Q h1 h2 h3 hd e H a w h hS; exact wp_skip (h1 _ _ _ _ h hS)
  | region id ops draw =>
    intro K Q h1 h2 h3 hd e H a w h hS
    obtain ⟨ops⟩ := ops
    have hd' : dstsIn n ops := fun o ho t ht => by
      have hd := List.all_eq_true.1 (show ops.all (fun o => match o.dst with | some t => Nat.blt t n | none => true) = true from hd) o ho
      rw [ht] at hd
      exact Nat.le_of_ble_eq_true hd
    have h1' : ∀ e H a w, cutK C id K.nor e H → St F Ob W0 A dz n e H a w → Q .normal a w := by
      intro e H a w hk hS
      unfold cutK at hk
      split at hk
      · obtain ⟨e', H', σ, hle, hk⟩ := hk
        exact h1 e' H' a w hk (hle.sound hp hS)
      · split at hk
        · obtain ⟨ts, hk⟩ := hk
          obtain ⟨e1, H1, ⟨e', H', σ, hle, hk⟩, hS⟩ := frzGo_sound ts hk hS
          exact h1 e' H' a w hk (hle.sound hp hS)
        · exact h1 e H a w hk hS
    cases draw with
    | false => exact wp_region_list (vcOps_sound hC h1' ops e H a w hd' h hS)
    | true => exact wp_region_any hmo (vcDraw_sound hC hmo h1' hd' h hS)
  | seq x y ihx ihy =>
    intro K Q h1 h2 h3 hd e H a w h hS
    have hd' := Bool.and_eq_true_iff.1 hd
    refine wp_seq (ihx ⟨fun e' H' => vc C y e' H' K, K.ext, K.ret⟩ (Exit.then (y.wp P Q) Q) (fun e' H' a' w' h' hS' => ?_) (fun i e' H' a' w' h' hS' => h2 i e' H' a' w' h' hS') (fun e' H' a' w' h' hS' => h3 e' H' a' w' h' hS') hd'.1 e H a w h hS)
    exact ihy K Q h1 h2 h3 hd'.2 e' H' a' w' h' hS'
  | cond b x y ihx ihy =>
    intro K Q h1 h2 h3 hd e H a w h hS
    have hd' := Bool.and_eq_true_iff.1 hd
    have hS0 := hS
    obtain ⟨R, hA, g1, g2, g3, g4⟩ := hS
    have h : (match evA e b with | some .tru => vc C x e H K | some .fls => vc C y e H K | some (.bool t) => (t = true → vc C x e H K) ∧ (t = false → vc C y e H K) | _ => False) := h
    split at h
    · rename_i hb
      have hr := evA_rep g2 hb
      generalize hv : a.eval b = v at hr
      cases hr
      exact wp_cond_true hv (ihx K Q h1 h2 h3 hd'.1 e H a w h hS0)
    · rename_i hb
      have hr := evA_rep g2 hb
      generalize hv : a.eval b = v at hr
      cases hr
      exact wp_cond_false hv (ihy K Q h1 h2 h3 hd'.2 e H a w h hS0)
    · rename_i t hb
      have hr := evA_rep g2 hb
      generalize hv : a.eval b = v at hr
      cases hr
      exact wp_cond_split hv (fun ht => ihx K Q h1 h2 h3 hd'.1 e H a w (h.1 ht) hS0) (fun ht => ihy K Q h1 h2 h3 hd'.2 e H a w (h.2 ht) hS0)
    · exact h.elim
  | block id x ih =>
    intro K Q h1 h2 h3 hd e H a w h hS
    refine wp_block (ih ⟨K.nor, fun i e' H' => bif Nat.beq i id then K.nor e' H' else K.ext i e' H', K.ret⟩ (Exit.inBlock id Q) (fun e' H' a' w' h' hS' => h1 e' H' a' w' h' hS') (fun i e' H' a' w' h' hS' => ?_) (fun e' H' a' w' h' hS' => h3 e' H' a' w' h' hS') hd e H a w h hS)
    simp only at h'
    simp only [Exit.inBlock]
    cases hb : Nat.beq i id
    · rw [hb] at h'
      have : ¬ i = id := fun e => by rw [beq_iff.2 e] at hb; cases hb
      rw [if_neg this]
      exact h2 i e' H' a' w' h' hS'
    · rw [hb] at h'
      rw [if_pos (beq_iff.1 hb)]
      exact h1 e' H' a' w' h' hS'
  | exit id => intro K Q h1 h2 h3 hd e H a w h hS; exact wp_exit (h2 _ _ _ _ _ h hS)
  | ret => intro K Q h1 h2 h3 hd e H a w h hS; exact wp_ret (h3 _ _ _ _ h hS)
  | loop x ih =>
    intro K Q h1 h2 h3 hd e H a w h hS
    obtain ⟨γ, E, AA, φ, μ, ⟨g, σ, hg, hle⟩, hround⟩ := h
    refine wp_loop_ghost (fun k a w => ∃ g, φ g ∧ μ g = k ∧ St F Ob W0 A dz n (E g) (AA g) a w) (μ g) ⟨g, hg, rfl, Le.sound hp hle hS⟩ ?_
    rintro k a w ⟨g, hg, rfl, hS⟩
    refine ih ⟨fun e' H' => ∃ g' σ, φ g' ∧ μ g' < μ g ∧ Le C.p σ e' H' (E g') (AA g'), K.ext, K.ret⟩ (Exit.then (fun a' w' => ∃ n', n' < μ g ∧ ∃ g, φ g ∧ μ g = n' ∧ St F Ob W0 A dz n (E g) (AA g) a' w') Q) (fun e' H' a' w' h' hS' => ?_) (fun i e' H' a' w' h' hS' => h2 i e' H' a' w' h' hS') (fun e' H' a' w' h' hS' => h3 e' H' a' w' h' hS') hd (E g) (AA g) a w (hround g hg) hS
    obtain ⟨g', σ', hg', hlt, hle'⟩ := h'
    exact ⟨μ g', hlt, g', hg', rfl, Le.sound hp hle' hS'⟩
  | _ => intro K Q h1 h2 h3 hd e H a w h hS; exact h.elim
end
end Go.Proofs.Ytdiflkabpjnncaa
