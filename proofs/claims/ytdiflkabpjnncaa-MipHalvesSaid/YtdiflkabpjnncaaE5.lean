
/- The engine, part 5: loads, addresses, parts, slices: sound. No condition. -/
import Derived.Test.YtdiflkabpjnncaaE3
import Derived.Deep.MidRow
namespace Go.Proofs.Ytdiflkabpjnncaa
open Go Go.RowKit
set_option linter.unusedVariables false
set_option linter.unusedSimpArgs false
section
variable {P : Program} {T : TypeId → Option TI} {R : PN} {w : World} {O : Nat → Prop}

theorem bif_some {α : Type} {c : Bool} {x : Option α} {y : α} (h : (bif c then x else none) = some y) : c = true ∧ x = some y := by
  cases c
  · cases h
  · exact ⟨rfl, h⟩
theorem opt_map {α β : Type} {f : α → β} {x : Option α} {y : β} (h : x.map f = some y) : ∃ a, x = some a ∧ f a = y := by
  cases x
  · cases h
  · exact ⟨_, rfl, Option.some.inj h⟩

def CRel (R : PN) (w : World) (O : Nat → Prop) (l : List AV) (vs : List Value) : Prop := l.length = vs.length ∧ ∀ (j : Nat) (x : AV) (v : Value), l[j]? = some x → vs[j]? = some v → Rep R w O x v

theorem CRel.get {l : List AV} {vs : List Value} (h : CRel R w O l vs) {j : Nat} {x : AV} (hj : l[j]? = some x) : ∃ v, vs[j]? = some v ∧ Rep R w O x v := cells_get h.1 h.2 hj
theorem CRel.sub {l : List AV} {vs : List Value} (h : CRel R w O l vs) (o n : Nat) : CRel R w O (subA l o n) ((vs.drop o).take n) := by
  refine ⟨by simp [subA, h.1], fun j x v hj hv => ?_⟩
  unfold subA at hj
  rw [List.getElem?_take] at hj hv
  split at hj
  · rename_i hlt
    rw [if_pos hlt] at hv
    rw [List.getElem?_drop] at hj hv
    exact h.2 _ x v hj hv
  · cases hj
theorem CRel.rep {l : List AV} {vs : List Value} (h : CRel R w O l vs) : Rep R w O (.agg l) (.agg vs.toArray) := .agg l vs h.1 h.2
theorem rep_agg {l : List AV} {v : Value} (h : Rep R w O (.agg l) v) : ∃ vs : List Value, v = .agg vs.toArray ∧ CRel R w O l vs := by
  cases h with | agg _ vs hl hc => exact ⟨vs, rfl, hl, hc⟩
theorem rep_one {x : AV} {v : Value} (h : Rep R w O x v) (hx : isOne x = true) : v.cells = #[v] ∧ v.oneCell' = true := by
  cases h <;> first | (exact ⟨rfl, rfl⟩) | (simp [isOne] at hx)
theorem rep_cells {x : AV} {v : Value} (h : Rep R w O x v) (hx : okE x = true) : CRel R w O (cellsA x) v.cells.toList := by
  by_cases ha : ∃ l, x = .agg l
  · obtain ⟨l, rfl⟩ := ha
    obtain ⟨vs, rfl, hc⟩ := rep_agg h
    exact hc
  · have h1 : isOne x = true := by
      cases x <;> first | (exact hx) | (exact absurd ⟨_, rfl⟩ ha)
    have h2 : cellsA x = [x] := by
      cases x <;> first | rfl | (exact absurd ⟨_, rfl⟩ ha)
    rw [h2, (rep_one h h1).1]
    refine ⟨rfl, fun j y u hj hu => ?_⟩
    cases j with
    | zero =>
      simp at hj hu
      subst hj; subst hu
      exact h
    | succ j => simp at hj

theorem run_info (hT : TOK P T) {t : TypeId} {i : TI} (h : T t = some i) : (isAgg t).run P w = .ok i.isAgg w ∧ (sizeOf t).run P w = .ok i.sz w ∧ (P.info? t).map (·.size) = some i.sz ∧ ∃ d, P.underlying t = some d ∧ tdOf d = i.d := by
  obtain ⟨inf, ds, z, h1, h2, h3, rfl⟩ := probe_inv (hT t i h)
  refine ⟨?_, by simp [sizeOf, typeInfo, h1], by simp [h1], ds, h2, rfl⟩
  rw [run_isAgg h2]
  simp only [TI.isAgg]
  cases ds <;> rfl

theorem isRow_of {d : TypeDesc} {i : TI} (h : tdOf d = i.d) : d.isRow = i.isAgg := by
  unfold TI.isAgg
  rw [← h]
  cases d <;> rfl

theorem partA_ok (hT : TOK P T) {t : TypeId} {l : List AV} {vs : List Value} {off : Nat} {r : AV} (h : partA T t l off = some r) (hc : CRel R w O l vs) :
    ∃ cv, (part t vs.toArray off).run P w = .ok cv w ∧ Rep R w O r cv := by
  unfold partA at h
  split at h
  · rename_i i hi
    obtain ⟨h1, h2, _, _⟩ := run_info (w := w) hT hi
    cases ha : i.isAgg
    · rw [ha] at h h1
      simp only [cond_false] at h
      obtain ⟨v, hv, hr⟩ := hc.get h
      exact ⟨v, by unfold part; rw [Sem.run_bind, h1]; simp [hv], hr⟩
    · rw [ha] at h h1
      simp only [cond_true] at h
      replace h := bif_some h; obtain ⟨hle, h⟩ := h
      simp at h
      subst h
      refine ⟨.agg ((vs.drop off).take i.sz).toArray, ?_, (hc.sub off i.sz).rep⟩
      unfold part
      rw [Sem.run_bind, h1]
      simp [Sem.run_bind, h2]
  · cases h

/-- The cells vs lie in the block from base on. -/
theorem loadVar_ok (hT : TOK P T) {t : TypeId} {l : List AV} {vs : List Value} {off : Nat} {r : AV} (h : partA T t l off = some r) (hc : CRel R w O l vs) {b base : Nat}
    (hm : ∀ j v, vs[j]? = some v → w.cell? ⟨b, base + j, none⟩ = some v) : ∃ cv, (loadVar t ⟨b, base + off, none⟩).run P w = .ok cv w ∧ Rep R w O r cv := by
  unfold partA at h
  split at h
  · rename_i i hi
    obtain ⟨h1, h2, h3, d, h4, h5⟩ := run_info (w := w) hT hi
    cases ha : i.isAgg
    · rw [ha] at h h1
      simp only [cond_false] at h
      obtain ⟨v, hv, hr⟩ := hc.get h
      refine ⟨v, ?_, hr⟩
      unfold loadVar
      rw [Sem.run_bind, h1]
      simp [hm off v hv]
    · rw [ha] at h h1
      simp only [cond_true] at h
      replace h := bif_some h; obtain ⟨hle, h⟩ := h
      · simp at h
        subst h
        have hlen : off + i.sz ≤ vs.length := by rw [← hc.1]; exact Nat.le_of_ble_eq_true hle
        refine ⟨.agg ((vs.drop off).take i.sz).toArray, run_loadVar_mid w b (base + off) t _ d (fun j v hv => ?_) h4 ((isRow_of h5).trans ha) ?_, (hc.sub off i.sz).rep⟩
        · rw [List.getElem?_take] at hv
          split at hv
          · rw [List.getElem?_drop] at hv
            rw [Nat.add_assoc]
            exact hm _ v hv
          · cases hv
        · rw [h3]
          simp
          omega
  · cases h

variable {F Ob : Nat → Prop} {W0 : World} {H : AH}

theorem ent_cells (hH : HRel F Ob W0 R H w) {i : Nat} {t : TypeId} {l : List AV} (h : H.get i = some (.cells t l)) {b : Nat} (hb : R[i]? = some (some b)) :
    ∃ vs fr, w.heap[b]? = some (.cells vs.toArray t fr) ∧ NF fr vs.length ∧ CRel R w (Wr F R H) l vs ∧ ∀ v ∈ vs, v.oneCell' = true := by
  obtain ⟨b', hb', he⟩ := hH.ent i _ h
  rw [hb] at hb'
  cases hb'
  obtain ⟨vs, fr, h1, h2, h3, h4⟩ := he
  refine ⟨vs, fr, h1, h2, ⟨h3, fun j x v hx hv => (h4 j x v hx hv).2⟩, fun v hv => ?_⟩
  obtain ⟨j, hj, rfl⟩ := List.getElem_of_mem hv
  exact (h4 j (l[j]'(by omega)) _ (by simp [h3, hj]) (by simp [hj])).1

theorem ent_ints (hH : HRel F Ob W0 R H w) {i : Nat} {t : TypeId} {k : IntKind} {l : List Int} (h : H.get i = some (.ints t k l)) {b : Nat} (hb : R[i]? = some (some b)) :
    ∃ vs : List Value, ∃ fr, w.heap[b]? = some (.cells vs.toArray t fr) ∧ NF fr vs.length ∧ l.length ≤ vs.length ∧ ∀ (j : Nat) (x : Int), l[j]? = some x → vs[j]? = some (.int k x) := by
  obtain ⟨b', hb', he⟩ := hH.ent i _ h
  rw [hb] at hb'
  cases hb'
  exact he
theorem ent_recs (hH : HRel F Ob W0 R H w) {i : Nat} {t : TypeId} {sz n : Nat} {get : Nat → AV} (h : H.get i = some (.recs t sz n get)) {b : Nat} (hb : R[i]? = some (some b)) :
    ∃ vs : List Value, ∃ fr, ∃ vals : Nat → Value, w.heap[b]? = some (.cells vs.toArray t fr) ∧ NF fr vs.length ∧ n * sz ≤ vs.length ∧
      (∀ j, j < n → (vals j).cells.size = sz ∧ Rep noN w (Wr F R H) (get j) (vals j)) ∧ ∀ j, j < n → ∀ f, f < sz → ∃ v, vs[j * sz + f]? = some v ∧ (vals j).cells[f]? = some v ∧ v.oneCell' = true := by
  obtain ⟨b', hb', he⟩ := hH.ent i _ h
  rw [hb] at hb'
  cases hb'
  exact he

theorem cell_of_heap {b : Nat} {vs : List Value} {t : TypeId} {fr : Nat × Nat} (h : w.heap[b]? = some (.cells vs.toArray t fr)) (o : Nat) : w.cell? ⟨b, o, none⟩ = vs[o]? := by
  simp [World.cell?, h]

theorem aload_ok (hT : TOK P T) {t : TypeId} {x : AV} {cx : Value} {obs : List Prop} {r : AV} (h : aload T t H x = some (obs, r)) (ho : ∀ p ∈ obs, p) (hH : HRel F Ob W0 R H w) (hx : Rep R w (Wr F R H) x cx) :
    ∃ cv, (Instr.loadAt t cx).run P w = .ok cv w ∧ Rep R w (Wr F R H) r cv := by
  have e1 : ∀ {a : Addr} {cv : Value}, cx = .pointer (some a) → (loadVar t a).run P w = .ok cv w → (Instr.loadAt t cx).run P w = .ok cv w := by
    intro a cv h1 h2
    subst h1
    simp only [Instr.loadAt, Instr.sureAddr, Sem.run_bind, Sem.run_pure, Result.andThen_ok, h2]
  unfold aload at h
  split at h
  · rename_i i o
    cases hx with | ptr _ _ b hb =>
    split at h
    · rename_i bt l hg
      obtain ⟨vs, fr, h1, h2, h3, h4⟩ := ent_cells hH hg hb
      cases hp : partA T t l o with
      | none => simp [hp] at h
      | some r' =>
        simp [hp] at h
        obtain ⟨rfl, rfl⟩ := h
        obtain ⟨cv, hcv, hr⟩ := loadVar_ok (base := 0) (b := b) hT hp h3 (fun j v hv => by rw [Nat.zero_add, cell_of_heap h1]; exact hv)
        rw [Nat.zero_add] at hcv
        exact ⟨cv, e1 rfl hcv, hr⟩
    · cases h
  · rename_i x
    cases hx with | rop _ b off v hO hb hcell hv =>
    split at h
    · rename_i i hi
      obtain ⟨h1, h2, h3, d, h4, h5⟩ := run_info (w := w) hT hi
      split at h
      · rename_i l ha
        replace h := bif_some h; obtain ⟨hle, h⟩ := h
        · simp at h
          obtain ⟨rfl, rfl⟩ := h
          obtain ⟨vs, rfl, hc⟩ := rep_agg hv
          have hlen := beq_iff.1 hle
          refine ⟨.agg vs.toArray, e1 rfl (run_loadVar_mid w b off t vs d (fun j v hv => ?_) h4 ((isRow_of h5).trans ha) ?_), (hv.mono (by simp) (Ext.refl (Wr F R H) _) (fun _ _ k => k))⟩
          · rw [hcell j (by simpa [Value.cells] using (List.getElem?_eq_some_iff.1 hv).1)]
            simpa [Value.cells] using hv
          · rw [h3, ← hlen, hc.1]
      · rename_i x _ _ ha
        replace h := bif_some h; obtain ⟨hone, h⟩ := h
        · simp at h
          obtain ⟨rfl, rfl⟩ := h
          have hc := (rep_one hv hone).1
          refine ⟨v, e1 rfl ?_, hv.mono (by simp) (Ext.refl (Wr F R H) _) (fun _ _ k => k)⟩
          have := hcell 0 (by rw [hc]; simp)
          rw [hc] at this
          unfold loadVar
          rw [Sem.run_bind, h1, ha]
          simp at this
          simp [this]
      · cases h
    · cases h
  · rename_i i sz j f
    cases hx with | eptr _ _ _ _ b hb =>
    split at h
    · rename_i el k l hg
      split at h
      · rename_i k' hd
        · replace h := bif_some h; obtain ⟨hk, h⟩ := h
          simp only [Bool.and_eq_true] at hk
          obtain ⟨⟨hk, hs1⟩, hf0⟩ := hk
          have := beqK_eq hk
          subst this
          have := beq_iff.1 hs1
          subst this
          have := beq_iff.1 hf0
          subst this
          simp at h
          obtain ⟨rfl, rfl⟩ := h
          have hj : j < l.length := ho _ (by simp)
          obtain ⟨vs, fr, g1, g2, g3, g4⟩ := ent_ints hH hg hb
          have hu : P.underlying t = some (.int k) := tdq_int hT hd
          have h1 : l[j]? = some (l.getD j 0) := by simp [List.getD, hj]
          refine ⟨.int k (l.getD j 0), e1 rfl ?_, .int _ _⟩
          have h2 := g4 j _ h1
          unfold loadVar
          rw [Sem.run_bind, run_isAgg hu]
          have h3 := cell_of_heap g1 (j * 1 + 0)
          simp only [Nat.mul_one, Nat.add_zero] at h3 ⊢
          simp [h3, h2]
      · cases h
    · rename_i el sz' n get hg
      replace h := bif_some h; obtain ⟨hsz, h⟩ := h
      have := beq_iff.1 hsz
      subst this
      replace h := bif_some h; obtain ⟨hok, h⟩ := h
      have hok := Bool.and_eq_true_iff.1 hok
      replace h := opt_map h
      obtain ⟨r', hr, he⟩ := h
      simp at he
      obtain ⟨rfl, rfl⟩ := he
      have hj : j < n := ho _ (by simp)
      obtain ⟨vs, fr, vals, g1, g2, g3, g4, g5⟩ := ent_recs hH hg hb
      have hc := rep_cells (g4 j hj).2 hok.2
      obtain ⟨cv, hcv, hrep⟩ := loadVar_ok (base := j * sz) (b := b) hT hr hc (fun f' v hv => by
        have hf : f' < sz := by
          have := (List.getElem?_eq_some_iff.1 hv).1
          have e := (g4 j hj).1
          simp at this
          omega
        obtain ⟨v', hv1, hv2, _⟩ := g5 j hj f' hf
        rw [cell_of_heap g1, hv1]
        have : (vals j).cells[f']? = some v := by simpa using hv
        rw [← hv2, this])
      exact ⟨cv, e1 rfl hcv, hrep.mono (by simp) (Ext.refl (Wr F R H) _) (fun _ _ k => k)⟩
    · cases h
  · cases h
end
end Go.Proofs.Ytdiflkabpjnncaa
