
/- The engine, part 7: every operation that turns no owned block: sound. No condition. -/
import Derived.Test.YtdiflkabpjnncaaE6
import Derived.Test.YtdiflkabpjnncaaPlan
namespace Go.Proofs.Ytdiflkabpjnncaa
open Go Go.RowKit
set_option linter.unusedVariables false
set_option linter.unusedSimpArgs false
section
variable {P : Program} {T : TypeId → Option TI} {S : FuncId → Option PSpec} {R : PN} {w : World} {O : Nat → Prop} {F Ob : Nat → Prop} {W0 : World} {H : AH}

def callable (P : Program) (g : FuncId) : Prop := ∃ fn, P.funcs[g]? = some fn ∧ (fn.name == "runtime.NumGoroutine") = false ∧ fn.body.isNone = false

/-- The answers of the table are the program's. -/
def POK (P : Program) (S : FuncId → Option PSpec) : Prop := ∀ g s, S g = some s → callable P g ∧ ∀ l obs v, s l = some (obs, v) → (∀ p ∈ obs, p) → ∀ (w : World) (O : Nat → Prop) (cl : List Value),
  FBd O w → CRel noN w O l cl → Calls P g cl.toArray w fun en w' => ∃ cv, en = .returned cv ∧ Ext (fun _ => False) w w' ∧ Rep noN w' O v cv

theorem run_call {g : FuncId} (hc : callable P g) {ρ : Operand → Value} {o : Oper} {f : Operand} {args : Array Operand} {ts : Array TypeId} {caps : List Value} {k : Nat} (ho : o.op = .call { callee := .value f, args, argTypes := ts })
    (hf : ρ f = .func (.func g) (caps.take k).toArray (caps.drop k).toArray) : (execOp ρ o).run P w = .ok (.enter g (caps.take k ++ ((args.toList.map ρ) ++ caps.drop k)).toArray) w := by
  obtain ⟨fn, h1, h2, h3⟩ := hc
  have h2' : ¬ fn.name = "runtime.NumGoroutine" := by simpa using h2
  have h3' : ¬ fn.body = none := fun e => by simp [e] at h3
  simp [execOp, ho, resolve, hf, Deferred.ofValue, invoke, callFunc, h1, h2', h3']

theorem crel_app {l m : List AV} {vs us : List Value} (h : CRel R w O l vs) (k : CRel R w O m us) : CRel R w O (l ++ m) (vs ++ us) := by
  refine ⟨by simp [h.1, k.1], fun j x v hx hv => ?_⟩
  rw [List.getElem?_append] at hx hv
  rw [← h.1] at hv
  split at hx
  · rename_i hlt
    rw [if_pos hlt] at hv
    exact h.2 j x v hx hv
  · rename_i hge
    rw [if_neg hge] at hv
    exact k.2 _ x v hx hv
theorem crel_take (n : Nat) {l : List AV} {vs : List Value} (h : CRel R w O l vs) : CRel R w O (l.take n) (vs.take n) := by
  refine ⟨by simp [h.1], fun j x v hx hv => ?_⟩
  rw [List.getElem?_take] at hx hv
  split at hx
  · rename_i hlt
    rw [if_pos hlt] at hv
    exact h.2 j x v hx hv
  · cases hx
theorem crel_drop (n : Nat) {l : List AV} {vs : List Value} (h : CRel R w O l vs) : CRel R w O (l.drop n) (vs.drop n) := by
  refine ⟨by simp [h.1], fun j x v hx hv => ?_⟩
  rw [List.getElem?_drop] at hx hv
  exact h.2 _ x v hx hv
theorem crel_put (k : Nat) {c l : List AV} {cs vs : List Value} (h : CRel R w O c cs) (g : CRel R w O l vs) : CRel R w O (putCap k c l) (cs.take k ++ (vs ++ cs.drop k)) :=
  crel_app (crel_take k h) (crel_app g (crel_drop k h))

theorem nl0_rep {x : AV} {v : Value} (h : Rep R w O x v) (hx : nl0 x = true) (R' : PN) : Rep R' w O x v := by
  cases h <;> first
    | (simp [nl0] at hx; done)
    | (constructor; done)
    | exact .roiz _ _ _ ‹_›
    | exact .roz _ _ _ _ ‹_›
    | exact .ro _ _ _ _ _ _ _ ‹_› ‹_› ‹_› ‹_› ‹_› ‹_› ‹_›
    | exact .roi _ _ _ _ _ ‹_› ‹_› ‹_› ‹_› ‹_›
    | exact .rop _ _ _ _ ‹_› ‹_› ‹_› ‹_›

theorem nlB_rep {x : AV} {v : Value} (h : Rep R w O x v) (hx : nlB x = true) (R' : PN) : Rep R' w O x v := by
  by_cases ha : ∃ l, x = .agg l
  · obtain ⟨l, rfl⟩ := ha
    obtain ⟨vs, rfl, hc⟩ := rep_agg h
    simp only [nlB, List.all_eq_true] at hx
    exact .agg l vs hc.1 fun j y u hj hu => nl0_rep (hc.2 j y u hj hu) (hx y (List.mem_of_getElem? hj)) R'
  · have : nl0 x = true := by cases x <;> first | exact hx | exact absurd ⟨_, rfl⟩ ha
    exact nl0_rep h this R'

theorem flat0_rep {x : AV} {v : Value} (h : Rep R w O x v) (hx : flat0 x = true) (R' : PN) (w' : World) (O' : Nat → Prop) : Rep R' w' O' x v := by
  cases h <;> first
    | (simp [flat0] at hx; done)
    | (constructor; done)
theorem flat1_rep {x : AV} {v : Value} (h : Rep R w O x v) (hx : flat1 x = true) (R' : PN) (w' : World) (O' : Nat → Prop) : Rep R' w' O' x v := by
  by_cases ha : ∃ l, x = .agg l
  · obtain ⟨l, rfl⟩ := ha
    obtain ⟨vs, rfl, hc⟩ := rep_agg h
    simp only [flat1, List.all_eq_true] at hx
    exact .agg l vs hc.1 fun j y u hj hu => flat0_rep (hc.2 j y u hj hu) (hx y (List.mem_of_getElem? hj)) R' w' O'
  · have : flat0 x = true := by cases x <;> first | exact hx | exact absurd ⟨_, rfl⟩ ha
    exact flat0_rep h this R' w' O'
theorem rep_tup {l : List AV} {v : Value} (h : Rep R w O (.tup l) v) : ∃ vs : List Value, v = .tuple vs.toArray ∧ CRel R w O l vs := by
  cases h with | tup _ vs hl hc => exact ⟨vs, rfl, hl, hc⟩
theorem flatB_rep {x : AV} {v : Value} (h : Rep R w O x v) (hx : flatB x = true) (R' : PN) (w' : World) (O' : Nat → Prop) : Rep R' w' O' x v := by
  by_cases ha : ∃ l, x = .tup l
  · obtain ⟨l, rfl⟩ := ha
    obtain ⟨vs, rfl, hc⟩ := rep_tup h
    simp only [flatB, List.all_eq_true] at hx
    exact .tup l vs hc.1 fun j y u hj hu => flat1_rep (hc.2 j y u hj hu) (hx y (List.mem_of_getElem? hj)) R' w' O'
  · have : flat1 x = true := by cases x <;> first | exact hx | exact absurd ⟨_, rfl⟩ ha
    exact flat1_rep h this R' w' O'

def NoO : Nat → Prop := fun _ => False

theorem HRel.nf (h : HRel F Ob W0 R H w) {i b : Nat} {e : Ent} (hi : H.get i = some e) (hR : R[i]? = some (some b)) : ¬ F b := fun hF => by
  obtain ⟨h1, h2⟩ := h.fb.1 b hF
  rcases h.own b ⟨i, e, hi, hR⟩ with h3 | h3
  · exact h2 h3
  · omega

theorem view0_rep (hH : HRel F Ob W0 R H w) {x : AV} {v : Value} (hx : Rep R w (Wr F R H) x v) {obs : List Prop} {r : AV} (h : view0 H x = some (obs, r)) (ho : ∀ p ∈ obs, p) : Rep noN w F r v := by
  unfold view0 at h
  split at h
  · rename_i i sz o n
    split at h
    · rename_i el k l hg
      replace h := bif_some h; obtain ⟨hb, h⟩ := h
      have := beq_iff.1 hb
      subst this
      simp only [Option.some.injEq, Prod.mk.injEq] at h
      obtain ⟨rfl, rfl⟩ := h
      have hle : o + n ≤ l.length := ho _ (by simp)
      cases hx with
      | slnil _ _ _ hR => simpa using Rep.roinil (R := noN) (w := w) (O := F) k
      | sl _ _ _ _ b c off sh hR hn hc hof hss hl =>
        obtain ⟨vs, fr, g1, g2, g3, g4⟩ := ent_ints hH hg hR
        have hlen : ((l.drop o).take n).length = n := by simp; omega
        have := Rep.roi (R := noN) (w := w) (O := F) k ((l.drop o).take n) b off c (by omega) hc (hH.nf hg hR) (shape_lt hss) (fun j x hj => by
          have hj1 : j < n := by have := (List.getElem?_eq_some_iff.1 hj).1; omega
          have := hof (by omega)
          subst this
          rw [cell_of_heap g1, Nat.mul_one]
          rw [List.getElem?_take_of_lt hj1, List.getElem?_drop] at hj
          exact g4 _ x hj)
        rw [hlen] at this
        exact this
    · rename_i el sz' m get hg
      replace h := bif_some h; obtain ⟨hb, h⟩ := h
      have := beq_iff.1 hb
      subst this
      simp only [Option.some.injEq, Prod.mk.injEq] at h
      obtain ⟨rfl, rfl⟩ := h
      have hle : o + n ≤ m := ho _ (by simp)
      cases hx with
      | slnil _ _ _ hR => exact .ronil _ _
      | sl _ _ _ _ b c off sh hR hn hc hof hss hl =>
        obtain ⟨vs, fr, vals, g1, g2, g3, g4, g5⟩ := ent_recs hH hg hR
        refine .ro _ _ _ b off c (fun j => vals (o + j)) hn hc (hH.nf hg hR) (shape_lt hss) (fun j hj f hf => ?_) (fun j hj => (g4 _ (by omega)).1) (fun j hj => ((g4 _ (by omega)).2).mono (fun _ _ k => k) (Ext.refl (Wr F R H) _) (fun _ _ k => .inl k))
        have := hof (by omega)
        subst this
        obtain ⟨u, h1, h2, _⟩ := g5 (o + j) (by omega) f hf
        rw [cell_of_heap g1, h2, ← h1, Nat.add_mul]
    · cases h
  all_goals first
    | (simp only [Option.some.injEq, Prod.mk.injEq] at h; obtain ⟨rfl, rfl⟩ := h; exact (nl0_rep hx rfl noN).mono (fun _ _ k => k) (Ext.refl (Wr F R H) _) (fun _ _ k => .inl k))
    | (simp only [Option.some.injEq, Prod.mk.injEq] at h; obtain ⟨rfl, rfl⟩ := h; cases hx with | fn _ _ _ vs hl hv => exact .fn _ _ _ vs hl (fun j x v hj => by simp at hj))
    | (simp only [Option.some.injEq, Prod.mk.injEq] at h; obtain ⟨rfl, rfl⟩ := h; exact .any _)
    | (simp only [Option.some.injEq, Prod.mk.injEq] at h; obtain ⟨rfl, rfl⟩ := h; cases hx; exact .val _)
    | cases h

theorem viewL_rep (hH : HRel F Ob W0 R H w) : ∀ {l : List AV} {vs : List Value} {obs : List Prop} {r : List AV}, CRel R w (Wr F R H) l vs → viewL H l = some (obs, r) → (∀ p ∈ obs, p) → CRel noN w F r vs
  | [], vs, obs, r, hc, h, ho => by
    simp [viewL] at h
    obtain ⟨rfl, rfl⟩ := h
    exact ⟨hc.1, by simp⟩
  | x :: l, [], obs, r, hc, h, ho => by have := hc.1; simp at this
  | x :: l, v :: vs, obs, r, hc, h, ho => by
    unfold viewL at h
    split at h
    · rename_i p y q r' h1 h2
      simp only [Option.some.injEq, Prod.mk.injEq] at h
      obtain ⟨rfl, rfl⟩ := h
      have e1 := view0_rep hH (hc.2 0 x v rfl rfl) h1 (fun p hp => ho p (by simp [hp]))
      have e2 := viewL_rep hH (vs := vs) ⟨by have := hc.1; simpa using this, fun j a b ha hb => hc.2 (j + 1) a b (by simpa using ha) (by simpa using hb)⟩ h2 (fun p hp => ho p (by simp [hp]))
      refine ⟨by simp [e2.1], fun j a b ha hb => ?_⟩
      cases j with
      | zero => simp at ha hb; subst ha; subst hb; exact e1
      | succ j => exact e2.2 j a b (by simpa using ha) (by simpa using hb)
    · cases h

theorem view1_rep (hH : HRel F Ob W0 R H w) {x : AV} {v : Value} (hx : Rep R w (Wr F R H) x v) {obs : List Prop} {r : AV} (h : view1 H x = some (obs, r)) (ho : ∀ p ∈ obs, p) : Rep noN w F r v := by
  unfold view1 at h
  split at h
  · obtain ⟨vs, rfl, hc⟩ := rep_agg hx
    split at h
    · rename_i p r' h1
      simp only [Option.some.injEq, Prod.mk.injEq] at h
      obtain ⟨rfl, rfl⟩ := h
      exact (viewL_rep hH hc h1 ho).rep
    · cases h
  · split at h
    · rename_i p r' h1
      simp only [Option.some.injEq, Prod.mk.injEq] at h
      obtain ⟨rfl, rfl⟩ := h
      cases hx with
      | ifc _ _ vs hl hc =>
        have := viewL_rep hH ⟨hl, hc⟩ h1 ho
        exact .ifc _ _ vs this.1 this.2
    · cases h
  · rename_i i
    cases hx with | ptr _ _ b hR =>
    split at h
    · rename_i t l hg
      obtain ⟨vs, fr, g1, g2, g3, g4⟩ := ent_cells hH hg hR
      split at h
      · rename_i p r' h1
        simp only [Option.some.injEq, Prod.mk.injEq] at h
        obtain ⟨rfl, rfl⟩ := h
        refine .rop _ b 0 (.agg vs.toArray) (hH.nf hg hR) (Array.getElem?_eq_some_iff.1 g1).1 (fun f hf => ?_) (viewL_rep hH g3 h1 ho).rep
        rw [Nat.zero_add, cell_of_heap g1]
        simp [Value.cells]
      · cases h
    · cases h
  · rename_i i sz o n
    split at h
    · rename_i el sz' m get f j c hg
      split at h
      · rename_i el2 k l l0 hj hg0
        replace h := bif_some h; obtain ⟨hb, h⟩ := h
        rw [Bool.and_eq_true] at hb
        have e1 := beq_iff.1 hb.1
        have e2 := beq_iff.1 hb.2
        subst e1; subst e2
        simp only [Option.some.injEq, Prod.mk.injEq] at h
        obtain ⟨rfl, rfl⟩ := h
        have hnm : n ≤ m := ho _ (by simp)
        have hcl : c ≤ l.length := ho _ (by simp)
        obtain ⟨b', hb', he⟩ := hH.ent i _ hg
        cases hx with
        | slnil _ _ _ hR =>
          exact .ronil _ _
        | sl _ _ _ _ b cc off sh hR hn hc hof hss hl =>
          rw [hR] at hb'
          cases hb'
          obtain ⟨vs, fr, vals, g1, g2, g3, ⟨g4, g5⟩, g6, g7, v, g8, g9⟩ := he
          refine .ro _ _ _ b off cc vals hn hc (hH.nf hg hR) (shape_lt hss) (fun q hq f' hf => ?_) (fun q hq => (g4 _ (by omega)).1) (fun q hq => ?_)
          · have := hof (by omega)
            subst this
            obtain ⟨u, h1, h2, _⟩ := g5 q (by omega) f' hf
            rw [cell_of_heap g1, h2, ← h1, Nat.zero_mul, Nat.zero_add]
          · have hup := ((g4 q (by omega)).2).mono (fun _ _ k => k) (Ext.refl (Wr F R H) _) (fun (g : Nat) _ (k : F g) => Or.inl k)
            cases hq0 : Nat.beq q 0 with
            | false => simp only [cond_false]; exact hup
            | true =>
              have := beq_iff.1 hq0
              subst this
              simp only [cond_true]
              rw [hg0] at hup
              obtain ⟨us, hus, hc2⟩ := rep_agg hup
              have hv0 : us[f]? = some v := by
                obtain ⟨u, h1, h2, _⟩ := g5 0 g6 f g7
                rw [Nat.zero_mul, Nat.zero_add, g8] at h1
                cases h1
                rw [hus] at h2
                simpa [Value.cells] using h2
              have hy : Rep noN w F (.roi k (l.take c)) v := by
                have h2 := view0_rep hH g9 (obs := [0 + c ≤ l.length]) (r := .roi k ((l.drop 0).take c)) (by unfold view0; simp only [hj]; rfl) (fun p hp => by rw [List.mem_singleton.1 hp]; omega)
                simpa using h2
              rw [hus]
              refine .agg _ us (by rw [List.length_set]; exact hc2.1) fun q x u hx hu => ?_
              rw [List.getElem?_set] at hx
              split at hx
              · rename_i hfq
                subst hfq
                rw [hv0] at hu
                cases hu
                split at hx
                · cases hx; exact hy
                · cases hx
              · exact hc2.2 q x u hx hu
      · cases h
    · exact view0_rep hH hx h ho
  · exact view0_rep hH hx h ho

theorem viewAs_rep (hH : HRel F Ob W0 R H w) : ∀ {l : List AV} {vs : List Value} {obs : List Prop} {r : List AV}, CRel R w (Wr F R H) l vs → viewAs H l = some (obs, r) → (∀ p ∈ obs, p) → CRel noN w F r vs
  | [], vs, obs, r, hc, h, ho => by
    simp [viewAs] at h
    obtain ⟨rfl, rfl⟩ := h
    exact ⟨hc.1, by simp⟩
  | x :: l, [], obs, r, hc, h, ho => by have := hc.1; simp at this
  | x :: l, v :: vs, obs, r, hc, h, ho => by
    unfold viewAs at h
    split at h
    · rename_i p y q r' h1 h2
      simp only [Option.some.injEq, Prod.mk.injEq] at h
      obtain ⟨rfl, rfl⟩ := h
      have e1 := view1_rep hH (hc.2 0 x v rfl rfl) h1 (fun p hp => ho p (by simp [hp]))
      have e2 := viewAs_rep hH (vs := vs) ⟨by have := hc.1; simpa using this, fun j a b ha hb => hc.2 (j + 1) a b (by simpa using ha) (by simpa using hb)⟩ h2 (fun p hp => ho p (by simp [hp]))
      refine ⟨by simp [e2.1], fun j a b ha hb => ?_⟩
      cases j with
      | zero => simp at ha hb; subst ha; subst hb; exact e1
      | succ j => exact e2.2 j a b (by simpa using ha) (by simpa using hb)
    · cases h

theorem HRel.wr_lt (h : HRel F Ob W0 R H w) {b : Nat} (hb : Wr F R H b) : b < w.heap.size := by
  rcases hb with hb | hb
  · exact Nat.lt_of_lt_of_le (h.fb.1 b hb).1 h.ext.size
  · exact h.own_lt hb


theorem NoWay_out : ¬ LetsOut NoWay := fun ⟨_, _, h⟩ => h

theorem wp_of_run {o : Oper} {a : Act} {cv : Value} (h : (execOp a.eval o).run P w = .ok (.value cv) w) {r : AV} (hr : Rep R w O r cv) :
    o.wp P a w (fun a' w' => ∃ cv, a' = a.put o.dst cv ∧ Ext (fun _ => False) w w' ∧ Rep R w' O r cv) NoWay := by
  unfold Oper.wp
  rw [h]
  exact ⟨cv, rfl, Ext.refl _ _, hr⟩

theorem foldMin_ok {k : IntKind} : ∀ {l : List AV} {a r : Int} {vs : List Value}, foldMin k a l = some r → CRel R w O l vs → (vs.foldlM Builtin.min2 (.int k a)).run P w = .ok (.int k r) w
  | [], a, r, vs, h, hc => by
    simp [foldMin] at h
    subst h
    have : vs = [] := by have := hc.1; cases vs <;> simp_all
    subst this
    simp
  | x :: l, a, r, [], h, hc => by have := hc.1; simp at this
  | x :: l, a, r, v :: vs, h, hc => by
    have hx := hc.2 0 x v rfl rfl
    cases x <;> simp only [foldMin] at h <;> try (cases h; done)
    rename_i k' b
    replace h := bif_some h; obtain ⟨hb, h⟩ := h
    have := beqK_eq hb
    subst this
    cases hx
    have ih := foldMin_ok (vs := vs) h ⟨by have := hc.1; simpa using this, fun j a b ha hb => hc.2 (j + 1) a b (by simpa using ha) (by simpa using hb)⟩
    simp only [List.foldlM_cons, Sem.run_bind]
    have e : (Builtin.min2 (.int k a) (.int k b)).run P w = .ok (.int k (min a b)) w := by
      simp [Builtin.min2]
      rw [Int.min_def]
      split <;> split <;> omega
    rw [e]
    exact ih
theorem foldMax_ok {k : IntKind} : ∀ {l : List AV} {a r : Int} {vs : List Value}, foldMax k a l = some r → CRel R w O l vs → (vs.foldlM Builtin.max2 (.int k a)).run P w = .ok (.int k r) w
  | [], a, r, vs, h, hc => by
    simp [foldMax] at h
    subst h
    have : vs = [] := by have := hc.1; cases vs <;> simp_all
    subst this
    simp
  | x :: l, a, r, [], h, hc => by have := hc.1; simp at this
  | x :: l, a, r, v :: vs, h, hc => by
    have hx := hc.2 0 x v rfl rfl
    cases x <;> simp only [foldMax] at h <;> try (cases h; done)
    rename_i k' b
    replace h := bif_some h; obtain ⟨hb, h⟩ := h
    have := beqK_eq hb
    subst this
    cases hx
    have ih := foldMax_ok (vs := vs) h ⟨by have := hc.1; simpa using this, fun j a b ha hb => hc.2 (j + 1) a b (by simpa using ha) (by simpa using hb)⟩
    simp only [List.foldlM_cons, Sem.run_bind]
    have e : (Builtin.max2 (.int k a) (.int k b)).run P w = .ok (.int k (max a b)) w := by
      simp [Builtin.max2]
      rw [Int.max_def]
      split <;> split <;> omega
    rw [e]
    exact ih

theorem alen_ok {x : AV} {cx : Value} {obs : List Prop} {r : AV} (h : alen x = some (obs, r)) (hx : Rep R w O x cx) (t ty : TypeId)
    (hu : (∃ s, x = .str s ∧ P.underlying t = some .string) ∨ ((∀ s, x ≠ .str s) ∧ ∃ e, P.underlying t = some (.slice e))) :
    ∃ cv, (Builtin.len_ #[t] ty #[cx]).run P w = .ok cv w ∧ Rep R w O r cv := by
  rcases hu with ⟨s, rfl, hu⟩ | ⟨hn, e, hu⟩
  · simp [alen] at h
    obtain ⟨rfl, rfl⟩ := h
    cases hx
    exact ⟨_, by rw [run_len_string w t ty _ hu]; rfl, .int _ _⟩
  · unfold alen at h
    split at h
    · exact absurd rfl (hn _)
    · simp only [Option.some.injEq, Prod.mk.injEq] at h
      obtain ⟨rfl, rfl⟩ := h
      cases hx <;> exact ⟨_, by simp [Builtin.len_, run_underlying hu, goInt], .int _ _⟩
    · simp only [Option.some.injEq, Prod.mk.injEq] at h
      obtain ⟨rfl, rfl⟩ := h
      cases hx <;> exact ⟨_, by simp [Builtin.len_, run_underlying hu, goInt], .int _ _⟩
    · simp only [Option.some.injEq, Prod.mk.injEq] at h
      obtain ⟨rfl, rfl⟩ := h
      cases hx <;> exact ⟨_, by simp [Builtin.len_, run_underlying hu, goInt], .int _ _⟩
    · simp only [Option.some.injEq, Prod.mk.injEq] at h
      obtain ⟨rfl, rfl⟩ := h
      cases hx
      exact ⟨.int .i64 0, by simp [Builtin.len_, run_underlying hu, goInt], .int _ _⟩
    · cases h

theorem boolA_val {z : AV} {cz : Value} {b : Bool} (h : boolA z = some b) (hz : Rep R w O z cz) : cz = .bool b := by
  unfold boolA at h
  split at h <;> cases hz <;> cases h <;> rfl

theorem aopF_ok (hT : TOK P T) (hS : POK P S) {o : Oper} {a : Act} {e : Env} {obs : List Prop} {r : AV} (h : aopF T S o.op e H = some (obs, r)) (ho : ∀ p ∈ obs, p) (hH : HRel F Ob W0 R H w) (hE : ERel R w (Wr F R H) e a.tmps) :
    o.wp P a w (fun a' w' => ∃ cv, a' = a.put o.dst cv ∧ Ext (fun _ => False) w w' ∧ Rep R w' (Wr F R H) r cv) NoWay := by
  have ex : ∀ {s : Sem Value} {r' : AV}, (∃ cv, s.run P w = .ok cv w ∧ Rep R w (Wr F R H) r' cv) → execOp a.eval o = (do pure (.value (← s)) : Sem Next) → r = r' → o.wp P a w (fun a' w' => ∃ cv, a' = a.put o.dst cv ∧ Ext (fun _ => False) w w' ∧ Rep R w' (Wr F R H) r cv) NoWay := by
    intro s r' ⟨cv, h1, h2⟩ h3 h4
    subst h4
    exact wp_of_run (by rw [h3]; simp [Sem.run_bind, h1]) h2
  unfold aopF at h
  split at h
  · rename_i x hop
    replace h := opt_map h; obtain ⟨v, hv, he⟩ := h
    simp only [Prod.mk.injEq] at he
    obtain ⟨rfl, rfl⟩ := he
    exact wp_of_run (by simp [execOp, hop]) (evA_rep hE hv)
  · rename_i x hop
    replace h := opt_map h; obtain ⟨v, hv, he⟩ := h
    simp only [Prod.mk.injEq] at he
    obtain ⟨rfl, rfl⟩ := he
    exact wp_of_run (by simp [execOp, hop]) (evA_rep hE hv)
  · rename_i c x y hop
    split at h
    · rename_i av _ hc hx
      simp only [Option.some.injEq, Prod.mk.injEq] at h
      obtain ⟨rfl, rfl⟩ := h
      have hr := evA_rep hE hc
      generalize hg : a.eval c = cc at hr
      cases hr
      exact wp_of_run (by simp [execOp, hop, hg, asBool]) (evA_rep hE hx)
    · rename_i av _ hc hy
      simp only [Option.some.injEq, Prod.mk.injEq] at h
      obtain ⟨rfl, rfl⟩ := h
      have hr := evA_rep hE hc
      generalize hg : a.eval c = cc at hr
      cases hr
      exact wp_of_run (by simp [execOp, hop, hg, asBool]) (evA_rep hE hy)
    · rename_i bc av bv hc hx hy
      split at h
      · rename_i b1 b2 hb1 hb2
        simp only [Option.some.injEq, Prod.mk.injEq] at h
        obtain ⟨rfl, rfl⟩ := h
        have hr := evA_rep hE hc
        generalize hg : a.eval c = cc at hr
        cases hr
        have e1 := boolA_val hb1 (evA_rep hE hx)
        have e2 := boolA_val hb2 (evA_rep hE hy)
        exact wp_of_run (cv := .bool (bif bc then b1 else b2)) (by cases bc <;> simp [execOp, hop, hg, asBool, e1, e2]) (.bool _)
      · cases h
    · cases h
  · rename_i t x hop
    split at h
    · rename_i v hv
      exact ex (aload_ok hT h ho hH (evA_rep hE hv)) (by simp [execOp, hop]) rfl
    · cases h
  · rename_i x hop
    split at h
    all_goals first
      | (cases h; done)
      | (rename_i hx
         simp only [Option.some.injEq, Prod.mk.injEq] at h
         obtain ⟨rfl, rfl⟩ := h
         have hr := evA_rep hE hx
         generalize hg : a.eval x = cx at hr
         cases hr with
         | ptr _ _ b hR => exact wp_of_run (by simp [execOp, hop, hg]) (.ptr _ _ b hR))
      | (rename_i hx
         simp only [Option.some.injEq, Prod.mk.injEq] at h
         obtain ⟨rfl, rfl⟩ := h
         have hr := evA_rep hE hx
         generalize hg : a.eval x = cx at hr
         cases hr with
         | rop _ b off v hO hb hcell hv => exact wp_of_run (by simp [execOp, hop, hg]) (.rop _ b off v hO hb hcell hv))
      | (rename_i hx
         simp only [Option.some.injEq, Prod.mk.injEq] at h
         obtain ⟨rfl, rfl⟩ := h
         have hr := evA_rep hE hx
         generalize hg : a.eval x = cx at hr
         cases hr with
         | eptr _ _ _ _ b hR => exact wp_of_run (by simp [execOp, hop, hg]) (.eptr _ _ _ _ b hR))
      | (rename_i hx
         simp only [Option.some.injEq, Prod.mk.injEq] at h
         obtain ⟨rfl, rfl⟩ := h
         have hr := evA_rep hE hx
         generalize hg : a.eval x = cx at hr
         cases hr with
         | fn _ _ _ caps hl1 hl2 => exact wp_of_run (by simp [execOp, hop, hg]) (.fn _ _ _ caps hl1 hl2))
  · rename_i op t x y ty hop
    split at h
    · rename_i va vb hx hy
      exact ex (abin_ok (X := x) (Y := y) hT h ho (evA_rep hE hx) (evA_rep hE hy)) (by simp [execOp, hop]) rfl
    · cases h
  · rename_i op t x hop
    split at h
    · rename_i v hv
      exact ex (aun_ok h ho (evA_rep hE hv)) (by simp [execOp, hop]) rfl
    · cases h
  · rename_i s d x hop
    split at h
    · rename_i v hv
      exact ex (aconv_ok hT h ho (evA_rep hE hv)) (by simp [execOp, hop]) rfl
    · cases h
  · rename_i t x hop
    split at h
    · rename_i v i hv hi
      obtain ⟨inf, ds, z, g1, g2, g3, rfl⟩ := probe_inv (hT t i hi)
      simp only at h
      split at h
      · cases h
      · rename_i hd
        simp only [Option.some.injEq, Prod.mk.injEq] at h
        obtain ⟨rfl, rfl⟩ := h
        have hr := evA_rep hE hv
        refine ex (s := Instr.makeInterface t (a.eval x)) ⟨.iface t (a.eval x), ?_, ?_⟩ (by simp [execOp, hop]) rfl
        · unfold Instr.makeInterface
          rw [Sem.run_bind, run_underlying g2]
          cases ds <;> first | rfl | exact absurd rfl hd
        · exact .ifc t [v] [a.eval x] rfl fun j y u hj hu => by
            match j with
            | 0 => cases hj; cases hu; exact hr
            | j + 1 => simp at hj
    · cases h
  · rename_i x xt t ok hop
    split at h
    · rename_i t' v i hv hi
      obtain ⟨inf, ds, z, g1, g2, g3, rfl⟩ := probe_inv (hT t i hi)
      simp only at h
      split at h
      · cases h
      · rename_i hd
        replace h := bif_some h; obtain ⟨hb, h⟩ := h
        have := beq_iff.1 hb
        subst this
        simp only [Option.some.injEq, Prod.mk.injEq] at h
        obtain ⟨rfl, rfl⟩ := h
        have hr := evA_rep hE hv
        generalize hg : a.eval x = cx at hr
        cases hr with
        | ifc _ _ vs hl hc =>
          match vs, hl with
          | [u], _ =>
            have h0 := hc 0 _ _ rfl rfl
            refine ex (s := Instr.typeAssert (a.eval x) xt t ok) ⟨if ok then .tuple #[u, .bool true] else u, ?_, ?_⟩ (by simp [execOp, hop]) rfl
            · unfold Instr.typeAssert
              rw [hg, Sem.run_bind, run_underlying g2]
              cases ds <;> first | (simp [List.headD]; done) | exact absurd rfl hd
            · cases ok
              · exact h0
              · refine .tup [v, .tru] [u, .bool true] rfl fun j y q hj hq => ?_
                match j with
                | 0 => cases hj; cases hq; exact h0
                | 1 => cases hj; cases hq; exact .tru
                | j + 2 => simp at hj
    · cases h
  · rename_i f first cap hop
    split at h
    · rename_i hf
      replace h := opt_map h; obtain ⟨l, hl, he⟩ := h
      simp only [Prod.mk.injEq] at he
      obtain ⟨rfl, rfl⟩ := he
      have hc := evAs_rel hE hl
      have h0 : first = #[] := by cases first; simp_all
      subst h0
      obtain ⟨cap⟩ := cap
      exact wp_of_run (by simp [execOp, hop, Instr.makeFunc]) (.fn f 0 l _ hc.1 hc.2)
    · rename_i x1 hf
      replace h := opt_map h; obtain ⟨l, hl, he⟩ := h
      simp only [Prod.mk.injEq] at he
      obtain ⟨rfl, rfl⟩ := he
      have hc := evAs_rel hE hl
      have h0 : first = #[x1] := by cases first; simp_all
      subst h0
      obtain ⟨cap⟩ := cap
      exact wp_of_run (by simp [execOp, hop, Instr.makeFunc]) (.fn f 1 l _ hc.1 hc.2)
    · cases h
  · rename_i t x lo hi hop
    split at h
    · rename_i v hv
      exact ex (aslice_ok hT hE h ho (evA_rep hE hv)) (by simp [execOp, hop]) rfl
    · cases h
  · rename_i t x f hop
    split at h
    · rename_i v hv
      exact ex (afieldAddr_ok hT h (evA_rep hE hv)) (by simp [execOp, hop]) rfl
    · cases h
  · rename_i t x f hop
    split at h
    · rename_i v hv
      exact ex (afieldV_ok hT h (evA_rep hE hv)) (by simp [execOp, hop]) rfl
    · cases h
  · rename_i t x i hop
    split at h
    · rename_i v n hv hn
      exact ex (aindexAddr_ok hT h ho (evA_rep hE hv) (evA_rep hE hn)) (by simp [execOp, hop]) rfl
    · cases h
  · rename_i t x i hop
    split at h
    · rename_i v n hv hn
      exact ex (aindex_ok hT h ho (evA_rep hE hv) (evA_rep hE hn)) (by simp [execOp, hop]) rfl
    · cases h
  · rename_i x i hop
    split at h
    · rename_i l hv
      replace h := opt_map h; obtain ⟨v, hvi, he⟩ := h
      simp only [Prod.mk.injEq] at he
      obtain ⟨rfl, rfl⟩ := he
      have hr := evA_rep hE hv
      generalize hg : a.eval x = cx at hr
      obtain ⟨vs, rfl, hc⟩ := rep_tup hr
      obtain ⟨cv, h1, h2⟩ := hc.get hvi
      exact wp_of_run (cv := cv) (by simp [execOp, hop, hg, Instr.extract, h1]) h2
    · cases h
  · rename_i t ps hop
    exact ex (abuild_ok hT hE h) (by simp [execOp, hop]) rfl
  · rename_i args ts hop
    split at h
    · rename_i x t ha ht
      have ha' : args = #[x] := by cases args; simp_all
      have ht' : ts = #[t] := by cases ts; simp_all
      subst ha'; subst ht'
      have hrun : execOp a.eval o = (do pure (.value (← Builtin.len_ #[t] o.type #[a.eval x])) : Sem Next) := by simp [execOp, hop, resolve, invoke, builtin]
      split at h
      · rename_i s hx hd
        exact ex (alen_ok h (evA_rep hE hx) t o.type (.inl ⟨s, rfl, tdq_str hT hd⟩)) hrun rfl
      · rename_i v el hx hd
        split at h
        · cases h
        · rename_i hns'
          exact ex (alen_ok h (evA_rep hE hx) t o.type (.inr ⟨fun s e => hns' s e, el, tdq_slice hT hd⟩)) hrun rfl
      · cases h
    · cases h
  · rename_i args ts hop
    split at h
    · rename_i k n l hl
      replace h := opt_map h; obtain ⟨z, hz, he⟩ := h
      simp only [Prod.mk.injEq] at he
      obtain ⟨rfl, rfl⟩ := he
      have hc := evAs_rel hE hl
      obtain ⟨args⟩ := args
      cases args with
      | nil => have := hc.1; simp at this
      | cons x xs =>
        have h0 := hc.2 0 _ _ rfl rfl
        generalize hg : a.eval x = cx at h0
        have hc' : CRel R w (Wr F R H) l (xs.map a.eval) := ⟨by have := hc.1; simpa using this, fun j p q hp hq => hc.2 (j + 1) p q (by simpa using hp) (by simpa using hq)⟩
        cases h0
        have hm := foldMin_ok (P := P) hz hc'
        have hrun : execOp a.eval o = (do pure (.value (← Builtin.min_ ts o.type (#[x] ++ xs.toArray |>.map a.eval))) : Sem Next) := by simp [execOp, hop, resolve, invoke, builtin]
        refine ex ⟨_, ?_, .int _ _⟩ hrun rfl
        simp [Builtin.min_, hg]
        exact hm
    · cases h
  · rename_i args ts hop
    split at h
    · rename_i k n l hl
      replace h := opt_map h; obtain ⟨z, hz, he⟩ := h
      simp only [Prod.mk.injEq] at he
      obtain ⟨rfl, rfl⟩ := he
      have hc := evAs_rel hE hl
      obtain ⟨args⟩ := args
      cases args with
      | nil => have := hc.1; simp at this
      | cons x xs =>
        have h0 := hc.2 0 _ _ rfl rfl
        generalize hg : a.eval x = cx at h0
        have hc' : CRel R w (Wr F R H) l (xs.map a.eval) := ⟨by have := hc.1; simpa using this, fun j p q hp hq => hc.2 (j + 1) p q (by simpa using hp) (by simpa using hq)⟩
        cases h0
        have hm := foldMax_ok (P := P) hz hc'
        have hrun : execOp a.eval o = (do pure (.value (← Builtin.max_ ts o.type (#[x] ++ xs.toArray |>.map a.eval))) : Sem Next) := by simp [execOp, hop, resolve, invoke, builtin]
        refine ex ⟨_, ?_, .int _ _⟩ hrun rfl
        simp [Builtin.max_, hg]
        exact hm
    · cases h
  · rename_i f args ts hop
    split at h
    · rename_i g k cap l hf hl
      split at h
      · rename_i s hs
        obtain ⟨hcall, hsp⟩ := hS g s hs
        have hrf := evA_rep hE hf
        generalize hgf : a.eval f = cf at hrf
        cases hrf with | fn _ _ _ caps hl1 hl2 =>
        have hargs := evAs_rel hE hl
        have hc : CRel R w (Wr F R H) (putCap k cap l) (caps.take k ++ (args.toList.map a.eval ++ caps.drop k)) := crel_put k ⟨hl1, hl2⟩ hargs
        have key : ∀ {obs' : List Prop} {r' : AV} {l' : List AV} (O' : Nat → Prop), s l' = some (obs', r') → (∀ p ∈ obs', p) → FBd O' w → CRel noN w O' l' (caps.take k ++ (args.toList.map a.eval ++ caps.drop k)) →
            (∀ w' cv, Rep noN w' O' r' cv → Rep R w' (Wr F R H) r cv) → o.wp P a w (fun a' w' => ∃ cv, a' = a.put o.dst cv ∧ Ext (fun _ => False) w w' ∧ Rep R w' (Wr F R H) r cv) NoWay := by
          intro obs' r' l' O' h1 h2 h3 h4 h5
          unfold Oper.wp
          rw [run_call hcall hop hgf]
          refine Calls.mono (hsp l' obs' r' h1 h2 w O' _ h3 h4) fun en w' ⟨cv, he, hx, hr⟩ => ?_
          subst he
          exact ⟨cv, rfl, hx, h5 w' cv hr⟩
        cases hnl : (putCap k cap l).all nlB
        · simp only [hnl, cond_false] at h
          split at h
          · rename_i p l' hv
            split at h
            · rename_i q v hsv
              replace h := bif_some h; obtain ⟨hfl, h⟩ := h
              simp only [Option.some.injEq, Prod.mk.injEq] at h
              obtain ⟨rfl, rfl⟩ := h
              exact key F hsv (fun p hp => ho p (by simp [hp])) ⟨fun b k => hH.wr_lt (.inl k), hH.gl.mono fun b k => .inl k⟩ (viewAs_rep hH hc hv (fun p hp => ho p (by simp [hp]))) fun w' cv hr => flatB_rep hr hfl _ _ _
            · cases h
          · cases h
        · simp only [hnl, cond_true] at h
          rw [List.all_eq_true] at hnl
          exact key (Wr F R H) h ho ⟨fun b => hH.wr_lt, hH.gl⟩ ⟨hc.1, fun j x v hx hv => nlB_rep (hc.2 j x v hx hv) (hnl x (List.mem_of_getElem? hx)) noN⟩ fun w' cv hr => hr.mono (by simp) (Ext.refl (Wr F R H) _) (fun _ _ k => k)
      · cases h
    · cases h
  · cases h
end
end Go.Proofs.Ytdiflkabpjnncaa
