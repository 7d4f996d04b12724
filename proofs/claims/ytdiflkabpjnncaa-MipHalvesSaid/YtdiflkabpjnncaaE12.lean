
/- The engine, part 12: the operations that make or turn memory: sound (heaps). No condition. -/
import Derived.Test.YtdiflkabpjnncaaE11
import Derived.Laws.Append
namespace Go.Proofs.Ytdiflkabpjnncaa
open Go Go.RowKit
set_option linter.unusedVariables false
set_option linter.unusedSimpArgs false

section
variable {P : Program} {C : Ctx} {R : PN} {w w' : World} {F Ob : Nat → Prop} {W0 : World} {A : PN} {H H' : AH} {n : Nat} {O : Nat → Prop}

theorem pre_nx {R : PN} {m : Nat} (b : Option Nat) (i : Nat) (h : i < m) : (R.app m b)[i]? = R[i]? := by
  rw [PN.get_app, if_neg (by omega)]
theorem pre_app {R : PN} {m : Nat} (hl : ∀ i, m ≤ i → R[i]? = none) (b : Option Nat) (i : Nat) (x : Option Nat) (h : R[i]? = some x) : (R.app m b)[i]? = some x := by
  rw [PN.get_app]
  split
  · rename_i e; subst e; rw [hl i (Nat.le_refl _)] at h; cases h
  · exact h
theorem app_last (R : PN) (m : Nat) (b : Option Nat) : (R.app m b)[m]? = some b := by rw [PN.get_app, if_pos rfl]

theorem push_len {m : Nat} (hl : ∀ i, m ≤ i → R[i]? = none) (b : Option Nat) : ∀ i, m + 1 ≤ i → (R.app m b)[i]? = none := fun i hi => by
  rw [PN.get_app, if_neg (by omega)]; exact hl i (by omega)

theorem own_push (hl : ∀ i, H.nx ≤ i → R[i]? = none) {b : Option Nat} {en : Ent} {g : Nat} : Own (R.app H.nx b) (H.push en) g → (∃ i e, i ≠ H.nx ∧ H.get i = some e ∧ (R.app H.nx b)[i]? = some (some g)) ∨ b = some g := by
  rintro ⟨i, e, hi, hR⟩
  rw [get_push] at hi
  split at hi
  · rename_i h
    subst h
    rw [app_last] at hR
    exact .inr (Option.some.inj hR)
  · rename_i h
    exact .inl ⟨i, e, fun k => h k.symm, hi, hR⟩

/-- A new entry under a new name: a fresh block, or none. -/
theorem HRel.push (hH : HRel F Ob W0 R H w) (hx : Ext (fun _ => False) w w') {b : Option Nat} {en : Ent} (hb : ∀ g, b = some g → w.heap.size ≤ g)
    (hen : ∀ O', (∀ g, g < w.heap.size → O' g → Wr F R H g) → en.holds (R.app H.nx b) w' O' b) : HRel F Ob W0 (R.app H.nx b) (H.push en) w' ∧ ∀ g, g < w.heap.size → Wr F (R.app H.nx b) (H.push en) g → Wr F R H g := by
  have hown : ∀ g, Own (R.app H.nx b) (H.push en) g → Own R H g ∨ w.heap.size ≤ g := by
    intro g hg
    rcases own_push hH.len hg with ⟨i, e, _, hi, hR⟩ | h
    · obtain ⟨c, hc, he⟩ := hH.ent i e hi
      have := pre_app hH.len b i c hc
      rw [hR] at this
      cases this
      exact .inl ⟨i, e, hi, hc⟩
    · exact .inr (hb g h)
  have hwr : ∀ g, g < w.heap.size → Wr F (R.app H.nx b) (H.push en) g → Wr F R H g := fun g hg h => h.imp id fun h => (hown g h).resolve_right (by omega)
  refine ⟨⟨push_len hH.len _, hH.ext.trans hx (fun _ _ k => k.elim), hH.fb, fun g hg => ?_, fun i e hi => ?_, fun i j e e' g hi hj hg hg' => ?_⟩, hwr⟩
  · rcases hown g hg with h | h
    · exact hH.own g h
    · exact .inr (Nat.le_trans hH.ext.size h)
  · rw [get_push] at hi
    split at hi
    · rename_i h
      subst h
      cases hi
      exact ⟨b, by exact app_last R _ b, hen _ hwr⟩
    · obtain ⟨c, hc, he⟩ := hH.ent i e hi
      refine ⟨c, pre_app hH.len b i c hc, Ent.holds_mono he (pre_app hH.len b) (hx.weaken fun _ _ k => k.elim) hwr fun g hg => ?_⟩
      subst hg
      exact hx.blk g (Ent.lt he) (fun k => k)
  · have key : ∀ i e, (H.push en).get i = some e → (R.app H.nx b)[i]? = some (some g) → (i = H.nx ∧ b = some g) ∨ (H.get i = some e ∧ R[i]? = some (some g)) := by
      intro i e hi hg
      rw [get_push] at hi
      split at hi
      · rename_i h
        subst h
        rw [app_last] at hg
        exact .inl ⟨rfl, Option.some.inj hg⟩
      · obtain ⟨c, hc, he⟩ := hH.ent i e hi
        have := pre_app hH.len b i c hc
        rw [hg] at this
        cases this
        exact .inr ⟨hi, hc⟩
    rcases key i e hi hg with ⟨h1, h2⟩ | ⟨h1, h2⟩
    · rcases key j e' hj hg' with ⟨h3, h4⟩ | ⟨h3, h4⟩
      · rw [h1, h3]
      · have := hH.own_lt ⟨j, e', h3, h4⟩
        have := hb g h2
        omega
    · rcases key j e' hj hg' with ⟨h3, h4⟩ | ⟨h3, h4⟩
      · have := hH.own_lt ⟨i, e, h1, h2⟩
        have := hb g h4
        omega
      · exact hH.dis i j e e' g h1 h3 h2 h4

theorem own_set {i : Nat} {e en : Ent} (hi : H.get i = some e) (g : Nat) : Own R (H.set i en) g ↔ Own R H g := by
  constructor
  · rintro ⟨j, e', hj, hR⟩
    rw [get_set] at hj
    split at hj
    · rename_i h; subst h; exact ⟨i, e, hi, hR⟩
    · exact ⟨j, e', hj, hR⟩
  · rintro ⟨j, e', hj, hR⟩
    by_cases h : i = j
    · subst h; exact ⟨i, en, by rw [get_set, if_pos rfl], hR⟩
    · exact ⟨j, e', by rw [get_set, if_neg h]; exact hj, hR⟩

/-- An owned block turns. -/
theorem HRel.upd (hH : HRel F Ob W0 R H w) {i b : Nat} {e en : Ent} (hi : H.get i = some e) (hb : R[i]? = some (some b)) (hx : Ext (fun g => g = b) w w')
    (hen : en.holds R w' (Wr F R (H.set i en)) (some b)) : HRel F Ob W0 R (H.set i en) w' ∧ ∀ g, Wr F R (H.set i en) g ↔ Wr F R H g := by
  have hwr : ∀ g, Wr F R (H.set i en) g ↔ Wr F R H g := fun g => or_congr Iff.rfl (own_set hi g)
  have hbo : Own R H b := ⟨i, e, hi, hb⟩
  refine ⟨⟨hH.len, hH.ext.trans hx (fun x hx' k => ?_), hH.fb, fun g hg => hH.own g ((own_set hi g).1 hg), fun j e' hj => ?_, fun j k e1 e2 g hj hk h1 h2 => ?_⟩, hwr⟩
  · subst k
    rcases hH.own x hbo with h | h
    · exact h
    · omega
  · rw [get_set] at hj
    split at hj
    · rename_i h
      subst h
      cases hj
      exact ⟨some b, hb, hen⟩
    · rename_i h
      obtain ⟨c, hc, he⟩ := hH.ent j e' hj
      have hx' : Ext (Wr F R H) w w' := hx.weaken fun g _ k => by subst k; exact .inr hbo
      refine ⟨c, hc, Ent.holds_mono he (fun _ _ k => k) hx' (fun g _ k => (hwr g).1 k) fun g hg => ?_⟩
      subst hg
      refine hx.blk g (Ent.lt he) fun k => ?_
      subst k
      exact h (hH.dis i j e e' g hi hj hb hc)
  · have key : ∀ j e1, (H.set i en).get j = some e1 → ∃ e2, H.get j = some e2 := by
      intro j e1 hj
      rw [get_set] at hj
      split at hj
      · rename_i h; subst h; exact ⟨e, hi⟩
      · exact ⟨e1, hj⟩
    obtain ⟨e3, h3⟩ := key j e1 hj
    obtain ⟨e4, h4⟩ := key k e2 hk
    exact hH.dis j k e3 e4 g h3 h4 h1 h2

/-- An entry is given up. -/
theorem HRel.del (hH : HRel F Ob W0 R H w) (i : Nat) : HRel F Ob W0 R (H.del i) w ∧ ∀ g, Wr F R (H.del i) g → Wr F R H g := by
  have hget : ∀ {j e}, (H.del i).get j = some e → j ≠ i ∧ H.get j = some e := by
    intro j e hj
    rw [get_del] at hj
    split at hj
    · cases hj
    · rename_i h; exact ⟨fun k => h k.symm, hj⟩
  have hown : ∀ g, Own R (H.del i) g → Own R H g := fun g ⟨j, e, hj, hR⟩ => ⟨j, e, (hget hj).2, hR⟩
  have hwr : ∀ g, Wr F R (H.del i) g → Wr F R H g := fun g h => h.imp id (hown g)
  refine ⟨⟨hH.len, hH.ext, hH.fb, fun g hg => hH.own g (hown g hg), fun j e hj => ?_, fun j k e1 e2 g hj hk h1 h2 => hH.dis j k e1 e2 g (hget hj).2 (hget hk).2 h1 h2⟩, hwr⟩
  obtain ⟨c, hc, he⟩ := hH.ent j e (hget hj).2
  exact ⟨c, hc, Ent.holds_mono he (fun _ _ k => k) (Ext.refl (Wr F R H) _) (fun g _ k => hwr g k) (fun _ _ => rfl)⟩

/-- An entry goes on under a new name. -/
theorem HRel.ren (hH : HRel F Ob W0 R H w) {i : Nat} {e : Ent} {b : Option Nat} (hi : H.get i = some e) (hb : R[i]? = some b) :
    HRel F Ob W0 (R.app H.nx b) ((H.del i).push e) w ∧ ∀ g, g < w.heap.size → Wr F (R.app H.nx b) ((H.del i).push e) g → Wr F R H g := by
  have hnx : (H.del i).nx = H.nx := rfl
  have hget : ∀ {j e'}, ((H.del i).push e).get j = some e' → (j = H.nx ∧ e' = e) ∨ (j ≠ H.nx ∧ j ≠ i ∧ H.get j = some e') := by
    intro j e' hj
    rw [get_push, hnx] at hj
    split at hj
    · rename_i h; cases hj; exact .inl ⟨h.symm, rfl⟩
    · rename_i h
      rw [get_del] at hj
      split at hj
      · cases hj
      · rename_i h'; exact .inr ⟨fun k => h k.symm, fun k => h' k.symm, hj⟩
  have hnam : ∀ {j e' g}, ((H.del i).push e).get j = some e' → (R.app H.nx b)[j]? = some (some g) → (j = H.nx ∧ e' = e ∧ R[i]? = some (some g)) ∨ (j ≠ i ∧ H.get j = some e' ∧ R[j]? = some (some g)) := by
    intro j e' g hj hg
    rcases hget hj with ⟨h1, h2⟩ | ⟨h1, h2, h3⟩
    · subst h1
      rw [app_last] at hg
      cases hg
      exact .inl ⟨rfl, h2, hb⟩
    · obtain ⟨c, hc, he⟩ := hH.ent j e' h3
      have := pre_app hH.len b j c hc
      rw [hg] at this
      cases this
      exact .inr ⟨h2, h3, hc⟩
  have hown : ∀ g, Own (R.app H.nx b) ((H.del i).push e) g → Own R H g := by
    rintro g ⟨j, e', hj, hR⟩
    rcases hnam hj hR with ⟨_, _, h⟩ | ⟨_, h1, h2⟩
    · exact ⟨i, e, hi, h⟩
    · exact ⟨j, e', h1, h2⟩
  have hwr : ∀ g, g < w.heap.size → Wr F (R.app H.nx b) ((H.del i).push e) g → Wr F R H g := fun g _ h => h.imp id (hown g)
  refine ⟨⟨push_len hH.len _, hH.ext, hH.fb, fun g hg => hH.own g (hown g hg), fun j e' hj => ?_, fun j k e1 e2 g hj hk h1 h2 => ?_⟩, hwr⟩
  · rcases hget hj with ⟨h1, h2⟩ | ⟨h1, h2, h3⟩
    · subst h1; subst h2
      obtain ⟨c, hc, he⟩ := hH.ent i _ hi
      rw [hb] at hc
      cases hc
      exact ⟨b, by exact app_last R _ b, Ent.holds_mono he (pre_app hH.len b) (Ext.refl (Wr F R H) _) hwr (fun _ _ => rfl)⟩
    · obtain ⟨c, hc, he⟩ := hH.ent j _ h3
      exact ⟨c, pre_app hH.len b j c hc, Ent.holds_mono he (pre_app hH.len b) (Ext.refl (Wr F R H) _) hwr (fun _ _ => rfl)⟩
  · rcases hnam hj h1 with ⟨a1, a2, a3⟩ | ⟨a1, a2, a3⟩
    · rcases hnam hk h2 with ⟨b1, b2, b3⟩ | ⟨b1, b2, b3⟩
      · rw [a1, b1]
      · exact absurd (hH.dis i k e e2 g hi b2 a3 b3).symm b1
    · rcases hnam hk h2 with ⟨b1, b2, b3⟩ | ⟨b1, b2, b3⟩
      · exact absurd (hH.dis j i e1 e g a2 hi a3 b3) a1
      · exact hH.dis j k e1 e2 g a2 b2 a3 b3

/-- What an operation leaves. -/
def GP (F Ob : Nat → Prop) (W0 : World) (R : PN) (H : AH) (o : Oper) (a : Act) (e : Env) (K : AV → AH → Prop) (a' : Act) (w' : World) : Prop :=
  ∃ R' v H' cv, K v H' ∧ a' = a.put o.dst cv ∧ (∀ i, i < H.nx → R'[i]? = R[i]?) ∧ HRel F Ob W0 R' H' w' ∧ ERel R' w' (Wr F R' H') e a.tmps ∧ Rep R' w' (Wr F R' H') v cv

theorem gp_run {o : Oper} {a : Act} {e : Env} {K : AV → AH → Prop} {cv : Value} (hrun : (execOp a.eval o).run P w = .ok (.value cv) w') {R' : PN} {v : AV} (hE : ERel R w (Wr F R H) e a.tmps) (hK : K v H') (hl : ∀ i, H.nx ≤ i → R[i]? = none) (hR : ∀ i, i < H.nx → R'[i]? = R[i]?)
    (hx : Ext (Wr F R H) w w') (hH' : HRel F Ob W0 R' H' w') (hwr : ∀ g, g < w.heap.size → Wr F R' H' g → Wr F R H g) (hv : Rep R' w' (Wr F R' H') v cv) : o.wp P a w (GP F Ob W0 R H o a e K) NoWay := by
  unfold Oper.wp
  rw [hrun]
  exact ⟨R', v, H', cv, hK, rfl, hR, hH', hE.mono (fun i x h => by
    rcases Nat.lt_or_ge i H.nx with hlt | hge
    · rw [hR i hlt]; exact h
    · rw [hl i hge] at h; cases h) hx hwr, hv⟩

theorem heap_push (w : World) (o : Obj) : (w.alloc o).heap[w.heap.size]? = some o := heap_alloc_new w o

theorem alloc_ok (hT : TOK P C.T) {o : Oper} {a : Act} {e : Env} {K : AV → AH → Prop} {t : TypeId} (ho : o.op = .alloc t) (h : aopG C o.op e H K) (hH : HRel F Ob W0 R H w) (hE : ERel R w (Wr F R H) e a.tmps) : o.wp P a w (GP F Ob W0 R H o a e K) NoWay := by
  rw [ho] at h
  unfold aopG at h
  simp only at h
  split at h
  · rename_i i hi
    replace h := bif_true h; obtain ⟨h1, hK⟩ := h
    obtain ⟨inf, ds, z, g1, g2, g3, rfl⟩ := probe_inv (hT t i hi)
    simp only at h1 hK
    have hx := Ext.alloc (fun _ => False) w (.cells z.cells t)
    obtain ⟨p1, p2⟩ := hH.push (b := some w.heap.size) (en := .cells t (z.cells.toList.map ofVal1)) hx (fun g hg => by cases hg; exact Nat.le_refl _) (fun O' hO' =>
      ⟨z.cells.toList, (0, 0), by rw [heap_push], nf0 _, by simp, fun j x v hj hv => ⟨List.all_eq_true.1 h1 v (List.mem_of_getElem? hv), (zero_rel z.cells.toList).2 j x v hj hv⟩⟩)
    refine gp_run (cv := .pointer (some ⟨w.heap.size, 0, none⟩)) ?_ hE hK hH.len (fun i hi => pre_nx _ i hi) (hx.weaken fun _ _ k => k.elim) p1 p2 (.ptr _ _ _ (by exact app_last _ _ _))
    simp [execOp, ho, Instr.alloc, zeroValue, typeInfo, g1, g3, newVar, newRow, newObj]
    rfl
  · exact h.elim

theorem box_ok (hT : TOK P C.T) {o : Oper} {a : Act} {e : Env} {K : AV → AH → Prop} {t : TypeId} {x : Operand} (ho : o.op = .box t x) (h : aopG C o.op e H K) (hH : HRel F Ob W0 R H w) (hE : ERel R w (Wr F R H) e a.tmps) : o.wp P a w (GP F Ob W0 R H o a e K) NoWay := by
  rw [ho] at h
  unfold aopG at h
  simp only at h
  split at h
  · rename_i i v hi hv
    replace h := bif_true h; obtain ⟨h1, hK⟩ := h
    simp only [Bool.and_eq_true] at h1
    obtain ⟨⟨h1, h2⟩, h3⟩ := h1
    have hr := evA_rep hE hv
    have hc := rep_cells hr h2
    have hx := Ext.alloc (fun _ => False) w (.cells (a.eval x).cells t)
    obtain ⟨p1, p2⟩ := hH.push (b := some w.heap.size) (en := .cells t (cellsA v)) hx (fun g hg => by cases hg; exact Nat.le_refl _) (fun O' hO' =>
      ⟨(a.eval x).cells.toList, (0, 0), by rw [heap_push], nf0 _, hc.1, fun j x' v' hj hv' =>
        ⟨(rep_one (hc.2 j x' v' hj hv') (List.all_eq_true.1 h3 x' (List.mem_of_getElem? hj))).2, (hc.2 j x' v' hj hv').mono (pre_app hH.len _) (Ext.alloc (Wr F R H) w _) hO'⟩⟩)
    refine gp_run (cv := .pointer (some ⟨w.heap.size, 0, none⟩)) ?_ hE hK hH.len (fun i hi => pre_nx _ i hi) (hx.weaken fun _ _ k => k.elim) p1 p2 (.ptr _ _ _ (by exact app_last _ _ _))
    simp [execOp, ho, Instr.box, newVar, newRow, newObj]
    rfl
  · exact h.elim

theorem nf_ext {w w' : World} {O : Nat → Prop} {b : Nat} {vs us : List Value} {t t' : TypeId} {fr fr' : Nat × Nat} (h1 : w.heap[b]? = some (.cells vs.toArray t fr)) (h2 : w'.heap[b]? = some (.cells us.toArray t' fr')) (hx : Ext O w w') (h : NF fr' vs.length) : NF fr' us.length := by
  have := hx.shp b (t, vs.length) (by unfold World.shape?; rw [h1]; simp)
  unfold World.shape? at this
  rw [h2] at this
  simp at this
  rw [this.2]; exact h
theorem run_append_room_w {P : Program} {w w' : World} (t ty e : TypeId) (i : TypeInfo) (ht : P.underlying t = some (.slice e)) (hi : P.info? e = some i) (g sLen sCap : Nat)
    (a : Addr) (m c : Nat) (news : List Value) (hl : news.length = m * i.size) (hnews : ∀ j u, news[j]? = some u → w.cell? (a.add j) = some u)
    (hroom : sLen + m ≤ sCap) (hst : (storeCells ⟨g, sLen * i.size, none⟩ news 0).run P w = .ok () w') :
    (Builtin.append_ #[t, t] ty #[.slice (some ⟨g, 0, none⟩) sLen sCap, .slice (some a) m c]).run P w = .ok (.slice (some ⟨g, 0, none⟩) (sLen + m) sCap) w' := by
  have hf := run_firstCells_some (P := P) w i.size m a m c news hl hnews
  simp [Builtin.append_, run_underlying ht, sizeOf, typeInfo, hi, Builtin.lenOf, hroom, hf, Addr.add_lit, hst]
theorem run_copy_row_w {P : Program} {w w' : World} (dT sT ty elem : TypeId) (g o dLen dCap : Nat) (a : Addr) (sLen sCap : Nat) (cs : List Value)
    (hu : P.underlying dT = some (.slice elem)) (hs : (P.info? elem).map (·.size) = some 1) (hn : cs.length = Nat.min sLen dLen)
    (hsrc : ∀ j v, cs[j]? = some v → w.cell? (a.add j) = some v) (hst : (storeCells ⟨g, o, none⟩ cs 0).run P w = .ok () w') :
    (Builtin.copy_ #[dT, sT] ty #[.slice (some ⟨g, o, none⟩) dLen dCap, .slice (some a) sLen sCap]).run P w = .ok (goInt cs.length) w' := by
  have hl := run_loadCells_list (P := P) w a cs hsrc
  cases hq : P.info? elem with
  | none => simp [hq] at hs
  | some i =>
    have hi : i.size = 1 := by simpa [hq] using hs
    simp [Builtin.copy_, run_underlying hu, Builtin.lenOf, Builtin.firstCells, sizeOf, typeInfo, hq, hi, ← hn, hl, hst]
theorem store_block (b : Nat) (t : TypeId) : ∀ (vs : List Value) (o i : Nat) (cur : List Value) (w : World), ∀ {fr : Nat × Nat}, w.heap[b]? = some (.cells cur.toArray t fr) → NF fr cur.length → o + i + vs.length ≤ cur.length → (∀ v ∈ vs, v.oneCell' = true) →
    ∃ w', (storeCells ⟨b, o, none⟩ vs i).run P w = .ok () w' ∧ w'.heap[b]? = some (.cells (cur.take (o + i) ++ vs ++ cur.drop (o + i + vs.length)).toArray t fr) ∧ Ext (fun g => g = b) w w'
  | [], o, i, cur, w, fr, hw, hnf, hl, h1 => ⟨w, by simp [storeCells], by simpa using hw, Ext.refl _ _⟩
  | v :: vs, o, i, cur, w, fr, hw, hnf, hl, h1 => by
    simp only [List.length_cons] at hl
    have hlt : o + i < cur.length := by omega
    have hc : w.cell? ⟨b, o + i, none⟩ = some (cur[o + i]'hlt) := by rw [cell_of_heap hw]; simp
    have hf : w.frozen? ⟨b, o + i, none⟩ = false := by
      have := hnf.get (o + i) hlt
      simp only [World.frozen?, hw, Bool.and_eq_false_iff, decide_eq_false_iff_not]
      omega
    have hset : (w.setCell ⟨b, o + i, none⟩ v).heap[b]? = some (.cells (cur.set (o + i) v).toArray t fr) := by
      simp [World.setCell, Array.getElem?_modify, hw]
    obtain ⟨w', g1, g2, g3⟩ := store_block b t vs o (i + 1) (cur.set (o + i) v) (w.setCell ⟨b, o + i, none⟩ v) hset (by rw [List.length_set]; exact hnf) (by simp; omega) (fun u hu => h1 u (by simp [hu]))
    refine ⟨w', ?_, ?_, (Ext.setCell (O := fun g => g = b) w v rfl).trans g3 (fun _ _ k => k)⟩
    · unfold storeCells
      rw [Sem.run_bind, Addr.add_mid, run_store P w _ v _ (h1 v (by simp))]
      simp only [stored, hc, hf]
      simpa using g1
    · rw [g2]
      have e1 : (cur.set (o + i) v).take (o + (i + 1)) = cur.take (o + i) ++ [v] := by
        rw [← Nat.add_assoc, List.take_add_one, List.take_set_of_le (Nat.le_refl _)]
        simp [hlt]
      have e2 : (cur.set (o + i) v).drop (o + (i + 1) + vs.length) = cur.drop (o + i + (vs.length + 1)) := by
        rw [List.drop_set_of_lt (by omega)]
        congr 1
        omega
      rw [e1, e2]
      simp

theorem all_one {vs : List Value} {l : List AV} (hc : CRel R w O l vs) (h : l.all isOne = true) : ∀ v ∈ vs, v.oneCell' = true := by
  intro v hv
  obtain ⟨j, hj, rfl⟩ := List.getElem_of_mem hv
  have hjl : j < l.length := by rw [hc.1]; exact hj
  exact (rep_one (hc.2 j l[j] vs[j] (by simp [hjl]) (by simp [hj])) (List.all_eq_true.1 h _ (List.getElem_mem hjl))).2

theorem run_storeAt {t : TypeId} {s : Nat} (hs : (sizeOf t).run P w = .ok s w) {b o : Nat} {v : Value} (hl : v.cells.size = s) {w' : World} (h : (storeCells ⟨b, o, none⟩ v.cells.toList 0).run P w = .ok () w') :
    (Instr.storeAt t (.pointer (some ⟨b, o, none⟩)) v).run P w = .ok () w' := by
  simp only [Instr.storeAt, Instr.sureAddr, Sem.run_bind, Sem.run_pure, Result.andThen_ok, storeVar, hs, hl]
  simpa using h

theorem upd_run {o : Oper} {a : Act} {e : Env} {K : AV → AH → Prop} {t : TypeId} {x y : Operand} (ho : o.op = .store t x y) {b of : Nat} (hx : a.eval x = .pointer (some ⟨b, of, none⟩)) {w' : World} (hrun : (Instr.storeAt t (a.eval x) (a.eval y)).run P w = .ok () w')
    (hH : HRel F Ob W0 R H w) (hE : ERel R w (Wr F R H) e a.tmps) {i : Nat} {e0 en : Ent} (hi : H.get i = some e0) (hb : R[i]? = some (some b)) (hxw : Ext (fun g => g = b) w w') (hen : en.holds R w' (Wr F R (H.set i en)) (some b)) (hK : K .any (H.set i en)) :
    o.wp P a w (GP F Ob W0 R H o a e K) NoWay := by
  obtain ⟨p1, p2⟩ := hH.upd hi hb hxw hen
  have hx' : Ext (Wr F R H) w w' := hxw.weaken fun g _ k => by subst k; exact .inr ⟨i, e0, hi, hb⟩
  unfold Oper.wp
  have : (execOp a.eval o).run P w = .ok .skip w' := by simp [execOp, ho, Sem.run_bind, hrun]
  rw [this]
  exact ⟨R, .any, _, undef, hK, rfl, fun _ _ => rfl, p1, hE.mono (fun _ _ k => k) hx' (fun g _ k => (p2 g).1 k), .any _⟩

theorem store_ok (hT : TOK P C.T) {o : Oper} {a : Act} {e : Env} {K : AV → AH → Prop} {t : TypeId} {x y : Operand} (ho : o.op = .store t x y) (h : aopG C o.op e H K) (hH : HRel F Ob W0 R H w) (hE : ERel R w (Wr F R H) e a.tmps) : o.wp P a w (GP F Ob W0 R H o a e K) NoWay := by
  rw [ho] at h
  unfold aopG at h
  simp only at h
  split at h
  · rename_i ax ay hax hay
    have hrx := evA_rep hE hax
    have hry := evA_rep hE hay
    unfold astore at h
    split at h
    · exact h.elim
    · rename_i s hs
      replace h := bif_true h; obtain ⟨h1, h⟩ := h
      simp only [Bool.and_eq_true] at h1
      obtain ⟨⟨h1, h2⟩, h3⟩ := h1
      have hsz := beq_iff.1 h1
      have hc := rep_cells hry h2
      have hcs : (a.eval y).cells.size = s := by rw [← hsz, hc.1]; simp
      have h1c := all_one hc h3
      have hso := szOf_inv (w := w) hT hs
      split at h
      · rename_i i of
        generalize hg : a.eval x = cx at hrx
        cases hrx with | ptr _ _ b hR =>
        split at h
        · rename_i bt l hl
          replace h := bif_true h; obtain ⟨h4, hK⟩ := h
          have hle := Nat.le_of_ble_eq_true h4
          obtain ⟨vs, fr, g1, g2, g3, g4⟩ := ent_cells hH hl hR
          obtain ⟨w', k1, k2, k3⟩ := store_block (P := P) b bt (a.eval y).cells.toList of 0 vs w g1 g2 (by rw [← g3.1]; simp; omega) h1c
          have hxw : Ext (Wr F R H) w w' := k3.weaken fun g _ k => by subst k; exact .inr ⟨i, _, hl, hR⟩
          refine upd_run ho (by rw [hg]) (by rw [hg]; exact run_storeAt hso hcs k1) hH hE hl hR k3 ?_ hK
          have hr := setRange_rel g3 hc of (by omega)
          refine ⟨_, fr, k2, nf_ext g1 k2 k3 g2, by have := hr.1; simpa using this, fun j x' v' hj hv' => ⟨?_, ?_⟩⟩
          · have hm : v' ∈ vs.take of ++ (a.eval y).cells.toList ++ vs.drop (of + (a.eval y).cells.toList.length) := List.mem_of_getElem? (by simpa using hv')
            simp only [List.mem_append] at hm
            rcases hm with (hm | hm) | hm
            · exact g4 v' (List.mem_of_mem_take hm)
            · exact h1c v' hm
            · exact g4 v' (List.mem_of_mem_drop hm)
          · exact (hr.2 j x' v' hj (by simpa using hv')).mono (fun _ _ k => k) hxw (fun g _ k => k.imp id (own_set hl g).1)
        · exact h.elim
      · rename_i i sz j f
        generalize hg : a.eval x = cx at hrx
        cases hrx with | eptr _ _ _ _ b hR =>
        split at h
        · rename_i el k l hl
          split at h
          · rename_i k' v
            replace h := bif_true h; obtain ⟨hkk, h⟩ := h
            simp only [Bool.and_eq_true] at hkk
            obtain ⟨⟨hkk, hs1⟩, hf0⟩ := hkk
            have := beqK_eq hkk
            subst this
            have := beq_iff.1 hs1
            subst this
            have := beq_iff.1 hf0
            subst this
            obtain ⟨hj, hK⟩ := h
            obtain ⟨vs, fr, g1, g2, g3, g4⟩ := ent_ints hH hl hR
            generalize hgy : a.eval y = cy at hry hc hcs h1c
            cases hry
            obtain ⟨w', k1, k2, k3⟩ := store_block (P := P) b el [.int k v] j 0 vs w g1 g2 (by simp; omega) (by simp [Value.oneCell'])
            refine upd_run ho (by rw [hg]) (by rw [hg, hgy]; refine run_storeAt hso hcs ?_; simpa [Value.cells] using k1) hH hE hl hR k3 ?_ hK
            refine ⟨_, fr, k2, nf_ext g1 k2 k3 g2, by simp; omega, fun m z hm => ?_⟩
            rw [List.getElem?_set] at hm
            simp only [Nat.add_zero, List.length_cons, List.length_nil, Nat.zero_add, List.append_assoc]
            rw [List.getElem?_append]
            simp only [List.length_take]
            rw [Nat.min_eq_left (by omega)]
            split at hm
            · rename_i hjm
              subst hjm
              simp [hj] at hm
              subst hm
              rw [if_neg (by omega)]
              simp
            · rename_i hjm
              split
              · rename_i hlt
                rw [List.getElem?_take_of_lt hlt]
                exact g4 m z hm
              · rename_i hge
                rw [List.getElem?_append_right (by simp; omega), List.getElem?_drop]
                have : j + 1 + (m - j - [Value.int k v].length) = m := by simp; omega
                rw [this]
                exact g4 m z hm
          · exact h.elim
        · exact h.elim
      · exact h.elim
  · exact h.elim

theorem zeros_rel (z : Array Value) (n : Nat) : CRel R w O ((List.range n).map fun j => (z.toList.map ofVal1).getD (j % z.toList.length) .any) ((Array.range n).map fun j => z[j % z.size]!).toList := by
  refine ⟨by simp, fun j x v hj hv => ?_⟩
  simp only [List.getElem?_map, Array.toList_map, Array.toList_range] at hj hv
  by_cases hlt : j < n
  · simp only [List.getElem?_range hlt, Option.map_some, Option.some.injEq] at hj hv
    subst hj; subst hv
    by_cases hz : z.size = 0
    · have : z = #[] := Array.eq_empty_of_size_eq_zero hz
      subst this
      exact .any _
    · have hm : j % z.size < z.size := Nat.mod_lt _ (by omega)
      have e1 : (z.toList.map ofVal1).getD (j % z.toList.length) .any = ofVal1 (z[j % z.size]'hm) := by
        simp [List.getD, hm]
      rw [e1, getElem!_pos z _ hm]
      exact ofVal1_rep _
  · rw [List.getElem?_eq_none (by simp; omega)] at hj
    cases hj

theorem run_newSlice {o : Oper} {a : Act} {t el : TypeId} {len : Nat} {ps : Array (Nat × Operand)} (ho : o.op = .buildSlice t len ps) {inf : TypeInfo} {z : Value} (hu : P.underlying t = some (.slice el)) (hi : P.info? el = some inf) (hz : inf.zero = some z)
    (hle : len * inf.size ≤ 16777216) (hpos : 0 < len * inf.size → True) {cells : List Value} (hf : Instr.fill (fun i => some (i * inf.size, inf.size)) ((Array.range (len * inf.size)).map fun j => z.cells[j % z.cells.size]!) (ps.toList.map fun p => (p.1, a.eval p.2)) = some cells.toArray) :
    (execOp a.eval o).run P w = .ok (.value (.slice (some ⟨w.heap.size, 0, none⟩) len len)) (w.alloc (.cells cells.toArray el)) := by
  have hps : (ps.map fun (i, x) => (i, a.eval x)).toList = ps.toList.map fun p => (p.1, a.eval p.2) := by simp
  have hng : ¬ (len * inf.size > 2 ^ 24) := by omega
  have hm : ((ps.map fun (i, x) => (i, a.eval x)).toList) = ps.toList.map fun p => (p.1, a.eval p.2) := hps
  have key : ∀ zc : Array Value, ((Array.range (len * inf.size)).map fun j => z.cells[j % z.cells.size]!) = ((Array.range (len * inf.size)).map fun j => zc[j % zc.size]!) →
      Instr.fill (fun i => some (i * inf.size, inf.size)) ((Array.range (len * inf.size)).map fun j => zc[j % zc.size]!) ((ps.map fun (i, x) => (i, a.eval x)).toList) = some cells.toArray := fun zc hz => by rw [hm, ← hz]; exact hf
  by_cases h0 : len * inf.size = 0
  · have k := key #[] (by rw [h0]; simp)
    simp only [execOp, ho, Instr.buildSlice, Sem.run_bind, run_underlying hu, sizeOf, typeInfo, hi, Sem.run_pure, Result.andThen_ok, run_program, hng, if_false, h0, if_true]
    rw [h0] at k
    simp only [show ¬ (0 > 2 ^ 24) by decide, if_false, Sem.run_bind, Sem.run_pure, Result.andThen_ok, k, newRow, newObj]
    rfl
  · have k := key z.cells rfl
    simp only [execOp, ho, Instr.buildSlice, Sem.run_bind, run_underlying hu, sizeOf, typeInfo, zeroValue, hz, hi, Sem.run_pure, Result.andThen_ok, run_program, hng, if_false, h0]
    simp only [k, newRow, newObj]
    rfl

theorem intsOf_all {k : IntKind} : ∀ {l : List AV} {z : List Int}, intsOf k l = some z → l = z.map (AV.int k)
  | [], z, h => by simp [intsOf] at h; subst h; rfl
  | x :: l, z, h => by
    cases x <;> simp [intsOf] at h
    rename_i k' n
    replace h := bif_some h; obtain ⟨hb, h⟩ := h
    replace h := opt_map h; obtain ⟨z', hz, he⟩ := h
    subst he
    have := beqK_eq hb
    subst this
    rw [intsOf_all hz]
    rfl

theorem buildSlice_ok (hT : TOK P C.T) {o : Oper} {a : Act} {e : Env} {K : AV → AH → Prop} {t : TypeId} {len : Nat} {ps : Array (Nat × Operand)} (ho : o.op = .buildSlice t len ps) (h : aopG C o.op e H K) (hH : HRel F Ob W0 R H w) (hE : ERel R w (Wr F R H) e a.tmps) :
    o.wp P a w (GP F Ob W0 R H o a e K) NoWay := by
  rw [ho] at h
  unfold aopG at h
  simp only at h
  unfold abuildSlice at h
  split at h
  · rename_i el hd
    have hu := tdq_slice hT hd
    split at h
    · rename_i i hi
      obtain ⟨inf, ds, z, g1, g2, g3, rfl⟩ := probe_inv (hT _ i hi)
      simp only at h
      replace h := bif_true h; obtain ⟨h1, h⟩ := h
      simp only [Bool.and_eq_true] at h1
      obtain ⟨⟨hle, hpos⟩, hzl⟩ := h1
      have hle := Nat.le_of_ble_eq_true hle
      have hpos : 0 < inf.size := Nat.le_of_ble_eq_true hpos
      split at h
      · rename_i l hl
        obtain ⟨us, hus, hc⟩ := fill_ok hE ps.toList _ _ l (zeros_rel (R := R) (w := w) (O := Wr F R H) z.cells (len * inf.size)) hl
        have hrun := run_newSlice (P := P) (w := w) (a := a) ho hu g1 g3 hle (fun _ => trivial) (cells := us) (by have h0 := hus; rw [Array.toArray_toList] at h0; exact h0)
        have hx := Ext.alloc (fun _ => False) w (.cells us.toArray el)
        have hxw : Ext (Wr F R H) w (w.alloc (.cells us.toArray el)) := Ext.alloc _ w _
        have hlen : l.length = len * inf.size := by
          have : ∀ (ps : List (Nat × Operand)) (l0 l : List AV), fillA (fun j => some (j * inf.size, inf.size)) e l0 ps = some l → l.length = l0.length := by
            intro ps
            induction ps with
            | nil => intro l0 l h; simp [fillA] at h; rw [h]
            | cons p ps ih =>
              intro l0 l h
              obtain ⟨i, x⟩ := p
              unfold fillA at h
              simp only [forceA_eq] at h
              split at h
              · rename_i off sz v hp hv
                replace h := bif_some h; obtain ⟨hb, h⟩ := h
                simp only [Bool.and_eq_true] at hb
                have e1 := Nat.le_of_ble_eq_true hb.2
                have e2 := beq_iff.1 hb.1.2
                rw [ih _ _ h]
                simp [setRange]
                omega
              · cases h
          rw [this _ _ _ hl]; simp [zerosA]
        have hsl : ∀ {R'}, (∀ (i : Nat) (x : Option Nat), R[i]? = some x → R'[i]? = some x) → R'[H.nx]? = some (some w.heap.size) → ∀ O', len * inf.size ≤ 16777216 → Rep R' (w.alloc (.cells us.toArray el)) O' (.sl H.nx inf.size 0 len) (.slice (some ⟨w.heap.size, 0, none⟩) len len) := by
          intro R' _ hR' O' _
          refine .sl _ _ _ _ w.heap.size len 0 (el, us.length) hR' (Nat.le_refl _) ?_ (fun _ => by simp) (by unfold World.shape?; rw [heap_push]; simp) (by rw [← hc.1, hlen]; simp)
          have := Nat.le_mul_of_pos_right len hpos
          simp only [maxLen]; omega
        split at h
        · rename_i k hk
          split at h
          · rename_i zz hz
            replace h := bif_true h; obtain ⟨hs1, hK⟩ := h
            have hs1 := beq_iff.1 hs1
            have hall := intsOf_all hz
            obtain ⟨p1, p2⟩ := hH.push (b := some w.heap.size) (en := .ints el k zz) hx (fun g hg => by cases hg; exact Nat.le_refl _) (fun O' hO' =>
              ⟨us, (0, 0), by rw [heap_push], nf0 _, by rw [← hc.1, hall]; simp, fun j x hj => by
                obtain ⟨v, hv, hr⟩ := hc.get (j := j) (x := .int k x) (by rw [hall]; simp [hj])
                cases hr; exact hv⟩)
            refine gp_run hrun hE hK hH.len (fun i hi => pre_nx _ i hi) hxw p1 p2 ?_
            have := hsl (pre_app hH.len (some w.heap.size)) (by exact app_last _ _ _) (Wr F (R.app H.nx (some w.heap.size)) (H.push (.ints el k zz))) hle
            rw [hs1] at this
            exact this
          · exact h.elim
        · replace h := bif_true h; obtain ⟨hs1, hK⟩ := h
          simp only [Bool.and_eq_true] at hs1
          obtain ⟨⟨hnl, hone⟩, hag⟩ := hs1
          have h1c := all_one hc hone
          obtain ⟨p1, p2⟩ := hH.push (b := some w.heap.size) (en := .recs el inf.size len (chunkA ⟨tdOf ds, inf.size, inf.bytes, z.cells.toList, plainT P el ds⟩ l)) hx (fun g hg => by cases hg; exact Nat.le_refl _) (fun O' hO' => by
            have key : ∀ j, j < len → j * inf.size + inf.size ≤ len * inf.size := fun j hj => by
              rw [← Nat.succ_mul]; exact Nat.mul_le_mul_right _ hj
            cases hagg : TI.isAgg ⟨tdOf ds, inf.size, inf.bytes, z.cells.toList, plainT P el ds⟩ with
            | true =>
              refine ⟨us, (0, 0), fun j => .agg ((us.drop (j * inf.size)).take inf.size).toArray, by rw [heap_push], nf0 _, by rw [← hc.1, hlen]; exact Nat.le_refl _, fun j hj => ⟨?_, ?_⟩, fun j hj f hf => ?_⟩
              · have := key j hj
                have e1 := hc.1
                simp [Value.cells]; omega
              · simp only [chunkA, hagg, cond_true]
                have h3 := hc.sub (j * inf.size) inf.size
                have h4 : Rep noN w (Wr F R H) (.agg (subA l (j * inf.size) inf.size)) (.agg ((us.drop (j * inf.size)).take inf.size).toArray) :=
                  nlB_rep h3.rep (by simp only [nlB, List.all_eq_true]; intro x hx; exact List.all_eq_true.1 hnl x (List.mem_of_mem_drop (List.mem_of_mem_take hx))) noN
                exact h4.mono (fun _ _ k => k) hxw hO'
              · have := key j hj
                have e1 := hc.1
                have hlt : j * inf.size + f < us.length := by omega
                refine ⟨us[j * inf.size + f], by simp [hlt], ?_, h1c _ (List.getElem_mem hlt)⟩
                simp [Value.cells, List.getElem?_take, hf, hlt]
            | false =>
              have hs : inf.size = 1 := by
                rw [hagg] at hag
                exact beq_iff.1 (by simpa using hag)
              refine ⟨us, (0, 0), fun j => us.getD j undef, by rw [heap_push], nf0 _, by rw [← hc.1, hlen]; exact Nat.le_refl _, fun j hj => ?_, fun j hj f hf => ?_⟩
              · have hlt : j < l.length := by rw [hlen, hs]; omega
                have hlu : j < us.length := by rw [← hc.1]; exact hlt
                have h3 := hc.2 j (l[j]) us[j] (by simp) (by simp)
                have e1 : us.getD j undef = us[j] := by simp [List.getD, hlu]
                have e2 : l.getD j .any = l[j] := by simp [List.getD, hlt]
                have h4 := List.all_eq_true.1 hnl _ (List.getElem_mem hlt)
                have h5 := List.all_eq_true.1 hone _ (List.getElem_mem hlt)
                refine ⟨by simp only [e1]; rw [(rep_one h3 h5).1, hs]; rfl, ?_⟩
                simp only [chunkA, hagg, cond_false, e1, e2]
                exact (nl0_rep h3 h4 noN).mono (fun _ _ k => k) hxw hO'
              · have hlt : j < l.length := by rw [hlen, hs]; omega
                have hlu : j < us.length := by rw [← hc.1]; exact hlt
                have h3 := hc.2 j (l[j]) us[j] (by simp) (by simp)
                have e1 : us.getD j undef = us[j] := by simp [List.getD, hlu]
                have h5 := List.all_eq_true.1 hone _ (List.getElem_mem hlt)
                obtain rfl : f = 0 := by omega
                refine ⟨us[j], by rw [hs]; simp [hlu], ?_, (rep_one h3 h5).2⟩
                simp only [e1]
                rw [(rep_one h3 h5).1]; rfl)
          exact gp_run hrun hE hK hH.len (fun i hi => pre_nx _ i hi) hxw p1 p2 (hsl (pre_app hH.len (some w.heap.size)) (by exact app_last _ _ _) _ hle)
      · exact h.elim
    · exact h.elim
  · exact h.elim

theorem make_ok (hT : TOK P C.T) {o : Oper} {a : Act} {e : Env} {K : AV → AH → Prop} {t : TypeId} {x y : Operand} (ho : o.op = .makeSlice t x y) (h : aopG C o.op e H K) (hH : HRel F Ob W0 R H w) (hE : ERel R w (Wr F R H) e a.tmps) :
    o.wp P a w (GP F Ob W0 R H o a e K) NoWay := by
  rw [ho] at h
  unfold aopG at h
  simp only at h
  split at h
  · rename_i an ac hn hc
    have hrn := evA_rep hE hn
    have hrc := evA_rep hE hc
    unfold amake at h
    split at h
    · rename_i el kn n kc c hd
      have hu := tdq_slice hT hd
      split at h
      · rename_i i hi
        obtain ⟨inf, ds, z, g1, g2, g3, rfl⟩ := probe_inv (hT _ i hi)
        simp only at h
        split at h
        · rename_i k k' hk hzz
          replace h := bif_true h; obtain ⟨h1, h⟩ := h
          rw [Bool.and_eq_true] at h1
          have hkk := beqK_eq h1.1
          subst hkk
          have hs1 := beq_iff.1 h1.2
          obtain ⟨⟨k0, k1, k2, k3⟩, hK⟩ := h
          generalize hgx : a.eval x = cx at hrn
          generalize hgy : a.eval y = cy at hrc
          cases hrn; cases hrc
          have hzc : z.cells = #[.int k 0] := by
            have : z.cells.toList = [.int k 0] := hzz
            rw [← Array.toArray_toList (xs := z.cells), this]
          have cells : ((Array.range (c.toNat * 1)).map fun j => (#[.int k 0] : Array Value)[j % 1]!) = (List.replicate c.toNat (Value.int k 0)).toArray := by
            apply Array.ext
            · simp
            · intro j h1 h2
              simp [Nat.mod_one]
          have hx := Ext.alloc (fun _ => False) w (.cells (List.replicate c.toNat (Value.int k 0)).toArray el)
          have hrun : (execOp a.eval o).run P w = .ok (.value (.slice (some ⟨w.heap.size, 0, none⟩) n.toNat c.toNat)) (w.alloc (.cells (List.replicate c.toNat (Value.int k 0)).toArray el)) := by
            have hr := run_make (P := P) w t el inf z hu g1 g3 kn kc n c k0 k1 (by rw [Int.mul_comm]; omega) (by omega)
            have e1 : madeCells z.cells (c.toNat * inf.size) = (List.replicate c.toNat (Value.int k 0)).toArray := by
              rw [hs1, hzc]
              simpa [madeCells] using cells
            rw [e1] at hr
            simp [execOp, ho, hgx, hgy, Sem.run_bind, hr]
          obtain ⟨p1, p2⟩ := hH.push (b := some w.heap.size) (en := .ints el k (List.replicate n.toNat 0)) hx (fun g hg => by cases hg; exact Nat.le_refl _) (fun O' hO' =>
            ⟨List.replicate c.toNat (.int k 0), (0, 0), by rw [heap_push], nf0 _, by simp; omega, fun j x hj => by
              rw [List.getElem?_replicate] at hj ⊢
              split at hj
              · cases hj
                rw [if_pos (by omega)]
              · cases hj⟩)
          refine gp_run hrun hE hK hH.len (fun i hi => pre_nx _ i hi) (Ext.alloc _ w _) p1 p2 (.sl _ _ _ _ w.heap.size c.toNat 0 (el, c.toNat) (by exact app_last _ _ _) (by omega) (by simp only [maxLen]; omega) (fun _ => by simp) (by unfold World.shape?; rw [heap_push]; simp) (by simp))
        · exact h.elim
      · exact h.elim
    · exact h.elim
  · exact h.elim
end
end Go.Proofs.Ytdiflkabpjnncaa
