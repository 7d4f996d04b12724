
/- The engine, part 13: append, calls of functions that may turn memory; all operations: sound. No condition. -/
import Derived.Test.YtdiflkabpjnncaaE12
namespace Go.Proofs.Ytdiflkabpjnncaa
open Go Go.RowKit
set_option linter.unusedVariables false
set_option linter.unusedSimpArgs false

section
variable {P : Program} {C : Ctx} {R : PN} {w w' : World} {F Ob : Nat → Prop} {W0 : World} {A : PN} {H H' : AH} {n : Nat} {O : Nat → Prop}

def Ent.info : Ent → Option (TypeId × Nat × Nat)
  | .ints e _ l => some (e, 1, l.length)
  | .recs e s n _ => some (e, s, n)
  | .cells _ _ => none
  | .recs1 _ _ _ _ _ _ => none

/-- The cells us are what a row's entry says. -/
def RowOK (w : World) (O : Nat → Prop) : Ent → List Value → Prop
  | .ints _ k l, us => us = l.map (.int k)
  | .recs _ s n get, us => us.length = n * s ∧ (∀ u ∈ us, u.oneCell' = true) ∧ ∃ vals : Nat → Value, ∀ j, j < n → (vals j).cells.size = s ∧ Rep noN w O (get j) (vals j) ∧ ∀ f, f < s → us[j * s + f]? = (vals j).cells[f]?
  | .cells _ _, _ => False
  | .recs1 _ _ _ _ _ _, _ => False

theorem RowOK.mono {O' : Nat → Prop} {en : Ent} {us : List Value} (h : RowOK w O en us) (hx : Ext O w w') (hO : ∀ b, b < w.heap.size → O' b → O b) : RowOK w' O' en us := by
  cases en with
  | ints e k l => exact h
  | recs e s n get =>
    obtain ⟨h1, h2, vals, h3⟩ := h
    exact ⟨h1, h2, vals, fun j hj => ⟨(h3 j hj).1, (h3 j hj).2.1.mono (fun _ _ k => k) hx hO, (h3 j hj).2.2⟩⟩
  | cells t l => exact h
  | recs1 e sz n get f y => exact h

theorem rec_lt {n s j f : Nat} (hj : j < n) (hf : f < s) : j * s + f < n * s := by
  have : j * s + s ≤ n * s := by rw [← Nat.succ_mul]; exact Nat.mul_le_mul_right _ hj
  omega

theorem row_of_holds {en : Ent} {b : Nat} (h : en.holds R w O (some b)) {el : TypeId} {s n : Nat} (hi : en.info = some (el, s, n)) :
    ∃ cur : List Value, ∃ fr, w.heap[b]? = some (.cells cur.toArray el fr) ∧ NF fr cur.length ∧ n * s ≤ cur.length ∧ RowOK w O en (cur.take (n * s)) := by
  cases en with
  | ints e k l =>
    simp only [Ent.info, Option.some.injEq, Prod.mk.injEq] at hi
    obtain ⟨rfl, rfl, rfl⟩ := hi
    obtain ⟨vs, fr, h1, h2, h3, h4⟩ := h
    refine ⟨vs, fr, h1, h2, by omega, ?_⟩
    show vs.take (l.length * 1) = l.map (.int k)
    apply List.ext_getElem?
    intro j
    rw [Nat.mul_one, List.getElem?_take, List.getElem?_map]
    by_cases hj : j < l.length
    · rw [if_pos hj, h4 j l[j] (by simp [hj])]
      simp [hj]
    · rw [if_neg hj, List.getElem?_eq_none (by omega)]
      rfl
  | recs e s' n' get =>
    simp only [Ent.info, Option.some.injEq, Prod.mk.injEq] at hi
    obtain ⟨rfl, rfl, rfl⟩ := hi
    obtain ⟨vs, fr, vals, h1, h2, h3, h4, h5⟩ := h
    refine ⟨vs, fr, h1, h2, h3, by simp; omega, fun u hu => ?_, vals, fun j hj => ⟨(h4 j hj).1, (h4 j hj).2, fun f hf => ?_⟩⟩
    · obtain ⟨q, hq, rfl⟩ := List.getElem_of_mem hu
      simp at hq
      have hs : 0 < s' := by
        rcases Nat.eq_zero_or_pos s' with h0 | h0
        · subst h0; omega
        · exact h0
      have hd : q / s' < n' := by rw [Nat.div_lt_iff_lt_mul hs]; omega
      obtain ⟨v, k1, k2, k3⟩ := h5 (q / s') hd (q % s') (Nat.mod_lt _ hs)
      rw [Nat.mul_comm, Nat.div_add_mod] at k1
      simp [List.getElem_take]
      rw [(List.getElem?_eq_some_iff.1 k1).2]
      exact k3
    · obtain ⟨v, k1, k2, _⟩ := h5 j hj f hf
      rw [List.getElem?_take_of_lt (rec_lt hj hf), k1, k2]
  | cells t l => simp [Ent.info] at hi
  | recs1 e sz n get f y => simp [Ent.info] at hi

theorem holds_of_row {en : Ent} {us rest : List Value} (h : RowOK w O en us) {el : TypeId} {s n : Nat} (hi : en.info = some (el, s, n)) {b : Nat} {fr : Nat × Nat} (hb : w.heap[b]? = some (.cells (us ++ rest).toArray el fr)) (hnf : NF fr (us ++ rest).length) : en.holds R w O (some b) := by
  cases en with
  | ints e k l =>
    simp only [Ent.info, Option.some.injEq, Prod.mk.injEq] at hi
    obtain ⟨rfl, rfl, rfl⟩ := hi
    have h : us = l.map (.int k) := h
    subst h
    refine ⟨_, fr, hb, hnf, by simp, fun j x hj => ?_⟩
    have hlt : j < l.length := (List.getElem?_eq_some_iff.1 hj).1
    rw [List.getElem?_append_left (by simpa using hlt), List.getElem?_map, hj]
    rfl
  | recs e s' n' get =>
    simp only [Ent.info, Option.some.injEq, Prod.mk.injEq] at hi
    obtain ⟨rfl, rfl, rfl⟩ := hi
    obtain ⟨h1, h2, vals, h3⟩ := h
    refine ⟨_, fr, vals, hb, hnf, by simp; omega, fun j hj => ⟨(h3 j hj).1, (h3 j hj).2.1⟩, fun j hj f hf => ?_⟩
    have hlt := rec_lt hj hf
    have e1 := (h3 j hj).2.2 f hf
    refine ⟨us[j * s' + f]'(by omega), by rw [List.getElem?_append_left (by omega)]; simp, by rw [← e1]; simp, h2 _ (List.getElem_mem _)⟩
  | cells t l => exact h.elim
  | recs1 e sz n get f y => exact h.elim

theorem HRel.congr (h : HRel F Ob W0 R H w) (hn : H'.nx = H.nx) (hg : ∀ i, H'.get i = H.get i) : HRel F Ob W0 R H' w ∧ ∀ g, Wr F R H' g ↔ Wr F R H g := by
  have ho : ∀ g, Own R H' g ↔ Own R H g := fun g => by unfold Own; simp only [hg]
  have hw : ∀ g, Wr F R H' g ↔ Wr F R H g := fun g => or_congr Iff.rfl (ho g)
  refine ⟨⟨by rw [hn]; exact h.len, h.ext, h.fb, fun b hb => h.own b ((ho b).1 hb), fun i e hi => ?_, fun i j e e' b hi hj => h.dis i j e e' b (by rw [← hg]; exact hi) (by rw [← hg]; exact hj)⟩, hw⟩
  obtain ⟨b, hb, he⟩ := h.ent i e (by rw [← hg]; exact hi)
  exact ⟨b, hb, Ent.holds_mono he (fun _ _ k => k) (Ext.refl (Wr F R H) _) (fun g _ k => (hw g).1 k) (fun _ _ => rfl)⟩

theorem run_appendOp {o : Oper} {a : Act} {s x : Operand} {t : TypeId} (ho : o.op = .call { callee := .builtin .append, args := #[s, x], argTypes := #[t, t] }) {cv : Value}
    (h : (Builtin.append_ #[t, t] o.type #[a.eval s, a.eval x]).run P w = .ok cv w') : (execOp a.eval o).run P w = .ok (.value cv) w' := by
  simp [execOp, ho, resolve, invoke, builtin, h]

theorem run_append_zero {t ty el : TypeId} {inf : TypeInfo} (hu : P.underlying t = some (.slice el)) (hi : P.info? el = some inf) (ba : Option Addr) (n c : Nat) (hn : n ≤ c) (xa : Option Addr) (xc : Nat) :
    (Builtin.append_ #[t, t] ty #[.slice ba n c, .slice xa 0 xc]).run P w = .ok (.slice ba n c) w := by
  cases ba <;> cases xa <;> simp [Builtin.append_, run_underlying hu, sizeOf, typeInfo, hi, Builtin.lenOf, hn, Builtin.firstCells, loadCells, loadCellsFrom, storeCells]

/-- append, whatever the base: the base's entry en0 (none: nothing), what is appended: the cells news. -/
theorem append_core {o : Oper} {a : Act} {e : Env} {K : AV → AH → Prop} {sx xx : Operand} {t el : TypeId} (ho : o.op = .call { callee := .builtin .append, args := #[sx, xx], argTypes := #[t, t] })
    {inf : TypeInfo} {z : Value} (hu : P.underlying t = some (.slice el)) (hi : P.info? el = some inf) (hz : inf.zero = some z) (hzs : z.cells.size = inf.size) (hpos : 0 < inf.size)
    (hH : HRel F Ob W0 R H w) (hE : ERel R w (Wr F R H) e a.tmps) {sv : AV} (hs : Rep R w (Wr F R H) sv (a.eval sx)) {n m : Nat} {en1 : Ent} {H1 : AH} (hen1 : en1.info = some (el, inf.size, n + m))
    (hbase : (sv = .nils ∧ n = 0 ∧ H1 = H ∧ (∀ news : List Value, news.length = m * inf.size → RowOK w (Wr F R H) en1 news ∨ True)) ∨ (∃ j en0, sv = .sl j inf.size 0 n ∧ H.get j = some en0 ∧ en0.info = some (el, inf.size, n) ∧ H1 = H.del j))
    {news : List Value} {xa : Option Addr} {xc : Nat} (hx : a.eval xx = .slice xa m xc) (hnl : news.length = m * inf.size) (hnews : ∀ ad, xa = some ad → ∀ j v, news[j]? = some v → w.cell? (ad.add j) = some v) (hxa : xa = none → m = 0) (h1 : ∀ u ∈ news, u.oneCell' = true)
    (hrow : ∀ us, (sv = .nils ∧ us = []) ∨ (∃ j en0, sv = .sl j inf.size 0 n ∧ H.get j = some en0 ∧ (RowOK w (Wr F R H) en0 us)) → RowOK w (Wr F R H) en1 (us ++ news))
    (hby : ((n : Int) + m) * inf.bytes ≤ 140737488355328) (h63 : n + m ≤ maxLen) (hK : K (.sl H1.nx inf.size 0 (n + m)) (H1.push en1)) : o.wp P a w (GP F Ob W0 R H o a e K) NoWay := by
  have hbyn : (n + m) * inf.bytes ≤ 140737488355328 := by
    have : (((n + m) * inf.bytes : Nat) : Int) ≤ 140737488355328 := by push_cast; exact hby
    omega
  have h63' : n + m ≤ 9223372036854775807 := by simpa [maxLen] using h63
  -- a fresh block
  have fresh : ∀ {H1 : AH}, H1.nx = H.nx → HRel F Ob W0 R H1 w → (∀ g, Wr F R H1 g → Wr F R H g) → K (.sl H1.nx inf.size 0 (n + m)) (H1.push en1) → ∀ {us rest : List Value} {cap : Nat}, RowOK w (Wr F R H) en1 us → n + m ≤ cap → cap ≤ maxLen → cap * inf.size ≤ (us ++ rest).length →
      (Builtin.append_ #[t, t] o.type #[a.eval sx, a.eval xx]).run P w = .ok (.slice (some ⟨w.heap.size, 0, none⟩) (n + m) cap) (w.drew.alloc (.cells (us ++ rest).toArray el)) → o.wp P a w (GP F Ob W0 R H o a e K) NoWay := by
    intro H1 hnx hH1 hw1 hK us rest cap hro hcap hcm hcl hrun
    have hxn : Ext (fun _ => False) w (w.drew.alloc (.cells (us ++ rest).toArray el)) := (Ext.drew _ w).trans (Ext.alloc (fun _ => False) w.drew _) (fun _ _ k => k)
    have hb : (w.drew.alloc (.cells (us ++ rest).toArray el)).heap[w.heap.size]? = some (.cells (us ++ rest).toArray el (0, 0)) := heap_push w.drew _
    obtain ⟨p1, p2⟩ := hH1.push (b := some w.heap.size) (en := en1) hxn (fun g hg => by cases hg; exact Nat.le_refl _) (fun O' hO' =>
      holds_of_row (hro.mono (hxn.weaken fun _ _ k => k.elim) fun g hg k => hw1 g (hO' g hg k)) hen1 hb (nf0 _))
    refine gp_run (run_appendOp ho hrun) hE hK hH.len (R' := R.app H1.nx (some w.heap.size)) (fun i hi => pre_nx _ i (hnx ▸ hi)) (hxn.weaken fun _ _ k => k.elim) p1 (fun g hg k => hw1 g (p2 g hg k)) ?_
    exact .sl _ _ _ _ w.heap.size cap 0 (el, (us ++ rest).length) (by exact app_last _ _ _) hcap hcm (fun _ => by simp) (by unfold World.shape?; rw [hb]; simp) (by simpa using hcl)
  have zc : ∀ q, (Builtin.zeroCells z.cells q).size = q * inf.size := fun q => by rw [size_zeroCells, hzs]
  -- nothing as the base
  have nilbase : ∀ {H1 : AH}, a.eval sx = .slice none 0 0 → n = 0 → H1.nx = H.nx → HRel F Ob W0 R H1 w → (∀ g, Wr F R H1 g → Wr F R H g) → K (.sl H1.nx inf.size 0 (n + m)) (H1.push en1) → RowOK w (Wr F R H) en1 ([] ++ news) → o.wp P a w (GP F Ob W0 R H o a e K) NoWay := by
    intro H1 hv hn hnx hH1 hw1 hK hro
    subst hn
    simp only [Nat.zero_add, List.nil_append] at *
    rcases Nat.eq_zero_or_pos m with hm | hm
    · subst hm
      have hrun := run_append_zero (P := P) (w := w) (ty := o.type) hu hi none 0 0 (Nat.le_refl _) xa xc
      rw [← hv, ← hx] at hrun
      have hnil : nilE en1 := by
        cases en1 with
        | ints e' k l =>
          simp only [Ent.info, Option.some.injEq, Prod.mk.injEq] at hen1
          exact List.eq_nil_of_length_eq_zero hen1.2.2
        | recs e' s' n' get =>
          simp only [Ent.info, Option.some.injEq, Prod.mk.injEq] at hen1
          exact hen1.2.2
        | cells t l => simp [Ent.info] at hen1
        | recs1 e' s' n' get f y => simp [Ent.info] at hen1
      obtain ⟨p1, p2⟩ := hH1.push (b := none) (en := en1) (Ext.refl _ w) (fun g hg => by cases hg) (fun O' hO' => nilE_holds hnil _ _ _)
      refine gp_run (run_appendOp ho hrun) hE hK hH.len (R' := R.app H1.nx none) (fun i hi => pre_nx _ i (hnx ▸ hi)) (Ext.refl _ _) p1 (fun g hg k => hw1 g (p2 g hg k)) ?_
      rw [hv]
      exact .slnil _ _ _ (by exact app_last _ _ _)
    · cases xa with
      | none => have := hxa rfl; omega
      | some ad =>
        have hrun := run_append_nil (P := P) w t o.type el inf z hu hi hz ad m xc news hnl (hnews ad rfl) hm (by omega) (by omega)
        rw [← hv, ← hx] at hrun
        have hcap := grownCap_ge w m 0 el
        refine fresh hnx hH1 hw1 (by simpa using hK) (us := news) (rest := (Builtin.zeroCells z.cells (grownCap w m 0 el - m)).toList) (cap := grownCap w m 0 el) hro (by simpa using hcap) (grownCap_le_maxLen w m 0 el h63) ?_ ?_
        · simp only [List.length_append, hnl, Array.length_toList, zc, ← Nat.add_mul]
          exact Nat.mul_le_mul_right _ (by omega)
        · rw [hrun, ← List.append_toArray, Array.toArray_toList]
  rcases hbase with ⟨hsv, hn, hH1, _⟩ | ⟨j, en0, hsv, hj, hen0, hH1⟩
  · subst hsv; subst hH1
    generalize hv : a.eval sx = cv at hs
    cases hs
    exact nilbase hv hn rfl hH (fun _ k => k) hK (hrow [] (.inl ⟨rfl, rfl⟩))
  · subst hsv; subst hH1
    generalize hv : a.eval sx = cv at hs
    obtain ⟨d1, d2⟩ := hH.del j
    cases hs with
    | slnil _ _ _ hR =>
      have h0 : RowOK w (Wr F R H) en0 [] := by
        obtain ⟨b, hb, he⟩ := hH.ent j en0 hj
        rw [hR] at hb
        cases hb
        cases en0 with
        | ints e' k l => have : l = [] := he; subst this; rfl
        | recs e' s' n' get =>
          have : n' = 0 := he
          subst this
          exact ⟨by simp, by simp, fun _ => undef, fun j hj => by omega⟩
        | cells t l => exact he.elim
        | recs1 e' s' n' get f y => exact he.elim
      exact nilbase (H1 := H.del j) hv rfl rfl d1 d2 hK (hrow [] (.inr ⟨j, en0, rfl, hj, h0⟩))
    | sl _ _ _ _ b c off sh hR hn hc hof hss hl =>
      obtain ⟨b', hb', he⟩ := hH.ent j en0 hj
      rw [hR] at hb'
      cases hb'
      obtain ⟨cur, fr, g1, gf, g2, g3⟩ := row_of_holds he hen0
      have hro := hrow _ (.inr ⟨j, en0, rfl, hj, g3⟩)
      have hoff : 0 < c → off = 0 := fun hc0 => by simpa using hof hc0
      have hshape : sh.2 = cur.length := by
        unfold World.shape? at hss
        rw [g1] at hss
        simp at hss
        rw [← hss]
      -- in place, the block as w' has it
      have inplace : ∀ {w' : World} {rest : List Value}, Ext (fun g => g = b) w w' → w'.heap[b]? = some (.cells (cur.take (n * inf.size) ++ news ++ rest).toArray el fr) → n + m ≤ c →
          (Builtin.append_ #[t, t] o.type #[a.eval sx, a.eval xx]).run P w = .ok (.slice (some ⟨b, off, none⟩) (n + m) c) w' → o.wp P a w (GP F Ob W0 R H o a e K) NoWay := by
        intro w' rest hx1 hb1 hroom hrun
        have hxw : Ext (Wr F R H) w w' := hx1.weaken fun g _ k => by subst k; exact .inr ⟨j, en0, hj, hR⟩
        obtain ⟨p1, p2⟩ := hH.upd (en := en1) hj hR hx1 (holds_of_row (hro.mono hxw fun g _ k => k.imp id (own_set hj g).1) hen1 hb1 (nf_ext g1 hb1 hx1 gf))
        obtain ⟨q1, q2⟩ := p1.ren (i := j) (e := en1) (b := some b) (by rw [get_set, if_pos rfl]) hR
        have hget : ∀ i, ((H.del j).push en1).get i = (((H.set j en1).del j).push en1).get i := fun i => by
          rw [get_push, get_push]
          have e0 : (H.del j).nx = ((H.set j en1).del j).nx := rfl
          rw [e0]
          split
          · rfl
          · rw [get_del, get_del, get_set]
            split
            · rfl
            · rfl
        obtain ⟨r1, r2⟩ := q1.congr (H' := (H.del j).push en1) rfl hget
        refine gp_run (run_appendOp ho hrun) hE hK hH.len (fun i hi => pre_nx _ i hi) hxw r1 (fun g hg k => (p2 g).1 (q2 g (Nat.lt_of_lt_of_le hg hx1.size) ((r2 g).1 k))) ?_
        exact .sl _ _ _ _ b c off sh (by exact app_last _ _ _) hroom hc hof (hx1.shp _ _ hss) hl
      rcases Nat.eq_zero_or_pos m with hm | hm
      · subst hm
        have hrun : (Builtin.append_ #[t, t] o.type #[a.eval sx, a.eval xx]).run P w = .ok (.slice (some ⟨b, off, none⟩) (n + 0) c) w := by
          rw [hv, hx]
          exact run_append_zero (P := P) (w := w) (ty := o.type) hu hi (some ⟨b, off, none⟩) n c hn xa xc
        have hn0 : news = [] := List.eq_nil_of_length_eq_zero (by simpa using hnl)
        subst hn0
        exact inplace (rest := cur.drop (n * inf.size)) (Ext.refl _ _) (by simpa using g1) hn hrun
      · cases xa with
        | none => have := hxa rfl; omega
        | some ad =>
          by_cases hroom : n + m ≤ c
          · have h0 := hoff (by omega)
            subst h0
            have hfit : n * inf.size + news.length ≤ cur.length := by
              have : (n + m) * inf.size ≤ c * inf.size := Nat.mul_le_mul_right _ hroom
              rw [hnl, ← Nat.add_mul]
              omega
            obtain ⟨w', s1, s2, s3⟩ := store_block (P := P) b el news (n * inf.size) 0 cur w g1 gf (by omega) h1
            have hrun := run_append_room_w (P := P) t o.type el inf hu hi b n c ad m xc news hnl (hnews ad rfl) hroom s1
            rw [← hv, ← hx] at hrun
            exact inplace (rest := cur.drop (n * inf.size + news.length)) s3 (by simpa using s2) hroom hrun
          · have holds : ∀ q v, (cur.take (n * inf.size))[q]? = some v → w.cell? ((⟨b, off, none⟩ : Addr).add q) = some v := by
              intro q v hq
              have hlt : q < n * inf.size := by have := (List.getElem?_eq_some_iff.1 hq).1; simp at this; omega
              have hn0 : 0 < n := by rcases Nat.eq_zero_or_pos n with h0 | h0; subst h0; omega; exact h0
              have h0 := hoff (by omega)
              subst h0
              rw [Addr.add_mid, cell_of_heap g1, Nat.zero_add]
              rw [List.getElem?_take_of_lt hlt] at hq
              exact hq
            have hrun := run_append_grow (P := P) w t o.type el inf z hu hi hz ⟨b, off, none⟩ n c (cur.take (n * inf.size)) (by simp; omega) holds ad m xc news hnl (hnews ad rfl) (by omega) (by omega) (growslice_fits (by omega) hbyn)
            rw [← hv, ← hx] at hrun
            have hcap := grownCap_ge w (n + m) c el
            refine fresh (H1 := H.del j) rfl d1 d2 hK (us := cur.take (n * inf.size) ++ news) (rest := (Builtin.zeroCells z.cells (grownCap w (n + m) c el - (n + m))).toList) (cap := grownCap w (n + m) c el) hro hcap (grownCap_le_maxLen w (n + m) c el h63) ?_ ?_
            · have e1 : (cur.take (n * inf.size)).length = n * inf.size := by simp; omega
              simp only [List.length_append, e1, hnl, Array.length_toList, zc, ← Nat.add_mul]
              exact Nat.mul_le_mul_right _ (by omega)
            · rw [hrun, ← List.append_toArray (l₂ := (Builtin.zeroCells _ _).toList), Array.toArray_toList, ← List.append_toArray]

theorem intsOfA_ok (hH : HRel F Ob W0 R H w) {k : IntKind} {x : AV} {cx : Value} {obs : List Prop} {l : List Int} (h : intsOfA H k x = some (obs, l)) (ho : ∀ p ∈ obs, p) (hx : Rep R w (Wr F R H) x cx) :
    ∃ xa xc, cx = .slice xa l.length xc ∧ (xa = none → l.length = 0) ∧ ∀ ad, xa = some ad → ∀ (j : Nat) (v : Value), (l.map (Value.int k))[j]? = some v → w.cell? (ad.add j) = some v := by
  unfold intsOfA at h
  split at h
  · cases hx
    simp only [Option.some.injEq, Prod.mk.injEq] at h
    obtain ⟨_, rfl⟩ := h
    exact ⟨none, 0, rfl, fun _ => rfl, fun ad h => by cases h⟩
  · rename_i k' l'
    replace h := bif_some h; obtain ⟨hk, h⟩ := h
    have := beqK_eq hk
    subst this
    simp only [Option.some.injEq, Prod.mk.injEq] at h
    obtain ⟨_, rfl⟩ := h
    cases hx with
    | roinil => exact ⟨none, 0, rfl, fun _ => rfl, fun ad h => by cases h⟩
    | roiz _ a c hc => exact ⟨some a, c, rfl, (fun h => (by cases h)), fun ad h j v hv => by simp at hv⟩
    | roi _ _ b off c hn hc hO hb hcell =>
      refine ⟨some ⟨b, off, none⟩, c, rfl, (fun h => (by cases h)), fun ad h j v hv => ?_⟩
      cases h
      rw [List.getElem?_map] at hv
      replace hv := opt_map hv; obtain ⟨x, hx, rfl⟩ := hv
      rw [Addr.add_mid]
      exact hcell j x hx
  · rename_i i o n
    split at h
    · rename_i el k' l' hg
      replace h := bif_some h; obtain ⟨hk, h⟩ := h
      have := beqK_eq hk
      subst this
      simp only [Option.some.injEq, Prod.mk.injEq] at h
      obtain ⟨rfl, rfl⟩ := h
      have hle : o + n ≤ l'.length := ho _ (by simp)
      have hlen : ((l'.drop o).take n).length = n := by simp; omega
      cases hx with
      | slnil _ _ _ hR => exact ⟨none, 0, by rw [hlen], fun _ => hlen, fun ad h => by cases h⟩
      | sl _ _ _ _ b c off sh hR hn hc hof hss hl =>
        obtain ⟨vs, fr, g1, g2, g3, g4⟩ := ent_ints hH hg hR
        refine ⟨some ⟨b, off, none⟩, c, by rw [hlen], (fun h => (by cases h)), fun ad h j v hv => ?_⟩
        cases h
        rw [List.getElem?_map] at hv
        replace hv := opt_map hv; obtain ⟨x, hx, rfl⟩ := hv
        have hj : j < n := by have := (List.getElem?_eq_some_iff.1 hx).1; omega
        have h0 := hof (by omega)
        subst h0
        rw [Addr.add_mid, cell_of_heap g1, Nat.mul_one]
        rw [List.getElem?_take_of_lt hj, List.getElem?_drop] at hx
        exact g4 _ x hx
    · cases h
  · cases h

theorem recsOfA_ok (hH : HRel F Ob W0 R H w) {sz : Nat} {x : AV} {cx : Value} {obs : List Prop} {c : Nat} {getx : Nat → AV} (h : recsOfA H sz x = some (obs, c, getx)) (ho : ∀ p ∈ obs, p) (hx : Rep R w (Wr F R H) x cx) :
    ∃ (xa : Option Addr) (xc : Nat) (news : List Value) (vals : Nat → Value), cx = .slice xa c xc ∧ (xa = none → c = 0) ∧ news.length = c * sz ∧ (∀ u ∈ news, u.oneCell' = true) ∧ (∀ ad, xa = some ad → ∀ (j : Nat) (v : Value), news[j]? = some v → w.cell? (ad.add j) = some v) ∧
      ∀ j, j < c → (vals j).cells.size = sz ∧ Rep noN w (Wr F R H) (getx j) (vals j) ∧ ∀ f, f < sz → news[j * sz + f]? = (vals j).cells[f]? := by
  unfold recsOfA at h
  split at h
  · cases hx
    simp only [Option.some.injEq, Prod.mk.injEq] at h
    obtain ⟨_, rfl, rfl⟩ := h
    exact ⟨none, 0, [], fun _ => undef, rfl, fun _ => rfl, by simp, by simp, (fun ad h => (by cases h)), fun j hj => by omega⟩
  · rename_i i s o n
    replace h := bif_some h; obtain ⟨hs, h⟩ := h
    have := beq_iff.1 hs
    subst this
    split at h
    · rename_i el s' m get hg
      replace h := bif_some h; obtain ⟨hs', h⟩ := h
      have := beq_iff.1 hs'
      subst this
      simp only [Option.some.injEq, Prod.mk.injEq] at h
      obtain ⟨rfl, rfl, rfl⟩ := h
      have hle : o + n ≤ m := ho _ (by simp)
      cases hx with
      | slnil _ _ _ hR => exact ⟨none, 0, [], fun _ => undef, rfl, fun _ => rfl, by simp, by simp, (fun ad h => (by cases h)), fun j hj => by omega⟩
      | sl _ _ _ _ b cc off sh hR hn hc hof hss hl =>
        obtain ⟨b', hb', he⟩ := hH.ent i _ hg
        rw [hR] at hb'
        cases hb'
        obtain ⟨cur, fr, g1, gf, g2, g3⟩ := row_of_holds he (el := el) (s := s') (n := m) rfl
        obtain ⟨k1, k2, vals, k3⟩ := g3
        have hsub : o * s' + n * s' ≤ m * s' := by rw [← Nat.add_mul]; exact Nat.mul_le_mul_right _ hle
        refine ⟨some ⟨b, off, none⟩, cc, ((cur.take (m * s')).drop (o * s')).take (n * s'), fun j => vals (o + j), rfl, (fun h => (by cases h)), by simp; omega, fun u hu => k2 u (List.mem_of_mem_drop (List.mem_of_mem_take hu)), fun ad h j v hv => ?_, fun j hj => ⟨(k3 (o + j) (by omega)).1, (k3 (o + j) (by omega)).2.1, fun f hf => ?_⟩⟩
        · cases h
          have hj : j < n * s' := by have := (List.getElem?_eq_some_iff.1 hv).1; simp at this; omega
          have hn0 : 0 < n := by
            rcases Nat.eq_zero_or_pos n with h0 | h0
            · subst h0; omega
            · exact h0
          have h0 := hof (by omega)
          subst h0
          rw [Addr.add_mid, cell_of_heap g1]
          rw [List.getElem?_take_of_lt hj, List.getElem?_drop, List.getElem?_take_of_lt (by omega)] at hv
          exact hv
        · have hlt := rec_lt hj hf
          have e1 := (k3 (o + j) (by omega)).2.2 f hf
          rw [List.getElem?_take_of_lt hlt, List.getElem?_drop, ← e1]
          congr 1
          rw [Nat.add_mul]; omega
    · cases h
  · cases h

theorem abase_inv {H : AH} {el : TypeId} {i : TI} {s : AV} {p : List Prop} {n : Nat} {en : Ent} {H' : AH} (h : abase H el i s = some (p, n, en, H')) :
    (s = .nils ∧ n = 0 ∧ en = nilEnt el i ∧ H' = H) ∨ (∃ j n', s = .sl j i.sz 0 n' ∧ H.get j = some en ∧ en.info = some (el, i.sz, n) ∧ p = [n' = n] ∧ H' = H.del j) := by
  unfold abase at h
  split at h
  · simp only [Option.some.injEq, Prod.mk.injEq] at h
    obtain ⟨_, rfl, rfl, rfl⟩ := h
    exact .inl ⟨rfl, rfl, rfl, rfl⟩
  · rename_i j sz o n'
    replace h := bif_some h; obtain ⟨hb, h⟩ := h
    rw [Bool.and_eq_true] at hb
    have e1 := beq_iff.1 hb.1
    have e2 := beq_iff.1 hb.2
    subst e1; subst e2
    split at h
    · rename_i e k l hg
      replace h := bif_some h; obtain ⟨hb', h⟩ := h
      rw [Bool.and_eq_true] at hb'
      have e1 := beq_iff.1 hb'.1
      have e2 := beq_iff.1 hb'.2
      subst e1
      simp only [Option.some.injEq, Prod.mk.injEq] at h
      obtain ⟨rfl, rfl, rfl, rfl⟩ := h
      exact .inr ⟨j, n', rfl, hg, by simp [Ent.info, e2], rfl, rfl⟩
    · rename_i e s m get hg
      replace h := bif_some h; obtain ⟨hb', h⟩ := h
      rw [Bool.and_eq_true] at hb'
      have e1 := beq_iff.1 hb'.1
      have e2 := beq_iff.1 hb'.2
      subst e1
      simp only [Option.some.injEq, Prod.mk.injEq] at h
      obtain ⟨rfl, rfl, rfl, rfl⟩ := h
      exact .inr ⟨j, n', rfl, hg, by simp [Ent.info, e2], rfl, rfl⟩
    · cases h
  · cases h

theorem append_ok (hT : TOK P C.T) {o : Oper} {a : Act} {e : Env} {K : AV → AH → Prop} {args : Array Operand} {ts : Array TypeId} (ho : o.op = .call { callee := .builtin .append, args, argTypes := ts }) (h : aopG C o.op e H K) (hH : HRel F Ob W0 R H w) (hE : ERel R w (Wr F R H) e a.tmps) :
    o.wp P a w (GP F Ob W0 R H o a e K) NoWay := by
  rw [ho] at h
  unfold aopG at h
  simp only at h
  split at h
  · rename_i sx xx t t' hargs hts
    have ha : args = #[sx, xx] := by cases args; simp_all
    have ht : ts = #[t, t'] := by cases ts; simp_all
    subst ha; subst ht
    replace h := bif_true h; obtain ⟨htt, h⟩ := h
    have := beq_iff.1 htt
    subst this
    split at h
    · rename_i sv xv hsv hxv
      have hs := evA_rep hE hsv
      have hx := evA_rep hE hxv
      unfold aappend at h
      split at h
      · rename_i el hd
        have hu := tdq_slice hT hd
        split at h
        · rename_i i hi
          obtain ⟨inf, ds, z, g1, g2, g3, rfl⟩ := probe_inv (hT _ i hi)
          replace h := bif_true h; obtain ⟨hp, h⟩ := h
          rw [Bool.and_eq_true] at hp
          have hpos : 0 < inf.size := Nat.le_of_ble_eq_true hp.1
          have hzs : z.cells.size = inf.size := by have := beq_iff.1 hp.2; simpa using this
          split at h
          · rename_i p n e' k l H' hb
            split at h
            · rename_i q xs hxs
              replace h := bif_true h; obtain ⟨hs1, h⟩ := h
              rw [Bool.and_eq_true] at hs1
              have e1 : inf.size = 1 := beq_iff.1 hs1.1
              have e2 := beq_iff.1 hs1.2
              subst e2
              obtain ⟨hob, hby, h63, hK⟩ := obl_inv h
              obtain ⟨xa, xc, hcx, hxa, hcells⟩ := intsOfA_ok hH hxs (fun p' hp' => hob p' (by simp [hp'])) hx
              rcases abase_inv hb with ⟨hsn, hn0, hen, hH'⟩ | ⟨j, n', hsn, hg, hinfo, hpp, hH'⟩
              · subst hsn; subst hn0; subst hH'
                have hl0 : l = [] := by
                  unfold nilEnt at hen
                  split at hen
                  · cases hen; rfl
                  · cases hen
                subst hl0
                refine append_core (n := 0) (m := xs.length) (en1 := .ints e' k ([] ++ xs)) (news := xs.map (.int k)) ho hu g1 g3 hzs hpos hH hE hs (by simp [Ent.info, e1]) (.inl ⟨rfl, rfl, rfl, fun _ _ => .inr trivial⟩) hcx (by simp [e1]) hcells hxa (by intro u hu; simp at hu; obtain ⟨_, _, rfl⟩ := hu; rfl) (fun us hus => ?_) (by simpa using hby) (by simp only [maxLen]; omega) (by rw [e1]; exact hK)
                rcases hus with ⟨_, rfl⟩ | ⟨j, en0, hc, _⟩
                · simp [RowOK]
                · cases hc
              · subst hsn; subst hH'
                subst hpp
                have hnn : n' = n := hob _ (by simp)
                subst hnn
                simp only [Ent.info, Option.some.injEq, Prod.mk.injEq] at hinfo
                have hl : l.length = n' := hinfo.2.2
                refine append_core (n := n') (m := xs.length) (en1 := .ints e' k (l ++ xs)) (news := xs.map (.int k)) ho hu g1 g3 hzs hpos hH hE hs (by simp [Ent.info, e1, hl]) (.inr ⟨j, _, rfl, hg, by simp [Ent.info, e1, hl], rfl⟩) hcx (by simp [e1]) hcells hxa (by intro u hu; simp at hu; obtain ⟨_, _, rfl⟩ := hu; rfl) (fun us hus => ?_) hby (by simp only [maxLen]; omega) (by rw [e1]; exact hK)
                rcases hus with ⟨hc, _⟩ | ⟨j', en0, hc, hg', hro⟩
                · cases hc
                · cases hc
                  rw [hg] at hg'
                  cases hg'
                  have hro : us = l.map (.int k) := hro
                  subst hro
                  simp [RowOK]
            · exact h.elim
          · rename_i p n e' s m get H' hb
            split at h
            · rename_i q c getx hxs
              replace h := bif_true h; obtain ⟨hs1, h⟩ := h
              rw [Bool.and_eq_true] at hs1
              have e1 : s = inf.size := beq_iff.1 hs1.1
              have e2 := beq_iff.1 hs1.2
              subst e2; subst e1
              obtain ⟨hob, hby, h63, hK⟩ := obl_inv h
              obtain ⟨xa, xc, news, valsx, hcx, hxa, hnl, hone, hcells, hvx⟩ := recsOfA_ok hH hxs (fun p' hp' => hob p' (by simp [hp'])) hx
              have grow : ∀ us : List Value, n = m → RowOK w (Wr F R H) (.recs e' inf.size m get) us → RowOK w (Wr F R H) (.recs e' inf.size (n + c) (fun j => if j < n then get j else getx (j - n))) (us ++ news) := by
                intro us hnm hro
                subst hnm
                obtain ⟨k1, k2, vals, k3⟩ := hro
                refine ⟨by simp [k1, hnl, Nat.add_mul], fun u hu => ?_, fun j => if j < n then vals j else valsx (j - n), fun j hj => ?_⟩
                · rcases List.mem_append.1 hu with hu | hu
                  · exact k2 u hu
                  · exact hone u hu
                · by_cases hjn : j < n
                  · simp only [if_pos hjn]
                    refine ⟨(k3 j hjn).1, (k3 j hjn).2.1, fun f hf => ?_⟩
                    rw [List.getElem?_append_left (by rw [k1]; exact rec_lt hjn hf)]
                    exact (k3 j hjn).2.2 f hf
                  · simp only [if_neg hjn]
                    have hj' : j - n < c := by omega
                    refine ⟨(hvx _ hj').1, (hvx _ hj').2.1, fun f hf => ?_⟩
                    have hge : n * inf.size ≤ j * inf.size := Nat.mul_le_mul_right _ (by omega)
                    rw [List.getElem?_append_right (by rw [k1]; omega), k1, ← (hvx _ hj').2.2 f hf]
                    congr 1
                    rw [Nat.sub_mul]
                    have : j * inf.size + f - n * inf.size = j * inf.size - n * inf.size + f := by omega
                    exact this
              rcases abase_inv hb with ⟨hsn, hn0, hen, hH'⟩ | ⟨j, n', hsn, hg, hinfo, hpp, hH'⟩
              · subst hsn; subst hn0; subst hH'
                have hm0 : m = 0 := by
                  unfold nilEnt at hen
                  split at hen
                  · cases hen
                  · cases hen; rfl
                refine append_core (n := 0) (m := c) (en1 := .recs e' inf.size (0 + c) (fun j => if j < 0 then get j else getx (j - 0))) (news := news) ho hu g1 g3 hzs hpos hH hE hs rfl (.inl ⟨rfl, rfl, rfl, fun _ _ => .inr trivial⟩) hcx hnl hcells hxa hone (fun us hus => ?_) (by simpa using hby) (by simp only [maxLen]; omega) hK
                rcases hus with ⟨_, rfl⟩ | ⟨j, en0, hc, _⟩
                · exact grow [] hm0.symm (by subst hm0; exact ⟨by simp, by simp, fun _ => undef, fun j hj => by omega⟩)
                · cases hc
              · subst hsn; subst hH'
                subst hpp
                have hnn : n' = n := hob _ (by simp)
                subst hnn
                simp only [Ent.info, Option.some.injEq, Prod.mk.injEq] at hinfo
                have hmn : m = n' := hinfo.2.2
                subst hmn
                refine append_core (n := m) (m := c) (en1 := .recs e' inf.size (m + c) (fun j => if j < m then get j else getx (j - m))) (news := news) ho hu g1 g3 hzs hpos hH hE hs rfl (.inr ⟨j, _, rfl, hg, rfl, rfl⟩) hcx hnl hcells hxa hone (fun us hus => ?_) hby (by simp only [maxLen]; omega) hK
                rcases hus with ⟨hc, _⟩ | ⟨j', en0, hc, hg', hro⟩
                · cases hc
                · cases hc
                  rw [hg] at hg'
                  cases hg'
                  exact grow us rfl hro
            · exact h.elim
          · exact h.elim
        · exact h.elim
      · exact h.elim
    · exact h.elim
  · exact h.elim

/-- A function that may turn or make memory does what s says. -/
def GSOK (P : Program) (g : FuncId) (s : GSpec) : Prop := callable P g ∧ ∀ l H K, s l H K → ∀ (F Ob : Nat → Prop) (W0 : World) (R : PN) (w : World) (cl : List Value), HRel F Ob W0 R H w → CRel R w (Wr F R H) l cl →
  Calls P g cl.toArray w fun en w' => ∃ R' v H' cv, K v H' ∧ en = .returned cv ∧ (∀ i, i < H.nx → R'[i]? = R[i]?) ∧ Ext (Wr F R H) w w' ∧ HRel F Ob W0 R' H' w' ∧ (∀ g, g < w.heap.size → Wr F R' H' g → Wr F R H g) ∧ Rep R' w' (Wr F R' H') v cv

/-- The further operations do what is said of them. -/
def XOK (P : Program) (C : Ctx) : Prop := ∀ (o : Oper) (a : Act) (e : Env) (F Ob : Nat → Prop) (W0 : World) (R : PN) (H : AH) (w : World) (K : AV → AH → Prop),
  C.X o.op e H K → HRel F Ob W0 R H w → ERel R w (Wr F R H) e a.tmps → o.wp P a w (GP F Ob W0 R H o a e K) NoWay
theorem gok_of (hT : TOK P C.T) (hX : XOK P C) (hG : ∀ g s, C.G g = some s → GSOK P g s) : GOK P C := by
  intro o a e F Ob W0 R H w K h hH hE
  rcases h with h | h
  rotate_left
  · exact hX o a e F Ob W0 R H w K h hH hE
  have h0 := h
  unfold aopG at h
  split at h
  · rename_i t ho; exact alloc_ok hT ho h0 hH hE
  · rename_i t x ho; exact box_ok hT ho h0 hH hE
  · rename_i t len ps ho; exact buildSlice_ok hT ho h0 hH hE
  · rename_i t x y ho; exact store_ok hT ho h0 hH hE
  · rename_i t x y ho; exact make_ok hT ho h0 hH hE
  · rename_i args ts ho; exact append_ok hT ho h0 hH hE
  · rename_i f args ts ho
    split at h
    · rename_i g k cap l hf hl
      split at h
      · rename_i s hs
        obtain ⟨hcall, hsp⟩ := hG g s hs
        have hrf := evA_rep hE hf
        generalize hgf : a.eval f = cf at hrf
        obtain ⟨caps, rfl, hcc⟩ := rep_fn hrf
        have hargs := evAs_rel hE hl
        have hc : CRel R w (Wr F R H) (putCap k cap l) (caps.take k ++ (args.toList.map a.eval ++ caps.drop k)) := crel_put k hcc hargs
        unfold Oper.wp
        rw [run_call hcall ho hgf]
        refine Calls.mono (hsp _ H K h F Ob W0 R w _ hH hc) fun en w' ⟨R', v, H', cv, hK, he, hR, hx, hH', hwr, hr⟩ => ?_
        subst he
        exact ⟨R', v, H', cv, hK, rfl, hR, hH', hE.mono (hH.keep hR) hx hwr, hr⟩
      · exact h.elim
    · exact h.elim
  · exact h.elim
end
end Go.Proofs.Ytdiflkabpjnncaa
