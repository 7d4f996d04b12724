
/- The engine, part 9 e: regions in whatever order: sound. No condition. -/
import Derived.Test.YtdiflkabpjnncaaE9d
namespace Go.Proofs.Ytdiflkabpjnncaa
open Go Go.RowKit
set_option linter.unusedVariables false
set_option linter.unusedSimpArgs false

section
variable {P : Program} {C : Ctx} {w : World} {F Ob : Nat → Prop} {W0 : World} {A : PN} {H : AH} {dz : List Deferred} {n : Nat} {e e' : Env}

/-- What holds when the operations of L have been done: the names R. -/
structure MInv (F Ob : Nat → Prop) (W0 : World) (A R : PN) (Hm : AH) (n0 : Nat) (dz : List Deferred) (n m : Nat) (nxs : Nat → Nat) (dst : Nat → Option Tmp) (e : Env) (av : Nat → AV) (L : Nat → Bool) (a : Act) (w : World) : Prop where
  A : ∀ (i : Nat) (x : Option Nat), A[i]? = some x → R[i]? = some x
  h : HRel F Ob W0 R Hm w
  al : ∀ (i : Nat) (x : Option Nat), R[i]? = some x → i < n0 ∨ ∃ j, j < m ∧ L j = true ∧ nxs j ≤ i ∧ i < nxs (j + 1)
  hd : a.defers = dz
  hn : a.tmps.size = n
  old : ∀ t x, lk e t = some x → (∀ j, L j = true → dst j ≠ some t) → t < n ∧ Rep R w (Wr F R Hm) x (a.tmps.getD t undef)
  new : ∀ j t, L j = true → j < m → dst j = some t → t < n ∧ Rep R w (Wr F R Hm) (av j) (a.tmps.getD t undef)

theorem tail_all (all : List Oper) : tailT all all.length = true := by
  unfold tailT
  simp only [List.all_eq_true, List.mem_range, Bool.or_eq_true]
  intro i hi
  exact .inl (Nat.ble_eq_true_of_le hi)

theorem vcMix_sound (hC : COK P C) (hmo : P.follows .mixedOrders = true) {all : List Oper} {W : List (List Nat)} {Q : Exit → Act → World → Prop} {K : Env → AH → Prop} (hK : ∀ e H a w, K e H → St F Ob W0 A dz n e H a w → Q .normal a w)
    (hd : dstsIn n all) {a : Act} (hchk : (planOK all.toArray && wok all 0 W) = true) (hv : vcMix C all W all 0 e H K) (hS : St F Ob W0 A dz n e H a w) : RegAny P Q all a w := by
  rw [Bool.and_eq_true] at hchk
  obtain ⟨hok, hwok⟩ := hchk
  obtain ⟨R, hA, g1, g2, g3, g4⟩ := hS
  obtain ⟨E, E', Hs, av, dl, b, h0, hH0, hst, hKm⟩ := chainM _ _ _ _ hv
  simp only [Nat.zero_add] at hst
  have hs := sound_of hok
  have hdst : ∀ i o, all[i]? = some o → dstOf all.toArray i = o.dst := fun i o ho => by simp [dstOf, ho]
  have hlk := chain_lk (l := all) (e := e) h0 (fun i o ho => ⟨(hst i o ho).1, (hst i o ho).2.2.2.1⟩) hdst
  have hget : ∀ i, i < all.length → ∃ o, all[i]? = some o := fun i hi => ⟨all[i], by simp [hi]⟩
  -- the names in the text's order
  have mono1 : ∀ i, i < all.length → (Hs i).nx ≤ (Hs (i + 1)).nx := by
    intro i hi
    obtain ⟨o, ho⟩ := hget i hi
    obtain ⟨_, h1, h2, _⟩ := hst i o ho
    cases hb : b i with
    | true =>
      obtain ⟨_, _, hm, _⟩ := h1 hb
      unfold mixB at hm
      simp only [Bool.and_eq_true, Bool.or_eq_true] at hm
      rw [hide_nx] at hm
      rcases hm.1.1.2 with h | h
      · exact Nat.le_of_eq (beq_iff.1 h).symm
      · rw [beq_iff.1 h]; omega
    | false => rw [(h2 hb).2.2]; exact Nat.le_refl _
  have mono : ∀ i j, i ≤ j → j ≤ all.length → (Hs i).nx ≤ (Hs j).nx := by
    intro i j hij
    induction j with
    | zero => intro _; obtain rfl : i = 0 := by omega
              exact Nat.le_refl _
    | succ j ih =>
      intro hj
      by_cases hi : i = j + 1
      · subst hi; exact Nat.le_refl _
      · exact Nat.le_trans (ih (by omega) (by omega)) (mono1 j (by omega))
  -- what an operation turns has been told
  have told : ∀ i x, i < all.length → hasK (dl i) x = true → (W.getD i []).any (Nat.beq x) = true ∧ x < (Hs (i + 1)).nx := by
    intro i x hi hx
    obtain ⟨o, ho⟩ := hget i hi
    obtain ⟨_, h1, h2, _⟩ := hst i o ho
    cases hb : b i with
    | true =>
      obtain ⟨_, _, hm, _⟩ := h1 hb
      unfold mixB at hm
      simp only [Bool.and_eq_true, Bool.or_eq_true] at hm
      unfold hasK at hx
      rw [List.any_eq_true] at hx
      obtain ⟨p, hp, hpx⟩ := hx
      have := List.all_eq_true.1 hm.1.1.1 p hp
      rw [Bool.and_eq_true] at this
      have e1 := beq_iff.1 hpx
      subst e1
      exact ⟨this.1, by simpa using this.2⟩
    | false => rw [(h2 hb).2.1] at hx; cases hx
  have layt : ∀ k, k ≤ all.length → lay dl (fun _ => true) H.es k = (Hs k).es := by
    intro k
    induction k with
    | zero => intro _; rw [hH0]; rfl
    | succ k ih =>
      intro hk
      obtain ⟨o, ho⟩ := hget k (by omega)
      rw [(hst k o ho).2.2.2.2, ← ih (by omega)]
      rfl
  refine wp_region_J (m := all.length) (J := fun L a w => ∃ R, MInv F Ob W0 A R ⟨(Hs all.length).nx, lay dl L H.es all.length⟩ H.nx dz n all.length (fun i => (Hs i).nx) (dstOf all.toArray) e av L a w) hmo hok (Nat.le_refl _) (tail_all all) ?_ ?_ ?_
  · have hn0 : H.nx ≤ (Hs all.length).nx := by rw [← hH0]; exact mono 0 _ (Nat.zero_le _) (Nat.le_refl _)
    rw [lay_none]
    refine ⟨R, hA, (g1.quiet (Ext.drew _ _)).renx hn0, fun i x hx => .inl ?_, g3, g4, fun t x hx _ => ?_, fun j t hj => by cases hj⟩
    · rcases Nat.lt_or_ge i H.nx with h | h
      · exact h
      · rw [g1.len i h] at hx; cases hx
    · obtain ⟨k1, k2⟩ := g2 t x hx
      exact ⟨by rw [← g4]; exact k1, k2.mono (fun _ _ k => k) (Ext.drew (Wr F R H) w) (fun _ _ k => k)⟩
  · rintro i o L a w hi ho hLi hdeps hcl hun ⟨R, hJ⟩
    obtain ⟨hg, hrun, hskip, _⟩ := hst i o ho
    have ho' : all.toArray[i]? = some o := by simpa using ho
    have hcl' : ∀ j o, L j = true → all.toArray[j]? = some o → ∀ e ∈ o.after, Region.binds .any e = true → L e.on = true := fun j o hj hoj => hcl j o hj (by simpa using hoj)
    have closed : ∀ j, j < all.length → L j = true → ordB all j i = true → False := fun j hj hLj hor => by
      obtain ⟨oj, hoj⟩ := hget j hj
      have := ordB_done (L := L) hcl' (i := j) (j := i) (o := oj) (by simpa using hoj) (fun e he hb => hcl j oj hLj hoj e he hb) hor
      rw [hLi] at this
      cases this
    -- what a slot that the operation looks at holds
    have slot : ∀ t, t ∈ o.looksAt all.toArray → ∀ y, lk (E i) t = some y → t < n ∧ Rep R w (Wr F R ⟨(Hs all.length).nx, lay dl L H.es all.length⟩) y (a.tmps.getD t undef) := by
      intro t htl y hy
      rcases hlk i (by omega) t y hy with ⟨j, hj, hdj, hf⟩ | ⟨hno, x, hx, hf⟩
      · have hLj : L j = true := by
          rcases hs.look i o j t ho' hdj htl with rfl | he | he
          · omega
          · obtain ⟨o', ho'', ed, hed, hb, hon⟩ := edge_spec he
            have : o' = o := by simpa [ho] using ho''.symm
            subst this
            have := hdeps ed hed hb
            rw [hon] at this
            exact this
          · obtain ⟨o', ho'', ed, hed, hb, hon⟩ := edge_spec he
            have h2 := hs.back j o' ho'' ed hed hb
            omega
        obtain ⟨k1, k2⟩ := hJ.new j t hLj (by omega) hdj
        exact ⟨k1, hf _ _ _ _ k2⟩
      · obtain ⟨k1, k2⟩ := hJ.old t x hx (fun j hLj hdj => by
          rcases hs.look i o j t ho' hdj htl with rfl | he | he
          · rw [hLi] at hLj; cases hLj
          · obtain ⟨o', ho'', ed, hed, hb, hon⟩ := edge_spec he
            have h2 := hs.back i o' ho'' ed hed hb
            rw [hon] at h2
            exact hno j h2 hdj
          · obtain ⟨o', ho'', ed, hed, hb, hon⟩ := edge_spec he
            have := hcl' j o' hLj ho'' ed hed hb
            rw [hon, hLi] at this
            cases this)
        exact ⟨k1, hf _ _ _ _ k2⟩
    have hwant : Region.wanted o (yielded all.toArray a.tmps) = b i := hg.wanted fun j want g x hgd hsl hl => by
      have hmem : g ∈ o.looksAt all.toArray := by
        refine List.mem_append_right _ ?_
        rw [slotOf_eq] at hsl
        unfold dstOf at hsl
        simp only [hgd]
        rw [hsl]
        simp
      obtain ⟨k1, k2⟩ := slot g hmem x hl
      exact ⟨by rw [hJ.hn]; exact k1, k2⟩
    have hdi := hdst i o ho
    generalize hHL : (⟨(Hs all.length).nx, lay dl L H.es all.length⟩ : AH) = HL at *
    have hHLn : HL.nx = (Hs all.length).nx := by rw [← hHL]
    have hHLg : ∀ x, HL.get x = geth (lay dl L H.es all.length) x := fun x => by rw [← hHL]; rfl
    -- the slots, behind the operation
    have done : ∀ {R' : PN} {w' : World} {v : Value} {HL' : AH}, HL' = ⟨(Hs all.length).nx, lay dl (fun j => L j || j == i) H.es all.length⟩ →
        (∀ (i : Nat) (x : Option Nat), R[i]? = some x → R'[i]? = some x) → HRel F Ob W0 R' HL' w' → Ext (Wr F R HL) w w' → (∀ b, b < w.heap.size → Wr F R' HL' b → Wr F R HL b) →
        (∀ (x : Nat) (y : Option Nat), R'[x]? = some y → R[x]? = some y ∨ ((Hs i).nx ≤ x ∧ x < (Hs (i + 1)).nx)) → Rep R' w' (Wr F R' HL') (av i) v →
        ∃ R, MInv F Ob W0 A R ⟨(Hs all.length).nx, lay dl (fun j => L j || j == i) H.es all.length⟩ H.nx dz n all.length (fun i => (Hs i).nx) (dstOf all.toArray) e av (fun j => L j || j == i) (a.put o.dst v) w' := by
      intro R' w' v HL' hHL' hor hH' hx' hwr hal hv
      subst hHL'
      refine ⟨R', fun x y hx => hor x y (hJ.A x y hx), hH', fun x y hx => ?_, by rw [put_defers_eq]; exact hJ.hd, by rw [put_size]; exact hJ.hn, fun t x hxx hno => ?_, fun j t hj hjm hjt => ?_⟩
      · rcases hal x y hx with h | h
        · rcases hJ.al x y h with h | ⟨j, hj, hLj, h⟩
          · exact .inl h
          · exact .inr ⟨j, hj, by simp [hLj], h⟩
        · exact .inr ⟨i, hi, by simp, h⟩
      · obtain ⟨k1, k2⟩ := hJ.old t x hxx fun j hLj => hno j (by simp [hLj])
        have hne := hno i (by simp)
        rw [hdi] at hne
        refine ⟨k1, ?_⟩
        rw [put_getD, if_neg (fun k => hne k.1)]
        exact k2.mono hor hx' hwr
      · by_cases hji : j = i
        · subst hji
          rw [hdi] at hjt
          have hlt := hd o (List.mem_of_getElem? ho) t hjt
          refine ⟨hlt, ?_⟩
          rw [put_getD, if_pos ⟨hjt, by rw [hJ.hn]; exact hlt⟩]
          exact hv
        · have hLj : L j = true := by simpa [hji] using hj
          obtain ⟨k1, k2⟩ := hJ.new j t hLj hjm hjt
          refine ⟨k1, ?_⟩
          rw [put_getD, if_neg (fun k => hji (hs.dist j i t hjt (by rw [hdi]; exact k.1)))]
          exact k2.mono hor hx' hwr
    unfold wpOp
    simp only [ho', hwant]
    cases hbi : b i with
    | true =>
      simp only [if_true]
      obtain ⟨obs, hf, hmix, hob⟩ := hrun hbi
      generalize hHv : hide (hidGo all i 0 W) (Hs i) = Hv at *
      have hHvn : Hv.nx = (Hs i).nx := by rw [← hHv]; exact hide_nx _ _
      unfold mixB at hmix
      simp only [Bool.and_eq_true] at hmix
      obtain ⟨⟨⟨_, _⟩, hops2⟩, hes⟩ := hmix
      have hvis : ∀ x y, Hv.get x = some y → HL.get x = some y ∧ x < Hv.nx ∧ entB Hv.nx y = true := by
        intro x y hx
        have hmem := List.all_eq_true.1 hes _ (geth_mem hx)
        unfold esB at hmem
        rw [Bool.and_eq_true] at hmem
        refine ⟨?_, by simpa using hmem.1, hmem.2⟩
        rw [← hHv, geth_hide] at hx
        split at hx
        · cases hx
        · rename_i hnh
          have hnh : (hidGo all i 0 W).any (Nat.beq x) = false := Bool.eq_false_iff.2 hnh
          rw [hHLg, lay_get_congr (L' := fun j => decide (j < i)) (fun j hj hk => ?_), lay_below (by omega), layt i (by omega)]
          · exact hx
          · obtain ⟨t1, _⟩ := told j x hj hk
            rcases hidGo_spec hnh j t1 with h | h | h
            · have : j = i := by omega
              subst this
              rw [hLi]; simp
            · rw [Nat.zero_add] at h
              have h1 := ordB_lt hs h
              rw [ordB_done (L := L) hcl' ho' hdeps h]
              simp [h1]
            · rw [Nat.zero_add] at h
              have h1 := ordB_lt hs h
              cases hLj : L j with
              | false => simp; omega
              | true => exact (closed j hj hLj h).elim
      obtain ⟨f1, f2⟩ := mix_frame hJ.h hvis
      -- the frame of the operands' slots alone
      have hops : ∀ x ∈ o.op.operands.toList, evA (only (E' i) (o.op.operands.toList.filterMap fun x => match x with | .tmp t => some t | _ => none)) x = evA (E' i) x := by
        intro x hx
        cases x with
        | tmp t =>
          have : t ∈ o.op.operands.toList.filterMap fun x => match x with | .tmp t => some t | _ => none := List.mem_filterMap.2 ⟨.tmp t, hx, rfl⟩
          simp [evA, lk_only, this]
        | _ => rfl
      have hf' := (aopX_congr hC.Y (H := Hv) hops).trans hf
      have hE : ERel (R.cut Hv.nx) w (Wr (fun b => Wr F R HL b ∧ ¬ Own (R.cut Hv.nx) Hv b) (R.cut Hv.nx) Hv) (only (E' i) (o.op.operands.toList.filterMap fun x => match x with | .tmp t => some t | _ => none)) a.tmps := by
        intro t y hy
        rw [lk_only] at hy
        split at hy
        · rename_i hmem
          obtain ⟨x0, hx0, hxe⟩ := List.mem_filterMap.1 hmem
          have hx0e : x0 = .tmp t := by cases x0 <;> simp at hxe; rw [hxe]
          subst hx0e
          have hnm := List.all_eq_true.1 hops2 _ hx0
          simp only [evA, hy] at hnm
          have htl : t ∈ o.looksAt all.toArray := List.mem_append_left _ (List.mem_filterMap.2 ⟨.tmp t, by simpa using hx0, rfl⟩)
          obtain ⟨x, hx, hfx⟩ := hg.fits hy
          obtain ⟨k1, k2⟩ := slot t htl x hx
          refine ⟨by rw [hJ.hn]; exact k1, ?_⟩
          exact (nm2_rep (hfx _ _ _ _ k2) hnm).mono (fun _ _ k => k) (Ext.refl _ _) (fun b _ k => f2 b k)
        · cases hy
      refine .inl (upon_noway (opX_sound hC hf' hob f1 hE) fun a' w' ⟨R', cv, ha, hR', hH', hr⟩ => ?_)
      subst ha
      have hwin : ∀ (x : Nat) (y : Option Nat), R[x]? = some y → x < Hv.nx ∨ (Hs (i + 1)).nx ≤ x := by
        intro x y hx
        rcases hJ.al x y hx with h | ⟨j, hj, hLj, h1, h2⟩
        · have := mono 0 i (Nat.zero_le _) (by omega)
          rw [hH0] at this
          exact .inl (by omega)
        · rcases Nat.lt_trichotomy j i with h | h | h
          · have := mono (j + 1) i (by omega) (by omega)
            exact .inl (by omega)
          · subst h; rw [hLi] at hLj; cases hLj
          · have := mono (i + 1) j (by omega) (by omega)
            exact .inr (by omega)
      have hget' : ∀ x, (⟨(Hs all.length).nx, lay dl (fun j => L j || j == i) H.es all.length⟩ : AH).get x = if hasK (dl i) x = true then geth (dl i) x else HL.get x := by
        intro x
        show geth (lay dl (fun j => L j || j == i) H.es all.length) x = _
        split
        · rename_i hk
          refine lay_get_last hi (by simp) hk fun j hij hj hLj => ?_
          have hLj : L j = true := by
            have hne : (j == i) = false := by simp; omega
            simpa [hne] using hLj
          cases hkj : hasK (dl j) x with
          | false => rfl
          | true =>
            have := wok_spec hwok i j hij (told i x hi hk).1 (told j x hj hkj).1
            rw [Nat.zero_add, Nat.zero_add] at this
            exact (closed j hj hLj this).elim
        · rename_i hk
          rw [hHLg]
          refine lay_get_congr fun j hj hkj => ?_
          have hne : (j == i) = false := by
            cases hji : (j == i) with
            | false => rfl
            | true =>
              have : j = i := by simpa using hji
              subst this
              exact absurd hkj hk
          simp [hne]
      obtain ⟨m1, m2, m3, m4, m5, m6⟩ := mix_join (HL' := ⟨(Hs all.length).nx, lay dl (fun j => L j || j == i) H.es all.length⟩) hJ.h hvis rfl hH' hR' hwin (fun x hx => (told i x hi hx).2) (by rw [hHvn]; exact mono1 i hi) hHLn.symm (by rw [hHLn]; exact mono (i + 1) _ (by omega) (Nat.le_refl _)) hget'
      refine done rfl m1 m3 m4 m5 (fun x y hx => ?_) (hr.mono m2 (Ext.refl _ _) (fun b _ k => m6 b k))
      rw [PN.get_or] at hx
      cases hrx : R[x]? with
      | some z => rw [hrx] at hx; exact .inl hx
      | none =>
        rw [hrx] at hx
        have hx : R'[x]? = some y := hx
        refine .inr ⟨?_, ?_⟩
        · rcases Nat.lt_or_ge x Hv.nx with h | h
          · rw [hR' x h, PN.get_cut, if_pos h, hrx] at hx; cases hx
          · rw [← hHvn]; exact h
        · rcases Nat.lt_or_ge x (Hs (i + 1)).nx with h | h
          · exact h
          · rw [hH'.len x h] at hx; cases hx
    | false =>
      simp only [Bool.false_eq_true, if_false]
      obtain ⟨k1, k2, k3⟩ := hskip hbi
      have e1 : HL = ⟨(Hs all.length).nx, lay dl (fun j => L j || j == i) H.es all.length⟩ := by
        rw [← hHL, lay_congr (L' := fun j => L j || j == i) fun j hj => ?_]
        by_cases hji : j = i
        · subst hji; exact .inr k2
        · exact .inl (by simp [hji])
      refine done e1 (fun _ _ k => k) hJ.h (Ext.refl _ _) (fun _ _ k => k) (fun _ _ k => .inl k) (by rw [k1]; exact undef_rep)
  · rintro L a w hL ⟨R, hJ⟩
    rw [List.drop_length]
    have e1 : lay dl L H.es all.length = (Hs all.length).es := by
      rw [← layt _ (Nat.le_refl _)]
      exact lay_congr fun j hj => .inl (by rw [hL]; simp [hj])
    rw [e1] at hJ
    refine hK _ _ a w hKm (.mk R hJ.A hJ.h (fun t y hy => ?_) hJ.hd hJ.hn)
    rcases hlk all.length (Nat.le_refl _) t y hy with ⟨j, hj, hdj, hf⟩ | ⟨hno, x, hx, hf⟩
    · obtain ⟨k1, k2⟩ := hJ.new j t (by rw [hL]; simp [hj]) hj hdj
      exact ⟨by rw [hJ.hn]; exact k1, hf _ _ _ _ k2⟩
    · obtain ⟨k1, k2⟩ := hJ.old t x hx (fun j hLj => hno j (by rw [hL] at hLj; simpa using hLj))
      exact ⟨by rw [hJ.hn]; exact k1, hf _ _ _ _ k2⟩

theorem vcDraw_sound (hC : COK P C) (hmo : P.follows .mixedOrders = true) {all : List Oper} {Q : Exit → Act → World → Prop} {K : Env → AH → Prop} (hK : ∀ e H a w, K e H → St F Ob W0 A dz n e H a w → Q .normal a w)
    (hd : dstsIn n all) {e : Env} {a : Act} (h : vcRegion C all true e H K) (hS : St F Ob W0 A dz n e H a w) : RegAny P Q all a w := by
  unfold vcRegion at h
  simp only at h
  split at h
  · exact vcDraw_old hC hmo hK hd h hS
  · rw [forceLL_eq] at h
    obtain ⟨⟨hc⟩, hv⟩ := h
    exact vcMix_sound hC hmo hK hd hc hv hS
end
end Go.Proofs.Ytdiflkabpjnncaa
