
/- The engine, part 9: regions in whatever order: sound; code, loops, functions: sound. No condition. -/
import Derived.Test.YtdiflkabpjnncaaE8
namespace Go.Proofs.Ytdiflkabpjnncaa
open Go Go.RowKit
set_option linter.unusedVariables false
set_option linter.unusedSimpArgs false

section
variable {T : TypeId → Option TI} {S : FuncId → Option PSpec} {H : AH} {e e' : Env}

theorem evAs_congr : ∀ (l : List Operand), (∀ x ∈ l, evA e x = evA e' x) → evAs e l = evAs e' l
  | [], _ => rfl
  | x :: l, h => by
    unfold evAs
    rw [h x (by simp), evAs_congr l fun y hy => h y (by simp [hy])]

theorem aBounds_congr (len : Nat) (lo hi : Option Operand) (h1 : ∀ x, lo = some x → evA e x = evA e' x) (h2 : ∀ x, hi = some x → evA e x = evA e' x) : aBounds e len lo hi = aBounds e' len lo hi := by
  unfold aBounds
  cases hi with
  | none => cases lo with
    | none => rfl
    | some x => simp only [h1 x rfl]
  | some y => cases lo with
    | none => simp only [h2 y rfl]
    | some x => simp only [h1 x rfl, h2 y rfl]

theorem fillA_congr (place : Nat → Option (Nat × Nat)) : ∀ (ps : List (Nat × Operand)) (l : List AV), (∀ p ∈ ps, evA e p.2 = evA e' p.2) → fillA place e l ps = fillA place e' l ps
  | [], _, _ => rfl
  | (i, x) :: ps, l, h => by
    unfold fillA
    simp only [forceA_eq]
    rw [h (i, x) (by simp)]
    have ih := fun l => fillA_congr place ps l fun p hp => h p (by simp [hp])
    simp only [ih]

theorem aopF_congr {o : Op} (h : ∀ x ∈ o.operands.toList, evA e x = evA e' x) : aopF T S o e H = aopF T S o e' H := by
  unfold aopF
  split <;> simp only [Op.operands, Call.operands, Array.toList_append, List.mem_append, List.mem_cons, List.not_mem_nil, or_false, forall_eq_or_imp, forall_eq] at h
  · rw [h]
  · rw [h]
  · rw [h.1, h.2.1, h.2.2]
  · rw [h]
  · rw [h]
  · rw [h.1, h.2]
  · rw [h]
  · rw [h]
  · rw [h]
  · rw [h]
  · rename_i f first cap
    split
    · rw [evAs_congr cap.toList fun x hx => h x (by simp at hx ⊢; exact .inr hx)]
    · rename_i x1 hf
      have h1 : ∀ x ∈ x1 :: cap.toList, evA e x = evA e' x := fun x hx => h x (by
        simp only [List.mem_cons] at hx
        rcases hx with rfl | hx
        · have : x ∈ first.toList := by rw [hf]; simp
          simp; exact .inl (by simpa using this)
        · simp; exact .inr (by simpa using hx))
      rw [evAs_congr (x1 :: cap.toList) h1]
    · rfl
  · rename_i t x lo hi
    rw [h x (by simp)]
    split
    · unfold aslice
      have hb : ∀ n, aBounds e n lo hi = aBounds e' n lo hi := fun n => aBounds_congr n lo hi (fun y hy => h y (by simp [hy])) (fun y hy => h y (by simp [hy]))
      simp only [hb]
    · rfl
  · rw [h]
  · rw [h]
  · rw [h.1, h.2]
  · rw [h.1, h.2]
  · rw [h]
  · rename_i t ps
    have hf : ∀ place l, fillA place e l ps.toList = fillA place e' l ps.toList := fun place l => fillA_congr place ps.toList l fun p hp => h p.2 (by simp; exact ⟨p.1, by simpa using hp⟩)
    unfold abuild
    simp only [hf]
  · rename_i args ts
    split
    · rename_i x t hx ht
      rw [h x (by simp [hx])]
    · rfl
  · rename_i args ts
    rw [evAs_congr args.toList fun x hx => h x (by simp at hx; simp [hx])]
  · rename_i args ts
    rw [evAs_congr args.toList fun x hx => h x (by simp at hx; simp [hx])]
  · rename_i f args ts
    rw [h.1, evAs_congr args.toList fun x hx => h.2 x hx]
  · rfl
end

section
variable {P : Program} {C : Ctx} {R : PN} {w : World} {F Ob : Nat → Prop} {W0 : World} {A : PN} {H : AH} {dz : List Deferred} {n : Nat}

theorem Fits.trans {x y z : AV} (h : Fits x y) (k : Fits y z) : Fits x z := fun R w O v hv => k R w O v (h R w O v hv)

/-- The quiet operations of a region, one by one, as the conditions take them. -/
theorem chain {all : List Oper} {K : Env → AH → Prop} : ∀ (l : List Oper) (e : Env), vcOps C all true l e H K →
    ∃ (E E' : Nat → Env) (av : Nat → AV) (b : Nat → Bool), E 0 = e ∧ (∀ i o, l[i]? = some o → Gd all o (E i) (E' i) (b i) ∧ (b i = true → ∃ obs, aopF C.T C.S o.op (E' i) H = some (obs, av i) ∧ ∀ p ∈ obs, p) ∧
      (b i = false → av i = .tup []) ∧ E (i + 1) = pute o.dst (av i) (E' i)) ∧ K (E l.length) H
  | [], e, h => ⟨fun _ => e, fun _ => e, fun _ => .any, fun _ => true, rfl, fun i o hi => by simp at hi, h⟩
  | o :: l, e, h => by
    obtain ⟨e', b, hg, hrun, hskip⟩ := vcOps_inv h
    have key : ∃ av, (b = true → ∃ obs, aopF C.T C.S o.op e' H = some (obs, av) ∧ ∀ p ∈ obs, p) ∧ (b = false → av = .tup []) ∧ vcOps C all true l (pute o.dst av e') H K := by
      cases b with
      | true =>
        have h := hrun rfl
        unfold opVC at h
        simp only at h
        split at h
        · rename_i obs v hf
          obtain ⟨ho, hK⟩ := obl_inv h
          exact ⟨v, fun _ => ⟨obs, hf, ho⟩, fun k => (by cases k), hK⟩
        · exact h.elim
      | false => exact ⟨.tup [], fun k => (by cases k), fun _ => rfl, hskip rfl⟩
    obtain ⟨av, k1, k2, k3⟩ := key
    obtain ⟨E, E', avs, bs, h0, hst, hK⟩ := chain l _ k3
    refine ⟨fun | 0 => e | i + 1 => E i, fun | 0 => e' | i + 1 => E' i, fun | 0 => av | i + 1 => avs i, fun | 0 => b | i + 1 => bs i, rfl, fun i o' hi => ?_, hK⟩
    cases i with
    | zero =>
      simp only [List.getElem?_cons_zero, Option.some.injEq] at hi
      subst hi
      exact ⟨hg, k1, k2, h0⟩
    | succ i => exact hst i o' (by simpa using hi)

theorem chain_lk {all l : List Oper} {e : Env} {E E' : Nat → Env} {av : Nat → AV} {b : Nat → Bool} (h0 : E 0 = e) (hst : ∀ i o, l[i]? = some o → Gd all o (E i) (E' i) (b i) ∧ E (i + 1) = pute o.dst (av i) (E' i)) {dst : Nat → Option Tmp}
    (hd : ∀ i o, l[i]? = some o → dst i = o.dst) : ∀ i, i ≤ l.length → ∀ t y, lk (E i) t = some y → (∃ j, j < i ∧ dst j = some t ∧ Fits (av j) y) ∨ ((∀ j, j < i → dst j ≠ some t) ∧ ∃ x, lk e t = some x ∧ Fits x y) := by
  intro i
  induction i with
  | zero => intro _ t y hy; exact .inr ⟨fun j hj => by omega, y, by rw [← h0]; exact hy, .refl _⟩
  | succ i ih =>
    intro hi t y hy
    have hlt : i < l.length := by omega
    obtain ⟨hg, hE⟩ := hst i l[i] (by simp [hlt])
    have hdi := hd i l[i] (by simp [hlt])
    rw [hE] at hy
    have old : ∀ y, lk (E' i) t = some y → dst i ≠ some t → (∃ j, j < i + 1 ∧ dst j = some t ∧ Fits (av j) y) ∨ ((∀ j, j < i + 1 → dst j ≠ some t) ∧ ∃ x, lk e t = some x ∧ Fits x y) := by
      intro y hy hne
      obtain ⟨x, hx, hf⟩ := hg.fits hy
      rcases ih (by omega) t x hx with ⟨j, hj, h1, h2⟩ | ⟨h1, x', h2, h3⟩
      · exact .inl ⟨j, by omega, h1, h2.trans hf⟩
      · refine .inr ⟨fun j hj => ?_, x', h2, h3.trans hf⟩
        rcases Nat.lt_or_ge j i with hji | hji
        · exact h1 j hji
        · obtain rfl : j = i := by omega
          exact hne
    cases hdo : (l[i]).dst with
    | none =>
      rw [hdo] at hy hdi
      exact old y hy (by rw [hdi]; simp)
    | some d =>
      rw [hdo] at hy hdi
      simp only [pute] at hy
      rw [lk_cons] at hy
      split at hy
      · rename_i hdt
        subst hdt
        cases hy
        exact .inl ⟨i, by omega, hdi, .refl _⟩
      · rename_i hdt
        exact old y hy (by rw [hdi]; simpa using hdt)

/-- What holds when the operations of L have been done. -/
structure JInv (F Ob : Nat → Prop) (W0 : World) (R : PN) (H : AH) (dz : List Deferred) (n m : Nat) (dst : Nat → Option Tmp) (e : Env) (av : Nat → AV) (L : Nat → Bool) (a : Act) (w : World) : Prop where
  h : HRel F Ob W0 R H w
  hd : a.defers = dz
  hn : a.tmps.size = n
  old : ∀ t x, lk e t = some x → (∀ j, L j = true → dst j ≠ some t) → t < n ∧ Rep R w (Wr F R H) x (a.tmps.getD t undef)
  new : ∀ j t, L j = true → j < m → dst j = some t → t < n ∧ Rep R w (Wr F R H) (av j) (a.tmps.getD t undef)

/-- A frame of the slots of a list alone. -/
def only (e : Env) : List Tmp → Env
  | [] => []
  | t :: r => match lk e t with | some v => (t, v) :: only e r | none => only e r
theorem lk_only (e : Env) : ∀ (l : List Tmp) (t : Nat), lk (only e l) t = if t ∈ l then lk e t else none
  | [], t => by simp [only, lk]
  | s :: r, t => by
    unfold only
    by_cases hst : s = t
    · subst hst
      cases h : lk e s with
      | none => simp [lk_only e r, h]
      | some v => simp [lk_cons]
    · have hts : ¬ t = s := fun k => hst k.symm
      cases h : lk e s with
      | none => simp [lk_only e r, hts]
      | some v => simp [lk_cons, hst, hts, lk_only e r]

theorem vcDraw_old (hC : COK P C) (hmo : P.follows .mixedOrders = true) {all : List Oper} {Q : Exit → Act → World → Prop} {K : Env → AH → Prop} (hK : ∀ e H a w, K e H → St F Ob W0 A dz n e H a w → Q .normal a w)
    (hd : dstsIn n all) {e : Env} {a : Act} (h : Chk (planOK all.toArray && tailT all (quietN C all)) ∧ vcOps C all true (all.take (quietN C all)) e H fun e' H' => vcOps C all false (all.drop (quietN C all)) e' H' K) (hS : St F Ob W0 A dz n e H a w) : RegAny P Q all a w := by
  obtain ⟨⟨hchk⟩, hv⟩ := h
  rw [Bool.and_eq_true] at hchk
  obtain ⟨hok, htl⟩ := hchk
  generalize hm : quietN C all = m at hv htl
  have hml : m ≤ all.length := by
    have : ∀ l : List Oper, quietN C l ≤ l.length := by
      intro l
      induction l with
      | nil => exact Nat.le_refl _
      | cons o l ih => unfold quietN; cases isQ C o <;> simp <;> omega
    rw [← hm]; exact this all
  obtain ⟨R, hA, g1, g2, g3, g4⟩ := hS
  obtain ⟨E, E', av, b, h0, hst, hKm⟩ := chain _ _ hv
  have hs := sound_of hok
  have htk : ∀ {i : Nat} {o : Oper}, i < m → all[i]? = some o → (all.take m)[i]? = some o := fun hi ho => by rw [List.getElem?_take_of_lt hi]; exact ho
  have hlen : (all.take m).length = m := by simp; omega
  have hdst : ∀ i o, (all.take m)[i]? = some o → dstOf all.toArray i = o.dst := fun i o ho => by
    rw [List.getElem?_take] at ho
    split at ho
    · simp [dstOf, ho]
    · cases ho
  have hlk := chain_lk (l := all.take m) (e := e) h0 (fun i o ho => ⟨(hst i o ho).1, (hst i o ho).2.2.2⟩) hdst
  rw [hlen] at hlk hKm
  refine wp_region_J (m := m) (J := JInv F Ob W0 R H dz n m (dstOf all.toArray) e av) hmo hok hml htl ⟨g1.quiet (Ext.drew _ _), g3, g4, fun t x hx _ => ?_, fun j t hj => by cases hj⟩ ?_ ?_
  · obtain ⟨k1, k2⟩ := g2 t x hx
    exact ⟨by rw [← g4]; exact k1, k2.mono (fun _ _ k => k) (Ext.drew (Wr F R H) w) (fun _ _ k => k)⟩
  · intro i o L a w hi ho hLi hdeps hcl hun hJ
    have hot := htk hi ho
    obtain ⟨hg, hrun, hskip, _⟩ := hst i o hot
    -- what a slot that the operation looks at holds
    have slot : ∀ t, t ∈ o.looksAt all.toArray → ∀ y, lk (E i) t = some y → t < n ∧ Rep R w (Wr F R H) y (a.tmps.getD t undef) := by
      intro t htl y hy
      rcases hlk i (by omega) t y hy with ⟨j, hj, hdj, hf⟩ | ⟨hno, x, hx, hf⟩
      · have hLj : L j = true := by
          rcases hs.look i o j t (by simpa using ho) hdj htl with rfl | he | he
          · omega
          · obtain ⟨o', ho', ed, hed, hb, hon⟩ := edge_spec he
            have : o' = o := by simpa [ho] using ho'.symm
            subst this
            have := hdeps ed hed hb
            rw [hon] at this
            exact this
          · obtain ⟨o', ho', ed, hed, hb, hon⟩ := edge_spec he
            have h2 := hs.back j o' ho' ed hed hb
            omega
        obtain ⟨k1, k2⟩ := hJ.new j t hLj (by omega) hdj
        exact ⟨k1, hf _ _ _ _ k2⟩
      · obtain ⟨k1, k2⟩ := hJ.old t x hx (fun j hLj hdj => by
          rcases hs.look i o j t (by simpa using ho) hdj htl with rfl | he | he
          · rw [hLi] at hLj; cases hLj
          · obtain ⟨o', ho', ed, hed, hb, hon⟩ := edge_spec he
            have h2 := hs.back i o' ho' ed hed hb
            rw [hon] at h2
            exact hno j h2 hdj
          · obtain ⟨o', ho', ed, hed, hb, hon⟩ := edge_spec he
            have := hcl j o' hLj (by simpa using ho') ed hed hb
            rw [hon, hLi] at this
            cases this)
        exact ⟨k1, hf _ _ _ _ k2⟩
    have hwant : Region.wanted o (yielded all.toArray a.tmps) = b i := hg.wanted fun j want g x hgd hsl hl => by
      have hmem : g ∈ o.looksAt all.toArray := by
        refine List.mem_append_right _ ?_
        rw [slotOf_eq] at hsl
        unfold dstOf at hsl
        simp only [hgd]
        rw [hsl]
        simp
      obtain ⟨k1, k2⟩ := slot g hmem x hl
      exact ⟨by rw [hJ.hn]; exact k1, k2⟩
    have done : ∀ {w' : World} {v : Value}, Ext (fun _ => False) w w' → Rep R w' (Wr F R H) (av i) v → JInv F Ob W0 R H dz n m (dstOf all.toArray) e av (fun j => L j || j == i) (a.put o.dst v) w' := by
      intro w' v hx hv
      have hx' : Ext (Wr F R H) w w' := hx.weaken fun _ _ k => k.elim
      have hdi := hdst i o hot
      refine ⟨hJ.h.quiet hx, by rw [put_defers_eq]; exact hJ.hd, by rw [put_size]; exact hJ.hn, fun t x hxx hno => ?_, fun j t hj hjm hjt => ?_⟩
      · obtain ⟨k1, k2⟩ := hJ.old t x hxx fun j hLj => hno j (by simp [hLj])
        have hne := hno i (by simp)
        rw [hdi] at hne
        refine ⟨k1, ?_⟩
        rw [put_getD, if_neg (fun k => hne k.1)]
        exact k2.mono (fun _ _ k => k) hx' (fun _ _ k => k)
      · by_cases hji : j = i
        · subst hji
          rw [hdi] at hjt
          have hlt := hd o (List.mem_of_getElem? ho) t hjt
          refine ⟨hlt, ?_⟩
          rw [put_getD, if_pos ⟨hjt, by rw [hJ.hn]; exact hlt⟩]
          exact hv
        · have hLj : L j = true := by simpa [hji] using hj
          obtain ⟨k1, k2⟩ := hJ.new j t hLj hjm hjt
          refine ⟨k1, ?_⟩
          rw [put_getD, if_neg (fun k => hji (hs.dist j i t hjt (by rw [hdi]; exact k.1)))]
          exact k2.mono (fun _ _ k => k) hx' (fun _ _ k => k)
    unfold wpOp
    have ho' : all.toArray[i]? = some o := by simpa using ho
    simp only [ho', hwant]
    cases hbi : b i with
    | true =>
      simp only [if_true]
      obtain ⟨obs, hf, hob⟩ := hrun hbi
      -- the frame of the operands' slots alone
      have hops : ∀ x ∈ o.op.operands.toList, evA (only (E' i) (o.looksAt all.toArray)) x = evA (E' i) x := by
        intro x hx
        cases x with
        | tmp t =>
          have : t ∈ o.looksAt all.toArray := List.mem_append_left _ (List.mem_filterMap.2 ⟨.tmp t, by simpa using hx, rfl⟩)
          simp [evA, lk_only, this]
        | _ => rfl
      have hf' := (aopF_congr (T := C.T) (S := C.S) (H := H) hops).trans hf
      have hE : ERel R w (Wr F R H) (only (E' i) (o.looksAt all.toArray)) a.tmps := by
        intro t y hy
        rw [lk_only] at hy
        split at hy
        · rename_i hmem
          obtain ⟨x, hx, hfx⟩ := hg.fits hy
          obtain ⟨k1, k2⟩ := slot t hmem x hx
          exact ⟨by rw [hJ.hn]; exact k1, hfx _ _ _ _ k2⟩
        · cases hy
      refine .inl (upon_noway (aopF_ok hC.T hC.S hf' hob hJ.h hE) fun a' w' ⟨cv, ha, hx, hr⟩ => ?_)
      subst ha
      exact done hx hr
    | false =>
      simp only [Bool.false_eq_true, if_false]
      exact done (Ext.refl _ _) (by rw [hskip hbi]; exact undef_rep)
  · intro L a w hL hJ
    refine vcOps_sound hC hK (all.drop m) _ H a w (fun o ho => hd o (List.mem_of_mem_drop ho)) hKm (.mk R hA hJ.h (fun t y hy => ?_) hJ.hd hJ.hn)
    rcases hlk m (Nat.le_refl _) t y hy with ⟨j, hj, hdj, hf⟩ | ⟨hno, x, hx, hf⟩
    · obtain ⟨k1, k2⟩ := hJ.new j t (by rw [hL]; simp [hj]) hj hdj
      exact ⟨by rw [hJ.hn]; exact k1, hf _ _ _ _ k2⟩
    · obtain ⟨k1, k2⟩ := hJ.old t x hx (fun j hLj => hno j (by rw [hL] at hLj; simpa using hLj))
      exact ⟨by rw [hJ.hn]; exact k1, hf _ _ _ _ k2⟩
end
end Go.Proofs.Ytdiflkabpjnncaa
