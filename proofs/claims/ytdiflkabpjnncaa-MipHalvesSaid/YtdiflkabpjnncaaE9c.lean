
/- The engine, part 9 c: names cut, heaps laid, a frame put together again. No condition. -/
import Derived.Test.YtdiflkabpjnncaaE9b
namespace Go.Proofs.Ytdiflkabpjnncaa
open Go Go.RowKit
set_option linter.unusedVariables false
set_option linter.unusedSimpArgs false

section
variable {P : Program} {C : Ctx} {R : PN} {w : World} {F Ob : Nat → Prop} {W0 : World} {A : PN} {H : AH} {dz : List Deferred} {n : Nat} {O : Nat → Prop}

/-! ### Names cut -/
def PN.cut (R : PN) (m : Nat) : PN := ⟨fun i => if i < m then R.f i else none⟩
theorem PN.get_cut (R : PN) (m i : Nat) : (R.cut m)[i]? = if i < m then R[i]? else none := rfl
theorem cut_pos {m i : Nat} {x : Option Nat} (h : R[i]? = some x) (hi : Nat.blt i m = true) : (R.cut m)[i]? = some x := by
  rw [PN.get_cut, if_pos (by simpa using hi)]; exact h
theorem cut_inv {m i : Nat} {x : Option Nat} (h : (R.cut m)[i]? = some x) : i < m ∧ R[i]? = some x := by
  rw [PN.get_cut] at h
  split at h
  · exact ⟨by assumption, h⟩
  · cases h
theorem nm0_rep {m : Nat} {x : AV} {v : Value} (h : Rep R w O x v) (hx : nm0 m x = true) : Rep (R.cut m) w O x v := by
  cases h with
  | int k n => exact .int k n
  | bool b => exact .bool b
  | tru => exact .tru
  | fls => exact .fls
  | str s => exact .str s
  | nilp => exact .nilp
  | ptr i o b h => exact .ptr i o b (cut_pos h hx)
  | nils => exact .nils
  | slnil i sz o h => exact .slnil i sz o (cut_pos h hx)
  | sl i sz o n b c off s h hn hc ho hs hl => exact .sl i sz o n b c off s (cut_pos h hx) hn hc ho hs hl
  | eptr i sz j f b h => exact .eptr i sz j f b (cut_pos h hx)
  | ronil sz get => exact .ronil sz get
  | roz sz get a c hc => exact .roz sz get a c hc
  | ro sz n get b off c vals hn hc hOb hb hcell hsz hv => exact .ro sz n get b off c vals hn hc hOb hb hcell hsz hv
  | roinil k => exact .roinil k
  | roiz k a c hc => exact .roiz k a c hc
  | roi k l b off c hn hc hOb hb hcell => exact .roi k l b off c hn hc hOb hb hcell
  | rop x b off v hOb hb hcell hv => exact .rop x b off v hOb hb hcell hv
  | agg l vs hl h => cases hx
  | tup l vs hl h => cases hx
  | fn f k l vs hl h => cases l with
    | nil => exact .fn _ _ _ vs hl fun j x v hj => by simp at hj
    | cons a l => cases hx
  | ifc t l vs hl h => cases hx
  | nilfn => exact .nilfn
  | val v => exact .val v
  | any v => exact .any v
theorem nmA_rep {m : Nat} {x : AV} {v : Value} (h : Rep R w O x v) (hx : nmA m x = true) : Rep (R.cut m) w O x v := by
  unfold nmA at hx
  split at hx
  · cases h with
    | agg _ vs hl h => exact .agg _ vs hl fun j x v hj hv => nm0_rep (h j x v hj hv) (List.all_eq_true.1 hx x (List.mem_of_getElem? hj))
  · exact nm0_rep h hx
theorem nm1_rep {m : Nat} {x : AV} {v : Value} (h : Rep R w O x v) (hx : nm1 m x = true) : Rep (R.cut m) w O x v := by
  unfold nm1 at hx
  split at hx
  · cases h with
    | agg _ vs hl h => exact .agg _ vs hl fun j x v hj hv => nm0_rep (h j x v hj hv) (List.all_eq_true.1 hx x (List.mem_of_getElem? hj))
  · cases h with
    | fn _ _ _ vs hl h => exact .fn _ _ _ vs hl fun j x v hj hv => nmA_rep (h j x v hj hv) (List.all_eq_true.1 hx x (List.mem_of_getElem? hj))
  · cases h with
    | ifc _ _ vs hl h => exact .ifc _ _ vs hl fun j x v hj hv => nmA_rep (h j x v hj hv) (List.all_eq_true.1 hx x (List.mem_of_getElem? hj))
  · exact nm0_rep h hx
theorem nm2_rep {m : Nat} {x : AV} {v : Value} (h : Rep R w O x v) (hx : nm2 m x = true) : Rep (R.cut m) w O x v := by
  unfold nm2 at hx
  split at hx
  · cases h with
    | tup _ vs hl h => exact .tup _ vs hl fun j x v hj hv => nm1_rep (h j x v hj hv) (List.all_eq_true.1 hx x (List.mem_of_getElem? hj))
  · exact nm1_rep h hx
theorem holds_cut {m : Nat} {x : Ent} {b : Option Nat} (h : x.holds R w O b) (hx : entB m x = true) : x.holds (R.cut m) w O b := by
  cases b with
  | none => cases x <;> exact h
  | some b =>
    cases x with
    | cells t l =>
      obtain ⟨vs, fr, h1, h2, h3, h4⟩ := h
      exact ⟨vs, fr, h1, h2, h3, fun j x v hj hv => ⟨(h4 j x v hj hv).1, nm0_rep (h4 j x v hj hv).2 (List.all_eq_true.1 hx x (List.mem_of_getElem? hj))⟩⟩
    | ints e k l => exact h
    | recs e sz n get => exact h
    | recs1 e sz n get f y =>
      obtain ⟨vs, fr, vals, h1, h2, h3, h4, h6, h7, v, h8, h9⟩ := h
      exact ⟨vs, fr, vals, h1, h2, h3, h4, h6, h7, v, h8, nm0_rep h9 hx⟩

/-! ### Heaps laid -/
abbrev Es : Type := List (Nat × Option Ent)
def hasK (l : Es) (i : Nat) : Bool := l.any fun p => Nat.beq p.1 i
theorem geth_app (l r : Es) (i : Nat) : geth (l ++ r) i = if hasK l i = true then geth l i else geth r i := by
  induction l with
  | nil => simp [hasK]
  | cons p l ih =>
    obtain ⟨j, e⟩ := p
    show (bif Nat.beq j i then e else geth (l ++ r) i) = if hasK ((j, e) :: l) i = true then (bif Nat.beq j i then e else geth l i) else geth r i
    have : hasK ((j, e) :: l) i = (Nat.beq j i || hasK l i) := rfl
    rw [this]
    cases hb : Nat.beq j i
    · simp only [cond_false, Bool.false_or]; exact ih
    · simp
theorem geth_mem {l : Es} {i : Nat} {e : Ent} (h : geth l i = some e) : (i, some e) ∈ l := by
  induction l with
  | nil => cases h
  | cons p l ih =>
    obtain ⟨j, x⟩ := p
    have h : (bif Nat.beq j i then x else geth l i) = some e := h
    cases hb : Nat.beq j i
    · rw [hb] at h; exact List.mem_cons_of_mem _ (ih h)
    · rw [hb] at h
      have := beq_iff.1 hb
      subst this
      have h : x = some e := h
      subst h
      exact List.mem_cons_self
theorem geth_hide (hid : List Nat) (H : AH) (i : Nat) : (hide hid H).get i = if hid.any (Nat.beq i) = true then none else H.get i := by
  cases hid with
  | nil => simp [hide]
  | cons a l =>
    show geth (H.es.filter fun p => !(a :: l).any (Nat.beq p.1)) i = if (a :: l).any (Nat.beq i) = true then none else geth H.es i
    generalize (a :: l) = hid
    induction H.es with
    | nil => simp [geth]
    | cons p es ih =>
      obtain ⟨j, x⟩ := p
      rw [List.filter_cons]
      have e2 : geth ((j, x) :: es) i = (bif Nat.beq j i then x else geth es i) := rfl
      cases hb : Nat.beq j i
      · rw [e2, hb, cond_false]
        split
        · have e3 : geth ((j, x) :: es.filter fun p => !hid.any (Nat.beq p.1)) i = (bif Nat.beq j i then x else geth (es.filter fun p => !hid.any (Nat.beq p.1)) i) := rfl
          rw [e3, hb, cond_false]; exact ih
        · exact ih
      · have := beq_iff.1 hb
        subst this
        rw [e2, hb, cond_true]
        cases hh : hid.any (Nat.beq j)
        · simp only [hh, Bool.not_false, if_true, Bool.false_eq_true, if_false]
          have e3 : geth ((j, x) :: es.filter fun p => !hid.any (Nat.beq p.1)) j = (bif Nat.beq j j then x else geth (es.filter fun p => !hid.any (Nat.beq p.1)) j) := rfl
          rw [e3, hb]; rfl
        · simp only [hh, Bool.not_true, Bool.false_eq_true, if_false, if_true]
          rw [hh] at ih
          simpa using ih
theorem hide_nx (hid : List Nat) (H : AH) : (hide hid H).nx = H.nx := by cases hid <;> rfl

def lay (δ : Nat → Es) (L : Nat → Bool) (es : Es) : Nat → Es
  | 0 => es
  | m + 1 => (bif L m then δ m else []) ++ lay δ L es m
variable {δ : Nat → Es} {L L' : Nat → Bool} {es : Es}
theorem lay_congr {m : Nat} (h : ∀ j, j < m → L j = L' j ∨ δ j = []) : lay δ L es m = lay δ L' es m := by
  induction m with
  | zero => rfl
  | succ m ih =>
    unfold lay
    rw [ih fun j hj => h j (by omega)]
    rcases h m (by omega) with h1 | h1
    · rw [h1]
    · rw [h1]; cases L m <;> cases L' m <;> rfl
theorem lay_get_congr {m i : Nat} (h : ∀ j, j < m → hasK (δ j) i = true → L j = L' j) : geth (lay δ L es m) i = geth (lay δ L' es m) i := by
  induction m with
  | zero => rfl
  | succ m ih =>
    unfold lay
    rw [geth_app, geth_app, ih fun j hj => h j (by omega)]
    cases hk : hasK (δ m) i
    · have e : ∀ c : Bool, hasK (bif c then δ m else []) i = false := fun c => by cases c; rfl; exact hk
      rw [e, e]
      rfl
    · rw [h m (by omega) hk]
theorem lay_get_last {m k i : Nat} (hk : k < m) (hL : L k = true) (hK : hasK (δ k) i = true) (h : ∀ j, k < j → j < m → L j = true → hasK (δ j) i = false) : geth (lay δ L es m) i = geth (δ k) i := by
  induction m with
  | zero => omega
  | succ m ih =>
    unfold lay
    rw [geth_app]
    by_cases hkm : k = m
    · subst hkm
      rw [hL]
      simp only [cond_true]
      rw [if_pos hK]
    · have : hasK (bif L m then δ m else []) i = false := by
        cases hl : L m
        · rfl
        · exact h m (by omega) (by omega) hl
      rw [this]
      exact ih (by omega) fun j h1 h2 => h j h1 (by omega)
theorem lay_below {k : Nat} : ∀ {m : Nat}, k ≤ m → lay δ (fun j => decide (j < k)) es m = lay δ (fun _ => true) es k
  | 0, h => by obtain rfl : k = 0 := by omega
               rfl
  | m + 1, h => by
    by_cases hk : k = m + 1
    · subst hk
      exact lay_congr fun j hj => .inl (by simp [hj])
    · have : decide (m < k) = false := by simp; omega
      show (bif decide (m < k) then δ m else []) ++ lay δ (fun j => decide (j < k)) es m = _
      rw [this]
      exact lay_below (by omega)
theorem lay_none : ∀ (m : Nat), lay δ (fun _ => false) es m = es
  | 0 => rfl
  | m + 1 => lay_none m

/-! ### A frame put aside, and put together again -/
theorem HRel.renx {N : Nat} (h : HRel F Ob W0 R H w) (hN : H.nx ≤ N) : HRel F Ob W0 R ⟨N, H.es⟩ w :=
  ⟨fun i hi => h.len i (Nat.le_trans hN hi), h.ext, h.fb, h.own, h.ent, h.dis⟩

section
variable {HL Hv HL' : AH}
/-- What is not seen is put aside. -/
theorem mix_frame (hH : HRel F Ob W0 R HL w) (hvis : ∀ i x, Hv.get i = some x → HL.get i = some x ∧ i < Hv.nx ∧ entB Hv.nx x = true) :
    HRel (fun b => Wr F R HL b ∧ ¬ Own (R.cut Hv.nx) Hv b) (Own (R.cut Hv.nx) Hv) w (R.cut Hv.nx) Hv w ∧
    (∀ b, Wr (fun b => Wr F R HL b ∧ ¬ Own (R.cut Hv.nx) Hv b) (R.cut Hv.nx) Hv b → Wr F R HL b) := by
  have hown : ∀ b, Own (R.cut Hv.nx) Hv b → Own R HL b := fun b ⟨i, e, h1, h2⟩ => ⟨i, e, (hvis i e h1).1, (cut_inv h2).2⟩
  have hwr : ∀ b, Wr (fun b => Wr F R HL b ∧ ¬ Own (R.cut Hv.nx) Hv b) (R.cut Hv.nx) Hv b → Wr F R HL b := fun b hb => hb.elim (fun h => h.1) fun h => .inr (hown b h)
  refine ⟨⟨fun i hi => by rw [PN.get_cut, if_neg (by omega)], Ext.refl _ _, hH.fbOf (fun b hb => ⟨?_, hb.2⟩) (fun b hb => hwr b hb), fun b hb => .inl hb, fun i e hi => ?_, fun i j e e' b hi hj h1 h2 => hH.dis i j e e' b (hvis i e hi).1 (hvis j e' hj).1 (cut_inv h1).2 (cut_inv h2).2⟩, hwr⟩
  · rcases hb.1 with h | h
    · exact Nat.lt_of_lt_of_le (hH.fb.1 b h).1 hH.ext.size
    · exact hH.own_lt h
  · obtain ⟨h1, h2, h3⟩ := hvis i e hi
    obtain ⟨b, hb, he⟩ := hH.ent i e h1
    refine ⟨b, by rw [PN.get_cut, if_pos h2]; exact hb, ?_⟩
    exact Ent.holds_mono (holds_cut he h3) (fun _ _ k => k) (Ext.refl _ _) (fun b _ k => hwr b k) (fun _ _ => rfl)
def PN.or (R R' : PN) : PN := ⟨fun i => match R.f i with | some x => some x | none => R'.f i⟩
theorem PN.get_or (R R' : PN) (i : Nat) : (R.or R')[i]? = match R[i]? with | some x => some x | none => R'[i]? := rfl

theorem mix_join (hH : HRel F Ob W0 R HL w) (hvis : ∀ i x, Hv.get i = some x → HL.get i = some x ∧ i < Hv.nx ∧ entB Hv.nx x = true) {dl : Es} {nx' : Nat} {R' : PN} {w' : World} {F' : Nat → Prop}
    (hF' : F' = fun b => Wr F R HL b ∧ ¬ Own (R.cut Hv.nx) Hv b)
    (hH' : HRel F' (Own (R.cut Hv.nx) Hv) w R' ⟨nx', dl ++ Hv.es⟩ w') (hR' : ∀ i, i < Hv.nx → R'[i]? = (R.cut Hv.nx)[i]?) (hwin : ∀ i x, R[i]? = some x → i < Hv.nx ∨ nx' ≤ i)
    (hkey : ∀ i, hasK dl i = true → i < nx') (hle : Hv.nx ≤ nx') (hn : HL'.nx = HL.nx) (hnx : nx' ≤ HL.nx) (hget : ∀ i, HL'.get i = if hasK dl i = true then geth dl i else HL.get i) :
    (∀ (i : Nat) (x : Option Nat), R[i]? = some x → (R.or R')[i]? = some x) ∧ (∀ (i : Nat) (x : Option Nat), R'[i]? = some x → (R.or R')[i]? = some x) ∧ HRel F Ob W0 (R.or R') HL' w' ∧
      Ext (Wr F R HL) w w' ∧ (∀ b, b < w.heap.size → Wr F (R.or R') HL' b → Wr F R HL b) ∧ (∀ b, Wr F (R.or R') HL' b → Wr F' R' ⟨nx', dl ++ Hv.es⟩ b) := by
  generalize hH'e : (⟨nx', dl ++ Hv.es⟩ : AH) = H' at *
  have hget' : ∀ i, H'.get i = if hasK dl i = true then geth dl i else Hv.get i := fun i => by
    rw [← hH'e]; exact geth_app _ _ _
  have hnx'e : H'.nx = nx' := by rw [← hH'e]
  have hor1 : ∀ (i : Nat) (x : Option Nat), R[i]? = some x → (R.or R')[i]? = some x := fun i x h => by rw [PN.get_or, h]
  have hsame : ∀ i, i < nx' → (R.or R')[i]? = R'[i]? := fun i hi => by
    rw [PN.get_or]
    cases hr : R[i]? with
    | none => rfl
    | some y =>
      rcases hwin i y hr with h | h
      · rw [hR' i h, PN.get_cut, if_pos h, hr]
      · omega
  have hor2 : ∀ (i : Nat) (x : Option Nat), R'[i]? = some x → (R.or R')[i]? = some x := fun i x h => by
    rcases Nat.lt_or_ge i nx' with hl | hl
    · rw [hsame i hl]; exact h
    · rw [hH'.len i (by omega)] at h; cases h
  have ownV : ∀ b, Own (R.cut Hv.nx) Hv b → Own R HL b := fun b ⟨i, e, h1, h2⟩ => ⟨i, e, (hvis i e h1).1, (cut_inv h2).2⟩
  -- an entry is one of the operation's, or one that it saw, or one that was put aside
  have cls : ∀ i e, HL'.get i = some e → (H'.get i = some e ∧ i < nx') ∨ (HL.get i = some e ∧ Hv.get i = none ∧ hasK dl i = false) := by
    intro i e hi
    rw [hget] at hi
    split at hi
    · rename_i hk
      exact .inl ⟨by rw [hget', if_pos hk]; exact hi, hkey i hk⟩
    · rename_i hk
      cases hv : Hv.get i with
      | none => exact .inr ⟨hi, rfl, by simpa using hk⟩
      | some x =>
        obtain ⟨h1, h2, h3⟩ := hvis i x hv
        rw [h1] at hi
        cases hi
        exact .inl ⟨by rw [hget', if_neg hk]; exact hv, by omega⟩
  have inR : ∀ {i e b}, HL.get i = some e → (R.or R')[i]? = some (some b) → R[i]? = some (some b) := by
    intro i e b hi hb
    obtain ⟨c, hc, _⟩ := hH.ent i e hi
    rw [hor1 i c hc] at hb
    cases hb
    exact hc
  have apart : ∀ {i e b}, HL.get i = some e → Hv.get i = none → R[i]? = some (some b) → ¬ Own (R.cut Hv.nx) Hv b := by
    rintro i e b hi hv hb ⟨j, e', hj, hRj⟩
    obtain ⟨h1, _, _⟩ := hvis j e' hj
    have := hH.dis i j e e' b hi h1 hb (cut_inv hRj).2
    subst this
    rw [hv] at hj
    cases hj
  have ext' : Ext (Wr F R HL) w w' := hH'.ext.weaken fun b _ h => .inr (ownV b h)
  have wr2 : ∀ b, Wr F (R.or R') HL' b → Wr F' R' H' b := by
    rintro b (h | ⟨i, e, hi, hb⟩)
    · refine .inl ?_
      rw [hF']
      refine ⟨.inl h, fun k => ?_⟩
      obtain ⟨j, e', hj, hRj⟩ := ownV b k
      exact hH.nf hj hRj h
    · rcases cls i e hi with ⟨h1, h2⟩ | ⟨h1, h2, h3⟩
      · exact .inr ⟨i, e, h1, by rw [← hsame i h2]; exact hb⟩
      · have hb := inR h1 hb
        refine .inl ?_
        rw [hF']
        exact ⟨.inr ⟨i, e, h1, hb⟩, apart h1 h2 hb⟩
  have wr1 : ∀ b, b < w.heap.size → Wr F (R.or R') HL' b → Wr F R HL b := by
    rintro b hlt (h | ⟨i, e, hi, hb⟩)
    · exact .inl h
    · rcases cls i e hi with ⟨h1, h2⟩ | ⟨h1, h2, h3⟩
      · rw [hsame i h2] at hb
        rcases hH'.own b ⟨i, e, h1, hb⟩ with h | h
        · exact .inr (ownV b h)
        · omega
      · exact .inr ⟨i, e, h1, inR h1 hb⟩
  refine ⟨hor1, hor2, ⟨fun i hi => ?_, ?_, hH.fb, ?_, ?_, ?_⟩, ext', wr1, wr2⟩
  · rw [PN.get_or, hH.len i (by omega)]
    exact hH'.len i (by omega)
  · refine hH.ext.trans hH'.ext fun x hx hob => ?_
    rcases hH.own x (ownV x hob) with h | h
    · exact h
    · omega
  · rintro b ⟨i, e, hi, hb⟩
    rcases cls i e hi with ⟨h1, h2⟩ | ⟨h1, h2, h3⟩
    · rw [hsame i h2] at hb
      rcases hH'.own b ⟨i, e, h1, hb⟩ with h | h
      · exact hH.own b (ownV b h)
      · exact .inr (Nat.le_trans hH.ext.size h)
    · exact hH.own b ⟨i, e, h1, inR h1 hb⟩
  · intro i e hi
    rcases cls i e hi with ⟨h1, h2⟩ | ⟨h1, h2, h3⟩
    · obtain ⟨b, hb, he⟩ := hH'.ent i e h1
      exact ⟨b, hor2 i b hb, Ent.holds_mono he hor2 (Ext.refl _ _) (fun b _ k => wr2 b k) (fun _ _ => rfl)⟩
    · obtain ⟨b, hb, he⟩ := hH.ent i e h1
      refine ⟨b, hor1 i b hb, Ent.holds_mono he hor1 ext' wr1 fun g hg => ?_⟩
      subst hg
      exact hH'.ext.blk g (Ent.lt he) (apart h1 h2 hb)
  · intro i j e e' b hi hj hbi hbj
    rcases cls i e hi with ⟨h1, h2⟩ | ⟨h1, h2, h3⟩
    · rcases cls j e' hj with ⟨k1, k2⟩ | ⟨k1, k2, k3⟩
      · rw [hsame i h2] at hbi
        rw [hsame j k2] at hbj
        exact hH'.dis i j e e' b h1 k1 hbi hbj
      · exfalso
        rw [hsame i h2] at hbi
        have hbj := inR k1 hbj
        rcases hH'.own b ⟨i, e, h1, hbi⟩ with h | h
        · exact apart k1 k2 hbj h
        · have := hH.own_lt ⟨j, e', k1, hbj⟩
          omega
    · rcases cls j e' hj with ⟨k1, k2⟩ | ⟨k1, k2, k3⟩
      · exfalso
        rw [hsame j k2] at hbj
        have hbi := inR h1 hbi
        rcases hH'.own b ⟨j, e', k1, hbj⟩ with h | h
        · exact apart h1 h2 hbi h
        · have := hH.own_lt ⟨i, e, h1, hbi⟩
          omega
      · exact hH.dis i j e e' b h1 k1 (inR h1 hbi) (inR k1 hbj)
end
end
end Go.Proofs.Ytdiflkabpjnncaa
