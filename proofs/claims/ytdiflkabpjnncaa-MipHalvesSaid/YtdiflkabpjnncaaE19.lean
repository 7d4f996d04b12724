
/- The engine, part 19: framed calls that are handed memory of the caller's own which they only read (names of D: seen as rows that are only read). No condition. -/
import Derived.Test.YtdiflkabpjnncaaE14
import Derived.Test.YtdiflkabpjnncaaE16
import Derived.Test.YtdiflkabpjnncaaE17
namespace Go.Proofs.Ytdiflkabpjnncaa
open Go Go.RowKit
set_option linter.unusedVariables false
set_option linter.unusedSimpArgs false

def keepN (D : List Nat) (H : AH) : AH := ⟨H.nx, H.es.filter fun p => D.any (Nat.beq p.1)⟩
theorem any_beq {D : List Nat} {i : Nat} : D.any (Nat.beq i) = true ↔ i ∈ D := by
  simp only [List.any_eq_true]
  exact ⟨fun ⟨x, hx, h⟩ => by rw [Nat.eq_of_beq_eq_true h]; exact hx, fun h => ⟨i, h, Nat.beq_refl i⟩⟩
theorem keep_geth {D : List Nat} : ∀ (l : List (Nat × Option Ent)) (i : Nat) (e : Ent), geth (l.filter fun p => D.any (Nat.beq p.1)) i = some e → geth l i = some e ∧ i ∈ D
  | [], i, e, h => by cases h
  | (j, x) :: r, i, e, h => by
    rw [List.filter_cons] at h
    by_cases hj : D.any (Nat.beq j) = true
    · rw [if_pos hj] at h
      have h : (bif Nat.beq j i then x else geth (r.filter fun p => D.any (Nat.beq p.1)) i) = some e := h
      show (bif Nat.beq j i then x else geth r i) = some e ∧ _
      cases hb : Nat.beq j i
      · rw [hb] at h; exact keep_geth r i e h
      · rw [hb] at h
        have := beq_iff.1 hb
        subst this
        exact ⟨h, any_beq.1 hj⟩
    · rw [if_neg hj] at h
      obtain ⟨h1, h2⟩ := keep_geth r i e h
      have hne : Nat.beq j i = false := by
        cases hb : Nat.beq j i with
        | false => rfl
        | true => exact absurd (any_beq.2 (beq_iff.1 hb ▸ h2)) hj
      exact ⟨by show (bif Nat.beq j i then x else geth r i) = some e; rw [hne]; exact h1, h2⟩
theorem geth_keep {D : List Nat} : ∀ (l : List (Nat × Option Ent)) (i : Nat) (e : Ent), geth l i = some e → i ∈ D → geth (l.filter fun p => D.any (Nat.beq p.1)) i = some e
  | [], i, e, h, _ => by cases h
  | (j, x) :: r, i, e, h, hi => by
    have h : (bif Nat.beq j i then x else geth r i) = some e := h
    rw [List.filter_cons]
    by_cases hj : D.any (Nat.beq j) = true
    · rw [if_pos hj]
      show (bif Nat.beq j i then x else geth (r.filter fun p => D.any (Nat.beq p.1)) i) = some e
      cases hb : Nat.beq j i
      · rw [hb] at h; exact geth_keep r i e h hi
      · rw [hb] at h; exact h
    · rw [if_neg hj]
      have hne : Nat.beq j i = false := by
        cases hb : Nat.beq j i with
        | false => rfl
        | true => exact absurd (any_beq.2 (beq_iff.1 hb ▸ hi)) hj
      rw [hne] at h
      exact geth_keep r i e h hi
theorem keep_get {D : List Nat} {H : AH} {i : Nat} {e : Ent} : (keepN D H).get i = some e ↔ H.get i = some e ∧ i ∈ D :=
  ⟨fun h => keep_geth _ _ _ h, fun h => geth_keep _ _ _ h.1 h.2⟩

def nmP : AV → List Nat
  | .agg l => nmsL l
  | x => nms0 x
/-- The arguments; those that name memory of D are only read. -/
def viewD (HD : AH) (D : List Nat) : List AV → Option (List Prop × List AV)
  | [] => some ([], [])
  | x :: l => match viewD HD D l with
    | some (q, r) => bif (nmP x).any (fun i => D.any (Nat.beq i)) then (match view1 HD x with | some (p, v) => some (p ++ q, v :: r) | none => none) else some (q, x :: r)
    | none => none

/-- No part that is only read. -/
def nro0 : AV → Bool
  | .ro _ _ _ | .roi _ _ | .rop _ => false
  | .agg _ | .tup _ | .fn _ _ _ | .ifc _ _ => false
  | _ => true
def nroA : AV → Bool
  | .agg l => l.all nro0
  | x => nro0 x
def nro1 : AV → Bool
  | .fn _ _ l => l.all nroA
  | .ifc _ l => l.all nroA
  | x => nroA x
def nro2 : AV → Bool
  | .tup l => l.all nro1
  | x => nro1 x
def nroE : Option Ent → Prop
  | some (.cells _ l) => Chk (l.all nro1)
  | some (.recs _ _ n get) => ∀ j, j < n → nro1 (get j) = true
  | some (.recs1 _ _ n get _ y) => (∀ j, j < n → nro1 (get j) = true) ∧ Chk (nro0 y)
  | _ => True
def nroL : List (Option Ent) → Prop
  | [] => True
  | e :: l => nroE e ∧ nroL l
def nroD (D : List Nat) (v : AV) (es : List (Option Ent)) : Prop := match D with | [] => True | _ :: _ => Chk (nro2 v) ∧ nroL es

noncomputable def fGv (F : FSpec) : GSpec := fun l H K => ∃ σ D : List Nat, Chk (nodupL σ && σ.all fun i => !(D.any (Nat.beq i))) ∧
  match entsO H σ σ, viewD (keepN D H) D l with
  | some es, some (p, l') => (match F (l'.map (un1 σ)) es with
    | some (obs, v, es') => (bif Nat.ble σ.length es'.length then
        obl (p ++ obs) (nroD D v es' ∧ K (rn2 (rnN σ H.nx) v) ⟨Nat.add H.nx (Nat.sub es'.length σ.length), layF (rnN σ H.nx) 0 es' H.es⟩) else False)
    | none => False)
  | _, _ => False

section
variable {P : Program} {R R' : PN} {w : World} {F Ob : Nat → Prop} {W0 : World} {H H' : AH} {O O' : Nat → Prop}

theorem nro0_rep {x : AV} {v : Value} (hk : nro0 x = true) (hx : Rep R w O x v) : Rep R w O' x v := by
  cases hx with
  | int k n => exact .int _ _
  | bool b => exact .bool _
  | tru => exact .tru
  | fls => exact .fls
  | str s => exact .str _
  | nilp => exact .nilp
  | ptr i o b h => exact .ptr _ _ _ h
  | nils => exact .nils
  | slnil i sz o h => exact .slnil _ _ _ h
  | sl i sz o n b c off s h hn hc ho hs hl => exact .sl i sz o n b c off s h hn hc ho hs hl
  | eptr i sz j f b h => exact .eptr _ _ _ _ _ h
  | nilfn => exact .nilfn
  | val v => exact .val _
  | any v => exact .any _
  | _ => cases hk
theorem nroA_rep {x : AV} {v : Value} (h : nroA x = true) (hx : Rep R w O x v) : Rep R w O' x v := by
  unfold nroA at h
  split at h
  · cases hx with | agg l vs hl hv => exact .agg _ vs hl fun j x v hj hjv => nro0_rep (List.all_eq_true.1 h x (List.mem_of_getElem? hj)) (hv j x v hj hjv)
  · exact nro0_rep h hx
theorem nro1_rep {x : AV} {v : Value} (h : nro1 x = true) (hx : Rep R w O x v) : Rep R w O' x v := by
  unfold nro1 at h
  split at h
  · cases hx with | fn f k l vs hl hv => exact .fn _ _ _ vs hl fun j x v hj hjv => nroA_rep (List.all_eq_true.1 h x (List.mem_of_getElem? hj)) (hv j x v hj hjv)
  · cases hx with | ifc t l vs hl hv => exact .ifc _ _ vs hl fun j x v hj hjv => nroA_rep (List.all_eq_true.1 h x (List.mem_of_getElem? hj)) (hv j x v hj hjv)
  · exact nroA_rep h hx
theorem nro2_rep {x : AV} {v : Value} (h : nro2 x = true) (hx : Rep R w O x v) : Rep R w O' x v := by
  unfold nro2 at h
  split at h
  · cases hx with | tup l vs hl hv => exact .tup _ vs hl fun j x v hj hjv => nro1_rep (List.all_eq_true.1 h x (List.mem_of_getElem? hj)) (hv j x v hj hjv)
  · exact nro1_rep h hx
theorem nroE_holds {e : Ent} {b : Option Nat} (h : nroE (some e)) (hx : e.holds R w O b) : e.holds R w O' b := by
  cases b with
  | none => cases e <;> exact hx
  | some b => cases e with
    | cells t l =>
      obtain ⟨vs, fr, g1, g2, g3, g4⟩ := hx
      exact ⟨vs, fr, g1, g2, g3, fun j x v hj hv => ⟨(g4 j x v hj hv).1, nro1_rep (List.all_eq_true.1 h.out x (List.mem_of_getElem? hj)) (g4 j x v hj hv).2⟩⟩
    | ints e k l => exact hx
    | recs e sz n get =>
      obtain ⟨vs, fr, vals, g1, g2, g3, g4, g5⟩ := hx
      exact ⟨vs, fr, vals, g1, g2, g3, fun j hj => ⟨(g4 j hj).1, nro1_rep (h j hj) (g4 j hj).2⟩, g5⟩
    | recs1 e sz n get f y =>
      obtain ⟨vs, fr, vals, g1, g2, g3, ⟨g4, g5⟩, g6, g7, v, g8, g9⟩ := hx
      exact ⟨vs, fr, vals, g1, g2, g3, ⟨fun j hj => ⟨(g4 j hj).1, nro1_rep (h.1 j hj) (g4 j hj).2⟩, g5⟩, g6, g7, v, g8, nro0_rep h.2.out g9⟩
theorem nroL_get : ∀ {es : List (Option Ent)} {i : Nat} {e : Ent}, nroL es → es[i]? = some (some e) → nroE (some e)
  | [], i, e, _, h => by simp at h
  | x :: es, 0, e, hn, h => by simp at h; subst h; exact hn.1
  | x :: es, i + 1, e, hn, h => nroL_get (es := es) hn.2 (by simpa using h)
theorem nro0_rn {ρ : Nat → Nat} {x : AV} (h : nro0 x = true) : nro0 (rn0 ρ x) = true := by
  cases x <;> first | rfl | cases h
theorem nroA_rn {ρ : Nat → Nat} {x : AV} (h : nroA x = true) : nroA (rnA ρ x) = true := by
  cases x <;> first | rfl | (cases h; done) | skip
  rename_i l
  show (l.map (rn0 ρ)).all nro0 = true
  rw [List.all_eq_true]
  intro x hx
  obtain ⟨y, hy, rfl⟩ := List.mem_map.1 hx
  exact nro0_rn (List.all_eq_true.1 h y hy)
theorem nro1_rn {ρ : Nat → Nat} {x : AV} (h : nro1 x = true) : nro1 (rn1 ρ x) = true := by
  cases x <;> first | rfl | (cases h; done) | skip
  · rename_i l
    exact nroA_rn (x := .agg l) (ρ := ρ) h
  · rename_i f k l
    show (l.map (rnA ρ)).all nroA = true
    rw [List.all_eq_true]
    intro x hx
    obtain ⟨y, hy, rfl⟩ := List.mem_map.1 hx
    exact nroA_rn (List.all_eq_true.1 h y hy)
  · rename_i f l
    show (l.map (rnA ρ)).all nroA = true
    rw [List.all_eq_true]
    intro x hx
    obtain ⟨y, hy, rfl⟩ := List.mem_map.1 hx
    exact nroA_rn (List.all_eq_true.1 h y hy)
theorem nro2_rn {ρ : Nat → Nat} {x : AV} (h : nro2 x = true) : nro2 (rn2 ρ x) = true := by
  cases x <;> first | rfl | (cases h; done) | skip
  · rename_i l
    exact nro1_rn (x := .agg l) (ρ := ρ) h
  · rename_i l
    show (l.map (rn1 ρ)).all nro1 = true
    rw [List.all_eq_true]
    intro x hx
    obtain ⟨y, hy, rfl⟩ := List.mem_map.1 hx
    exact nro1_rn (List.all_eq_true.1 h y hy)
  · rename_i f k l
    exact nro1_rn (x := .fn f k l) (ρ := ρ) h
  · rename_i f l
    exact nro1_rn (x := .ifc f l) (ρ := ρ) h
theorem nroE_rn {ρ : Nat → Nat} {e : Ent} (h : nroE (some e)) : nroE (some (rnE ρ e)) := by
  cases e with
  | cells t l =>
    refine ⟨?_⟩
    show (l.map (rn1 ρ)).all nro1 = true
    rw [List.all_eq_true]
    intro x hx
    obtain ⟨y, hy, rfl⟩ := List.mem_map.1 hx
    exact nro1_rn (List.all_eq_true.1 h.out y hy)
  | ints e k l => trivial
  | recs e sz n get => exact h
  | recs1 e sz n get f y => exact ⟨h.1, ⟨nro0_rn h.2.out⟩⟩

/-- A part of a heap, the other blocks put aside. -/
theorem HRel.part {H1 : AH} {F1 : Nat → Prop} (hH : HRel F Ob W0 R H w) (hn : H1.nx = H.nx) (hsub : ∀ i e, H1.get i = some e → H.get i = some e)
    (hF1 : ∀ b, F1 b → b < w.heap.size ∧ ¬ Own R H1 b) (hw : ∀ b, Wr F1 R H1 b → Wr F R H b) : HRel F1 (Own R H1) w R H1 w :=
  ⟨fun i hi => hH.len i (by omega), Ext.refl _ _, hH.fbOf hF1 hw, fun b hb => .inl hb, fun i e hi => by
    obtain ⟨b, h1, h2⟩ := hH.ent i e (hsub i e hi)
    exact ⟨b, h1, Ent.holds_mono h2 (fun _ _ k => k) (Ext.refl _ _) (fun b _ k => hw b k) fun _ _ => rfl⟩, fun i j e e' b hi hj => hH.dis i j e e' b (hsub _ _ hi) (hsub _ _ hj)⟩

theorem viewD_rep {D σ : List Nat} (hH : HRel F Ob W0 R H w) (hdis : ∀ i, i ∈ σ → i ∉ D) {F1 : Nat → Prop} (hF1 : ∀ b, F1 b ↔ F b ∨ ∃ i e, H.get i = some e ∧ R[i]? = some (some b) ∧ i ∉ σ ∧ i ∉ D) :
    ∀ {l l' : List AV} {cl : List Value} {p : List Prop}, CRel R w (Wr F R H) l cl → viewD (keepN D H) D l = some (p, l') → (∀ q ∈ p, q) → CRel R w (Wr F1 R (keepN σ H)) l' cl
  | [], l', cl, p, hc, h, ho => by
    cases h
    exact ⟨hc.1, by simp⟩
  | x :: l, l', [], p, hc, h, ho => by have := hc.1; simp at this
  | x :: l, l', v :: cl, p, hc, h, ho => by
    have notF : ∀ b, F b → ¬ Own R H b := fun b hb hb2 => by
      have := hH.fb.1 b hb
      rcases hH.own b hb2 with k | k
      · exact this.2 k
      · omega
    have hc1 := hc.2 0 x v rfl rfl
    have hc2 : CRel R w (Wr F R H) l cl := ⟨by have := hc.1; simpa using this, fun j a b ha hb => hc.2 (j + 1) a b (by simpa using ha) (by simpa using hb)⟩
    have wr1 : ∀ b, Wr F1 R (keepN σ H) b → Wr F R H b := by
      rintro b (k | ⟨i, e, h1, h2⟩)
      · rcases (hF1 b).1 k with k | ⟨i, e, h1, h2, _⟩
        · exact .inl k
        · exact .inr ⟨i, e, h1, h2⟩
      · exact .inr ⟨i, e, (keep_get.1 h1).1, h2⟩
    unfold viewD at h
    split at h
    rotate_left
    · cases h
    rename_i q r hr
    cases hb : (nmP x).any (fun i => D.any (Nat.beq i))
    · rw [hb] at h
      simp only [cond_false, Option.some.injEq, Prod.mk.injEq] at h
      obtain ⟨rfl, rfl⟩ := h
      have e2 := viewD_rep hH hdis hF1 hc2 hr ho
      exact crel_cons' (hc1.mono (fun _ _ k => k) (Ext.refl _ _) fun b _ k => wr1 b k) e2
    · rw [hb] at h
      simp only [cond_true] at h
      split at h
      rotate_left
      · cases h
      rename_i p1 y hy
      simp only [Option.some.injEq, Prod.mk.injEq] at h
      obtain ⟨rfl, rfl⟩ := h
      have e2 := viewD_rep hH hdis hF1 hc2 hr (fun q hq => ho q (by simp [hq]))
      let F2 : Nat → Prop := fun b => F b ∨ ∃ i e, H.get i = some e ∧ R[i]? = some (some b) ∧ i ∉ D
      have wr2 : ∀ b, Wr F2 R (keepN D H) b ↔ Wr F R H b := fun b => by
        constructor
        · rintro ((k | ⟨i, e, h1, h2, _⟩) | ⟨i, e, h1, h2⟩)
          · exact .inl k
          · exact .inr ⟨i, e, h1, h2⟩
          · exact .inr ⟨i, e, (keep_get.1 h1).1, h2⟩
        · rintro (k | ⟨i, e, h1, h2⟩)
          · exact .inl (.inl k)
          · by_cases hi : i ∈ D
            · exact .inr ⟨i, e, keep_get.2 ⟨h1, hi⟩, h2⟩
            · exact .inl (.inr ⟨i, e, h1, h2, hi⟩)
      have hP : HRel F2 (Own R (keepN D H)) w R (keepN D H) w := hH.part rfl (fun i e h => (keep_get.1 h).1) (fun b hb => by
        rcases hb with k | ⟨i, e, h1, h2, h3⟩
        · exact ⟨Nat.lt_of_lt_of_le (hH.fb.1 b k).1 hH.ext.size, fun ⟨i, e, h1, h2⟩ => notF b k ⟨i, e, (keep_get.1 h1).1, h2⟩⟩
        · refine ⟨hH.own_lt ⟨i, e, h1, h2⟩, fun ⟨j, e', k1, k2⟩ => ?_⟩
          obtain ⟨k1, k3⟩ := keep_get.1 k1
          have := hH.dis i j e e' b h1 k1 h2 k2
          subst this
          exact h3 k3) (fun b k => (wr2 b).1 k)
      have hxP : Rep R w (Wr F2 R (keepN D H)) x v := hc1.mono (fun _ _ k => k) (Ext.refl _ _) fun b _ k => (wr2 b).1 k
      have hv : viewR (keepN D H) x = some (p1, y) ∨ ∃ l, x = .tup l := by
        cases x <;> first | exact .inl hy | exact .inr ⟨_, rfl⟩
      rcases hv with hv | ⟨l, rfl⟩
      · have e1 := viewR_rep hP hxP hv (fun q hq => ho q (by simp [hq]))
        refine crel_cons' (e1.mono noN_mono (Ext.refl _ _) fun b _ k => ?_) e2
        rcases k with k | ⟨i, e, h1, h2⟩
        · rcases (hF1 b).1 k with k | ⟨i, e, h1, h2, h3, h4⟩
          · exact .inl k
          · exact .inr ⟨i, e, h1, h2, h4⟩
        · obtain ⟨h1, h3⟩ := keep_get.1 h1
          exact .inr ⟨i, e, h1, h2, hdis i h3⟩
      · simp [nmP, nms0] at hb
where
  crel_cons' {R : PN} {W : World} {O : Nat → Prop} {x : AV} {v : Value} {l : List AV} {vs : List Value} (h : Rep R W O x v) (k : CRel R W O l vs) : CRel R W O (x :: l) (v :: vs) :=
    ⟨by simp [k.1], fun j a b ha hb => by
      cases j with
      | zero => simp at ha hb; subst ha; subst hb; exact h
      | succ j => exact k.2 j a b (by simpa using ha) (by simpa using hb)⟩

theorem lay_geth {ρ : Nat → Nat} (n : Nat) (e : Option Ent) (es : List (Option Ent)) (r : List (Nat × Option Ent)) (j : Nat) : geth (layF ρ n (e :: es) r) j = (bif Nat.beq (ρ n) j then e.map (rnE ρ) else geth (layF ρ (n + 1) es r) j) := by
  cases e <;> rfl
/-- A framed function may be handed memory that it only reads. -/
theorem gview {g : FuncId} {FS : FSpec} (hg : GSOK P g (fG FS)) : GSOK P g (fGv FS) := by
  refine ⟨hg.1, fun l H K hs F Ob W0 R w cl hH hc => ?_⟩
  obtain ⟨σ, D, ⟨hnd⟩, hs⟩ := hs
  simp only [Bool.and_eq_true] at hnd
  obtain ⟨hnd, hdj⟩ := hnd
  have hdis : ∀ i, i ∈ σ → i ∉ D := fun i hi hD => by
    have := List.all_eq_true.1 hdj i hi
    rw [any_beq.2 hD] at this
    cases this
  split at hs
  rotate_left
  · exact hs.elim
  rename_i es p l' hes hvd
  split at hs
  rotate_left
  · exact hs.elim
  rename_i obs v es' hF
  obtain ⟨hle0, hs⟩ := bif_true hs
  have hle := Nat.le_of_ble_eq_true hle0
  obtain ⟨hob, hro, hK⟩ := obl_inv hs
  obtain ⟨hlen, hget⟩ := entsO_get hes
  have notF : ∀ b, F b → ¬ Own R H b := fun b hb hb2 => by
    have := hH.fb.1 b hb
    rcases hH.own b hb2 with k | k
    · exact this.2 k
    · omega
  let F1 : Nat → Prop := fun b => F b ∨ ∃ i e, H.get i = some e ∧ R[i]? = some (some b) ∧ i ∉ σ ∧ i ∉ D
  let H1 : AH := keepN σ H
  have sub1 : ∀ i e, H1.get i = some e → H.get i = some e := fun i e h => (keep_get.1 h).1
  have own1 : ∀ b, Own R H1 b → Own R H b := fun b ⟨i, e, h1, h2⟩ => ⟨i, e, sub1 i e h1, h2⟩
  have wr1 : ∀ b, Wr F1 R H1 b → Wr F R H b := by
    rintro b ((k | ⟨i, e, h1, h2, _⟩) | k)
    · exact .inl k
    · exact .inr ⟨i, e, h1, h2⟩
    · exact .inr (own1 b k)
  have hH1 : HRel F1 (Own R H1) w R H1 w := hH.part rfl sub1 (fun b hb => by
    rcases hb with k | ⟨i, e, h1, h2, h3, _⟩
    · exact ⟨Nat.lt_of_lt_of_le (hH.fb.1 b k).1 hH.ext.size, fun ho => notF b k (own1 b ho)⟩
    · refine ⟨hH.own_lt ⟨i, e, h1, h2⟩, fun ⟨j, e', k1, k2⟩ => ?_⟩
      obtain ⟨k1, k3⟩ := keep_get.1 k1
      have := hH.dis i j e e' b h1 k1 h2 k2
      subst this
      exact h3 k3) wr1
  have hc1 : CRel R w (Wr F1 R H1) l' cl := viewD_rep hH hdis (fun b => Iff.rfl) hc hvd (fun q hq => hob q (by simp [hq]))
  have ent1 : ∀ τ : List Nat, (∀ j, j ∈ τ → j ∈ σ) → entsO H1 σ τ = entsO H σ τ := by
    intro τ
    induction τ with
    | nil => intro _; rfl
    | cons j r ih =>
      intro hτ
      have hj : H1.get j = H.get j := by
        cases hg : H.get j with
        | some e => exact keep_get.2 ⟨hg, hτ j (by simp)⟩
        | none => cases hk : H1.get j with
          | none => rfl
          | some e => rw [sub1 j e hk] at hg; cases hg
      unfold entsO
      rw [hj, ih fun k hk => hτ k (by simp [hk])]
  have hes1 : entsO H1 σ σ = some es := (ent1 σ fun _ k => k).trans hes
  let ρ := rnN σ H.nx
  let K1 : AV → AH → Prop := fun v' H' => v' = rn2 ρ v ∧ H' = ⟨Nat.add H.nx (Nat.sub es'.length σ.length), layF ρ 0 es' H1.es⟩
  have hfg : fG FS l' H1 K1 := by
    refine ⟨σ, ⟨hnd⟩, ?_⟩
    rw [hes1]
    show (match FS (l'.map (un1 σ)) es with
      | some (obs, v, es') => (bif Nat.ble σ.length es'.length then obl obs (K1 (rn2 (rnN σ H.nx) v) ⟨Nat.add H.nx (Nat.sub es'.length σ.length), layF (rnN σ H.nx) 0 es' H1.es⟩) else False)
      | none => False)
    rw [hF]
    show (bif Nat.ble σ.length es'.length then _ else False)
    rw [hle0]
    exact obl_intro (fun q hq => hob q (by simp [hq])) ⟨rfl, rfl⟩
  refine (hg.2 l' H1 K1 hfg F1 _ w R w cl hH1 hc1).mono ?_
  rintro en w' ⟨R', v', H', cv, ⟨rfl, rfl⟩, rfl, hRR, hx1, hH', hbk, hrv⟩
  let Hf : AH := ⟨Nat.add H.nx (Nat.sub es'.length σ.length), layF ρ 0 es' H.es⟩
  let Hs : AH := ⟨Nat.add H.nx (Nat.sub es'.length σ.length), layF ρ 0 es' H1.es⟩
  have ρold : ∀ i j : Nat, σ[i]? = some j → ρ i = j := fun i j hi => by show rnN σ H.nx i = j; unfold rnN; rw [hi]
  have R'old : ∀ j : Nat, j < H.nx → R'[j]? = R[j]? := hRR
  -- the entries
  have getf : ∀ j y, Hf.get j = some y → (∃ i e, es'[i]? = some (some e) ∧ ρ i = j ∧ y = rnE ρ e ∧ Hs.get j = some y) ∨ (H.get j = some y ∧ j ∉ σ ∧ ∀ i, i < es'.length → ρ i ≠ j) := by
    intro j y hj
    rcases lay_both es' 0 H.es H1.es j y hj with ⟨i, e, h1, h2, h3, h4⟩ | ⟨h1, h2⟩
    · exact .inl ⟨i, e, h1, by simpa using h2, h3, h4⟩
    · refine .inr ⟨h1, fun hm => ?_, fun i hi => by simpa using h2 i hi⟩
      obtain ⟨i, hi, he⟩ := List.getElem_of_mem hm
      exact (by simpa using h2 i (by omega) : ρ i ≠ j) (ρold i j (by rw [List.getElem?_eq_getElem hi, he]))
  have out : ∀ j y b, H.get j = some y → j ∉ σ → R[j]? = some (some b) → ¬ Own R H1 b := by
    rintro j y b hj hn hb ⟨i, e, hi, hR⟩
    obtain ⟨k1, k2⟩ := keep_get.1 hi
    have := hH.dis j i y e b hj k1 hb hR
    subst this
    exact hn k2
  have ownf : ∀ b, Own R' Hf b → Own R' Hs b ∨ ∃ j y, H.get j = some y ∧ j ∉ σ ∧ R[j]? = some (some b) := by
    rintro b ⟨j, y, hj, hb⟩
    rcases getf j y hj with ⟨i, e, _, _, _, hs⟩ | ⟨hj', hno, _⟩
    · exact .inl ⟨j, y, hs, hb⟩
    · rw [R'old j (hH.name_lt hj')] at hb
      exact .inr ⟨j, y, hj', hno, hb⟩
  have hx : Ext (Wr F R H) w w' := hH'.ext.weaken fun b _ k => .inr (own1 b k)
  have back : ∀ b, b < w.heap.size → Wr F R' Hf b → Wr F R H b := fun b hb hw => by
    rcases hw with k | k
    · exact .inl k
    · rcases ownf b k with k | ⟨j, y, h1, _, h2⟩
      · rcases hH'.own b k with k | k
        · exact .inr (own1 b k)
        · omega
      · exact .inr ⟨j, y, h1, h2⟩
  -- what may be written: that of Hs, and that of D
  have wrf : ∀ b, Wr F R' Hf b → Wr F1 R' Hs b ∨ ∃ j y, H.get j = some y ∧ j ∈ D ∧ R[j]? = some (some b) := by
    intro b hw
    rcases hw with k | k
    · exact .inl (.inl (.inl k))
    · rcases ownf b k with k | ⟨j, y, h1, h2, h3⟩
      · exact .inl (.inr k)
      · by_cases hD : j ∈ D
        · exact .inr ⟨j, y, h1, hD, h3⟩
        · exact .inl (.inl (.inr ⟨j, y, h1, h3, h2, hD⟩))
  have hRel' : HRel F Ob W0 R' Hf w' := by
    refine ⟨hH'.len, hH.ext.trans hH'.ext (fun x hx ho => ?_), hH.fb, fun b hb => ?_, fun j y hj => ?_, fun j j' y y' b hj hj' hb hb' => ?_⟩
    · rcases hH.own x (own1 x ho) with k | k
      · exact k
      · omega
    · rcases ownf b hb with k | ⟨j, y, h1, _, h2⟩
      · rcases hH'.own b k with k | k
        · exact hH.own b (own1 b k)
        · exact .inr (Nat.le_trans hH.ext.size k)
      · exact hH.own b ⟨j, y, h1, h2⟩
    · rcases getf j y hj with ⟨i, e, hi, _, rfl, hs⟩ | ⟨hj', hno, _⟩
      · obtain ⟨b, hb, hh⟩ := hH'.ent j _ hs
        refine ⟨b, hb, ?_⟩
        cases D with
        | nil => exact Ent.holds_mono hh (fun _ _ k => k) (Ext.refl _ _) (fun b _ k => (wrf b k).elim id fun ⟨_, _, _, h, _⟩ => by cases h) fun _ _ => rfl
        | cons d D => exact nroE_holds (nroE_rn (nroL_get hro.2 hi)) hh
      · obtain ⟨b, hb, hh⟩ := hH.ent j y hj'
        refine ⟨b, (R'old j (hH.name_lt hj')).trans hb, Ent.holds_mono hh (fun i x hx => ?_) hx (fun b hb k => back b hb k) fun g hg => ?_⟩
        · rcases Nat.lt_or_ge i H.nx with k | k
          · rw [R'old i k]; exact hx
          · rw [hH.len i k] at hx; cases hx
        · subst hg
          exact hH'.ext.blk g (Ent.lt hh) (out j y g hj' hno hb)
    · rcases getf j y hj with ⟨i, e, hi, _, _, hs⟩ | ⟨hg, hno, _⟩
      · rcases getf j' y' hj' with ⟨i', e', hi', _, _, hs'⟩ | ⟨hg', hno', _⟩
        · exact hH'.dis j j' _ _ b hs hs' hb hb'
        · rw [R'old j' (hH.name_lt hg')] at hb'
          have ho := out j' y' b hg' hno' hb'
          rcases hH'.own b ⟨j, _, hs, hb⟩ with k | k
          · exact absurd k ho
          · have := hH.own_lt (b := b) ⟨j', y', hg', hb'⟩; omega
      · rw [R'old j (hH.name_lt hg)] at hb
        rcases getf j' y' hj' with ⟨i', e', hi', _, _, hs'⟩ | ⟨hg', hno', _⟩
        · have ho := out j y b hg hno hb
          rcases hH'.own b ⟨j', _, hs', hb'⟩ with k | k
          · exact absurd k ho
          · have := hH.own_lt (b := b) ⟨j, y, hg, hb⟩; omega
        · rw [R'old j' (hH.name_lt hg')] at hb'
          exact hH.dis j j' y y' b hg hg' hb hb'
  refine ⟨R', _, Hf, cv, hK, rfl, R'old, hx, hRel', back, ?_⟩
  cases D with
  | nil => exact hrv.mono (fun _ _ k => k) (Ext.refl _ _) fun b _ k => (wrf b k).elim id fun ⟨_, _, _, h, _⟩ => by cases h
  | cons d D => exact nro2_rep (nro2_rn hro.1.out) hrv
where
  lay_both {ρ : Nat → Nat} : ∀ (es : List (Option Ent)) (n : Nat) (rest rest' : List (Nat × Option Ent)) (j : Nat) (y : Ent), geth (layF ρ n es rest) j = some y →
      (∃ i e, es[i]? = some (some e) ∧ ρ (n + i) = j ∧ y = rnE ρ e ∧ geth (layF ρ n es rest') j = some y) ∨ (geth rest j = some y ∧ ∀ i, i < es.length → ρ (n + i) ≠ j)
    | [], n, rest, rest', j, y, h => .inr ⟨h, fun i hi => by simp at hi⟩
    | e :: es, n, rest, rest', j, y, h => by
      rw [lay_geth] at h ⊢
      cases hb : Nat.beq (ρ n) j
      · rw [hb] at h
        simp only [cond_false] at h ⊢
        rcases lay_both es (n + 1) rest rest' j y h with ⟨i, e', h1, h2, h3, h4⟩ | ⟨h1, h2⟩
        · exact .inl ⟨i + 1, e', by simpa using h1, by rw [← h2]; congr 1; omega, h3, h4⟩
        · refine .inr ⟨h1, fun i hi => ?_⟩
          cases i with
          | zero => intro hc; rw [Nat.add_zero] at hc; rw [beq_iff.2 hc] at hb; cases hb
          | succ i => rw [show n + (i + 1) = n + 1 + i by omega]; exact h2 i (by simpa using hi)
      · rw [hb] at h
        cases e with
        | none => cases h
        | some x =>
          simp only [cond_true, Option.map_some, Option.some.injEq] at h ⊢
          exact .inl ⟨0, x, rfl, by rw [Nat.add_zero]; exact beq_iff.1 hb, h.symm, h⟩
/-- Answers by one rule, or by another one. -/
def orF (F1 F2 : FSpec) : FSpec := fun l es => match F1 l es with | some r => some r | none => F2 l es
theorem gor {g : FuncId} {F1 F2 : FSpec} (h1 : GSOK P g (fG F1)) (h2 : GSOK P g (fG F2)) : GSOK P g (fG (orF F1 F2)) := by
  refine ⟨h1.1, fun l H K hs => ?_⟩
  obtain ⟨σ, hnd, hs⟩ := hs
  split at hs
  rotate_left
  · exact hs.elim
  rename_i es hes
  cases hF : F1 (l.map (un1 σ)) es with
  | some r =>
    have e : orF F1 F2 (l.map (un1 σ)) es = some r := by unfold orF; rw [hF]
    rw [e] at hs
    refine h1.2 l H K ⟨σ, hnd, ?_⟩
    rw [hes]
    show (match F1 (l.map (un1 σ)) es with | some (obs, v, es') => _ | none => False)
    rw [hF]
    exact hs
  | none =>
    have e : orF F1 F2 (l.map (un1 σ)) es = F2 (l.map (un1 σ)) es := by unfold orF; rw [hF]
    rw [e] at hs
    refine h2.2 l H K ⟨σ, hnd, ?_⟩
    rw [hes]
    exact hs
/-- A framed function that is handed no memory, as a pure one. -/
theorem sokF {g : FuncId} {s : GSpec} (hg : GSOK P g s) {t : PSpec} (h : ∀ l obs v, t l = some (obs, v) → (∀ p ∈ obs, p) → s l ⟨0, []⟩ (Ret v)) : SOK P g t := by
  refine ⟨hg.1, fun l obs v hs ho w O cl hO hc => ?_⟩
  have hst := HRel.start hO
  have wr0 : ∀ b, Wr O noN ⟨0, []⟩ b → O b := fun b hb => hb.elim id fun ⟨i, e, h, _⟩ => by simp [AH.get, geth] at h
  refine (hg.2 l ⟨0, []⟩ _ (h l obs v hs ho) O NoO w noN w cl hst ⟨hc.1, fun j x v hx hv => (hc.2 j x v hx hv).mono (fun _ _ k => k) (Ext.refl O _) fun b _ k => wr0 b k⟩).mono fun en w' ⟨R', v', H', cv, hk, he, _, _, hH, _, hr⟩ => ?_
  refine ⟨cv, he, hH.ext.weaken (fun _ _ k => k), ?_⟩
  unfold Ret at hk
  split at hk
  · rename_i obs' r hv
    obtain ⟨k1, k2⟩ := obl_inv hk
    have := mat_rep (σ := []) k2 (viewR_rep hH hr hv k1)
    have e : reN [] noN = noN := by simp [reN, noN]
    rw [e] at this
    exact this
  · exact hk.elim
end
end Go.Proofs.Ytdiflkabpjnncaa
