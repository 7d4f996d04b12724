
/- The engine, part 16: great arrays of integers as rows, and slices of arrays that lie in cells. No condition. -/
import Derived.Test.YtdiflkabpjnncaaE15
namespace Go.Proofs.Ytdiflkabpjnncaa
open Go Go.RowKit
set_option linter.unusedVariables false
set_option linter.unusedSimpArgs false

/-- A new array of more than 16 integers: a row. -/
def allocR (T : TypeId → Option TI) (H : AH) (t : TypeId) (K : AV → AH → Prop) : Prop :=
  match T t with
  | some i => (match i.d with
    | .arr _ el => (match tdq T el with
      | .int k => (match intsOf k (i.zero.map ofVal1) with
        | some z => K (.ptr H.nx 0) (H.push (.ints t k z))
        | none => False)
      | _ => False)
    | _ => False)
  | none => False
def loadR (T : TypeId → Option TI) (H : AH) (t : TypeId) (a : AV) (K : AV → AH → Prop) : Prop :=
  match a with
  | .ptr i o => (match H.get i, tdq T t with
    | some (.ints _ k l), .int k' => bif beqK k k' then (o < l.length ∧ K (.int k (l.getD o 0)) H) else False
    | _, _ => False)
  | _ => False
def storeR (T : TypeId → Option TI) (H : AH) (t : TypeId) (a x : AV) (K : AV → AH → Prop) : Prop :=
  match szOf T t, a, x with
  | some 1, .ptr i o, .int k' v => (match H.get i with
    | some (.ints bt k l) => bif beqK k k' then (o < l.length ∧ K .any (H.set i (.ints bt k (l.set o v)))) else False
    | _ => False)
  | _, _, _ => False
noncomputable def sliceR (T : TypeId → Option TI) (e : Env) (H : AH) (t : TypeId) (v : AV) (lo hi : Option Operand) (K : AV → AH → Prop) : Prop :=
  match tdq T t, v with
  | .arr len el, .ptr i 0 => bif Nat.ble len 16777216 then (match szOf T el, aBounds e len lo hi, H.get i with
    | some 1, some (p, a, b), some (.cells bt l) => bif Nat.beq l.length len then (match tdq T el with
      | .int k => (match intsOf k l with
        | some z => obl p (K (.sl i 1 a (b - a)) (H.set i (.ints bt k z)))
        | none => False)
      | _ => bif l.all (fun x => nl0 x && isOne x) then obl p (K (.sl i 1 a (b - a)) (H.set i (.recs bt 1 len (fun j => l.getD j .any)))) else False) else False
    | some 1, some (p, a, b), some (.ints _ _ l) => obl p (l.length = len ∧ K (.sl i 1 a (b - a)) H)
    | some 1, some (p, a, b), some (.recs _ 1 n _) => obl p (n = len ∧ K (.sl i 1 a (b - a)) H)
    | _, _, _ => False) else False
  | _, _ => False

/-- A new row whose elements hold rows of one's own: these are given up and only read from then on. -/
noncomputable def buildF (T : TypeId → Option TI) (e : Env) (H : AH) (t : TypeId) (len : Nat) (parts : List (Nat × Operand)) (K : AV → AH → Prop) : Prop :=
  match tdq T t with
  | .slice el => (match T el with
    | some i => bif Nat.ble (len * i.sz) 16777216 && Nat.blt 0 i.sz && Nat.beq i.zero.length i.sz then (match fillA (fun j => some (j * i.sz, i.sz)) e (zerosA i (len * i.sz)) parts with
      | some l => (match viewL H l with
        | some (p, r) => bif r.all nl0 && r.all isOne && (i.isAgg || Nat.beq i.sz 1) then obl p (K (.sl H.nx i.sz 0 len) ((delN H (nmsL l)).push (.recs el i.sz len (chunkA i r)))) else False
        | none => False)
      | none => False) else False
    | none => False)
  | _ => False
/-- A struct that is put into a row; the rows of one's own that it holds are given up. -/
noncomputable def storeF (T : TypeId → Option TI) (H : AH) (t : TypeId) (a x : AV) (K : AV → AH → Prop) : Prop :=
  match szOf T t, a, x with
  | some s, .eptr i sz j 0, .agg l => bif Nat.beq s sz && Nat.beq l.length sz then (match viewL H l with
    | some (p, r) => (match (delN H (nmsL l)).get i with
      | some (.recs el sz' n get) => bif Nat.beq sz sz' && r.all nl0 && r.all isOne then obl p (j < n ∧ K .any ((delN H (nmsL l)).set i (.recs el sz' n (fun m => if m = j then .agg r else get m)))) else False
      | _ => False)
    | none => False) else False
  | _, _, _ => False
def ownP (e : Env) : List (Nat × Operand) → Bool
  | [] => false
  | p :: r => (match evA e p.2 with | some v => (match cellsA v with | [] => false | l => !(nmsL l).isEmpty) | none => false) || ownP e r

def xsB2 (T : TypeId → Option TI) (o : Op) (e : Env) (H : AH) : Bool :=
  match o with
  | .alloc t => (match tdq T t with | .arr n el => Nat.blt 16 n && (match tdq T el with | .int _ => true | _ => false) | _ => false)
  | .load _ a => (match evA e a with | some (.ptr i _) => (match H.get i with | some (.ints _ _ _) => true | _ => false) | _ => false)
  | .store _ a x => (match evA e a with
    | some (.ptr i _) => (match H.get i with | some (.ints _ _ _) => true | _ => false)
    | some (.eptr i _ _ _) => (match H.get i, evA e x with | some (.recs _ _ _ _), some (.agg _) => true | _, _ => false)
    | _ => false)
  | .buildSlice _ _ parts => ownP e parts.toList
  | .slice t _ _ _ none => (match tdq T t with | .arr _ _ => true | _ => false)
  | _ => false
noncomputable def xop2 (T : TypeId → Option TI) (o : Op) (e : Env) (H : AH) (K : AV → AH → Prop) : Prop :=
  match xsB2 T o e H with
  | true => (match o with
    | .alloc t => allocR T H t K
    | .load t a => (match evA e a with | some a => loadR T H t a K | none => False)
    | .store t a x => (match evA e a, evA e x with
      | some (.ptr i o), some x => storeR T H t (.ptr i o) x K
      | some a, some x => storeF T H t a x K
      | _, _ => False)
    | .buildSlice t len parts => buildF T e H t len parts.toList K
    | .slice t x lo hi none => (match evA e x with | some v => sliceR T e H t v lo hi K | none => False)
    | _ => False)
  | false => xop T o e H K
def xsC (T : TypeId → Option TI) (o : Op) (e : Env) (H : AH) : Bool := xsB2 T o e H || xsB T o e H

section
variable {P : Program} {C : Ctx} {R : PN} {w : World} {F Ob : Nat → Prop} {W0 : World} {A : PN} {H H' : AH} {n : Nat} {O : Nat → Prop} {σ : Names} {T : TypeId → Option TI}

theorem rep_int_inv {k : IntKind} {z : Int} {v : Value} (h : Rep R w O (.int k z) v) : v = .int k z := by cases h; rfl
theorem allocR_ok (hT : TOK P T) {o : Oper} {a : Act} {e : Env} {K : AV → AH → Prop} {t : TypeId} (ho : o.op = .alloc t) (h : allocR T H t K) (hH : HRel F Ob W0 R H w) (hE : ERel R w (Wr F R H) e a.tmps) : o.wp P a w (GP F Ob W0 R H o a e K) NoWay := by
  unfold allocR at h
  split at h
  · rename_i i hi
    obtain ⟨inf, ds, z, g1, g2, g3, rfl⟩ := probe_inv (hT t i hi)
    split at h
    · split at h
      · rename_i k hk
        split at h
        · rename_i ns hns
          have hx := Ext.alloc (fun _ => False) w (.cells z.cells t)
          have hlen := intsOf_all hns
          have hl2 : z.cells.toList.length = ns.length := by have := congrArg List.length hlen; simpa using this
          obtain ⟨p1, p2⟩ := hH.push (b := some w.heap.size) (en := .ints t k ns) hx (fun g hg => by cases hg; exact Nat.le_refl _) (fun O' hO' =>
            ⟨z.cells.toList, (0, 0), by rw [heap_push], nf0 _, by omega, fun j x hj => by
              have hjl : j < z.cells.toList.length := by have := (List.getElem?_eq_some_iff.1 hj).1; omega
              have h1 := (zero_rel (R := R) (w := w) (O := O') z.cells.toList).2 j (.int k x) (z.cells.toList[j]'hjl) (by
                show (z.cells.toList.map ofVal1)[j]? = _
                have : (z.cells.toList.map ofVal1) = ns.map (AV.int k) := hlen
                rw [this, List.getElem?_map, hj]; rfl) (List.getElem?_eq_getElem hjl)
              rw [List.getElem?_eq_getElem hjl, rep_int_inv h1]⟩)
          refine gp_run (cv := .pointer (some ⟨w.heap.size, 0, none⟩)) ?_ hE h hH.len (fun i hi => pre_nx _ i hi) (hx.weaken fun _ _ k => k.elim) p1 p2 (.ptr _ _ _ (by exact app_last _ _ _))
          simp [execOp, ho, Instr.alloc, zeroValue, typeInfo, g1, g3, newVar, newRow, newObj]
          rfl
        · exact h.elim
      · exact h.elim
    · exact h.elim
  · exact h.elim
theorem load_int (hT : TOK P T) {t : TypeId} {k : IntKind} (hk : tdq T t = .int k) {b o : Nat} {z : Int} (hc : w.cell? ⟨b, o, none⟩ = some (.int k z)) : (Instr.loadAt t (.pointer (some ⟨b, o, none⟩))).run P w = .ok (.int k z) w := by
  have hu := tdq_int hT hk
  have : (loadVar t ⟨b, o, none⟩).run P w = .ok (.int k z) w := by
    unfold loadVar
    rw [Sem.run_bind, run_isAgg hu]
    simp [hc]
  simp only [Instr.loadAt, Instr.sureAddr, Sem.run_bind, Sem.run_pure, Result.andThen_ok, this]
theorem loadR_ok (hT : TOK P T) {o : Oper} {a : Act} {e : Env} {K : AV → AH → Prop} {t : TypeId} {x : Operand} (ho : o.op = .load t x) {v : AV} (hv : evA e x = some v) (h : loadR T H t v K) (hH : HRel F Ob W0 R H w) (hE : ERel R w (Wr F R H) e a.tmps) : o.wp P a w (GP F Ob W0 R H o a e K) NoWay := by
  have hr := evA_rep hE hv
  unfold loadR at h
  split at h
  · rename_i i of
    split at h
    · rename_i bt k l k' hl hk
      replace h := bif_true h; obtain ⟨hkk, hlt, hK⟩ := h
      have := beqK_eq hkk
      subst this
      generalize hgx : a.eval x = cx at hr
      cases hr with | ptr _ _ b hR =>
      obtain ⟨vs, fr, g1, g2, g3, g4⟩ := ent_ints hH hl hR
      have hg : l[of]? = some (l.getD of 0) := by simp [List.getD, hlt]
      have hc : w.cell? ⟨b, of, none⟩ = some (.int k (l.getD of 0)) := by rw [cell_of_heap g1]; exact g4 of _ hg
      refine gp_quiet ?_ hE hK hH (.int _ _)
      have hld := load_int (P := P) hT hk hc
      simp [execOp, ho, hgx, Sem.run_bind, hld]
    · exact h.elim
  · exact h.elim
theorem storeR_ok (hT : TOK P T) {o : Oper} {a : Act} {e : Env} {K : AV → AH → Prop} {t : TypeId} {x y : Operand} (ho : o.op = .store t x y) {v u : AV} (hv : evA e x = some v) (hu : evA e y = some u) (h : storeR T H t v u K) (hH : HRel F Ob W0 R H w) (hE : ERel R w (Wr F R H) e a.tmps) : o.wp P a w (GP F Ob W0 R H o a e K) NoWay := by
  have hrx := evA_rep hE hv
  have hry := evA_rep hE hu
  unfold storeR at h
  split at h
  · rename_i i of k' val hs
    split at h
    · rename_i bt k l hl
      replace h := bif_true h; obtain ⟨hkk, hlt, hK⟩ := h
      have := beqK_eq hkk
      subst this
      have hso := szOf_inv (w := w) hT hs
      generalize hgy : a.eval y = cy at hry
      cases hry
      generalize hg : a.eval x = cx at hrx
      cases hrx with | ptr _ _ b hR =>
      obtain ⟨vs, fr, g1, g2, g3, g4⟩ := ent_ints hH hl hR
      obtain ⟨w', k1, k2, k3⟩ := store_block (P := P) b bt [.int k val] of 0 vs w g1 g2 (by simp; omega) (by simp [Value.oneCell'])
      refine upd_run ho (by rw [hg]) (by rw [hg, hgy]; refine run_storeAt hso (by rfl) ?_; simpa [Value.cells] using k1) hH hE hl hR k3 ?_ hK
      refine ⟨_, fr, k2, nf_ext g1 k2 k3 g2, by simp; omega, fun j z hj => ?_⟩
      rw [List.getElem?_set] at hj
      simp only [Nat.add_zero, List.length_cons, List.length_nil, Nat.zero_add, List.append_assoc]
      have e0 : (List.take of vs).length = of := by simp; omega
      split at hj
      · rename_i hj0
        subst hj0
        simp only [hlt, if_true, Option.some.injEq] at hj
        rw [List.getElem?_append_right (by omega), e0, Nat.sub_self, ← hj]; rfl
      · rename_i hne
        have := g4 j z hj
        rw [List.getElem?_append]
        split
        · rename_i h1
          rw [List.getElem?_take_of_lt (by omega)]; exact this
        · rename_i h1
          rw [e0, List.getElem?_append_right (by simp; omega), List.getElem?_drop]
          have : of + 1 + (j - of - [Value.int k val].length) = j := by simp; omega
          rw [this]; assumption
    · exact h.elim
  · exact h.elim
theorem sliceR_ok (hT : TOK P T) {o : Oper} {a : Act} {e : Env} {K : AV → AH → Prop} {t : TypeId} {x : Operand} {lo hi : Option Operand} (ho : o.op = .slice t x lo hi none) {v : AV} (hv : evA e x = some v) (h : sliceR T e H t v lo hi K) (hH : HRel F Ob W0 R H w) (hE : ERel R w (Wr F R H) e a.tmps) : o.wp P a w (GP F Ob W0 R H o a e K) NoWay := by
  have hrx := evA_rep hE hv
  unfold sliceR at h
  split at h
  · rename_i len el i hd
    have hu := tdq_arr hT hd
    replace h := bif_true h; obtain ⟨hle, h⟩ := h
    have hmx : len ≤ maxLen := Nat.le_trans (Nat.le_of_ble_eq_true hle) (by decide)
    generalize hg : a.eval x = cx at hrx
    cases hrx with | ptr _ _ b hR =>
    have key : ∀ (p : List Prop) (c d : Nat), szOf T el = some 1 → aBounds e len lo hi = some (p, c, d) → (∀ q ∈ p, q) → ∃ off, (execOp a.eval o).run P w = .ok (.value (.slice (some ⟨b, off, none⟩) (d - c) (len - c))) w ∧ (0 < len - c → off = c) ∧ c ≤ d ∧ d ≤ len ∧ off ≤ c := by
      intro p c d hs hb hp
      obtain ⟨h1, h2, h3⟩ := bounds_ok (P := P) (w := w) hE hb hp false (Nat.le_refl len)
      have hrun : (Instr.sliceAt t (.pointer (some ⟨b, 0, none⟩)) (lo.map a.eval) (hi.map a.eval) none).run P w = .ok (.slice (if len = c then some ⟨b, 0, none⟩ else some ⟨b, 0 + c * 1, none⟩) (d - c) (len - c)) w := by
        unfold Instr.sliceAt
        rw [Sem.run_bind, run_underlying hu]
        simp [Sem.run_bind, Instr.sureAddr, h1, szOf_inv hT hs, Addr.add_mid]
        split <;> simp_all
      by_cases hc : len = c
      · rw [if_pos hc] at hrun
        exact ⟨0, by simp [execOp, ho, hg, Sem.run_bind, hrun], by omega, h2, h3, by omega⟩
      · rw [if_neg hc] at hrun
        exact ⟨c, by simp [execOp, ho, hg, Sem.run_bind, hrun], fun _ => rfl, h2, h3, by omega⟩
    split at h
    · rename_i p c d bt l hs hb hl
      replace h := bif_true h; obtain ⟨hlen, h⟩ := h
      replace hlen := beq_iff.1 hlen
      obtain ⟨vs, fr, g1, g2, g3, g4⟩ := ent_cells hH hl hR
      have hll := g3.1
      have hshape : w.shape? b = some (bt, vs.length) := by simp [World.shape?, g1]
      split at h
      · rename_i k hk
        split at h
        · rename_i z hz
          obtain ⟨hp, hK⟩ := obl_inv h
          obtain ⟨off, hrun, h1, h2, h3, h4⟩ := key p c d hs hb hp
          have hall := intsOf_all hz
          have hzl : l.length = z.length := by rw [hall]; simp
          obtain ⟨p1, p2⟩ := hH.upd (en := .ints bt k z) hl hR (Ext.refl _ w) (by
            refine ⟨vs, fr, g1, g2, by omega, fun j y hj => ?_⟩
            have hjl : j < vs.length := by have := (List.getElem?_eq_some_iff.1 hj).1; omega
            have hr := g3.2 j (.int k y) (vs[j]'hjl) (by rw [hall, List.getElem?_map, hj]; rfl) (List.getElem?_eq_getElem hjl)
            rw [List.getElem?_eq_getElem hjl, rep_int_inv hr])
          refine gp_run hrun hE hK hH.len (fun _ _ => rfl) (Ext.refl _ _) p1 (fun g _ k => (p2 g).1 k) ?_
          refine .sl i 1 c (d - c) b (len - c) off (bt, vs.length) hR (by omega) ?_ (fun hc => by rw [h1 hc]; omega) hshape (by simp only; omega)
          exact Nat.le_trans (Nat.sub_le _ _) hmx
        · exact h.elim
      · rename_i hnk
        replace h := bif_true h; obtain ⟨hall, h⟩ := h
        obtain ⟨hp, hK⟩ := obl_inv h
        obtain ⟨off, hrun, h1, h2, h3, h4⟩ := key p c d hs hb hp
        have hone : ∀ j, j < len → ∃ (x : AV) (u : Value), l.getD j .any = x ∧ vs[j]? = some u ∧ nl0 x = true ∧ isOne x = true ∧ Rep R w (Wr F R H) x u ∧ u.oneCell' = true := by
          intro j hj
          have hjl : j < l.length := by omega
          have hjv : j < vs.length := by omega
          have hx := List.all_eq_true.1 hall _ (List.getElem_mem hjl)
          simp only [Bool.and_eq_true] at hx
          refine ⟨l[j], vs[j], by simp [List.getD, hjl], List.getElem?_eq_getElem hjv, hx.1, hx.2, g3.2 j _ _ (List.getElem?_eq_getElem hjl) (List.getElem?_eq_getElem hjv), g4 _ (List.getElem_mem hjv)⟩
        obtain ⟨p1, p2⟩ := hH.upd (en := .recs bt 1 len (fun j => l.getD j .any)) hl hR (Ext.refl _ w) (by
          refine ⟨vs, fr, fun j => vs.getD j undef, g1, g2, by omega, fun j hj => ?_, fun j hj f hf => ?_⟩
          · obtain ⟨x, u, q1, q2, q3, q4, q5, q6⟩ := hone j hj
            have e1 : vs.getD j undef = u := by simp [List.getD, q2]
            show (vs.getD j undef).cells.size = 1 ∧ Rep noN w _ (l.getD j .any) (vs.getD j undef)
            rw [e1, q1]
            have ho1 := rep_one q5 q4
            exact ⟨by rw [ho1.1]; rfl, (nl0_rep q5 q3 noN).mono (fun _ _ k => k) (Ext.refl _ _) (fun g _ k => k.imp id (own_set hl g).1)⟩
          · obtain ⟨x, u, q1, q2, q3, q4, q5, q6⟩ := hone j hj
            obtain rfl : f = 0 := by omega
            have e1 : vs.getD j undef = u := by simp [List.getD, q2]
            have ho1 := rep_one q5 q4
            refine ⟨u, by simpa using q2, ?_, q6⟩
            simp only [e1, ho1.1]; rfl)
        refine gp_run hrun hE hK hH.len (fun _ _ => rfl) (Ext.refl _ _) p1 (fun g _ k => (p2 g).1 k) ?_
        refine .sl i 1 c (d - c) b (len - c) off (bt, vs.length) hR (by omega) ?_ (fun hc => by rw [h1 hc]; omega) hshape (by simp only; omega)
        exact Nat.le_trans (Nat.sub_le _ _) hmx
    · rename_i p c d bt k l hs hb hl
      obtain ⟨hp, hlen, hK⟩ := obl_inv h
      obtain ⟨off, hrun, h1, h2, h3, h4⟩ := key p c d hs hb hp
      obtain ⟨vs, fr, g1, g2, g3, g4⟩ := ent_ints hH hl hR
      have hshape : w.shape? b = some (bt, vs.length) := by simp [World.shape?, g1]
      refine gp_quiet hrun hE hK hH ?_
      refine .sl i 1 c (d - c) b (len - c) off (bt, vs.length) hR (by omega) ?_ (fun hc => by rw [h1 hc]; omega) hshape (by simp only; omega)
      exact Nat.le_trans (Nat.sub_le _ _) hmx
    · rename_i p c d bt m get hs hb hl
      obtain ⟨hp, hlen, hK⟩ := obl_inv h
      obtain ⟨off, hrun, h1, h2, h3, h4⟩ := key p c d hs hb hp
      obtain ⟨vs, fr, vals, g1, g2, g3, g4⟩ := ent_recs hH hl hR
      have hshape : w.shape? b = some (bt, vs.length) := by simp [World.shape?, g1]
      refine gp_quiet hrun hE hK hH ?_
      refine .sl i 1 c (d - c) b (len - c) off (bt, vs.length) hR (by omega) ?_ (fun hc => by rw [h1 hc]; omega) hshape (by simp only; omega)
      exact Nat.le_trans (Nat.sub_le _ _) hmx
    · exact h.elim
  · exact h.elim


theorem HRel.delN : ∀ (l : List Nat) {H : AH}, HRel F Ob W0 R H w → HRel F Ob W0 R (delN H l) w ∧ ∀ g, Wr F R (delN H l) g → Wr F R H g
  | [], H, h => ⟨h, fun _ k => k⟩
  | i :: r, H, h => by
    obtain ⟨h1, h2⟩ := h.del i
    obtain ⟨h3, h4⟩ := HRel.delN r h1
    exact ⟨h3, fun g k => h2 g (h4 g k)⟩
theorem frzL_rep {H1 : AH} (hH : HRel F Ob W0 R H w) (hsub : ∀ j e, H1.get j = some e → H.get j = some e) : ∀ {l : List AV} {vs : List Value} {obs : List Prop} {r : List AV}, CRel R w (Wr F R H) l vs → (∀ i ∈ nmsL l, H1.get i = none) → viewL H l = some (obs, r) → (∀ p ∈ obs, p) → CRel noN w (Wr F R H1) r vs
  | [], vs, obs, r, hc, hg, h, ho => by
    simp [viewL] at h
    obtain ⟨rfl, rfl⟩ := h
    exact ⟨hc.1, by simp⟩
  | x :: l, [], obs, r, hc, hg, h, ho => by have := hc.1; simp at this
  | x :: l, v :: vs, obs, r, hc, hg, h, ho => by
    unfold viewL at h
    split at h
    · rename_i p y q r' h1 h2
      simp only [Option.some.injEq, Prod.mk.injEq] at h
      obtain ⟨rfl, rfl⟩ := h
      have e1 := frz_rep hH hsub (hc.2 0 x v rfl rfl) (fun i hi => hg i (by simp [nmsL, hi])) h1 (fun p hp => ho p (by simp [hp]))
      have e2 := frzL_rep hH hsub (vs := vs) ⟨by have := hc.1; simpa using this, fun j a b ha hb => hc.2 (j + 1) a b (by simpa using ha) (by simpa using hb)⟩ (fun i hi => hg i (by simp [nmsL, hi])) h2 (fun p hp => ho p (by simp [hp]))
      refine ⟨by simp [e2.1], fun j a b ha hb => ?_⟩
      cases j with
      | zero => simp at ha hb; subst ha; subst hb; exact e1
      | succ j => exact e2.2 j a b (by simpa using ha) (by simpa using hb)
    · cases h
theorem fillA_len {place : Nat → Option (Nat × Nat)} {e : Env} : ∀ (ps : List (Nat × Operand)) (l0 l : List AV), fillA place e l0 ps = some l → l.length = l0.length
  | [], l0, l, h => by simp [fillA] at h; rw [h]
  | (i, x) :: ps, l0, l, h => by
    unfold fillA at h
    simp only [forceA_eq] at h
    split at h
    · rename_i off sz v hp hv
      replace h := bif_some h; obtain ⟨hb, h⟩ := h
      simp only [Bool.and_eq_true] at hb
      have e1 := Nat.le_of_ble_eq_true hb.2
      have e2 := beq_iff.1 hb.1.2
      rw [fillA_len ps _ _ h]
      simp [setRange]
      omega
    · cases h
theorem buildF_ok (hT : TOK P T) {o : Oper} {a : Act} {e : Env} {K : AV → AH → Prop} {t : TypeId} {len : Nat} {ps : Array (Nat × Operand)} (ho : o.op = .buildSlice t len ps) (h : buildF T e H t len ps.toList K) (hH : HRel F Ob W0 R H w) (hE : ERel R w (Wr F R H) e a.tmps) :
    o.wp P a w (GP F Ob W0 R H o a e K) NoWay := by
  unfold buildF at h
  split at h
  · rename_i el hd
    have hu := tdq_slice hT hd
    split at h
    · rename_i i hi
      obtain ⟨inf, ds, z, g1, g2, g3, rfl⟩ := probe_inv (hT _ i hi)
      simp only at h
      replace h := bif_true h; obtain ⟨h1, h⟩ := h
      simp only [Bool.and_eq_true] at h1
      obtain ⟨⟨hle, hpos⟩, hzl⟩ := h1
      have hle := Nat.le_of_ble_eq_true hle
      have hpos : 0 < inf.size := Nat.le_of_ble_eq_true hpos
      split at h
      · rename_i l hl
        split at h
        · rename_i p r hv
          replace h := bif_true h; obtain ⟨hs1, h⟩ := h
          obtain ⟨hp, hK⟩ := obl_inv h
          simp only [Bool.and_eq_true] at hs1
          obtain ⟨⟨hnl, hone⟩, hag⟩ := hs1
          obtain ⟨us, hus, hc0⟩ := fill_ok hE ps.toList _ _ l (zeros_rel (R := R) (w := w) (O := Wr F R H) z.cells (len * inf.size)) hl
          have hrun := run_newSlice (P := P) (w := w) (a := a) ho hu g1 g3 hle (fun _ => trivial) (cells := us) (by have h0 := hus; rw [Array.toArray_toList] at h0; exact h0)
          have hx := Ext.alloc (fun _ => False) w (.cells us.toArray el)
          obtain ⟨hH1, hwr⟩ := hH.delN (nmsL l)
          have hc : CRel noN w (Wr F R (delN H (nmsL l))) r us := frzL_rep hH (fun j e h => (delN_get _ _ _ _ h).1) hc0 (fun i hi => by
            cases hg : (delN H (nmsL l)).get i with
            | none => rfl
            | some e => exact absurd hi (delN_get _ _ _ _ hg).2) hv hp
          have hnx := delN_nx (nmsL l) H
          have hxw : Ext (Wr F R H) w (w.alloc (.cells us.toArray el)) := Ext.alloc _ w _
          have hxw1 : Ext (Wr F R (delN H (nmsL l))) w (w.alloc (.cells us.toArray el)) := Ext.alloc _ w _
          have hlen0 : l.length = len * inf.size := by rw [fillA_len _ _ _ hl]; simp [zerosA]
          have hlen : r.length = len * inf.size := by rw [hc.1, ← hc0.1, hlen0]
          have h1c := all_one hc hone
          obtain ⟨p1, p2⟩ := hH1.push (b := some w.heap.size) (en := .recs el inf.size len (chunkA ⟨tdOf ds, inf.size, inf.bytes, z.cells.toList, plainT P el ds⟩ r)) hx (fun g hg => by cases hg; exact Nat.le_refl _) (fun O' hO' => by
            have key : ∀ j, j < len → j * inf.size + inf.size ≤ len * inf.size := fun j hj => by
              rw [← Nat.succ_mul]; exact Nat.mul_le_mul_right _ hj
            cases hagg : TI.isAgg ⟨tdOf ds, inf.size, inf.bytes, z.cells.toList, plainT P el ds⟩ with
            | true =>
              refine ⟨us, (0, 0), fun j => .agg ((us.drop (j * inf.size)).take inf.size).toArray, by rw [heap_push], nf0 _, by rw [← hc.1, hlen]; exact Nat.le_refl _, fun j hj => ⟨?_, ?_⟩, fun j hj f hf => ?_⟩
              · have := key j hj
                have e1 := hc.1
                simp [Value.cells]; omega
              · simp only [chunkA, hagg, cond_true]
                have h3 := hc.sub (j * inf.size) inf.size
                exact h3.rep.mono (fun _ _ k => k) hxw1 hO'
              · have := key j hj
                have e1 := hc.1
                have hlt : j * inf.size + f < us.length := by omega
                refine ⟨us[j * inf.size + f], by simp [hlt], ?_, h1c _ (List.getElem_mem hlt)⟩
                simp [Value.cells, List.getElem?_take, hf, hlt]
            | false =>
              have hs : inf.size = 1 := by
                rw [hagg] at hag
                exact beq_iff.1 (by simpa using hag)
              refine ⟨us, (0, 0), fun j => us.getD j undef, by rw [heap_push], nf0 _, by rw [← hc.1, hlen]; exact Nat.le_refl _, fun j hj => ?_, fun j hj f hf => ?_⟩
              · have hlt : j < r.length := by rw [hlen, hs]; omega
                have hlu : j < us.length := by rw [← hc.1]; exact hlt
                have h3 := hc.2 j (r[j]) us[j] (by simp) (by simp)
                have e1 : us.getD j undef = us[j] := by simp [List.getD, hlu]
                have ho1 := rep_one h3 (List.all_eq_true.1 hone _ (List.getElem_mem hlt))
                have e2 : r.getD j .any = r[j] := by simp [List.getD, hlt]
                refine ⟨by simp only [e1]; rw [ho1.1, hs]; rfl, ?_⟩
                simp only [chunkA, hagg, cond_false, e1, e2]
                exact h3.mono (fun _ _ k => k) hxw1 hO'
              · have hlt : j < r.length := by rw [hlen, hs]; omega
                have hlu : j < us.length := by rw [← hc.1]; exact hlt
                obtain rfl : f = 0 := by omega
                have h3 := hc.2 j (r[j]) us[j] (by simp) (by simp)
                have e1 : us.getD j undef = us[j] := by simp [List.getD, hlu]
                have ho1 := rep_one h3 (List.all_eq_true.1 hone _ (List.getElem_mem hlt))
                refine ⟨us[j], by rw [hs]; simp [hlu], ?_, h1c _ (List.getElem_mem hlu)⟩
                simp only [e1, ho1.1]; rfl)
          rw [hnx] at p1 p2
          refine gp_run hrun hE hK hH.len (fun i hi => pre_nx _ i hi) hxw p1 (fun g hg k => hwr g (p2 g hg k)) ?_
          refine .sl _ _ _ _ w.heap.size len 0 (el, us.length) (by exact app_last _ _ _) (Nat.le_refl _) ?_ (fun _ => by simp) (by unfold World.shape?; rw [heap_push]; simp) (by rw [← hc.1, hlen]; simp)
          have := Nat.le_mul_of_pos_right len hpos
          simp only [maxLen]; omega
        · exact h.elim
      · exact h.elim
    · exact h.elim
  · exact h.elim
theorem storeF_ok (hT : TOK P T) {o : Oper} {a : Act} {e : Env} {K : AV → AH → Prop} {t : TypeId} {x y : Operand} (ho : o.op = .store t x y) {v u : AV} (hv : evA e x = some v) (hu : evA e y = some u) (h : storeF T H t v u K) (hH : HRel F Ob W0 R H w) (hE : ERel R w (Wr F R H) e a.tmps) : o.wp P a w (GP F Ob W0 R H o a e K) NoWay := by
  have hrx := evA_rep hE hv
  have hry := evA_rep hE hu
  unfold storeF at h
  split at h
  · rename_i s i sz j l hs
    replace h := bif_true h; obtain ⟨h1, h⟩ := h
    simp only [Bool.and_eq_true] at h1
    have e1 := beq_iff.1 h1.1
    have e2 := beq_iff.1 h1.2
    subst e1
    split at h
    · rename_i p r hw
      split at h
      · rename_i el sz' n get hl1
        replace h := bif_true h; obtain ⟨h2, h⟩ := h
        simp only [Bool.and_eq_true] at h2
        have e3 := beq_iff.1 h2.1.1
        subst e3
        obtain ⟨hp, hj, hK⟩ := obl_inv h
        have hso := szOf_inv (w := w) hT hs
        obtain ⟨us, hgu, hc0⟩ := rep_agg hry
        obtain ⟨hH1, hwr⟩ := hH.delN (nmsL l)
        have hc : CRel noN w (Wr F R (delN H (nmsL l))) r us := frzL_rep hH (fun j e h => (delN_get _ _ _ _ h).1) hc0 (fun i hi => by
          cases hg : (delN H (nmsL l)).get i with
          | none => rfl
          | some e => exact absurd hi (delN_get _ _ _ _ hg).2) hw hp
        have h1c := all_one hc h2.2
        have hul : us.length = s := by rw [← hc0.1, e2]
        generalize hg : a.eval x = cx at hrx
        cases hrx with | eptr _ _ _ _ b hR =>
        obtain ⟨vs, fr, vals, g1, g2, g3, g4, g5⟩ := ent_recs hH1 hl1 hR
        have hjs : j * s + s ≤ n * s := by rw [← Nat.succ_mul]; exact Nat.mul_le_mul_right _ hj
        obtain ⟨w', k1, k2, k3⟩ := store_block (P := P) b el us (j * s) 0 vs w g1 g2 (by rw [hul]; omega) h1c
        have hl0 := (delN_get _ _ _ _ hl1).1
        have hxw : Ext (Wr F R (delN H (nmsL l))) w w' := k3.weaken fun g _ k => by subst k; exact .inr ⟨i, _, hl1, hR⟩
        obtain ⟨p1, p2⟩ := hH1.upd (en := .recs el s n (fun m => if m = j then .agg r else get m)) hl1 hR k3 (by
          have hOO : ∀ g, g < w.heap.size → Wr F R ((delN H (nmsL l)).set i (.recs el s n (fun m => if m = j then .agg r else get m))) g → Wr F R (delN H (nmsL l)) g := fun g _ k => k.imp id (own_set hl1 g).1
          have ha : (List.take (j * s) vs).length = j * s := by simp; omega
          refine ⟨_, fr, fun m => if m = j then .agg us.toArray else vals m, k2, nf_ext g1 k2 k3 g2, by simp; omega, fun m hm => ?_, fun m hm f hf => ?_⟩
          · by_cases hmj : m = j
            · simp only [if_pos hmj]
              exact ⟨by simp [Value.cells, hul], hc.rep.mono (fun _ _ k => k) hxw hOO⟩
            · simp only [if_neg hmj]
              exact ⟨(g4 m hm).1, (g4 m hm).2.mono (fun _ _ k => k) hxw hOO⟩
          · simp only [Nat.add_zero, List.append_assoc]
            by_cases hmj : m = j
            · subst hmj
              have hlt : f < us.length := by omega
              refine ⟨us[f], ?_, by simp [Value.cells, hlt], h1c _ (List.getElem_mem hlt)⟩
              rw [List.getElem?_append_right (by omega), ha, List.getElem?_append_left (by omega)]
              have : m * s + f - m * s = f := by omega
              rw [this]; simp [hlt]
            · obtain ⟨v, q1, q2, q3⟩ := g5 m hm f hf
              refine ⟨v, ?_, by simp only [if_neg hmj]; exact q2, q3⟩
              rcases Nat.lt_or_ge m j with hlt | hge
              · have : m * s + s ≤ j * s := by rw [← Nat.succ_mul]; exact Nat.mul_le_mul_right _ hlt
                rw [List.getElem?_append_left (by omega), List.getElem?_take_of_lt (by omega)]; exact q1
              · have : j * s + s ≤ m * s := by rw [← Nat.succ_mul]; exact Nat.mul_le_mul_right _ (by omega)
                rw [List.getElem?_append_right (by omega), ha, List.getElem?_append_right (by omega), List.getElem?_drop, hul]
                have : j * s + s + (m * s + f - j * s - s) = m * s + f := by omega
                rw [this]; exact q1)
        have hx' : Ext (Wr F R H) w w' := hxw.weaken fun g _ k => hwr g k
        have hst : (Instr.storeAt t (a.eval x) (a.eval y)).run P w = .ok () w' := by
          rw [hg, hgu]
          refine run_storeAt hso (by simp [Value.cells, hul]) ?_
          simpa [Value.cells] using k1
        unfold Oper.wp
        have : (execOp a.eval o).run P w = .ok .skip w' := by simp [execOp, ho, Sem.run_bind, hst]
        rw [this]
        exact ⟨R, .any, _, undef, hK, rfl, fun _ _ => rfl, p1, hE.mono (fun _ _ k => k) hx' (fun g _ k => hwr g ((p2 g).1 k)), .any _⟩
      · exact h.elim
    · exact h.elim
  · exact h.elim

theorem copyV_X {K : AV → AH → Prop} {t : TypeId} {d s : AV} {obs : List Prop} {v : AV} {δ : List (Nat × Option Ent)} {nx : Nat} (h : dcopyV T H t d s = some (obs, v, δ, nx)) (ho : ∀ p ∈ obs, p) (hK : K v ⟨nx, δ ++ H.es⟩) : acopy T H t d s K := by
  unfold dcopyV at h
  unfold acopy
  split at h
  · rename_i el hd
    split at h
    · rename_i j o n hz
      split at h
      · rename_i e k l hl
        split at h
        · rename_i ob xs hx
          simp only [Option.some.injEq, Prod.mk.injEq] at h
          obtain ⟨rfl, rfl, rfl, rfl⟩ := h
          simp only [hd, hz, hl, hx]
          exact obl_intro (fun p hp => ho p (by simp [hp])) ⟨ho _ (by simp), hK⟩
        · cases h
      · cases h
    · cases h
  · cases h
theorem copyok2 {C : Ctx} (hC : C.X = xop2 C.T) (hD : C.DX = dcopy C.T) : CopyOK C := by
  refine ⟨fun o e e' H h => by rw [hD]; exact dcopy_congr h, ?_⟩
  intro o e H obs v δ nx K h ho hK
  rw [hC]
  rw [hD] at h
  unfold dcopy at h
  split at h
  · rename_i args ts
    show xop2 C.T _ e H K
    unfold xop2
    simp only [xsB2]
    unfold xop
    simp only
    split at h
    · rename_i d s t t' hs ht
      simp only [hs, ht]
      split at h
      · rename_i d' s' hd' hs'
        simp only [hd', hs']
        exact copyV_X h ho hK
      · cases h
    · cases h
  · cases h
theorem xok2 (hT : TOK P C.T) (hC : C.X = xop2 C.T) : XOK P C := by
  intro o a e F Ob W0 R H w K h hH hE
  rw [hC] at h
  unfold xop2 at h
  split at h
  · split at h
    · rename_i t ho; exact allocR_ok hT ho h hH hE
    · rename_i t x ho
      split at h
      · rename_i v hv; exact loadR_ok hT ho hv h hH hE
      · exact h.elim
    · rename_i t x y ho
      split at h
      · rename_i v u hv hu; exact storeR_ok hT ho hv hu h hH hE
      · rename_i v u _ hv hu; exact storeF_ok hT ho hv hu h hH hE
      · exact h.elim
    · rename_i t len ps ho; exact buildF_ok hT ho h hH hE
    · rename_i t x lo hi ho
      split at h
      · rename_i v hv; exact sliceR_ok hT ho hv h hH hE
      · exact h.elim
    · exact h.elim
  · refine xok (C := { C with X := xop C.T }) hT rfl o a e F Ob W0 R H w K ?_ hH hE
    exact h
end
end Go.Proofs.Ytdiflkabpjnncaa
