
/- The engine, part 21: rows whose elements hold pointers, told by their cells; contexts with calls that turn memory in regions of no fixed order. No condition. -/
import Derived.Test.YtdiflkabpjnncaaU
import Derived.Laws.IdiomStrings
namespace Go.Proofs.Ytdiflkabpjnncaa
open Go Go.RowKit
set_option linter.unusedVariables false
set_option linter.unusedSimpArgs false
set_option maxRecDepth 100000

def hasPtr : List AV → Bool
  | [] => false
  | .ptr _ _ :: _ => true
  | _ :: l => hasPtr l
def ptrP (e : Env) : List (Nat × Operand) → Bool
  | [] => false
  | p :: r => (match evA e p.2 with | some v => hasPtr (cellsA v) | none => false) || ptrP e r
def buildC (T : TypeId → Option TI) (e : Env) (H : AH) (t : TypeId) (len : Nat) (parts : List (Nat × Operand)) (K : AV → AH → Prop) : Prop :=
  match tdq T t with
  | .slice el => (match T el with
    | some i => bif Nat.ble (len * i.sz) 16777216 && Nat.blt 0 i.sz && Nat.beq i.zero.length i.sz then (match fillA (fun j => some (j * i.sz, i.sz)) e (zerosA i (len * i.sz)) parts with
      | some l => bif l.all isOne then K (.sl H.nx i.sz 0 len) (H.push (.cells el l)) else False
      | none => False) else False
    | none => False)
  | _ => False
def rowB (T : TypeId → Option TI) (o : Op) (e : Env) (H : AH) : Bool :=
  match o with
  | .buildSlice _ _ parts => ptrP e parts.toList
  | .load _ a => (match evA e a with | some (.eptr i _ _ _) => (match H.get i with | some (.cells _ _) => true | _ => false) | _ => false)
  | .convert s d x => (match tdq T s, tdq T d, evA e x with
    | .str, .slice _, some (.str _) => true
    | .slice _, .slice _, some (.sl _ _ _ _) => Nat.beq s d
    | _, _, _ => false)
  | .call { callee := .builtin .copy, args, argTypes } => (match args.toList, argTypes.toList with
    | [_, s], [_, _] => (match evA e s with | some (.str _) => true | _ => false)
    | _, _ => false)
  | _ => false
/-- A text copied onto a row of one's own, that has room for it. -/
def copyS (T : TypeId → Option TI) (H : AH) (t : TypeId) (d : AV) (z : List UInt8) (K : AV → AH → Prop) : Prop :=
  match tdq T t with
  | .slice el => (match szOf T el, d with
    | some 1, .sl j 1 o n => (match H.get j with
      | some (.ints e k l) => bif beqK k .u8 then ((0 < n ∧ z.length ≤ n ∧ o + n ≤ l.length) ∧ K (.int .i64 (z.length : Int)) (H.set j (.ints e k (l.take o ++ (z.map (fun c => (c.toNat : Int)) ++ l.drop (o + z.length)))))) else False
      | _ => False)
    | _, _ => False)
  | _ => False
/-- A text's bytes as a row of one's own; such a row, converted onto itself. -/
def convS (T : TypeId → Option TI) (H : AH) (s d : TypeId) (v : AV) (K : AV → AH → Prop) : Prop :=
  match tdq T s, tdq T d, v with
  | .str, .slice el, .str z => (match tdq T el with
    | .int .u8 => z.length ≤ 140737488355328 ∧ K (.sl H.nx 1 0 z.length) (H.push (.ints el .u8 (z.map fun c => (c.toNat : Int))))
    | _ => False)
  | .slice _, .slice el, .sl i 1 o n => bif Nat.beq s d then (match tdq T el, H.get i with
    | .int .u8, some (.ints _ _ _) => 0 < n ∧ K (.sl i 1 o n) H
    | _, _ => False) else False
  | _, _, _ => False
noncomputable def rowX (T : TypeId → Option TI) (o : Op) (e : Env) (H : AH) (K : AV → AH → Prop) : Prop :=
  match o with
  | .buildSlice t len parts => buildC T e H t len parts.toList K
  | .load t a => (match evA e a with
    | some (.eptr i sz j f) => (match aload T t H (.ptr i (j * sz + f)) with
      | some (obs, v) => obl obs (K v H)
      | none => False)
    | _ => False)
  | .convert s d x => (match evA e x with | some v => convS T H s d v K | none => False)
  | .call { callee := .builtin .copy, args, argTypes } => (match args.toList, argTypes.toList with
    | [d, s], [t, _] => (match evA e d, evA e s with | some d, some (.str z) => copyS T H t d z K | _, _ => False)
    | _, _ => False)
  | _ => False
noncomputable def xop4 (T : TypeId → Option TI) (o : Op) (e : Env) (H : AH) (K : AV → AH → Prop) : Prop := match rowB T o e H with
  | true => rowX T o e H K
  | false => xop2 T o e H K
def xsE (T : TypeId → Option TI) (o : Op) (e : Env) (H : AH) : Bool := rowB T o e H || xsC T o e H

section
variable {P : Program} {C : Ctx} {R : PN} {w : World} {F Ob : Nat → Prop} {W0 : World} {A : PN} {H H' : AH} {n : Nat} {O : Nat → Prop} {T : TypeId → Option TI}
theorem buildC_ok (hT : TOK P T) {o : Oper} {a : Act} {e : Env} {K : AV → AH → Prop} {t : TypeId} {len : Nat} {ps : Array (Nat × Operand)} (ho : o.op = .buildSlice t len ps) (h : buildC T e H t len ps.toList K) (hH : HRel F Ob W0 R H w) (hE : ERel R w (Wr F R H) e a.tmps) :
    o.wp P a w (GP F Ob W0 R H o a e K) NoWay := by
  unfold buildC at h
  split at h
  · rename_i el hd
    have hu := tdq_slice hT hd
    split at h
    · rename_i i hi
      obtain ⟨inf, ds, z, g1, g2, g3, rfl⟩ := probe_inv (hT _ i hi)
      simp only at h
      replace h := bif_true h; obtain ⟨h1, h⟩ := h
      simp only [Bool.and_eq_true] at h1
      obtain ⟨⟨hle, hpos⟩, hzl⟩ := h1
      have hle := Nat.le_of_ble_eq_true hle
      have hpos : 0 < inf.size := Nat.le_of_ble_eq_true hpos
      split at h
      · rename_i l hl
        replace h := bif_true h; obtain ⟨hone, hK⟩ := h
        obtain ⟨us, hus, hc⟩ := fill_ok hE ps.toList _ _ l (zeros_rel (R := R) (w := w) (O := Wr F R H) z.cells (len * inf.size)) hl
        have hrun := run_newSlice (P := P) (w := w) (a := a) ho hu g1 g3 hle (fun _ => trivial) (cells := us) (by have h0 := hus; rw [Array.toArray_toList] at h0; exact h0)
        have hx := Ext.alloc (fun _ => False) w (.cells us.toArray el)
        have hxw : Ext (Wr F R H) w (w.alloc (.cells us.toArray el)) := Ext.alloc _ w _
        have hlen : l.length = len * inf.size := by rw [fillA_len _ _ _ hl]; simp [zerosA]
        have h1c := all_one hc hone
        obtain ⟨p1, p2⟩ := hH.push (b := some w.heap.size) (en := .cells el l) hx (fun g hg => by cases hg; exact Nat.le_refl _) (fun O' hO' =>
          ⟨us, (0, 0), by rw [heap_push], nf0 _, hc.1, fun j x v hj hv => ⟨h1c v (List.mem_of_getElem? hv), (hc.2 j x v hj hv).mono (pre_app hH.len _) (Ext.alloc (Wr F R H) w _) hO'⟩⟩)
        refine gp_run hrun hE hK hH.len (fun i hi => pre_nx _ i hi) hxw p1 p2 ?_
        refine .sl _ _ _ _ w.heap.size len 0 (el, us.length) (by exact app_last _ _ _) (Nat.le_refl _) ?_ (fun _ => by simp) (by unfold World.shape?; rw [heap_push]; simp) (by rw [← hc.1, hlen]; simp)
        have := Nat.le_mul_of_pos_right len hpos
        simp only [maxLen]; omega
      · exact h.elim
    · exact h.elim
  · exact h.elim
theorem loadC_ok (hT : TOK P T) {o : Oper} {a : Act} {e : Env} {K : AV → AH → Prop} {t : TypeId} {x : Operand} (ho : o.op = .load t x) (h : rowX T o.op e H K) (hH : HRel F Ob W0 R H w) (hE : ERel R w (Wr F R H) e a.tmps) : o.wp P a w (GP F Ob W0 R H o a e K) NoWay := by
  rw [ho] at h
  unfold rowX at h
  simp only at h
  split at h
  · rename_i i sz j f hx
    split at h
    · rename_i obs v hl
      obtain ⟨hob, hK⟩ := obl_inv h
      have hr := evA_rep hE hx
      generalize hg : a.eval x = cx at hr
      cases hr with | eptr _ _ _ _ b hR =>
      obtain ⟨cv, h1, h2⟩ := aload_ok hT hl hob hH (.ptr i (j * sz + f) b hR)
      exact gp_quiet (by simp [execOp, ho, hg, Sem.run_bind, h1]) hE hK hH h2
    · exact h.elim
  · exact h.elim
theorem freeze_end {b : Nat} {vs : Array Value} {t : TypeId} {fr : Nat × Nat} (hw : w.heap[b]? = some (.cells vs t fr)) {a n : Nat} (ha : n ≤ a) (hf : NF fr n) :
    ∃ fr', (w.freeze ⟨b, a, none⟩ 1).heap[b]? = some (.cells vs t fr') ∧ NF fr' n := by
  obtain ⟨lo, hi⟩ := fr
  unfold World.freeze
  rw [if_neg (by decide)]
  simp only [Array.getElem?_modify, if_pos, hw, Option.map_some]
  refine ⟨_, rfl, .inr ?_⟩
  split
  · exact ha
  · rename_i hne
    rcases hf with hf | hf
    · cases hf; simp at hne
    · simp only at hf ⊢; omega
theorem convS_ok (hT : TOK P T) {o : Oper} {a : Act} {e : Env} {K : AV → AH → Prop} {s d : TypeId} {x : Operand} (ho : o.op = .convert s d x) (h : rowX T o.op e H K) (hH : HRel F Ob W0 R H w) (hE : ERel R w (Wr F R H) e a.tmps) : o.wp P a w (GP F Ob W0 R H o a e K) NoWay := by
  rw [ho] at h
  unfold rowX at h
  simp only at h
  split at h
  rotate_left
  · exact h.elim
  rename_i v hv
  have hrv := evA_rep hE hv
  unfold convS at h
  split at h
  · rename_i el z hds hdd
    obtain ⟨dd, hud, hdb⟩ := und_td hT hds (by simp)
    have hus : P.underlying s = some .string := by cases hdb; exact hud
    have hdu := tdq_slice hT hdd
    split at h
    · rename_i hde
      obtain ⟨de, hue, hdeb⟩ := und_td hT hde (by simp)
      have hue' : P.underlying el = some (.int .u8) := by cases hdeb; exact hue
      obtain ⟨hz, hK⟩ := h
      generalize hgx : a.eval x = cx at hrv
      cases hrv
      have hsz : (⟨z.toArray⟩ : ByteArray).size = z.length := by simp [ByteArray.size]
      have hrow : (bytesRow ⟨z.toArray⟩ (grownCap w z.length 0 el)) = (z.map (fun (c : UInt8) => Value.int .u8 (c.toNat : Int)) ++ List.replicate (grownCap w z.length 0 el - z.length) (Value.int .u8 0)).toArray := by
        simp [bytesRow, hsz]
      have hcap := grownCap_ge w z.length 0 el
      have hcm := grownCap_le_maxLen w z.length 0 el (by simp only [maxLen]; omega)
      generalize hcc : grownCap w z.length 0 el = cap at hrow hcap hcm
      generalize hus' : (z.map (fun (c : UInt8) => Value.int .u8 (c.toNat : Int)) ++ List.replicate (cap - z.length) (Value.int .u8 0)) = us at hrow
      have hul : us.length = cap := by rw [← hus']; simp; omega
      have hrun : (execOp a.eval o).run P w = .ok (.value (.slice (some ⟨w.heap.size, 0, none⟩) z.length cap)) (w.drew.alloc (.cells us.toArray el (us.toArray.size, us.toArray.size + 1))) := by
        have hc := run_bytes_of_string (P := P) w s d el ⟨z.toArray⟩ hus hdu hue'
        rw [hsz, hcc, hrow] at hc
        simp [execOp, ho, hgx, Sem.run_bind, hc]
      have hp : (w.drew.alloc (.cells us.toArray el (us.toArray.size, us.toArray.size + 1))).heap[w.heap.size]? = some (.cells us.toArray el (us.toArray.size, us.toArray.size + 1)) := heap_push w.drew _
      have hxn : Ext (fun _ => False) w (w.drew.alloc (.cells us.toArray el (us.toArray.size, us.toArray.size + 1))) := (Ext.drew _ w).trans (Ext.alloc (fun _ => False) w.drew _) (fun _ _ k => k)
      obtain ⟨p1, p2⟩ := hH.push (b := some w.heap.size) (en := .ints el .u8 (z.map fun c => (c.toNat : Int))) hxn (fun g hg => by cases hg; exact Nat.le_refl _) (fun O' hO' =>
        ⟨us, _, hp, .inr (by simp), by rw [hul]; simpa using hcap, fun j y hj => by
          rw [List.getElem?_map] at hj
          obtain ⟨c, hc, rfl⟩ := opt_map hj
          have hlt : j < z.length := (List.getElem?_eq_some_iff.1 hc).1
          rw [← hus', List.getElem?_append_left (by simpa using hlt), List.getElem?_map, hc]; rfl⟩)
      refine gp_run hrun hE hK hH.len (fun i hi => pre_nx _ i hi) (hxn.weaken fun _ _ k => k.elim) p1 p2 ?_
      exact .sl _ _ _ _ w.heap.size cap 0 (el, us.length) (by exact app_last _ _ _) (by simpa using hcap) hcm (fun _ => by simp) (by unfold World.shape?; rw [hp]; simp) (by rw [hul]; simp)
    · exact h.elim
  · rename_i es el i off n hds hdd
    replace h := bif_true h; obtain ⟨hsd, h⟩ := h
    have := beq_iff.1 hsd
    subst this
    have hus := tdq_slice hT hds
    have hee : es = el := by rw [hds] at hdd; cases hdd; rfl
    subst hee
    split at h
    · rename_i e' k l hde hl
      obtain ⟨de, hue, hdeb⟩ := und_td hT hde (by simp)
      have hue' : P.underlying es = some (.int .u8) := by cases hdeb; exact hue
      obtain ⟨hn0, hK⟩ := h
      generalize hgx : a.eval x = cx at hrv
      cases hrv with
      | slnil => omega
      | sl _ _ _ _ b c off0 sh hR hn hc hof hss hl0 =>
        obtain ⟨vs, fr, g1, g2, g3, g4⟩ := ent_ints hH hl hR
        have hsh2 : sh.2 = vs.length := by
          unfold World.shape? at hss
          rw [g1] at hss
          simp at hss
          rw [← hss]
        obtain ⟨fr', k1, k3⟩ := freeze_end (a := sh.2) (n := vs.length) g1 (by omega) g2
        obtain ⟨_, _, hx⟩ := freeze_facts g1 sh.2
        obtain ⟨p1, p2⟩ := hH.upd (en := .ints e' k l) hl hR hx ⟨vs, fr', k1, k3, g3, g4⟩
        obtain ⟨q1, q2⟩ := p1.congr (H' := H) rfl (fun j => by
          rw [get_set]
          by_cases hij : i = j
          · subst hij; rw [if_pos rfl, hl]
          · rw [if_neg hij])
        have hrun : (execOp a.eval o).run P w = .ok (.value (.slice (some ⟨b, off0, none⟩) n c)) (w.freeze ⟨b, sh.2, none⟩ 1) := by
          have hc := run_conv_self (P := P) (w := w) hus hue' (off := off0) (n := n) (c := c) hss
          simp [execOp, ho, hgx, Sem.run_bind, hc]
        refine gp_run hrun hE hK hH.len (fun _ _ => rfl) (hx.weaken fun g _ k => by subst k; exact .inr ⟨i, _, hl, hR⟩) q1 (fun g _ k => k) ?_
        exact .sl _ _ _ _ b c off0 sh hR hn hc hof (hx.shp _ _ hss) hl0
    · exact h.elim
  · exact h.elim
theorem run_copy_string_w {w' : World} (dT sT ty elem : TypeId) (b o dLen dCap : Nat) (t : ByteArray) (hu : P.underlying dT = some (.slice elem)) (hs : (P.info? elem).map (·.size) = some 1) (hle : t.size ≤ dLen)
    (hst : (storeCells ⟨b, o, none⟩ (t.data.toList.map fun x => Value.int .u8 (x.toNat : Int)) 0).run P w = .ok () w') :
    (Builtin.copy_ #[dT, sT] ty #[.slice (some ⟨b, o, none⟩) dLen dCap, .string t]).run P w = .ok (goInt t.size) w' := by
  have hmin : Nat.min t.size dLen = t.size := Nat.min_eq_left hle
  have hl : (t.data.toList.map fun x => Value.int .u8 (x.toNat : Int)).length = t.size := by rw [List.length_map, ← Lib.size_eq]
  cases hq : P.info? elem with
  | none => simp [hq] at hs
  | some i =>
    have hi : i.size = 1 := by simpa [hq] using hs
    simp [Builtin.copy_, run_underlying hu, Builtin.lenOf, Builtin.firstCells, sizeOf, typeInfo, hq, hi, hmin]
    rw [List.take_of_length_le (by rw [hl]; exact Nat.le_refl _), hst]
    rfl
theorem copyS_ok (hT : TOK P T) {o : Oper} {a : Act} {e : Env} {K : AV → AH → Prop} {args : Array Operand} {ts : Array TypeId} (ho : o.op = .call { callee := .builtin .copy, args, argTypes := ts }) (h : rowX T o.op e H K) (hH : HRel F Ob W0 R H w) (hE : ERel R w (Wr F R H) e a.tmps) : o.wp P a w (GP F Ob W0 R H o a e K) NoWay := by
  rw [ho] at h
  unfold rowX at h
  simp only at h
  split at h
  rotate_left
  · exact h.elim
  rename_i d s t t' hargs hts
  obtain rfl : args = #[d, s] := by rw [← Array.toArray_toList (xs := args), hargs]
  obtain rfl : ts = #[t, t'] := by rw [← Array.toArray_toList (xs := ts), hts]
  split at h
  rotate_left
  · exact h.elim
  rename_i vd z hvd hvs
  have hrd := evA_rep hE hvd
  have hrs := evA_rep hE hvs
  unfold copyS at h
  split at h
  rotate_left
  · exact h.elim
  rename_i el hd
  have hu := tdq_slice hT hd
  split at h
  rotate_left
  · exact h.elim
  rename_i j off m hsz
  have hs1 : (P.info? el).map (·.size) = some 1 := by
    unfold szOf at hsz
    obtain ⟨i, hi, he⟩ := opt_map hsz
    obtain ⟨inf, ds, z, g1, g2, g3, rfl⟩ := probe_inv (hT _ i hi)
    rw [g1]; simpa using he
  split at h
  rotate_left
  · exact h.elim
  rename_i e' k l hl
  replace h := bif_true h; obtain ⟨hk, h⟩ := h
  have := beqK_eq hk
  subst this
  obtain ⟨⟨hm0, hzm, hle⟩, hK⟩ := h
  generalize hgd : a.eval d = cd at hrd
  generalize hgs : a.eval s = cs at hrs
  cases hrs
  have hzs : (⟨z.toArray⟩ : ByteArray).size = z.length := by simp [ByteArray.size]
  cases hrd with
  | slnil => omega
  | sl _ _ _ _ b c off0 sh hR hn hc hof hss hl0 =>
    obtain ⟨vs, fr, g1, g2, g3, g4⟩ := ent_ints hH hl hR
    have h0 := hof (by omega)
    rw [Nat.mul_one] at h0
    replace h0 := h0.symm
    subst h0
    obtain ⟨w', s1, s2, hx⟩ := store_block (P := P) b e' (z.map fun (x : UInt8) => Value.int .u8 (x.toNat : Int)) off 0 vs w g1 g2 (by rw [List.length_map]; omega) (fun v hv => by obtain ⟨x, _, rfl⟩ := List.mem_map.1 hv; rfl)
    have hr := run_copy_string_w (P := P) t t' o.type el b off m c ⟨z.toArray⟩ hu hs1 (by rw [hzs]; exact hzm) (by simpa using s1)
    rw [hzs] at hr
    have hrun := run_copyOp ho (a := a) (by rw [hgd, hgs]; exact hr)
    obtain ⟨p1, p2⟩ := hH.upd (en := .ints e' .u8 (l.take off ++ (z.map (fun c => (c.toNat : Int)) ++ l.drop (off + z.length)))) hl hR hx (by
      refine ⟨_, fr, s2, nf_ext g1 s2 hx g2, ?_, fun i y hi => ?_⟩
      · simp only [List.length_append, List.length_take, List.length_drop, List.length_map]; omega
      · have e1 : (vs.take (off + 0)).length = off := by simp; omega
        have e2 : (l.take off).length = off := by simp; omega
        rw [List.append_assoc]
        rw [List.getElem?_append] at hi ⊢
        rw [e1]; rw [e2] at hi
        split at hi
        · rename_i hlt
          rw [if_pos hlt, List.getElem?_take_of_lt (by omega)]
          rw [List.getElem?_take_of_lt hlt] at hi
          exact g4 i y hi
        · rename_i hge
          rw [if_neg hge]
          rw [List.getElem?_append] at hi ⊢
          rw [List.length_map] at hi ⊢
          split at hi
          · rename_i hlt
            rw [if_pos hlt]
            rw [List.getElem?_map] at hi ⊢
            obtain ⟨q, hq, rfl⟩ := opt_map hi
            rw [hq]; rfl
          · rename_i hge2
            rw [if_neg hge2, List.getElem?_drop]
            rw [List.getElem?_drop] at hi
            rw [Nat.add_zero]
            exact g4 _ y hi)
    exact gp_run hrun hE hK hH.len (fun _ _ => rfl) (hx.weaken fun g _ k => by subst k; exact .inr ⟨j, _, hl, hR⟩) p1 (fun g _ k => (p2 g).1 k) (.int _ _)
theorem xok4 (hT : TOK P C.T) (hC : C.X = xop4 C.T) : XOK P C := by
  intro o a e F Ob W0 R H w K h hH hE
  rw [hC] at h
  unfold xop4 at h
  split at h
  · rename_i hb
    unfold rowB at hb
    split at hb
    · rename_i t len ps ho
      rw [ho] at h
      exact buildC_ok hT ho h hH hE
    · rename_i t x ho
      exact loadC_ok hT ho h hH hE
    · rename_i s d x ho
      exact convS_ok hT ho h hH hE
    · rename_i args ts ho
      exact copyS_ok hT ho h hH hE
    · cases hb
  · refine xok2 (C := { C with X := xop2 C.T }) hT rfl o a e F Ob W0 R H w K ?_ hH hE
    exact h
end
/-- Rows of pointers in a region of no fixed order. -/
def rowD (T : TypeId → Option TI) (o : Op) (e : Env) (H : AH) : DR :=
  match o with
  | .buildSlice t len parts => bif ptrP e parts.toList then (match tdq T t with
    | .slice el => (match T el with
      | some i => bif Nat.ble (len * i.sz) 16777216 && Nat.blt 0 i.sz && Nat.beq i.zero.length i.sz then (match fillA (fun j => some (j * i.sz, i.sz)) e (zerosA i (len * i.sz)) parts.toList with
        | some l => bif l.all isOne then some ([], .sl H.nx i.sz 0 len, [(H.nx, some (.cells el l))], H.nx + 1) else none
        | none => none) else none
      | none => none)
    | _ => none) else none
  | _ => none
def dX4 (T : TypeId → Option TI) (o : Op) (e : Env) (H : AH) : DR := match rowD T o e H with | some r => some r | none => dcopy T o e H
theorem ptrP_congr {e e' : Env} : ∀ {l : List (Nat × Operand)}, (∀ p ∈ l, evA e p.2 = evA e' p.2) → ptrP e l = ptrP e' l
  | [], _ => rfl
  | p :: r, h => by unfold ptrP; rw [h p (by simp), ptrP_congr fun q hq => h q (by simp [hq])]
theorem rowD_congr {T : TypeId → Option TI} {o : Op} {e e' : Env} {H : AH} (h : ∀ x ∈ o.operands.toList, evA e x = evA e' x) : rowD T o e H = rowD T o e' H := by
  unfold rowD
  split
  · rename_i t len ps
    simp only [Op.operands, Array.toList_append, List.mem_append] at h
    have h' : ∀ p ∈ ps.toList, evA e p.2 = evA e' p.2 := fun p hp => h p.2 (by simp; exact ⟨p.1, by simpa using hp⟩)
    have hf : ∀ place l, fillA place e l ps.toList = fillA place e' l ps.toList := fun place l => fillA_congr place ps.toList l h'
    simp only [hf, ptrP_congr h']
  · rfl
theorem copyok4 {C : Ctx} (hC : C.X = xop4 C.T) (hD : C.DX = dX4 C.T) : CopyOK C := by
  refine ⟨fun o e e' H h => by rw [hD]; unfold dX4; rw [rowD_congr h, dcopy_congr h], ?_⟩
  intro o e H obs v δ nx K h ho hK
  rw [hC]
  rw [hD] at h
  unfold dX4 at h
  split at h
  · rename_i r hr
    cases h
    unfold rowD at hr
    split at hr
    · rename_i t len ps
      replace hr := bif_some hr; obtain ⟨hp, hr⟩ := hr
      have hb : rowB C.T (.buildSlice t len ps) e H = true := hp
      unfold xop4
      rw [hb]
      show buildC C.T e H t len ps.toList K
      unfold buildC
      split at hr
      · rename_i el hd
        (try simp only [hd])
        split at hr
        · rename_i i hi
          (try simp only [hi])
          replace hr := bif_some hr; obtain ⟨h1, hr⟩ := hr
          (try simp only [h1, cond_true])
          split at hr
          · rename_i l hl
            (try simp only [hl])
            replace hr := bif_some hr; obtain ⟨h2, hr⟩ := hr
            (try simp only [h2, cond_true])
            cases hr
            exact hK
          · cases hr
        · cases hr
      · cases hr
    · cases hr
  rename_i hn
  have h2 := (copyok2 (C := { C with X := xop2 C.T, DX := dcopy C.T }) rfl rfl).out o e H obs v δ nx K h ho hK
  have hm : rowB C.T o e H = false := by
    unfold dcopy at h
    split at h
    · rename_i args ts
      unfold rowB
      simp only
      split
      · rename_i x s y z ha ht
        rw [ha, ht] at h
        split
        · rename_i q hq
          simp only [hq] at h
          split at h
          · rename_i d s' hd hs
            cases hs
            unfold dcopyV at h
            (repeat' split at h) <;> first | (cases h; done) | (rename_i hi; unfold intsOfA at hi; cases hi)
          · cases h
        · rfl
      · rfl
    · cases h
  unfold xop4
  rw [hm]
  exact h2
/-- All at once: rows of pointers, calls of D0 (that make nothing new) and D (that make one thing new) in regions of no fixed order. -/
noncomputable def mkE (p : Nat) (S : List (FuncId × PSpec)) (G : FuncId → Option GSpec) (D0 D : List (FuncId × FSpec)) (cuts : List Nat) : Ctx := ⟨p, tlook tt, slook S, dG (D0 ++ D) G, xsE (tlook tt), xop4 (tlook tt), fun i => cuts.any (Nat.beq i), dXD (D0 ++ D), dXN0 D0 D, dX4 (tlook tt)⟩
theorem mkE_ok {p : Nat} {S : List (FuncId × PSpec)} {G : FuncId → Option GSpec} {D0 D : List (FuncId × FSpec)} {cuts : List Nat} (hS : POK Try.prog (slook S)) (hG : ∀ g s, G g = some s → GSOK Try.prog g s) (hD : ∀ g FS, dlook (D0 ++ D) g = some FS → GSOK Try.prog g (fG FS)) : COK Try.prog (mkE p S G D0 D cuts) :=
  ⟨ttok, hS, gok_of ttok (xok4 ttok rfl) (fun g s h => by
    simp only [mkE, dG] at h
    split at h
    · rename_i FS hd
      cases h
      exact hD g FS hd
    · exact hG g s h), dok_of (D0 ++ D), copyok4 rfl rfl⟩
theorem fokE {S : List (FuncId × PSpec)} {G : FuncId → Option GSpec} (D0 D : List (FuncId × FSpec)) (cuts : List Nat) (hS : POK Try.prog (slook S)) (hG : ∀ g s, G g = some s → GSOK Try.prog g s) (hD : ∀ g FS, dlook (D0 ++ D) g = some FS → GSOK Try.prog g (fG FS)) {g : FuncId} {fn : Func} (hf : FnOK Try.prog g fn) {FS : FSpec}
    (h : ∀ l es obs v es', FS l es = some (obs, v, es') → (∀ p ∈ obs, p) → l.length ≤ fn.ntmps ∧ vcFn (mkE es.length S G D0 D cuts) fn l ⟨es.length, num 0 (es.map some)⟩ (RetF es.length v es')) : GSOK Try.prog g (fG FS) :=
  fok_of (T := tlook tt) (S := slook S) (G := dG (D0 ++ D) G) (xs := xsE (tlook tt)) (X := xop4 (tlook tt)) (cut := fun i => cuts.any (Nat.beq i)) (XD := dXD (D0 ++ D)) (XN := dXN0 D0 D) (DX := dX4 (tlook tt)) (fun p => mkE_ok (p := p) (cuts := cuts) hS hG hD) mixed hf h
end Go.Proofs.Ytdiflkabpjnncaa
