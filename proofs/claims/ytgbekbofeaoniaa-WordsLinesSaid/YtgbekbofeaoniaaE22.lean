
/- The engine, part 22: a text appended to a row of one's own. No condition. -/
import Derived.Test.YtgbekbofeaoniaaE21
import Derived.Lib.AppendStr
namespace Go.Proofs.Ytgbekbofeaoniaa
open Go Go.RowKit
set_option linter.unusedVariables false
set_option linter.unusedSimpArgs false
set_option maxRecDepth 100000

def appB (o : Op) (e : Env) : Bool := match o with
  | .call { callee := .builtin .append, args, argTypes } => (match args.toList with
    | [_, s] => (match evA e s with | some (.str _) => true | _ => false)
    | _ => false)
  | _ => false
def appS (T : TypeId → Option TI) (H : AH) (t t' : TypeId) (d : AV) (z : List UInt8) (K : AV → AH → Prop) : Prop :=
  match tdq T t, tdq T t', d with
  | .slice el, .str, .sl j 1 0 n => (match T el, H.get j with
    | some i, some (.ints e' .u8 l) => bif Nat.beq i.sz 1 && Nat.beq i.by_ 1 && Nat.beq i.zero.length 1 && Nat.beq e' el then
        ((0 < n ∧ n = l.length ∧ n + z.length ≤ 140737488355328) ∧ K (.sl H.nx 1 0 (n + z.length)) ((H.del j).push (.ints e' .u8 (l ++ z.map fun c => (c.toNat : Int))))) else False
    | _, _ => False)
  | _, _, _ => False
noncomputable def appX (T : TypeId → Option TI) (o : Op) (e : Env) (H : AH) (K : AV → AH → Prop) : Prop := match o with
  | .call { callee := .builtin .append, args, argTypes } => (match args.toList, argTypes.toList with
    | [d, s], [t, t'] => (match evA e d, evA e s with | some d, some (.str z) => appS T H t t' d z K | _, _ => False)
    | _, _ => False)
  | _ => False
noncomputable def xop5 (T : TypeId → Option TI) (o : Op) (e : Env) (H : AH) (K : AV → AH → Prop) : Prop := match appB o e with
  | true => appX T o e H K
  | false => xop4 T o e H K
def xsA (T : TypeId → Option TI) (o : Op) (e : Env) (H : AH) : Bool := appB o e || xsE T o e H
theorem run_append_room_sw {P : Program} {w w' : World} (t u ty e : TypeId) (i : TypeInfo) (ht : P.underlying t = some (.slice e)) (hu : P.underlying u = some .string) (hi : P.info? e = some i) (g sLen sCap : Nat)
    (z : ByteArray) (hroom : sLen + z.size ≤ sCap) (hst : (storeCells ⟨g, sLen * i.size, none⟩ (Lib.strCells z) 0).run P w = .ok () w') :
    (Builtin.append_ #[t, u] ty #[.slice (some ⟨g, 0, none⟩) sLen sCap, .string z]).run P w = .ok (.slice (some ⟨g, 0, none⟩) (sLen + z.size) sCap) w' := by
  have hf := Lib.run_firstCells_string (P := P) w i.size z
  simp [Builtin.append_, run_underlying ht, run_underlying hu, sizeOf, typeInfo, hi, Builtin.lenOf, hroom, hf, Addr.add_lit, hst]
section
variable {P : Program} {F Ob : Nat → Prop} {W0 : World} {R : PN} {H : AH} {w : World} {T : TypeId → Option TI}
theorem run_appendOpS {w' : World} {o : Oper} {a : Act} {s x : Operand} {t u : TypeId} (ho : o.op = .call { callee := .builtin .append, args := #[s, x], argTypes := #[t, u] }) {cv : Value}
    (h : (Builtin.append_ #[t, u] o.type #[a.eval s, a.eval x]).run P w = .ok cv w') : (execOp a.eval o).run P w = .ok (.value cv) w' := by
  simp [execOp, ho, resolve, invoke, builtin, h]
theorem appX_ok (hT : TOK P T) {o : Oper} {a : Act} {e : Env} {K : AV → AH → Prop} {args : Array Operand} {ts : Array TypeId} (ho : o.op = .call { callee := .builtin .append, args, argTypes := ts }) (h : appX T o.op e H K) (hH : HRel F Ob W0 R H w) (hE : ERel R w (Wr F R H) e a.tmps) : o.wp P a w (GP F Ob W0 R H o a e K) NoWay := by
  rw [ho] at h
  unfold appX at h
  simp only at h
  split at h
  rotate_left
  · exact h.elim
  rename_i d s t t' hargs hts
  obtain rfl : args = #[d, s] := by rw [← Array.toArray_toList (xs := args), hargs]
  obtain rfl : ts = #[t, t'] := by rw [← Array.toArray_toList (xs := ts), hts]
  split at h
  rotate_left
  · exact h.elim
  rename_i vd z hvd hvs
  have hrd := evA_rep hE hvd
  have hrs := evA_rep hE hvs
  unfold appS at h
  split at h
  rotate_left
  · exact h.elim
  rename_i el j n hd hstr
  have hu := tdq_slice hT hd
  have hus := tdq_str hT hstr
  split at h
  rotate_left
  · exact h.elim
  rename_i i e' l hti hl
  obtain ⟨inf, ds, z0, g1i, g2i, g3i, rfl⟩ := probe_inv (hT _ i hti)
  replace h := bif_true h; obtain ⟨hc4, h⟩ := h
  simp only [Bool.and_eq_true] at hc4
  obtain ⟨⟨⟨hz1, hz2⟩, hz3⟩, hz4⟩ := hc4
  have hs1 : inf.size = 1 := beq_iff.1 hz1
  have hb1 : inf.bytes = 1 := beq_iff.1 hz2
  have hzl : z0.cells.size = 1 := by have := beq_iff.1 hz3; simpa using this
  have := beq_iff.1 hz4
  subst this
  obtain ⟨⟨hn0, hnl, hle⟩, hK⟩ := h
  generalize hgd : a.eval d = cd at hrd
  generalize hgs : a.eval s = cs at hrs
  cases hrs
  have hzs : (⟨z.toArray⟩ : ByteArray).size = z.length := by simp [ByteArray.size]
  have hsc : Lib.strCells ⟨z.toArray⟩ = z.map fun (x : UInt8) => Value.int .u8 (x.toNat : Int) := by simp [Lib.strCells]
  cases hrd with
  | slnil => omega
  | sl _ _ _ _ b c off0 sh hR hn hc hof hss hl0 =>
    obtain ⟨vs, fr, g1, g2, g3, g4⟩ := ent_ints hH hl hR
    have h0 := hof (by omega)
    replace h0 : off0 = 0 := by omega
    subst h0
    have hshape : sh.2 = vs.length := by
      unfold World.shape? at hss
      rw [g1] at hss
      simp at hss
      rw [← hss]
    by_cases hroom : n + z.length ≤ c
    · obtain ⟨w', s1, s2, hx⟩ := store_block (P := P) b e' (z.map fun (x : UInt8) => Value.int .u8 (x.toNat : Int)) n 0 vs w g1 g2 (by rw [List.length_map]; omega) (fun v hv => by obtain ⟨x, _, rfl⟩ := List.mem_map.1 hv; rfl)
      have hr := run_append_room_sw (P := P) t t' o.type e' inf hu hus g1i b n c ⟨z.toArray⟩ (by rw [hzs]; exact hroom) (by rw [hsc, hs1, Nat.mul_one]; exact s1)
      rw [hzs] at hr
      have hrun := run_appendOpS ho (a := a) (by rw [hgd, hgs]; exact hr)
      obtain ⟨p1, p2⟩ := hH.upd (en := .ints e' .u8 (l ++ z.map (fun c => (c.toNat : Int)))) hl hR hx (by
        refine ⟨_, fr, s2, nf_ext g1 s2 hx g2, ?_, fun i y hi => ?_⟩
        · simp only [List.length_append, List.length_take, List.length_drop, List.length_map]; omega
        · have e1 : (vs.take (n + 0)).length = n := by simp; omega
          rw [List.append_assoc]
          rw [List.getElem?_append] at hi ⊢
          rw [e1]
          split at hi
          · rename_i hlt
            rw [if_pos (by omega), List.getElem?_take_of_lt (by omega)]
            exact g4 i y hi
          · rename_i hge
            rw [if_neg (by omega)]
            have hlt : i - l.length < z.length := by have := (List.getElem?_eq_some_iff.1 hi).1; simpa using this
            rw [hnl, List.getElem?_append_left (by simpa using hlt)]
            rw [List.getElem?_map] at hi ⊢
            obtain ⟨q, hq, rfl⟩ := opt_map hi
            rw [hq]; rfl)
      have hxw : Ext (Wr F R H) w w' := hx.weaken fun g _ k => by subst k; exact .inr ⟨j, _, hl, hR⟩
      obtain ⟨q1, q2⟩ := p1.ren (i := j) (e := .ints e' .u8 (l ++ z.map (fun c => (c.toNat : Int)))) (b := some b) (by rw [get_set, if_pos rfl]) hR
      have hget : ∀ i, ((H.del j).push (.ints e' .u8 (l ++ z.map (fun c => (c.toNat : Int))))).get i = (((H.set j (.ints e' .u8 (l ++ z.map (fun c => (c.toNat : Int))))).del j).push (.ints e' .u8 (l ++ z.map (fun c => (c.toNat : Int))))).get i := fun i => by
        rw [get_push, get_push]
        have e0 : (H.del j).nx = ((H.set j (.ints e' .u8 (l ++ z.map (fun c => (c.toNat : Int))))).del j).nx := rfl
        rw [e0]
        split
        · rfl
        · rw [get_del, get_del, get_set]
          split
          · rfl
          · rfl
      obtain ⟨r1, r2⟩ := q1.congr (H' := (H.del j).push (.ints e' .u8 (l ++ z.map (fun c => (c.toNat : Int))))) rfl hget
      refine gp_run hrun hE hK hH.len (fun i hi => pre_nx _ i hi) hxw r1 (fun g hg k => (p2 g).1 (q2 g (Nat.lt_of_lt_of_le hg hx.size) ((r2 g).1 k))) ?_
      exact .sl _ _ _ _ b c 0 sh (by exact app_last _ _ _) hroom hc (fun _ => by simp) (hx.shp _ _ hss) hl0
    · have hzb : ∀ q, (Builtin.zeroCells z0.cells q).size = q := fun q => by rw [size_zeroCells, hzl, Nat.mul_one]
      have hlen : (vs.take n).length = n := by simp; omega
      have hrun0 := Lib.run_append_grow_string (P := P) w t t' o.type e' inf z0 hu hus g1i g3i ⟨b, 0, none⟩ n c (vs.take n) (by rw [hs1, Nat.mul_one]; exact hlen) (fun q v hq => by
        have hlt : q < n := by have := (List.getElem?_eq_some_iff.1 hq).1; omega
        rw [Addr.add_mid, cell_of_heap g1, Nat.zero_add]
        rw [List.getElem?_take_of_lt hlt] at hq
        exact hq) ⟨z.toArray⟩ (by rw [hzs]; omega) (by rw [hzs]; omega) (by rw [hzs]; exact growslice_fits (by omega) (by rw [hb1, Nat.mul_one]; omega))
      rw [hzs, hsc] at hrun0
      have hcap := grownCap_ge w (n + z.length) c e'
      have hcm := grownCap_le_maxLen w (n + z.length) c e' (by simp only [maxLen]; omega)
      generalize hcc : grownCap w (n + z.length) c e' = cap at hrun0 hcap hcm
      generalize hus' : vs.take n ++ (z.map fun (x : UInt8) => Value.int .u8 (x.toNat : Int)) ++ (Builtin.zeroCells z0.cells (cap - (n + z.length))).toList = us
      have hul : us.length = cap := by rw [← hus']; simp only [List.length_append, List.length_map, Array.length_toList, hzb, hlen]; omega
      have hbl : (vs.take n).toArray ++ (z.map fun (x : UInt8) => Value.int .u8 (x.toNat : Int)).toArray ++ Builtin.zeroCells z0.cells (cap - (n + z.length)) = us.toArray := by
        rw [← hus', ← List.append_toArray (l₂ := (Builtin.zeroCells _ _).toList), Array.toArray_toList, ← List.append_toArray]
      rw [hbl] at hrun0
      have hrun := run_appendOpS ho (a := a) (by rw [hgd, hgs]; exact hrun0)
      obtain ⟨d1, d2⟩ := hH.del j
      have hp : (w.drew.alloc (.cells us.toArray e')).heap[w.heap.size]? = some (.cells us.toArray e' (0, 0)) := heap_push w.drew _
      have hxn : Ext (fun _ => False) w (w.drew.alloc (.cells us.toArray e')) := (Ext.drew _ w).trans (Ext.alloc (fun _ => False) w.drew _) (fun _ _ k => k)
      obtain ⟨p1, p2⟩ := d1.push (b := some w.heap.size) (en := .ints e' .u8 (l ++ z.map fun c => (c.toNat : Int))) hxn (fun g hg => by cases hg; exact Nat.le_refl _) (fun O' hO' =>
        ⟨us, _, hp, nf0 _, by rw [hul, List.length_append, List.length_map]; omega, fun i y hi => by
          rw [← hus', List.append_assoc]
          rw [List.getElem?_append] at hi ⊢
          rw [hlen]
          split at hi
          · rw [if_pos (by omega), List.getElem?_take_of_lt (by omega)]
            exact g4 i y hi
          · rw [if_neg (by omega)]
            have hlt : i - l.length < z.length := by have := (List.getElem?_eq_some_iff.1 hi).1; simpa using this
            rw [hnl, List.getElem?_append_left (by simpa using hlt)]
            rw [List.getElem?_map] at hi ⊢
            obtain ⟨q, hq, rfl⟩ := opt_map hi
            rw [hq]; rfl⟩)
      refine gp_run hrun hE hK hH.len (fun i hi => pre_nx _ i hi) (hxn.weaken fun _ _ k => k.elim) p1 (fun g hg k => d2 g (p2 g hg k)) ?_
      exact .sl _ _ _ _ w.heap.size cap 0 (e', us.length) (by exact app_last _ _ _) hcap hcm (fun _ => by simp) (by unfold World.shape?; rw [hp]; simp) (by rw [hul]; simp)
theorem xok5 {C : Ctx} (hT : TOK P C.T) (hC : C.X = xop5 C.T) : XOK P C := by
  intro o a e F Ob W0 R H w K h hH hE
  rw [hC] at h
  unfold xop5 at h
  split at h
  · rename_i hb
    unfold appB at hb
    split at hb
    · rename_i args ts ho
      exact appX_ok hT ho h hH hE
    · cases hb
  · exact xok4 (C := { C with X := xop4 C.T }) hT rfl o a e F Ob W0 R H w K h hH hE
end
noncomputable def mkA (p : Nat) (S : List (FuncId × PSpec)) (G : FuncId → Option GSpec) (cuts : List Nat) : Ctx := ⟨p, tlook tt, slook S, G, xsA (tlook tt), xop5 (tlook tt), fun i => cuts.any (Nat.beq i), fun _ _ _ => none, fun _ => 0, fun _ _ _ => none⟩
theorem mkA_ok {p : Nat} {S : List (FuncId × PSpec)} {G : FuncId → Option GSpec} {cuts : List Nat} (hS : POK Try.prog (slook S)) (hG : ∀ g s, G g = some s → GSOK Try.prog g s) : COK Try.prog (mkA p S G cuts) :=
  ⟨ttok, hS, gok_of ttok (xok5 ttok rfl) hG, (fun g l H obs v δ nx K h => by cases h), ⟨fun _ _ _ _ _ => rfl, fun o e H obs v δ nx K h => by cases h⟩⟩
end Go.Proofs.Ytgbekbofeaoniaa
