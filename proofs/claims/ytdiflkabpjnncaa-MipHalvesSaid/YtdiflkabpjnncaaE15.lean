
/- The engine, part 15: further operations: a slice held against nil, copy, rows of one-cell things that are no integers. No condition. -/
import Derived.Test.YtdiflkabpjnncaaE14
import Derived.Laws.CopyOwn
import Derived.Laws.IdiomCopy
import Derived.Lib.LazyBuf
import Derived.Laws.BytesString
namespace Go.Proofs.Ytdiflkabpjnncaa
open Go Go.RowKit
set_option linter.unusedVariables false
set_option linter.unusedSimpArgs false

/-- A slice held against nil. -/
def anil (op : BinOp) (v : AV) (H : AH) (K : AV → AH → Prop) : Prop :=
  match op, v with
  | .eql, .nils => K .tru H
  | .eql, .roi _ l => ∀ b : Bool, (b = true → l = []) → K (.bool b) H
  | .eql, .ro _ n _ => ∀ b : Bool, (b = true → n = 0) → K (.bool b) H
  | .eql, .sl _ _ _ n => ∀ b : Bool, (b = true → n = 0) → K (.bool b) H
  | .neq, .nils => K .fls H
  | .neq, .roi _ l => ∀ b : Bool, (b = false → l = []) → K (.bool b) H
  | .neq, .ro _ n _ => ∀ b : Bool, (b = false → n = 0) → K (.bool b) H
  | .neq, .sl _ _ _ n => ∀ b : Bool, (b = false → n = 0) → K (.bool b) H
  | _, _ => False
/-- copy(d, s): d a piece of an owned row of integers. -/
noncomputable def acopy (T : TypeId → Option TI) (H : AH) (t : TypeId) (d s : AV) (K : AV → AH → Prop) : Prop :=
  match tdq T t with
  | .slice el => (match szOf T el, d with
    | some 1, .sl j 1 o n => (match H.get j with
      | some (.ints e k l) => (match intsOfA H k s with
        | some (obs, xs) => obl obs (o + n ≤ l.length ∧ K (.int .i64 ((Nat.min xs.length n : Nat) : Int)) (H.set j (.ints e k (l.take o ++ (xs.take (Nat.min xs.length n) ++ l.drop (o + Nat.min xs.length n))))))
        | none => False)
      | _ => False)
    | _, _ => False)
  | _ => False
/-- Truth values in one form. -/
def nb0 : AV → AV
  | .tru => .bool true
  | .fls => .bool false
  | x => x
/-- A new row of one-cell things that are no integers. -/
def amakeR (T : TypeId → Option TI) (H : AH) (t : TypeId) (n c : AV) (K : AV → AH → Prop) : Prop :=
  match tdq T t, n, c with
  | .slice el, .int _ n, .int _ c => (match T el with
    | some i => (match i.zero with
      | [z] => bif Nat.beq i.sz 1 && nl0 (ofVal1 z) && isOne (ofVal1 z) then ((0 ≤ n ∧ n ≤ c ∧ c ≤ 140737488355328 ∧ c * i.by_ ≤ 140737488355328) ∧ K (.sl H.nx 1 0 n.toNat) (H.push (.recs el 1 n.toNat (fun _ => nb0 (ofVal1 z))))) else False
      | _ => False)
    | none => False)
  | _, _, _ => False
def astoreR (T : TypeId → Option TI) (H : AH) (t : TypeId) (a x : AV) (K : AV → AH → Prop) : Prop :=
  match szOf T t, a with
  | some 1, .eptr i 1 j 0 => (match H.get i with
    | some (.recs el 1 n get) => bif nl0 x && isOne x then (j < n ∧ K .any (H.set i (.recs el 1 n (fun m => if m = j then nb0 x else get m)))) else False
    | _ => False)
  | _, _ => False

/-- A slice with a bound on its room. -/
def aslice3 (T : TypeId → Option TI) (H : AH) (t : TypeId) (v h m : AV) (K : AV → AH → Prop) : Prop :=
  match tdq T t, v, h, m with
  | .slice el, .sl i sz o n, .int _ a, .int _ b => (match szOf T el with
    | some s => bif Nat.beq s sz then ((0 ≤ a ∧ a ≤ b ∧ b ≤ (n : Int)) ∧ K (.sl i sz o a.toNat) H) else False
    | none => False)
  | _, _, _, _ => False

def xsB (T : TypeId → Option TI) (o : Op) (e : Env) (H : AH) : Bool :=
  match o with
  | .binOp .eql t _ y _ => (match tdq T t, evA e y with | .slice _, some .nils => true | _, _ => false)
  | .binOp .neq t _ y _ => (match tdq T t, evA e y with | .slice _, some .nils => true | _, _ => false)
  | .makeSlice t _ _ => (match tdq T t with | .slice el => (match tdq T el with | .int _ => false | _ => true) | _ => false)
  | .store t a _ => (match evA e a with | some (.eptr i _ _ _) => (match H.get i with | some (.recs _ _ _ _) => true | _ => false) | _ => false)
  | .call { callee := .builtin .copy, .. } => true
  | .convert s d _ => (match tdq T s, tdq T d with | .slice _, .str => true | .slice _, .slice _ => true | _, _ => false)
  | .slice t _ none (some _) (some _) => (match tdq T t with | .slice _ => true | _ => false)
  | .makeInterface t _ => (match tdq T t with | .slice _ => true | .str => true | _ => false)
  | _ => false
/-- Bytes as a text; and bytes that are turned no more (a text's bytes: the row is given up and only read from then on). -/
noncomputable def aconvX (T : TypeId → Option TI) (H : AH) (s d : TypeId) (v : AV) (K : AV → AH → Prop) : Prop :=
  match tdq T s, tdq T d with
  | .slice es, .str => (match tdq T es with
    | .int .u8 => (match intsOfA H .u8 v with
      | some (obs, l) => obl obs (K (.str (l.map fun n => UInt8.ofNat n.toNat)) H)
      | none => False)
    | _ => False)
  | .slice es, .slice ed => (match tdq T ed, v with
    | .int .u8, .sl i 1 o n => bif Nat.beq s d then (match H.get i with
      | some (.ints _ .u8 l) => ((0 < n ∧ o + n ≤ l.length) ∧ K (.roi .u8 ((l.drop o).take n)) (H.del i))
      | _ => False) else False
    | _, _ => False)
  | _, _ => False
noncomputable def xop (T : TypeId → Option TI) (o : Op) (e : Env) (H : AH) (K : AV → AH → Prop) : Prop :=
  match o with
  | .binOp op t x y _ => (match tdq T t, evA e x, evA e y with
    | .slice _, some v, some .nils => anil op v H K
    | _, _, _ => False)
  | .makeSlice t n c => (match evA e n, evA e c with | some n, some c => amakeR T H t n c K | _, _ => False)
  | .store t a x => (match evA e a, evA e x with | some a, some x => astoreR T H t a x K | _, _ => False)
  | .call { callee := .builtin .copy, args, argTypes } => (match args.toList, argTypes.toList with
    | [d, s], [t, _] => (match evA e d, evA e s with | some d, some s => acopy T H t d s K | _, _ => False)
    | _, _ => False)
  | .convert s d x => (match evA e x with | some v => aconvX T H s d v K | none => False)
  | .slice t x none (some hi) (some mx) => (match evA e x, evA e hi, evA e mx with | some v, some h, some m => aslice3 T H t v h m K | _, _, _ => False)
  | .makeInterface t x => (match tdq T t, evA e x with | .slice _, some _ => K .any H | .str, some _ => K .any H | _, _ => False)
  | _ => False

section
variable {P : Program} {C : Ctx} {R : PN} {w : World} {F Ob : Nat → Prop} {W0 : World} {A : PN} {H H' : AH} {n : Nat} {O : Nat → Prop} {σ : Names} {T : TypeId → Option TI}

theorem nb0_rep {x : AV} {v : Value} (h : Rep R w O x v) : Rep R w O (nb0 x) v := by
  cases h <;> first | exact .bool _ | (constructor <;> assumption)

theorem gp_quiet {o : Oper} {a : Act} {e : Env} {K : AV → AH → Prop} {cv : Value} (hrun : (execOp a.eval o).run P w = .ok (.value cv) w) {v : AV} (hE : ERel R w (Wr F R H) e a.tmps) (hK : K v H) (hH : HRel F Ob W0 R H w) (hv : Rep R w (Wr F R H) v cv) : o.wp P a w (GP F Ob W0 R H o a e K) NoWay :=
  gp_run hrun hE hK hH.len (fun _ _ => rfl) (Ext.refl _ _) hH (fun _ _ k => k) hv

theorem bin_exec {o : Oper} {a : Act} {op : BinOp} {t k : TypeId} {x y : Operand} (ho : o.op = .binOp op t x y k) {A1 : Option Addr} {n1 c1 : Nat} (hx : a.eval x = .slice A1 n1 c1) (hy : a.eval y = .slice none 0 0) {b : Bool}
    (hr : (binOp op t (.slice A1 n1 c1) (.slice none 0 0)).run P w = .ok (.bool b) w) : (execOp a.eval o).run P w = .ok (.value (.bool b)) w := by
  simp [execOp, ho, hx, hy, eqGuard, Sem.run_bind, hr]

theorem anil_ok (hT : TOK P T) {o : Oper} {a : Act} {e : Env} {K : AV → AH → Prop} {op : BinOp} {t k : TypeId} {x y : Operand} (ho : o.op = .binOp op t x y k) (h : xop T o.op e H K) (hH : HRel F Ob W0 R H w) (hE : ERel R w (Wr F R H) e a.tmps) : o.wp P a w (GP F Ob W0 R H o a e K) NoWay := by
  rw [ho] at h
  unfold xop at h
  simp only at h
  split at h
  · rename_i el v hd hx hy
    have hu := tdq_slice hT hd
    have hrx := evA_rep hE hx
    have hry := evA_rep hE hy
    generalize hgx : a.eval x = cx at hrx
    generalize hgy : a.eval y = cy at hry
    cases hry
    have rune : ∀ (A1 : Option Addr) (n1 c1 : Nat), a.eval x = .slice A1 n1 c1 → op = .eql → (execOp a.eval o).run P w = .ok (.value (.bool A1.isNone)) w := by
      intro A1 n1 c1 hx he
      subst he
      exact bin_exec ho hx hgy (Go.run_eql_slice_nil w t el A1 n1 c1 hu)
    have runn : ∀ (A1 : Option Addr) (n1 c1 : Nat), a.eval x = .slice A1 n1 c1 → op = .neq → (execOp a.eval o).run P w = .ok (.value (.bool (!A1.isNone))) w := by
      intro A1 n1 c1 hx he
      subst he
      exact bin_exec ho hx hgy (Go.run_neq_slice_nil w t el A1 n1 c1 hu)
    unfold anil at h
    split at h
    · cases hrx; exact gp_quiet (rune _ _ _ hgx rfl) hE h hH .tru
    · cases hrx with
      | roinil => exact gp_quiet (rune _ _ _ hgx rfl) hE (h true fun _ => rfl) hH (.bool _)
      | roi => exact gp_quiet (rune _ _ _ hgx rfl) hE (h false fun k => by cases k) hH (.bool _)
      | roiz => exact gp_quiet (rune _ _ _ hgx rfl) hE (h false fun k => by cases k) hH (.bool _)
    · cases hrx with
      | ronil => exact gp_quiet (rune _ _ _ hgx rfl) hE (h true fun _ => rfl) hH (.bool _)
      | ro => exact gp_quiet (rune _ _ _ hgx rfl) hE (h false fun k => by cases k) hH (.bool _)
      | roz => exact gp_quiet (rune _ _ _ hgx rfl) hE (h false fun k => by cases k) hH (.bool _)
    · cases hrx with
      | slnil => exact gp_quiet (rune _ _ _ hgx rfl) hE (h true fun _ => rfl) hH (.bool _)
      | sl => exact gp_quiet (rune _ _ _ hgx rfl) hE (h false fun k => by cases k) hH (.bool _)
    · cases hrx; exact gp_quiet (runn _ _ _ hgx rfl) hE h hH .fls
    · cases hrx with
      | roinil => exact gp_quiet (runn _ _ _ hgx rfl) hE (h false fun _ => rfl) hH (.bool _)
      | roi => exact gp_quiet (runn _ _ _ hgx rfl) hE (h true fun k => by cases k) hH (.bool _)
      | roiz => exact gp_quiet (runn _ _ _ hgx rfl) hE (h true fun k => by cases k) hH (.bool _)
    · cases hrx with
      | ronil => exact gp_quiet (runn _ _ _ hgx rfl) hE (h false fun _ => rfl) hH (.bool _)
      | ro => exact gp_quiet (runn _ _ _ hgx rfl) hE (h true fun k => by cases k) hH (.bool _)
      | roz => exact gp_quiet (runn _ _ _ hgx rfl) hE (h true fun k => by cases k) hH (.bool _)
    · cases hrx with
      | slnil => exact gp_quiet (runn _ _ _ hgx rfl) hE (h false fun _ => rfl) hH (.bool _)
      | sl => exact gp_quiet (runn _ _ _ hgx rfl) hE (h true fun k => by cases k) hH (.bool _)
    · exact h.elim
  · exact h.elim

theorem run_copyOp {o : Oper} {a : Act} {d s : Operand} {t t' : TypeId} (ho : o.op = .call { callee := .builtin .copy, args := #[d, s], argTypes := #[t, t'] }) {cv : Value} {w' : World}
    (hr : (Builtin.copy_ #[t, t'] o.type #[a.eval d, a.eval s]).run P w = .ok cv w') : (execOp a.eval o).run P w = .ok (.value cv) w' := by
  simp [execOp, ho, resolve, invoke, builtin, Sem.run_bind, hr]

theorem setRow_ext {b : Nat} {cs cur : Array Value} {t : TypeId} {fr : Nat × Nat} (hw : w.heap[b]? = some (.cells cur t fr)) (hsz : cs.size = cur.size) : Ext (fun g => g = b) w (w.setRow b cs) := by
  refine ⟨rfl, rfl, rfl, by simp [World.setRow], fun k hk hn => setRow_other w b k cs hn, fun k s hs => ?_⟩
  by_cases hkb : k = b
  · subst hkb
    have h1 := setRow_heap w k cur cs t fr hw
    unfold World.shape? at hs ⊢
    rw [hw] at hs
    rw [h1]
    simpa [hsz] using hs
  · rw [shape_of_block (setRow_other w b k cs hkb)]; exact hs

theorem acopy_ok (hT : TOK P T) {o : Oper} {a : Act} {e : Env} {K : AV → AH → Prop} {args : Array Operand} {ts : Array TypeId} (ho : o.op = .call { callee := .builtin .copy, args, argTypes := ts }) (h : xop T o.op e H K) (hH : HRel F Ob W0 R H w) (hE : ERel R w (Wr F R H) e a.tmps) : o.wp P a w (GP F Ob W0 R H o a e K) NoWay := by
  rw [ho] at h
  unfold xop at h
  simp only at h
  split at h
  · rename_i d s t t' hargs hts
    obtain rfl : args = #[d, s] := by rw [← Array.toArray_toList (xs := args), hargs]
    obtain rfl : ts = #[t, t'] := by rw [← Array.toArray_toList (xs := ts), hts]
    split at h
    · rename_i vd vs hvd hvs
      have hrd := evA_rep hE hvd
      have hrs := evA_rep hE hvs
      unfold acopy at h
      split at h
      · rename_i el hd
        have hu := tdq_slice hT hd
        split at h
        · rename_i j off m hsz
          have hs1 : (P.info? el).map (·.size) = some 1 := by
            unfold szOf at hsz
            obtain ⟨i, hi, he⟩ := opt_map hsz
            obtain ⟨inf, ds, z, g1, g2, g3, rfl⟩ := probe_inv (hT _ i hi)
            rw [g1]; simpa using he
          split at h
          · rename_i e' k l hl
            split at h
            · rename_i obs xs hxs
              obtain ⟨hob, hle, hK⟩ := obl_inv h
              obtain ⟨xa, xc, hcs, hnil, hcell⟩ := intsOfA_ok hH hxs hob hrs
              generalize hgd : a.eval d = cd at hrd
              have hmin : Nat.min xs.length m = ((xs.take (Nat.min xs.length m)).map (Value.int k)).length := by
                rw [List.length_map, List.length_take]
                show min xs.length m = min (min xs.length m) xs.length
                omega
              have nothing : Nat.min xs.length m = 0 → o.wp P a w (GP F Ob W0 R H o a e K) NoWay := by
                intro hz
                have hrun : (execOp a.eval o).run P w = .ok (.value (goInt 0)) w := by
                  refine run_copyOp ho ?_
                  rw [hgd, hcs]
                  cases hrd with
                  | slnil => exact run_copy_none w t t' o.type el _ _ _ _ _ _ hu hs1 hz
                  | sl => exact run_copy_none w t t' o.type el _ _ _ _ _ _ hu hs1 hz
                rw [hz] at hK
                simp only [List.take_zero, List.nil_append, Nat.add_zero, List.take_append_drop] at hK
                obtain ⟨c1, c2⟩ := hH.congr (H' := H.set j (.ints e' k l)) rfl (fun i => by
                  rw [get_set]
                  by_cases hij : j = i
                  · subst hij; rw [if_pos rfl, hl]
                  · rw [if_neg hij])
                exact gp_run hrun hE hK hH.len (fun _ _ => rfl) (Ext.refl _ _) c1 (fun g _ k => (c2 g).1 k) (.int _ _)
              cases hrd with
              | slnil => exact nothing (by simp)
              | sl _ _ _ _ b c off0 sh hR hn hc hof hss hl0 =>
                by_cases hz : Nat.min xs.length m = 0
                · exact nothing hz
                obtain ⟨vs', fr, g1, g2, g3, g4⟩ := ent_ints hH hl hR
                have hz' : ¬ min xs.length m = 0 := hz
                have hm : 0 < m := by omega
                have hxl : 0 < xs.length := by omega
                have h0 := hof (by omega)
                rw [Nat.mul_one] at h0
                replace h0 := h0.symm
                subst h0
                obtain ⟨ad, rfl⟩ : ∃ ad, xa = some ad := by
                  cases xa with
                  | none => have := hnil rfl; omega
                  | some ad => exact ⟨ad, rfl⟩
                have hmm : Nat.min xs.length m ≤ m := Nat.min_le_right _ _
                have hfit : off + ((xs.take (Nat.min xs.length m)).map (Value.int k)).length ≤ vs'.toArray.size := by rw [← hmin]; simp; omega
                obtain ⟨w', s1, s2, hx⟩ := store_block (P := P) b e' ((xs.take (Nat.min xs.length m)).map (Value.int k)) off 0 vs' w g1 g2 (by rw [Nat.add_zero]; simpa using hfit) (fun v hv => by obtain ⟨z, _, rfl⟩ := List.mem_map.1 hv; rfl)
                have hr := run_copy_row_w (P := P) t t' o.type el b off m c ad xs.length xc ((xs.take (Nat.min xs.length m)).map (Value.int k)) hu hs1 hmin.symm (fun i v hv => by
                  refine hcell ad rfl i v ?_
                  rw [List.getElem?_map] at hv ⊢
                  obtain ⟨z, hz, rfl⟩ := opt_map hv
                  have hi : i < Nat.min xs.length m := by have := (List.getElem?_eq_some_iff.1 hz).1; simp at this; omega
                  rw [List.getElem?_take_of_lt hi] at hz
                  rw [hz]; rfl) s1
                rw [← hmin] at hr
                have hrun := run_copyOp ho (a := a) (by rw [hgd, hcs]; exact hr)
                have s2' : w'.heap[b]? = some (.cells (vs'.toArray.toList.take off ++ (xs.take (Nat.min xs.length m)).map (Value.int k) ++ vs'.toArray.toList.drop (off + Nat.min xs.length m)).toArray e' fr) := by
                  have := s2
                  rw [← hmin, Nat.add_zero] at this
                  exact this
                obtain ⟨p1, p2⟩ := hH.upd (en := .ints e' k (l.take off ++ (xs.take (Nat.min xs.length m) ++ l.drop (off + Nat.min xs.length m)))) hl hR hx (by
                  refine ⟨_, fr, s2', nf_ext g1 s2' hx g2, ?_, fun i z hi => ?_⟩
                  · simp only [List.length_append, List.length_take, List.length_drop, List.length_map, List.toList_toArray]
                    have e3 : min (Nat.min xs.length m) xs.length = Nat.min xs.length m := by show min (min xs.length m) xs.length = min xs.length m; omega
                    omega
                  · have e1 : (vs'.toArray.toList.take off).length = off := by simp; omega
                    have e2 : (l.take off).length = off := by simp; omega
                    have e3 : (xs.take (Nat.min xs.length m)).length = Nat.min xs.length m := by
                      rw [List.length_take]
                      show min (min xs.length m) xs.length = min xs.length m
                      omega
                    rw [List.append_assoc]
                    rw [List.getElem?_append] at hi ⊢
                    rw [e1]; rw [e2] at hi
                    split at hi
                    · rename_i hlt
                      rw [if_pos hlt, List.getElem?_take_of_lt hlt]
                      rw [List.getElem?_take_of_lt hlt] at hi
                      exact g4 i z hi
                    · rename_i hge
                      rw [if_neg hge]
                      rw [List.getElem?_append] at hi ⊢
                      rw [List.length_map, e3]; rw [e3] at hi
                      split at hi
                      · rename_i hlt
                        rw [if_pos hlt, List.getElem?_map, hi]; rfl
                      · rename_i hge2
                        rw [if_neg hge2, List.getElem?_drop]
                        rw [List.getElem?_drop] at hi
                        exact g4 _ z hi)
                exact gp_run hrun hE hK hH.len (fun _ _ => rfl) (hx.weaken fun g _ k => by subst k; exact .inr ⟨j, _, hl, hR⟩) p1 (fun g _ k => (p2 g).1 k) (.int _ _)
            · exact h.elim
          · exact h.elim
        · exact h.elim
      · exact h.elim
    · exact h.elim
  · exact h.elim

theorem amakeR_ok (hT : TOK P T) {o : Oper} {a : Act} {e : Env} {K : AV → AH → Prop} {t : TypeId} {x y : Operand} (ho : o.op = .makeSlice t x y) (h : xop T o.op e H K) (hH : HRel F Ob W0 R H w) (hE : ERel R w (Wr F R H) e a.tmps) :
    o.wp P a w (GP F Ob W0 R H o a e K) NoWay := by
  rw [ho] at h
  unfold xop at h
  simp only at h
  split at h
  · rename_i an ac hn hc
    have hrn := evA_rep hE hn
    have hrc := evA_rep hE hc
    unfold amakeR at h
    split at h
    · rename_i el kn n kc c hd
      have hu := tdq_slice hT hd
      split at h
      · rename_i i hi
        obtain ⟨inf, ds, z, g1, g2, g3, rfl⟩ := probe_inv (hT _ i hi)
        simp only at h
        split at h
        · rename_i z0 hzz
          replace h := bif_true h; obtain ⟨h1, h⟩ := h
          simp only [Bool.and_eq_true] at h1
          obtain ⟨⟨h1, h2⟩, h3⟩ := h1
          have hs1 := beq_iff.1 h1
          obtain ⟨⟨k0, k1, k2, k3⟩, hK⟩ := h
          generalize hgx : a.eval x = cx at hrn
          generalize hgy : a.eval y = cy at hrc
          cases hrn; cases hrc
          have hzc : z.cells = #[z0] := by
            have : z.cells.toList = [z0] := hzz
            rw [← Array.toArray_toList (xs := z.cells), this]
          have hone := rep_one (ofVal1_rep (R := noN) (w := w) (O := Wr F R H) z0) h3
          have cells : ((Array.range (c.toNat * 1)).map fun j => (#[z0] : Array Value)[j % 1]!) = (List.replicate c.toNat z0).toArray := by
            apply Array.ext
            · simp
            · intro j h1 h2
              simp [Nat.mod_one]
          have hx := Ext.alloc (fun _ => False) w (.cells (List.replicate c.toNat z0).toArray el)
          have hrun : (execOp a.eval o).run P w = .ok (.value (.slice (some ⟨w.heap.size, 0, none⟩) n.toNat c.toNat)) (w.alloc (.cells (List.replicate c.toNat z0).toArray el)) := by
            have hr := run_make (P := P) w t el inf z hu g1 g3 kn kc n c k0 k1 (by rw [Int.mul_comm]; omega) (by omega)
            have e1 : madeCells z.cells (c.toNat * inf.size) = (List.replicate c.toNat z0).toArray := by
              rw [hs1, hzc]
              simpa [madeCells] using cells
            rw [e1] at hr
            simp [execOp, ho, hgx, hgy, Sem.run_bind, hr]
          obtain ⟨p1, p2⟩ := hH.push (b := some w.heap.size) (en := .recs el 1 n.toNat (fun _ => nb0 (ofVal1 z0))) hx (fun g hg => by cases hg; exact Nat.le_refl _) (fun O' hO' =>
            ⟨List.replicate c.toNat z0, (0, 0), fun _ => z0, by rw [heap_push], nf0 _, by simp; omega, fun j hj => ⟨by rw [hone.1]; rfl, (nb0_rep (nl0_rep (ofVal1_rep (R := noN) (w := w) (O := Wr F R H) z0) h2 noN)).mono (fun _ _ k => k) (Ext.alloc _ w _) hO'⟩, fun j hj f hf => by
              obtain rfl : f = 0 := by omega
              refine ⟨z0, ?_, by rw [hone.1]; rfl, hone.2⟩
              rw [List.getElem?_replicate, if_pos (by omega)]⟩)
          refine gp_run hrun hE hK hH.len (fun i hi => pre_nx _ i hi) (Ext.alloc _ w _) p1 p2 (.sl _ _ _ _ w.heap.size c.toNat 0 (el, c.toNat) (by exact app_last _ _ _) (by omega) (by simp only [maxLen]; omega) (fun _ => by simp) (by unfold World.shape?; rw [heap_push]; simp) (by simp))
        · exact h.elim
      · exact h.elim
    · exact h.elim
  · exact h.elim

theorem astoreR_ok (hT : TOK P T) {o : Oper} {a : Act} {e : Env} {K : AV → AH → Prop} {t : TypeId} {x y : Operand} (ho : o.op = .store t x y) (h : xop T o.op e H K) (hH : HRel F Ob W0 R H w) (hE : ERel R w (Wr F R H) e a.tmps) : o.wp P a w (GP F Ob W0 R H o a e K) NoWay := by
  rw [ho] at h
  unfold xop at h
  simp only at h
  split at h
  · rename_i ax ay hax hay
    have hrx := evA_rep hE hax
    have hry := evA_rep hE hay
    unfold astoreR at h
    split at h
    · rename_i i j hs
      split at h
      · rename_i el n get hl
        replace h := bif_true h; obtain ⟨h1, h⟩ := h
        rw [Bool.and_eq_true] at h1
        obtain ⟨hj, hK⟩ := h
        have hso := szOf_inv (w := w) hT hs
        have hone := rep_one hry h1.2
        generalize hg : a.eval x = cx at hrx
        cases hrx with | eptr _ _ _ _ b hR =>
        obtain ⟨vs, fr, vals, g1, g2, g3, g4, g5⟩ := ent_recs hH hl hR
        obtain ⟨w', k1, k2, k3⟩ := store_block (P := P) b el [a.eval y] j 0 vs w g1 g2 (by simp; omega) (by simp; exact hone.2)
        have hxw : Ext (Wr F R H) w w' := k3.weaken fun g _ k => by subst k; exact .inr ⟨i, _, hl, hR⟩
        refine upd_run ho (by rw [hg]) (by rw [hg]; refine run_storeAt hso (by rw [hone.1]; rfl) ?_; rw [hone.1]; simpa using k1) hH hE hl hR k3 ?_ hK
        have hOO : ∀ g, g < w.heap.size → Wr F R (H.set i (.recs el 1 n (fun m => if m = j then nb0 ay else get m))) g → Wr F R H g := fun g _ k => k.imp id (own_set hl g).1
        refine ⟨_, fr, fun m => if m = j then a.eval y else vals m, k2, nf_ext g1 k2 k3 g2, by simp at g3 ⊢; omega, fun m hm => ?_, fun m hm f hf => ?_⟩
        · by_cases hmj : m = j
          · simp only [if_pos hmj]
            exact ⟨by rw [hone.1]; rfl, (nb0_rep (nl0_rep hry h1.1 noN)).mono (fun _ _ k => k) hxw hOO⟩
          · simp only [if_neg hmj]
            exact ⟨(g4 m hm).1, (g4 m hm).2.mono (fun _ _ k => k) hxw hOO⟩
        · obtain rfl : f = 0 := by omega
          obtain ⟨v, q1, q2, q3⟩ := g5 m hm 0 (by omega)
          simp only [Nat.mul_one, Nat.add_zero] at q1 ⊢
          simp only [List.length_cons, List.length_nil, Nat.zero_add, List.append_assoc]
          by_cases hmj : m = j
          · subst hmj
            refine ⟨a.eval y, ?_, by simp only [if_pos]; rw [hone.1]; rfl, hone.2⟩
            rw [List.getElem?_append_right (by simp; omega)]
            have : m - (List.take m vs).length = 0 := by simp; omega
            rw [this]; rfl
          · refine ⟨v, ?_, by simp only [if_neg hmj]; exact q2, q3⟩
            rw [List.getElem?_append]
            split
            · rename_i hlt
              rw [List.getElem?_take_of_lt (by simp at hlt; omega)]
              exact q1
            · rename_i hge
              have hge : ¬ m < j := by simp at hge g3; omega
              have e0 : (List.take j vs).length = j := by simp at g3 ⊢; omega
              rw [e0, List.getElem?_append_right (by simp; omega), List.getElem?_drop]
              have : j + 1 + (m - j - [a.eval y].length) = m := by simp; omega
              rw [this]
              exact q1
      · exact h.elim
    · exact h.elim
  · exact h.elim

theorem fold_push (ns : List Int) : ∀ s : ByteArray, ns.foldl (fun r n => r.push (UInt8.ofNat n.toNat)) s = ⟨(s.data.toList ++ ns.map fun n => UInt8.ofNat n.toNat).toArray⟩ := by
  induction ns with
  | nil => intro s; simp
  | cons n ns ih =>
    intro s
    rw [List.foldl_cons, ih]
    simp [ByteArray.push]
theorem freeze_facts {b : Nat} {vs : Array Value} {t : TypeId} {fr : Nat × Nat} (hw : w.heap[b]? = some (.cells vs t fr)) (a : Nat) :
    ∃ fr', (w.freeze ⟨b, a, none⟩ 1).heap[b]? = some (.cells vs t fr') ∧ Ext (fun g => g = b) w (w.freeze ⟨b, a, none⟩ 1) := by
  obtain ⟨lo, hi⟩ := fr
  have hb : ∃ fr', (w.freeze ⟨b, a, none⟩ 1).heap[b]? = some (.cells vs t fr') := by
    unfold World.freeze
    rw [if_neg (by decide)]
    simp only [Array.getElem?_modify, if_pos, hw, Option.map_some]
    exact ⟨_, rfl⟩
  have ho : ∀ g, g ≠ b → (w.freeze ⟨b, a, none⟩ 1).heap[g]? = w.heap[g]? := by
    intro g hg
    unfold World.freeze
    rw [if_neg (by decide)]
    simp only [Array.getElem?_modify]
    rw [if_neg (fun h => hg h.symm)]
  obtain ⟨fr', hb⟩ := hb
  refine ⟨fr', hb, ⟨rfl, rfl, rfl, by unfold World.freeze; rw [if_neg (by decide)]; simp, fun g _ hn => ho g hn, fun g s hs => ?_⟩⟩
  by_cases hg : g = b
  · subst hg
    unfold World.shape? at hs ⊢
    rw [hw] at hs
    rw [hb]
    exact hs
  · rw [shape_of_block (ho g hg)]; exact hs
theorem run_conv_self {s es : TypeId} (hs : P.underlying s = some (.slice es)) (he : P.underlying es = some (.int .u8)) {b off n c : Nat} {sh : TypeId × Nat} (hsh : w.shape? b = some sh) :
    (convert s s (.slice (some ⟨b, off, none⟩) n c)).run P w = .ok (.slice (some ⟨b, off, none⟩) n c) (w.freeze ⟨b, sh.2, none⟩ 1) := by
  obtain ⟨t, m⟩ := sh
  simp [convert, run_underlying hs, run_underlying he, markStringish, hsh]
/-- An entry is given up, its block turned. -/
theorem HRel.give {w' : World} (hH : HRel F Ob W0 R H w) {i b : Nat} {e : Ent} (hi : H.get i = some e) (hb : R[i]? = some (some b)) (hx : Ext (fun g => g = b) w w') : HRel F Ob W0 R (H.del i) w' ∧ ∀ g, Wr F R (H.del i) g → Wr F R H g := by
  have hget : ∀ {j e}, (H.del i).get j = some e → j ≠ i ∧ H.get j = some e := by
    intro j e hj
    rw [get_del] at hj
    split at hj
    · cases hj
    · rename_i h; exact ⟨fun k => h k.symm, hj⟩
  have hown : ∀ g, Own R (H.del i) g → Own R H g := fun g ⟨j, e, hj, hR⟩ => ⟨j, e, (hget hj).2, hR⟩
  have hwr : ∀ g, Wr F R (H.del i) g → Wr F R H g := fun g h => h.imp id (hown g)
  have hbo : Own R H b := ⟨i, e, hi, hb⟩
  refine ⟨⟨hH.len, hH.ext.trans hx (fun x hx' k => ?_), hH.fb, fun g hg => hH.own g (hown g hg), fun j e' hj => ?_, fun j k e1 e2 g hj hk h1 h2 => hH.dis j k e1 e2 g (hget hj).2 (hget hk).2 h1 h2⟩, hwr⟩
  · subst k
    rcases hH.own x hbo with h | h
    · exact h
    · omega
  · obtain ⟨hne, hj⟩ := hget hj
    obtain ⟨c, hc, he⟩ := hH.ent j e' hj
    refine ⟨c, hc, Ent.holds_mono he (fun _ _ k => k) (hx.weaken fun g _ k => by subst k; exact .inr hbo) (fun g _ k => hwr g k) fun g hg => ?_⟩
    subst hg
    refine hx.blk g (Ent.lt he) fun k => ?_
    subst k
    exact hne (hH.dis j i e' e g hj hi hc hb)

theorem aconvX_ok (hT : TOK P T) {o : Oper} {a : Act} {e : Env} {K : AV → AH → Prop} {s d : TypeId} {x : Operand} (ho : o.op = .convert s d x) (h : xop T o.op e H K) (hH : HRel F Ob W0 R H w) (hE : ERel R w (Wr F R H) e a.tmps) : o.wp P a w (GP F Ob W0 R H o a e K) NoWay := by
  rw [ho] at h
  unfold xop at h
  simp only at h
  split at h
  · rename_i v hv
    have hrv := evA_rep hE hv
    unfold aconvX at h
    split at h
    · rename_i es hds hdd
      have hus := tdq_slice hT hds
      obtain ⟨dd, hud, hdb⟩ := und_td hT hdd (by simp)
      split at h
      · rename_i hde
        obtain ⟨de, hue, hdeb⟩ := und_td hT hde (by simp)
        split at h
        · rename_i obs l hl
          obtain ⟨hob, hK⟩ := obl_inv h
          obtain ⟨xa, xc, hcv, hnil, hcell⟩ := intsOfA_ok hH hl hob hrv
          have hud' : P.underlying d = some .string := by cases hdb; exact hud
          have hue' : P.underlying es = some (.int .u8) := by cases hdeb; exact hue
          have hrun : (execOp a.eval o).run P w = .ok (.value (.string ⟨(l.map fun n => UInt8.ofNat n.toNat).toArray⟩)) w := by
            have hc : (convert s d (a.eval x)).run P w = .ok (.string ⟨(l.map fun n => UInt8.ofNat n.toNat).toArray⟩) w := by
              rw [hcv, run_convert_bytes_string w s d es xa l.length xc hus hue' hud']
              cases xa with
              | none =>
                have : l = [] := List.length_eq_zero_iff.1 (hnil rfl)
                subst this
                rfl
              | some ad =>
                have hld := run_loadCells_list (P := P) w ad (l.map (Value.int .u8)) (hcell ad rfl)
                rw [List.length_map] at hld
                rw [run_bytesToString w ad l.length xc l hld, fold_push]
                rfl
            simp [execOp, ho, Sem.run_bind, hc]
          exact gp_quiet hrun hE hK hH (.str _)
        · exact h.elim
      · exact h.elim
    · rename_i es ed hds hdd
      have hus := tdq_slice hT hds
      split at h
      · rename_i i off n hde
        obtain ⟨de, hue, hdeb⟩ := und_td hT hde (by simp)
        replace h := bif_true h; obtain ⟨hsd, h⟩ := h
        have := beq_iff.1 hsd
        subst this
        have hee : es = ed := by rw [hds] at hdd; cases hdd; rfl
        subst hee
        have hue' : P.underlying es = some (.int .u8) := by cases hdeb; exact hue
        split at h
        · rename_i e' l hl
          obtain ⟨⟨hn0, hle⟩, hK⟩ := h
          generalize hgx : a.eval x = cx at hrv
          cases hrv with
          | slnil => omega
          | sl _ _ _ _ b c off0 sh hR hn hc hof hss hl0 =>
            obtain ⟨vs, fr, g1, g2, g3, g4⟩ := ent_ints hH hl hR
            have h0 := hof (by omega)
            rw [Nat.mul_one] at h0
            replace h0 := h0.symm
            subst h0
            obtain ⟨fr', k1, k2⟩ := freeze_facts g1 sh.2
            obtain ⟨p1, p2⟩ := hH.give hl hR k2
            have hbo : Own R H b := ⟨i, _, hl, hR⟩
            have hrun : (execOp a.eval o).run P w = .ok (.value (.slice (some ⟨b, off, none⟩) n c)) (w.freeze ⟨b, sh.2, none⟩ 1) := by
              have hc := run_conv_self (P := P) (w := w) hus hue' (off := off) (n := n) (c := c) hss
              simp [execOp, ho, hgx, Sem.run_bind, hc]
            have hlen : ((l.drop off).take n).length = n := by simp; omega
            refine gp_run hrun hE hK hH.len (fun _ _ => rfl) (k2.weaken fun g _ k => by subst k; exact .inr hbo) p1 (fun g _ k => p2 g k) ?_
            have := Rep.roi (R := R) (w := w.freeze ⟨b, sh.2, none⟩ 1) (O := Wr F R (H.del i)) .u8 ((l.drop off).take n) b off c (by omega) hc ?_ ?_ ?_
            · rw [hlen] at this; exact this
            · rintro (hf | ⟨j, e2, hj, hRj⟩)
              · have := hH.fb.1 b hf
                rcases hH.own b hbo with k | k
                · exact this.2 k
                · omega
              · rw [get_del] at hj
                split at hj
                · cases hj
                · rename_i hne
                  exact hne (hH.dis i j _ e2 b hl hj hR hRj)
            · exact (Array.getElem?_eq_some_iff.1 k1).1
            · intro j z hz
              have hj : j < n := by have := (List.getElem?_eq_some_iff.1 hz).1; omega
              rw [List.getElem?_take_of_lt hj, List.getElem?_drop] at hz
              rw [cell_of_heap k1]
              exact g4 _ z hz
        · exact h.elim
      · exact h.elim
    · exact h.elim
  · exact h.elim

theorem aslice3_ok (hT : TOK P T) {o : Oper} {a : Act} {e : Env} {K : AV → AH → Prop} {t : TypeId} {x hi mx : Operand} (ho : o.op = .slice t x none (some hi) (some mx)) (h : xop T o.op e H K) (hH : HRel F Ob W0 R H w) (hE : ERel R w (Wr F R H) e a.tmps) :
    o.wp P a w (GP F Ob W0 R H o a e K) NoWay := by
  rw [ho] at h
  unfold xop at h
  simp only at h
  split at h
  · rename_i v vh vm hv hh hm
    have hrv := evA_rep hE hv
    have hrh := evA_rep hE hh
    have hrm := evA_rep hE hm
    unfold aslice3 at h
    split at h
    · rename_i el i sz off n kh na km nb hd
      have hu := tdq_slice hT hd
      split at h
      · rename_i s hs
        replace h := bif_true h; obtain ⟨hb, h⟩ := h
        have := beq_iff.1 hb
        subst this
        obtain ⟨⟨h0, h1, h2⟩, hK⟩ := h
        have he : P.elem t = el := by simp [Program.elem, hu]
        generalize hgx : a.eval x = cx at hrv
        generalize hgh : a.eval hi = ch at hrh
        generalize hgm : a.eval mx = cm at hrm
        cases hrh; cases hrm
        have hrun : ∀ (A : Option Addr) (c : Nat), a.eval x = .slice A n c → n ≤ c → (execOp a.eval o).run P w = .ok (.value (sliced A 0 na.toNat nb.toNat s)) w := by
          intro A c hx hc
          have hr := run_slice_hm (P := P) w t A n c (by rw [he]; exact hu) kh km na nb h0 h1 (by omega)
          rw [he, szOf_inv hT hs] at hr
          simp only [Result.andThen] at hr
          have hr2 := (run_sliceAt (P := P) (w := w) hu (by simp) (.slice A n c) none (some (.int kh na)) (some (.int km nb))).trans hr
          simp [execOp, ho, hx, hgh, hgm, Sem.run_bind, hr2]
        cases hrv with
        | slnil _ _ _ hR =>
          obtain rfl : nb = 0 := by omega
          obtain rfl : na = 0 := by omega
          refine gp_quiet (hrun none 0 hgx (Nat.le_refl _)) hE hK hH ?_
          simp only [sliced, Int.toNat_zero, if_pos]
          exact .slnil _ _ _ hR
        | sl _ _ _ _ b c offc sh hR hn hc hof hss hl =>
          refine gp_quiet (hrun (some ⟨b, offc, none⟩) c hgx hn) hE hK hH ?_
          have e1 : sliced (some ⟨b, offc, none⟩) 0 na.toNat nb.toNat s = .slice (some ⟨b, offc, none⟩) na.toNat nb.toNat := by
            unfold sliced
            split <;> simp [Addr.add]
          rw [e1]
          have hm : nb.toNat * s ≤ c * s := Nat.mul_le_mul_right _ (by omega)
          exact .sl _ _ _ _ b nb.toNat offc sh hR (by omega) (by omega) (fun h => hof (by omega)) hss (by omega)
      · exact h.elim
    · exact h.elim
  · exact h.elim
theorem mkIface_ok (hT : TOK P T) {o : Oper} {a : Act} {e : Env} {K : AV → AH → Prop} {t : TypeId} {x : Operand} (ho : o.op = .makeInterface t x) (h : xop T o.op e H K) (hH : HRel F Ob W0 R H w) (hE : ERel R w (Wr F R H) e a.tmps) :
    o.wp P a w (GP F Ob W0 R H o a e K) NoWay := by
  rw [ho] at h
  unfold xop at h
  simp only at h
  split at h
  · rename_i el v hd hv
    have hu := tdq_slice hT hd
    refine gp_quiet (cv := .iface t (a.eval x)) ?_ hE h hH (.any _)
    simp [execOp, ho, Instr.makeInterface, run_underlying hu, Sem.run_bind]
  · rename_i v hd hv
    have hu := tdq_str hT hd
    refine gp_quiet (cv := .iface t (a.eval x)) ?_ hE h hH (.any _)
    simp [execOp, ho, Instr.makeInterface, run_underlying hu, Sem.run_bind]
  · exact h.elim

/-- The further operations do what is said of them. -/
theorem xok (hT : TOK P C.T) (hC : C.X = xop C.T) : XOK P C := by
  intro o a e F Ob W0 R H w K h hH hE
  rw [hC] at h
  have h0 := h
  unfold xop at h
  split at h
  · rename_i ho; exact anil_ok hT ho h0 hH hE
  · rename_i ho; exact amakeR_ok hT ho h0 hH hE
  · rename_i ho; exact astoreR_ok hT ho h0 hH hE
  · rename_i ho; exact acopy_ok hT ho h0 hH hE
  · rename_i ho; exact aconvX_ok hT ho h0 hH hE
  · rename_i ho; exact aslice3_ok hT ho h0 hH hE
  · rename_i ho; exact mkIface_ok hT ho h0 hH hE
  · exact h.elim
end
end Go.Proofs.Ytdiflkabpjnncaa
