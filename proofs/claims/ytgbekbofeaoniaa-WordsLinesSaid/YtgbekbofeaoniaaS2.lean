/- Texts laid together. No condition. -/
import Derived.Test.YtgbekbofeaoniaaS1
set_option maxRecDepth 100000
set_option maxHeartbeats 4000000
set_option linter.unusedVariables false
set_option linter.unusedSimpArgs false
namespace Go.Proofs.Ytgbekbofeaoniaa
open Go Go.RowKit
def nilB (o : Op) (e : Env) : Bool := match o with
  | .call { callee := .builtin .append, args, argTypes } => (match args.toList with
    | [d, s] => (match evA e d, evA e s with | some .nils, some (.str _) => true | _, _ => false)
    | _ => false)
  | _ => false
def appN (T : TypeId → Option TI) (H : AH) (t t' : TypeId) (z : List UInt8) (K : AV → AH → Prop) : Prop :=
  match tdq T t, tdq T t' with
  | .slice el, .str => (match T el, tdq T el with
    | some i, .int .u8 => bif Nat.beq i.sz 1 && Nat.beq i.by_ 1 && Nat.beq i.zero.length 1 then
        ((0 < z.length ∧ z.length ≤ 140737488355328) ∧ K (.sl H.nx 1 0 z.length) (H.push (.ints el .u8 (z.map fun c => (c.toNat : Int))))) else False
    | _, _ => False)
  | _, _ => False
noncomputable def appXN (T : TypeId → Option TI) (o : Op) (e : Env) (H : AH) (K : AV → AH → Prop) : Prop := match o with
  | .call { callee := .builtin .append, args, argTypes } => (match args.toList, argTypes.toList with
    | [d, s], [t, t'] => (match evA e d, evA e s with | some .nils, some (.str z) => appN T H t t' z K | _, _ => False)
    | _, _ => False)
  | _ => False
noncomputable def xop6 (T : TypeId → Option TI) (o : Op) (e : Env) (H : AH) (K : AV → AH → Prop) : Prop := match nilB o e with
  | true => appXN T o e H K
  | false => xop5 T o e H K
theorem run_append_nil_string {P : Program} {w : World} (t u ty e : TypeId) (i : TypeInfo) (z : Value) (ht : P.underlying t = some (.slice e)) (hu : P.underlying u = some .string) (hi : P.info? e = some i) (hz : i.zero = some z)
    (s : ByteArray) (hg : 0 < s.size) (h63 : ((s.size : Nat) : Int) ≤ 9223372036854775807) (hfit : Builtin.nextslicecap s.size 0 * i.bytes ≤ 281474976710656) :
    (Builtin.append_ #[t, u] ty #[.slice none 0 0, .string s]).run P w =
      .ok (.slice (some ⟨w.heap.size, 0, none⟩) s.size (grownCap w s.size 0 e))
        (w.drew.alloc (.cells ((Lib.strCells s).toArray ++ Builtin.zeroCells z.cells (grownCap w s.size 0 e - s.size)) e)) := by
  have hn : ¬ (s.size ≤ 0) := by omega
  have hn2 : ¬ s.size = 0 := by omega
  have h63' : ¬ (9223372036854775807 < (s.size : Int)) := by omega
  have h48' : ¬ (281474976710656 < Builtin.nextslicecap s.size 0 * i.bytes) := by omega
  have hf := Lib.run_firstCells_string (P := P) w.drew i.size s
  simp [Builtin.append_, run_underlying ht, run_underlying hu, sizeOf, typeInfo, zeroValue, hi, hz, Builtin.lenOf, hn, hn2, h63', h48', Question.forced, hf, Builtin.firstCells, newRow, grownCap]
  have hx : (Array.map (fun b : UInt8 => Value.int IntKind.u8 (b.toNat : Int)) s.data).extract 0 s.size = (Lib.strCells s).toArray := by
    have e1 : s.size = (Array.map (fun b : UInt8 => Value.int IntKind.u8 (b.toNat : Int)) s.data).size := by rw [Array.size_map]; rfl
    rw [e1, Array.extract_size]
    apply Array.ext'
    simp [Lib.strCells]
  rw [hx]
section
variable {P : Program} {F Ob : Nat → Prop} {W0 : World} {R : PN} {H : AH} {w : World} {T : TypeId → Option TI}
theorem appXN_ok (hT : TOK P T) {o : Oper} {a : Act} {e : Env} {K : AV → AH → Prop} {args : Array Operand} {ts : Array TypeId} (ho : o.op = .call { callee := .builtin .append, args, argTypes := ts }) (h : appXN T o.op e H K) (hH : HRel F Ob W0 R H w) (hE : ERel R w (Wr F R H) e a.tmps) : o.wp P a w (GP F Ob W0 R H o a e K) NoWay := by
  rw [ho] at h
  unfold appXN at h
  simp only at h
  split at h
  rotate_left
  · exact h.elim
  rename_i d s t t' hargs hts
  obtain rfl : args = #[d, s] := by rw [← Array.toArray_toList (xs := args), hargs]
  obtain rfl : ts = #[t, t'] := by rw [← Array.toArray_toList (xs := ts), hts]
  split at h
  rotate_left
  · exact h.elim
  rename_i z hvd hvs
  have hrd := evA_rep hE hvd
  have hrs := evA_rep hE hvs
  unfold appN at h
  split at h
  rotate_left
  · exact h.elim
  rename_i el hd hstr
  have hu := tdq_slice hT hd
  have hus := tdq_str hT hstr
  split at h
  rotate_left
  · exact h.elim
  rename_i i hti hde
  obtain ⟨de, hue, hdeb⟩ := und_td hT hde (by simp)
  obtain ⟨inf, ds, z0, g1i, g2i, g3i, rfl⟩ := probe_inv (hT _ i hti)
  replace h := bif_true h; obtain ⟨hc4, h⟩ := h
  simp only [Bool.and_eq_true] at hc4
  obtain ⟨⟨hz1, hz2⟩, hz3⟩ := hc4
  have hs1 : inf.size = 1 := beq_iff.1 hz1
  have hb1 : inf.bytes = 1 := beq_iff.1 hz2
  have hzl : z0.cells.size = 1 := by have := beq_iff.1 hz3; simpa using this
  obtain ⟨⟨hn0, hle⟩, hK⟩ := h
  generalize hgd : a.eval d = cd at hrd
  generalize hgs : a.eval s = cs at hrs
  cases hrs
  cases hrd
  have hzs : (⟨z.toArray⟩ : ByteArray).size = z.length := by simp [ByteArray.size]
  have hsc : Lib.strCells ⟨z.toArray⟩ = z.map fun (x : UInt8) => Value.int .u8 (x.toNat : Int) := by simp [Lib.strCells]
  have hzb : ∀ q, (Builtin.zeroCells z0.cells q).size = q := fun q => by rw [size_zeroCells, hzl, Nat.mul_one]
  have hrun0 := run_append_nil_string (P := P) (w := w) t t' o.type el inf z0 hu hus g1i g3i ⟨z.toArray⟩ (by rw [hzs]; omega) (by rw [hzs]; omega) (by rw [hzs]; exact growslice_fits (by omega) (by rw [hb1, Nat.mul_one]; omega))
  rw [hzs, hsc] at hrun0
  have hcap := grownCap_ge w z.length 0 el
  have hcm := grownCap_le_maxLen w z.length 0 el (by simp only [maxLen]; omega)
  generalize hcc : grownCap w z.length 0 el = cap at hrun0 hcap hcm
  generalize hus' : (z.map fun (x : UInt8) => Value.int .u8 (x.toNat : Int)) ++ (Builtin.zeroCells z0.cells (cap - z.length)).toList = us
  have hul : us.length = cap := by rw [← hus']; simp only [List.length_append, List.length_map, Array.length_toList, hzb]; omega
  have hbl : (z.map fun (x : UInt8) => Value.int .u8 (x.toNat : Int)).toArray ++ Builtin.zeroCells z0.cells (cap - z.length) = us.toArray := by
    rw [← hus', ← List.append_toArray (l₂ := (Builtin.zeroCells _ _).toList), Array.toArray_toList]
  rw [hbl] at hrun0
  have hrun := run_appendOpS ho (a := a) (by rw [hgd, hgs]; exact hrun0)
  have hp : (w.drew.alloc (.cells us.toArray el)).heap[w.heap.size]? = some (.cells us.toArray el (0, 0)) := heap_push w.drew _
  have hxn : Ext (fun _ => False) w (w.drew.alloc (.cells us.toArray el)) := (Ext.drew _ w).trans (Ext.alloc (fun _ => False) w.drew _) (fun _ _ k => k)
  obtain ⟨p1, p2⟩ := hH.push (b := some w.heap.size) (en := .ints el .u8 (z.map fun c => (c.toNat : Int))) hxn (fun g hg => by cases hg; exact Nat.le_refl _) (fun O' hO' =>
    ⟨us, _, hp, nf0 _, by rw [hul, List.length_map]; omega, fun i y hi => by
      have hlt : i < z.length := by have := (List.getElem?_eq_some_iff.1 hi).1; simpa using this
      rw [← hus', List.getElem?_append_left (by simpa using hlt)]
      rw [List.getElem?_map] at hi ⊢
      obtain ⟨q, hq, rfl⟩ := opt_map hi
      rw [hq]; rfl⟩)
  refine gp_run hrun hE hK hH.len (fun i hi => pre_nx _ i hi) (hxn.weaken fun _ _ k => k.elim) p1 p2 ?_
  exact .sl _ _ _ _ w.heap.size cap 0 (el, us.length) (by exact app_last _ _ _) hcap hcm (fun _ => by simp) (by unfold World.shape?; rw [hp]; simp) (by rw [hul]; simp)
theorem xok6 {C : Ctx} (hT : TOK P C.T) (hC : C.X = xop6 C.T) : XOK P C := by
  intro o a e F Ob W0 R H w K h hH hE
  rw [hC] at h
  unfold xop6 at h
  split at h
  · rename_i hb
    unfold nilB at hb
    split at hb
    · rename_i args ts ho
      exact appXN_ok hT ho h hH hE
    · cases hb
  · exact xok5 (C := { C with X := xop5 C.T }) hT rfl o a e F Ob W0 R H w K h hH hE
end
noncomputable def mkN (p : Nat) (S : List (FuncId × PSpec)) (G : FuncId → Option GSpec) (cuts : List Nat) : Ctx := ⟨p, tlook tt, slook S, G, xsA (tlook tt), xop6 (tlook tt), fun i => cuts.any (Nat.beq i), fun _ _ _ => none, fun _ => 0, fun _ _ _ => none⟩
theorem mkN_ok {p : Nat} {S : List (FuncId × PSpec)} {G : FuncId → Option GSpec} {cuts : List Nat} (hS : POK Try.prog (slook S)) (hG : ∀ g s, G g = some s → GSOK Try.prog g s) : COK Try.prog (mkN p S G cuts) :=
  ⟨ttok, hS, gok_of ttok (xok6 ttok rfl) hG, (fun g l H obs v δ nx K h => by cases h), ⟨fun _ _ _ _ _ => rfl, fun o e H obs v δ nx K h => by cases h⟩⟩
theorem fokN {S : List (FuncId × PSpec)} {G : FuncId → Option GSpec} (cuts : List Nat) (hS : POK Try.prog (slook S)) (hG : ∀ g s, G g = some s → GSOK Try.prog g s) {g : FuncId} {fn : Func} (hf : FnOK Try.prog g fn) {FS : FSpec}
    (h : ∀ l es obs v es', FS l es = some (obs, v, es') → (∀ p ∈ obs, p) → l.length ≤ fn.ntmps ∧ vcFn (mkN es.length S G cuts) fn l ⟨es.length, num 0 (es.map some)⟩ (RetF es.length v es')) : GSOK Try.prog g (fG FS) :=
  fok_of (T := tlook tt) (S := slook S) (G := G) (xs := xsA (tlook tt)) (X := xop6 (tlook tt)) (cut := fun i => cuts.any (Nat.beq i)) (XD := fun _ _ _ => none) (XN := fun _ => 0) (DX := fun _ _ _ => none) (fun p => mkN_ok (p := p) (cuts := cuts) hS hG) mixed hf h
end Go.Proofs.Ytgbekbofeaoniaa
namespace Go.Proofs.Ytgbekbofeaoniaa
open Go Go.RowKit
theorem al_E : lsE (ByteArray.mk #[97, 32, 98, 32, 35, 32, 99]).data.toList = 0 := by kernel_rfl
theorem al_A : lsA (ByteArray.mk #[97, 32, 98, 32, 35, 32, 99]).data.toList = 0 := by kernel_rfl
theorem al_L : lsL (ByteArray.mk #[97, 32, 98, 32, 35, 32, 99]).data.toList = [(1, [[97], [98]])] := by kernel_rfl
abbrev alS49 : PSpec := fun l => match l with | [] => some ([], .bool true) | _ => none
theorem alive49_s : SOK Try.prog 13 alS49 := by
  refine sok_of (C := mkE 0 [(9, linesS)] noG [] [] [1]) (mkE_ok (pok_cons lines_s pok_nil) noG_ok dl_nil) rfl mixed ⟨Try.func13, by kernel_rfl, by kernel_rfl, by kernel_rfl⟩ fun l obs v h ho => ?_
  unfold alS49 at h; split at h; rotate_left; (focus (cases h)); simp only [Option.some.injEq, Prod.mk.injEq] at h; obtain ⟨rfl, rfl⟩ := h
  refine ⟨Nat.le_of_ble_eq_true rfl, ?_⟩
  (repeat' (first | (refine xI (fun hfk => ?_) (fun hfk => ?_) <;> ((try (first | replace hfk := oT hfk | replace hfk := oF hfk | simp only [oD, ne_eq, reduceCtorEq] at hfk)); (try exact oX))) | (refine And.intro ?ob ?_; (case ob => (exact oZ))) | exact True.intro | (show _ = _; first | exact oY | exact rfl) | exact oW | (apply And.intro)))
  refine ⟨[(1, .ro 2 1 (fun j => (([(1, [[97], [98]])] : List Ln).getD j Ln.z).av)), (2, .int .i64 0), (3, .int .i64 0)], ⟨0, []⟩, [], ?_, ?_⟩
  · have eL : lnsA (lsL (ByteArray.mk #[97, 32, 98, 32, 35, 32, 99]).data.toList) = .ro 2 1 (fun j => (([(1, [[97], [98]])] : List Ln).getD j Ln.z).av) := by rw [al_L]; rfl
    have eLl : (lsL (ByteArray.mk #[97, 32, 98, 32, 35, 32, 99]).data.toList).length = 1 := by rw [al_L]; rfl
    (repeat' (first | (refine And.intro ?_ ?_) | exact True.intro | (show _ = _; with_reducible rfl) | exact Chk.mk (by kernel_rfl)))
    all_goals first | exact eL | exact eLl | exact al_A | exact al_E | rfl | (intro j hj; exact congrArg (fun L : List Ln => (L.getD j Ln.z).av) al_L)
  (repeat' (first | (refine xI (fun hfk => ?_) (fun hfk => ?_) <;> ((try (first | replace hfk := oT hfk | replace hfk := oF hfk | simp only [oD, ne_eq, reduceCtorEq] at hfk)); (try exact oX))) | (refine And.intro ?ob ?_; (case ob => (exact oZ))) | exact True.intro | (show _ = _; first | exact oY | exact rfl) | exact oW | (apply And.intro)))
end Go.Proofs.Ytgbekbofeaoniaa

