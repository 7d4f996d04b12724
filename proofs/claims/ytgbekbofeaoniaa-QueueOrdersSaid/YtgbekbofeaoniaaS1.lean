/- Texts laid together. No condition. -/
import Derived.Test.YtgbekbofeaoniaaE21
import Derived.WalkKit
import Derived.Test.YtgbekbofeaoniaaA
import Derived.Test.YtgbekbofeaoniaaFi
import Derived.Test.YtgbekbofeaoniaaU
import Derived.Test.YtgbekbofeaoniaaE19
import Derived.Test.YtgbekbofeaoniaaE20
import Derived.Test.YtgbekbofeaoniaaFTl
namespace Go.Proofs.Ytgbekbofeaoniaa
theorem oT {p : Prop} [Decidable p] (h : decide p = true) : p := of_decide_eq_true h
theorem oF {p : Prop} [Decidable p] (h : decide p = false) : ¬ p := of_decide_eq_false h
theorem oA {p : Prop} [Decidable p] : (decide p = true) = p := decide_eq_true_eq
theorem oB {p : Prop} [Decidable p] : decide p = false ↔ ¬ p := decide_eq_false_iff_not
theorem oD : (∀ (p : Prop) [Decidable p], (decide p = true) = p) ∧ (∀ (p : Prop) [Decidable p], decide p = false ↔ ¬ p) ∧ ((∀ b : Bool, ((!b) = true) = (b = false)) ∧ (∀ b : Bool, ((!b) = false) = (b = true)) ∧ (∀ a b : Bool, ((a && b) = true) = (a = true ∧ b = true)) ∧ (∀ a b : Bool, ((a || b) = true) = (a = true ∨ b = true)) ∧ (∀ a b : Bool, ((a && b) = false) = (a = false ∨ b = false)) ∧ (∀ a b : Bool, ((a || b) = false) = (a = false ∧ b = false)) ∧ (∀ a b : Int, (¬ a < b) = (b ≤ a)) ∧ (∀ a b : Int, (¬ a ≤ b) = (b < a))) ∧ ((∀ p : Prop, (¬ ¬ p) = p) ∧ (true = false) = False ∧ (false = true) = False ∧ (∀ p : Prop, (p ∨ False) = p) ∧ (∀ p : Prop, (False ∨ p) = p) ∧ (∀ p : Prop, (p ∧ True) = p) ∧ (∀ p : Prop, (True ∧ p) = p) ∧ (¬ True) = False ∧ (¬ False) = True) := ⟨fun _ _ => oA, fun _ _ => oB, dh1, dh0⟩
theorem xF {x : Bool} (h : x = true) (k : x = false) : False := Bool.noConfusion (Eq.trans (Eq.symm h) k)
theorem xI {x : Bool} {A B : Prop} (f : x = true → A) (g : x = false → B) : (x = true → A) ∧ (x = false → B) := ⟨f, g⟩
theorem xT {x : Bool} (h : x = false) (k : x = true) : False := Bool.noConfusion (Eq.trans (Eq.symm h) k)
theorem oZ {p : Prop} (h : p := by (first | exact Chk.mk (by kernel_rfl) | exact True.intro | with_reducible assumption | exact rng64 (by omega) (by omega) | omega | (dsimp only; omega) | (show (_ : Nat) ≤ _; omega) | (simp only [ll1, ll2, ll0]; first | done | omega) | (dsimp only; simp only [ll1, ll2, ll0]; omega))) : p := h
theorem oX (h : False := by first | omega | contradiction | exact xF hfk (by with_reducible assumption) | exact xT hfk (by with_reducible assumption)) {p : Prop} : p := h.elim
theorem oY {p : Prop} (h : p := by first | with_reducible rfl | with_reducible assumption | omega | (simp only [ll1, ll2, ll0]; omega)) : p := h
theorem oW {p : Prop} (h : p := by first | with_reducible assumption | omega | (intro j hj; exact rfl)) : p := h
end Go.Proofs.Ytgbekbofeaoniaa
set_option maxRecDepth 100000
set_option maxHeartbeats 4000000
set_option linter.unusedVariables false
set_option linter.unusedSimpArgs false
namespace Go.Proofs.Ytgbekbofeaoniaa
open Go Go.RowKit
def dstr (T : TypeId → Option TI) (o : Op) (e : Env) (H : AH) : DR := match o with
  | .convert s d x => (match tdq T s, tdq T d, evA e x with
    | .slice es, .str, some v => (match tdq T es, intsOfA H .u8 v with
      | .int .u8, some (obs, l) => some (obs, .str (l.map fun n => UInt8.ofNat n.toNat), [], H.nx)
      | _, _ => none)
    | .str, .slice el, some (.str z) => (match tdq T el with
      | .int .u8 => some ([z.length ≤ 140737488355328], .sl H.nx 1 0 z.length, [(H.nx, some (.ints el .u8 (z.map fun c => (c.toNat : Int))))], H.nx + 1)
      | _ => none)
    | _, _, _ => none)
  | _ => none
def dX5 (T : TypeId → Option TI) (o : Op) (e : Env) (H : AH) : DR := match dstr T o e H with | some r => some r | none => dX4 T o e H
theorem dstr_congr {T : TypeId → Option TI} {o : Op} {e e' : Env} {H : AH} (h : ∀ x ∈ o.operands.toList, evA e x = evA e' x) : dstr T o e H = dstr T o e' H := by
  unfold dstr
  split
  · rename_i s d x
    rw [h x (by simp [Op.operands])]
  · rfl
theorem copyok5 {C : Ctx} (hC : C.X = xop4 C.T) (hD : C.DX = dX5 C.T) : CopyOK C := by
  have c4 := copyok4 (C := { C with X := xop4 C.T, DX := dX4 C.T }) rfl rfl
  refine ⟨fun o e e' H h => by
    have := c4.congr o e e' H h
    rw [hD]; unfold dX5; rw [dstr_congr h]
    show _ = (match dstr C.T o e' H with | some r => some r | none => dX4 C.T o e' H)
    rw [show dX4 C.T o e H = dX4 C.T o e' H from this], ?_⟩
  intro o e H obs v δ nx K h ho hK
  rw [hC]
  rw [hD] at h
  unfold dX5 at h
  split at h
  · rename_i r hr
    cases h
    unfold dstr at hr
    split at hr
    · rename_i s d x
      split at hr
      · rename_i es u hs hd hx
        split at hr
        · rename_i obs' l he hi
          cases hr
          have hb : rowB C.T (.convert s d x) e H = false := by
            unfold rowB
            simp only [hs, hd, hx]
          show xop4 C.T _ e H K
          unfold xop4
          rw [hb]
          show xop2 C.T _ e H K
          unfold xop2
          simp only [xsB2]
          unfold xop
          simp only [hx]
          unfold aconvX
          simp only [hs, hd, he, hi]
          exact obl_intro ho hK
        · cases hr
      · rename_i el z hs hd hx
        split at hr
        · rename_i he
          cases hr
          have hb : rowB C.T (.convert s d x) e H = true := by
            unfold rowB
            simp only [hs, hd, hx]
          show xop4 C.T _ e H K
          unfold xop4
          rw [hb]
          show rowX C.T _ e H K
          unfold rowX
          simp only [hx]
          unfold convS
          simp only [hs, hd, he]
          exact ⟨ho _ (by simp), hK⟩
        · cases hr
      · cases hr
    · cases hr
  · exact c4.out o e H obs v δ nx K h ho hK
noncomputable def mkT (p : Nat) (S : List (FuncId × PSpec)) (G : FuncId → Option GSpec) (D0 D : List (FuncId × FSpec)) (cuts : List Nat) : Ctx := ⟨p, tlook tt, slook S, dG (D0 ++ D) G, xsE (tlook tt), xop4 (tlook tt), fun i => cuts.any (Nat.beq i), dXD (D0 ++ D), dXN0 D0 D, dX5 (tlook tt)⟩
end Go.Proofs.Ytgbekbofeaoniaa
namespace Go.Proofs.Ytgbekbofeaoniaa
open Go Go.RowKit
abbrev MT : Type := List (TypeId × String × FuncId × Option TypeId)
def mlook : MT → TypeId → String → Option (FuncId × Option TypeId)
  | [], _, _ => none
  | (t, n, f, d) :: r, t', n' => bif Nat.beq t t' && (n == n') then some (f, d) else mlook r t' n'
def MFact (P : Program) (t : TypeId) (name : String) (f : FuncId) : Option TypeId → Prop
  | none => ∀ (v : Value) (w : World), (method (P.types.size + Made.depth) t v name).run P w = .ok (f, v) w
  | some el => ∀ (a : Addr) (w : World), (method (P.types.size + Made.depth) t (.pointer (some a)) name).run P w = (do let x ← loadVar el a; pure (f, x) : Sem (FuncId × Value)).run P w
def MOK (P : Program) (M : MT) : Prop := ∀ t n f d, mlook M t n = some (f, d) → MFact P t n f d
theorem mok_nil {P : Program} : MOK P [] := fun _ _ _ _ h => by cases h
theorem mok_cons {P : Program} {M : MT} {t : TypeId} {n : String} {f : FuncId} {d : Option TypeId} (h : MFact P t n f d) (hM : MOK P M) : MOK P ((t, n, f, d) :: M) := by
  intro t' n' f' d' hl
  unfold mlook at hl
  cases hb : Nat.beq t t' && (n == n')
  · rw [hb] at hl
    exact hM t' n' f' d' hl
  · rw [hb] at hl
    rw [Bool.and_eq_true] at hb
    have e1 := beq_iff.1 hb.1
    have e2 : n = n' := by simpa using hb.2
    subst e1; subst e2
    cases hl
    exact h
def invA (T : TypeId → Option TI) (M : MT) (e : Env) (H : AH) (x : Operand) (name : String) (args : List Operand) : Option (List Prop × FuncId × List AV) :=
  match evA e x, evAs e args with
  | some (.ifc t [v]), some l => (match mlook M t name with
    | some (f, none) => some ([], f, v :: l)
    | some (f, some el) => (match aload T el H v with
      | some (obs, r) => some (obs, f, r :: l)
      | none => none)
    | none => none)
  | _, _ => none
def pcall (H : AH) (s : PSpec) (l : List AV) : QR := bif l.all nlB then s l else (match viewAs H l with
  | some (p, l') => (match s l' with
    | some (q, v) => bif flatB v then some (p ++ q, v) else none
    | none => none)
  | none => none)
noncomputable def fcall (S : FuncId → Option PSpec) (G : FuncId → Option GSpec) (f : FuncId) (l : List AV) (H : AH) (K : AV → AH → Prop) : Prop :=
  match S f with
  | some s => (match pcall H s l with | some (obs, v) => obl obs (K v H) | none => False)
  | none => (match G f with | some s => s l H K | none => False)
def invB (o : Op) : Bool := match o with
  | .call { callee := .invoke _ _, .. } => true
  | _ => false
noncomputable def invX (M : MT) (S : FuncId → Option PSpec) (G : FuncId → Option GSpec) (T : TypeId → Option TI) (o : Op) (e : Env) (H : AH) (K : AV → AH → Prop) : Prop := match o with
  | .call { callee := .invoke x name, args, .. } => (match invA T M e H x name args.toList with
    | some (obs, f, l) => obl obs (fcall S G f l H K)
    | none => False)
  | _ => False
def shrB (o : Op) (e : Env) (H : AH) : Bool := match o with
  | .store _ a x => (match evA e a, evA e x with
    | some (.ptr _ _), some (.sl i sz 0 _) => (match H.get i with | some (.recs _ sz' _ _) => Nat.beq sz sz' | _ => false)
    | _, _ => false)
  | _ => false
def shrX (T : TypeId → Option TI) (o : Op) (e : Env) (H : AH) (K : AV → AH → Prop) : Prop := match o with
  | .store t a x => (match evA e a, evA e x with
    | some va, some (.sl i sz 0 n) => (match H.get i with
      | some (.recs el sz' m get) => n ≤ m ∧ astore T (H.set i (.recs el sz' n get)) t va (.sl i sz 0 n) (K .any)
      | _ => False)
    | _, _ => False)
  | _ => False
noncomputable def xop7 (M : MT) (S : FuncId → Option PSpec) (G : FuncId → Option GSpec) (T : TypeId → Option TI) (o : Op) (e : Env) (H : AH) (K : AV → AH → Prop) : Prop := match invB o with
  | true => invX M S G T o e H K
  | false => (match shrB o e H with
    | true => shrX T o e H K
    | false => xop4 T o e H K)
theorem run_invoke {P : Program} {w : World} {f : FuncId} (hc : callable P f) {ρ : Operand → Value} {o : Oper} {x : Operand} {name : String} {args : Array Operand} {ts : Array TypeId} {t : TypeId} {v r : Value} (ho : o.op = .call { callee := .invoke x name, args, argTypes := ts })
    (hx : ρ x = .iface t v) (hm : (method (P.types.size + Made.depth) t v name).run P w = .ok (f, r) w) : (execOp ρ o).run P w = .ok (.enter f (r :: args.toList.map ρ).toArray) w := by
  obtain ⟨fn, h1, h2, h3⟩ := hc
  have h2' : ¬ fn.name = "runtime.NumGoroutine" := by simpa using h2
  have h3' : ¬ fn.body = none := fun e => by simp [e] at h3
  have e0 : (#[Value.iface t v] ++ args.map ρ)[0]? = some (.iface t v) := by
    rw [← Array.getElem?_toList]
    simp
  have e1 : (#[Value.iface t v] ++ args.map ρ).extract 1 (#[Value.iface t v] ++ args.map ρ).size = args.map ρ := by
    apply Array.ext'
    simp
    exact List.take_of_length_le (by simp)
  have e2 : (#[r] ++ args.map ρ) = (r :: args.toList.map ρ).toArray := by
    apply Array.ext'
    simp
  have key : (callMethod (.iface t v) name (args.map ρ)).run P w = .ok (.enter f (r :: args.toList.map ρ).toArray) w := by
    unfold callMethod
    show Sem.run P (do let p ← program; let x ← method (p.types.size + Made.depth) t v name; callFunc x.1 (#[x.2] ++ args.map ρ)) w = _
    rw [Sem.run_bind]
    show Sem.run P (do let x ← method (P.types.size + Made.depth) t v name; callFunc x.1 (#[x.2] ++ args.map ρ)) w = _
    rw [Sem.run_bind, hm]
    show Sem.run P (callFunc f (#[r] ++ args.map ρ)) w = _
    rw [e2]
    simp [callFunc, h1, h2', h3']
  have he : execOp ρ o = invoke (.fn (.method name) #[]) (#[Value.iface t v] ++ args.map ρ) := by
    simp [execOp, ho, resolve, hx]
  rw [he]
  unfold invoke
  simp only [e0, e1]
  exact key
section
variable {P : Program} {C : Ctx} {R : PN} {w : World} {F Ob : Nat → Prop} {W0 : World} {H : AH} {T : TypeId → Option TI} {S : FuncId → Option PSpec} {G : FuncId → Option GSpec} {M : MT}
theorem fcall_ok (hS : POK P S) (hG : ∀ g s, G g = some s → GSOK P g s) {o : Oper} {a : Act} {e : Env} {K : AV → AH → Prop} {f : FuncId} {l : List AV} {cl : List Value} (h : fcall S G f l H K) (hH : HRel F Ob W0 R H w) (hE : ERel R w (Wr F R H) e a.tmps)
    (hc : CRel R w (Wr F R H) l cl) (hrun : callable P f → (execOp a.eval o).run P w = .ok (.enter f cl.toArray) w) : o.wp P a w (GP F Ob W0 R H o a e K) NoWay := by
  unfold fcall at h
  split at h
  · rename_i s hs
    obtain ⟨hcall, hsp⟩ := hS f s hs
    split at h
    rotate_left
    · exact h.elim
    rename_i obs v hp
    obtain ⟨ho, hK⟩ := obl_inv h
    have key : ∀ {obs' : List Prop} {r' : AV} {l' : List AV} (O' : Nat → Prop), s l' = some (obs', r') → (∀ p ∈ obs', p) → FBd O' w → CRel noN w O' l' cl →
        (∀ w' cv, Rep noN w' O' r' cv → Rep R w' (Wr F R H) v cv) → o.wp P a w (GP F Ob W0 R H o a e K) NoWay := by
      intro obs' r' l' O' h1 h2 h3 h4 h5
      unfold Oper.wp
      rw [hrun hcall]
      refine Calls.mono (hsp l' obs' r' h1 h2 w O' _ h3 h4) fun en w' ⟨cv, he, hx, hr⟩ => ?_
      subst he
      exact ⟨R, v, H, cv, hK, rfl, fun _ _ => rfl, hH.quiet hx, hE.mono (fun _ _ k => k) (hx.weaken fun _ _ k => k.elim) (fun _ _ k => k), h5 w' cv hr⟩
    unfold pcall at hp
    cases hnl : l.all nlB
    · simp only [hnl, cond_false] at hp
      split at hp
      · rename_i p l' hv
        split at hp
        · rename_i q v' hsv
          replace hp := bif_some hp; obtain ⟨hfl, hp⟩ := hp
          simp only [Option.some.injEq, Prod.mk.injEq] at hp
          obtain ⟨rfl, rfl⟩ := hp
          exact key F hsv (fun p hp => ho p (by simp [hp])) ⟨fun b k => hH.wr_lt (.inl k), hH.gl.mono fun b k => .inl k⟩ (viewAs_rep hH hc hv (fun p hp => ho p (by simp [hp]))) fun w' cv hr => flatB_rep hr hfl _ _ _
        · cases hp
      · cases hp
    · simp only [hnl, cond_true] at hp
      rw [List.all_eq_true] at hnl
      exact key (Wr F R H) hp ho ⟨fun b => hH.wr_lt, hH.gl⟩ ⟨hc.1, fun j x v hx hv => nlB_rep (hc.2 j x v hx hv) (hnl x (List.mem_of_getElem? hx)) noN⟩ fun w' cv hr => hr.mono (by simp) (Ext.refl (Wr F R H) _) (fun _ _ k => k)
  · split at h
    · rename_i s hs
      obtain ⟨hcall, hsp⟩ := hG f s hs
      unfold Oper.wp
      rw [hrun hcall]
      refine Calls.mono (hsp _ H K h F Ob W0 R w _ hH hc) fun en w' ⟨R', v, H', cv, hK, he, hR, hx, hH', hwr, hr⟩ => ?_
      subst he
      exact ⟨R', v, H', cv, hK, rfl, hR, hH', hE.mono (hH.keep hR) hx hwr, hr⟩
    · exact h.elim
theorem invX_ok (hT : TOK P T) (hS : POK P S) (hG : ∀ g s, G g = some s → GSOK P g s) (hM : MOK P M) {o : Oper} {a : Act} {e : Env} {K : AV → AH → Prop} (h : invX M S G T o.op e H K) (hH : HRel F Ob W0 R H w) (hE : ERel R w (Wr F R H) e a.tmps) : o.wp P a w (GP F Ob W0 R H o a e K) NoWay := by
  unfold invX at h
  split at h
  rotate_left
  · exact h.elim
  rename_i x name args ts ho
  split at h
  rotate_left
  · exact h.elim
  rename_i obs f l hi
  obtain ⟨hob, h'⟩ := obl_inv h
  unfold invA at hi
  split at hi
  rotate_left
  · cases hi
  rename_i t v l0 hx hl
  have hrx := evA_rep hE hx
  generalize hgx : a.eval x = cx at hrx
  have hargs := evAs_rel hE hl
  cases hrx with
  | ifc _ _ vs hvl hvc =>
    match vs, hvl with
    | [u], _ =>
      have hv := hvc 0 _ _ rfl rfl
      split at hi
      · rename_i f' hm
        simp only [Option.some.injEq, Prod.mk.injEq] at hi
        obtain ⟨rfl, rfl, rfl⟩ := hi
        exact fcall_ok hS hG h' hH hE (cl := u :: args.toList.map a.eval) (crel_cons hv hargs) fun hcall => run_invoke hcall ho hgx (hM t name f' none hm u w)
      · rename_i f' el hm
        split at hi
        · rename_i obs' r hld
          simp only [Option.some.injEq, Prod.mk.injEq] at hi
          obtain ⟨rfl, rfl, rfl⟩ := hi
          obtain ⟨cv, h1, h2⟩ := aload_ok hT hld hob hH hv
          obtain ⟨ad, rfl⟩ : ∃ ad, u = .pointer (some ad) := by
            unfold aload at hld
            split at hld
            · cases hv; exact ⟨_, rfl⟩
            · cases hv; exact ⟨_, rfl⟩
            · cases hv; exact ⟨_, rfl⟩
            · cases hld
          refine fcall_ok hS hG h' hH hE (cl := cv :: args.toList.map a.eval) (crel_cons h2 hargs) fun hcall => run_invoke hcall ho hgx ?_
          show (method (P.types.size + Made.depth) t (.pointer (some ad)) name).run P w = _
          rw [hM t name f' (some el) hm ad w]
          have h3 : (loadVar el ad).run P w = .ok cv w := by simpa [Instr.loadAt, Instr.sureAddr] using h1
          rw [Sem.run_bind, h3]
          rfl
        · cases hi
      · cases hi
theorem HRel.shr {i m n : Nat} {el : TypeId} {sz : Nat} {get : Nat → AV} (hH : HRel F Ob W0 R H w) (hi : H.get i = some (.recs el sz m get)) (hn : n ≤ m) : HRel F Ob W0 R (H.set i (.recs el sz n get)) w ∧ ∀ g, Wr F R (H.set i (.recs el sz n get)) g ↔ Wr F R H g := by
  have hwr : ∀ g, Wr F R (H.set i (.recs el sz n get)) g ↔ Wr F R H g := fun g => or_congr Iff.rfl (own_set hi g)
  refine ⟨⟨hH.len, hH.ext, hH.fb, fun g hg => hH.own g ((own_set hi g).1 hg), fun j e' hj => ?_, fun j k e1 e2 g hj hk h1 h2 => ?_⟩, hwr⟩
  · rw [get_set] at hj
    have up : ∀ {b : Option Nat} {e : Ent}, e.holds R w (Wr F R H) b → e.holds R w (Wr F R (H.set i (.recs el sz n get))) b := fun h => Ent.holds_mono h (fun _ _ k => k) (Ext.refl _ _) (fun b _ k => (hwr b).1 k) fun _ _ => rfl
    by_cases hij : i = j
    · rw [if_pos hij] at hj
      cases hj
      subst hij
      obtain ⟨b, hb, hh⟩ := hH.ent i _ hi
      refine ⟨b, hb, up ?_⟩
      cases b with
      | none =>
        have : m = 0 := hh
        show n = 0
        omega
      | some b =>
        obtain ⟨vs, fr, vals, g1, g2, g3, g4, g5⟩ := hh
        exact ⟨vs, fr, vals, g1, g2, Nat.le_trans (Nat.mul_le_mul_right _ hn) g3, fun j hj => g4 j (by omega), fun j hj => g5 j (by omega)⟩
    · rw [if_neg hij] at hj
      obtain ⟨b, hb, hh⟩ := hH.ent j _ hj
      exact ⟨b, hb, up hh⟩
  · have h4 : ∀ {j : Nat} {e : Ent}, (H.set i (.recs el sz n get)).get j = some e → ∃ e', H.get j = some e' := by
      intro j e hj
      rw [get_set] at hj
      by_cases hij : i = j
      · subst hij; exact ⟨_, hi⟩
      · rw [if_neg hij] at hj; exact ⟨_, hj⟩
    obtain ⟨x, hx⟩ := h4 hj
    obtain ⟨x', hx'⟩ := h4 hk
    exact hH.dis j k x x' g hx hx' h1 h2
theorem shrX_ok (hT : TOK P T) {o : Oper} {a : Act} {e : Env} {K : AV → AH → Prop} (h : shrX T o.op e H K) (hH : HRel F Ob W0 R H w) (hE : ERel R w (Wr F R H) e a.tmps) : o.wp P a w (GP F Ob W0 R H o a e K) NoWay := by
  unfold shrX at h
  split at h
  rotate_left
  · exact h.elim
  rename_i t ax x ho
  split at h
  rotate_left
  · exact h.elim
  rename_i va i sz n hax hx
  split at h
  rotate_left
  · exact h.elim
  rename_i el sz' m get hi
  obtain ⟨hn, hK⟩ := h
  obtain ⟨p1, p2⟩ := hH.shr hi hn
  have hE2 : ERel R w (Wr F R (H.set i (.recs el sz' n get))) e a.tmps := hE.mono (fun _ _ k => k) (Ext.refl _ _) fun b _ k => (p2 b).1 k
  have := store_ok (C := ⟨0, T, fun _ => none, fun _ => none, fun _ _ _ => false, fun _ _ _ _ => False, fun _ => false, fun _ _ _ => none, fun _ => 0, fun _ _ _ => none⟩) hT (K := K) ho (by
    rw [ho]
    unfold aopG
    simp only [hax, hx]
    exact hK) p1 hE2
  exact this
theorem xok7 (hT : TOK P C.T) (hS : POK P S) (hG : ∀ g s, G g = some s → GSOK P g s) (hM : MOK P M) (hC : C.X = xop7 M S G C.T) : XOK P C := by
  intro o a e F Ob W0 R H w K h hH hE
  rw [hC] at h
  unfold xop7 at h
  split at h
  · exact invX_ok hT hS hG hM h hH hE
  split at h
  · exact shrX_ok hT h hH hE
  · exact xok4 (C := { C with X := xop4 C.T }) hT rfl o a e F Ob W0 R H w K h hH hE
end
def dstoreF (T : TypeId → Option TI) (o : Op) (e : Env) (H : AH) : DR := match o with
  | .store t a x => (match szOf T t, evA e a, evA e x with
    | some s, some (.eptr i sz j 0), some (.agg l) => bif Nat.beq s sz && Nat.beq l.length sz && l.all nl0 && l.all isOne then (match H.get i with
      | some (.recs el sz' n get) => bif Nat.beq sz sz' then some ([j < n], .any, [(i, some (.recs el sz' n (fun m => if m = j then .agg l else get m)))], H.nx) else none
      | _ => none) else none
    | _, _, _ => none)
  | _ => none
def dX6 (T : TypeId → Option TI) (o : Op) (e : Env) (H : AH) : DR := match dstoreF T o e H with | some r => some r | none => dX5 T o e H
theorem dstoreF_congr {T : TypeId → Option TI} {o : Op} {e e' : Env} {H : AH} (h : ∀ x ∈ o.operands.toList, evA e x = evA e' x) : dstoreF T o e H = dstoreF T o e' H := by
  unfold dstoreF
  split
  · rename_i t a x
    rw [h a (by simp [Op.operands]), h x (by simp [Op.operands])]
  · rfl
theorem view0_nl {H : AH} {x : AV} (h : nl0 x = true) : view0 H x = some ([], x) := by
  cases x <;> first | rfl | cases h
theorem viewL_nl {H : AH} : ∀ {l : List AV}, l.all nl0 = true → viewL H l = some ([], l)
  | [], _ => rfl
  | x :: l, h => by
    rw [List.all_cons, Bool.and_eq_true] at h
    unfold viewL
    rw [view0_nl h.1, viewL_nl h.2]
    rfl
theorem nms0_nl {x : AV} (h : nl0 x = true) : nms0 x = [] := by
  cases x <;> first | rfl | cases h
theorem nmsL_nl : ∀ {l : List AV}, l.all nl0 = true → nmsL l = []
  | [], _ => rfl
  | x :: l, h => by
    rw [List.all_cons, Bool.and_eq_true] at h
    unfold nmsL
    rw [nms0_nl h.1, nmsL_nl h.2]
    rfl
theorem copyok6 {M : MT} {S : FuncId → Option PSpec} {G : FuncId → Option GSpec} {C : Ctx} (hC : C.X = xop7 M S G C.T) (hD : C.DX = dX6 C.T) : CopyOK C := by
  have c5 := copyok5 (C := { C with X := xop4 C.T, DX := dX5 C.T }) rfl rfl
  refine ⟨fun o e e' H h => by
    have := c5.congr o e e' H h
    rw [hD]; unfold dX6; rw [dstoreF_congr h]
    show _ = (match dstoreF C.T o e' H with | some r => some r | none => dX5 C.T o e' H)
    rw [show dX5 C.T o e H = dX5 C.T o e' H from this], ?_⟩
  intro o e H obs v δ nx K h ho hK
  rw [hC]
  rw [hD] at h
  unfold dX6 at h
  split at h
  · rename_i r hr
    cases h
    unfold dstoreF at hr
    split at hr
    rotate_left
    · cases hr
    rename_i t a x
    split at hr
    rotate_left
    · cases hr
    rename_i s i sz j l hs ha hx
    replace hr := bif_some hr; obtain ⟨hb, hr⟩ := hr
    simp only [Bool.and_eq_true] at hb
    obtain ⟨⟨⟨hb1, hb2⟩, hb3⟩, hb4⟩ := hb
    split at hr
    rotate_left
    · cases hr
    rename_i el sz' n get hi
    replace hr := bif_some hr; obtain ⟨hb5, hr⟩ := hr
    cases hr
    show xop7 M S G C.T _ e H K
    unfold xop7
    have hsh : shrB (.store t a x) e H = false := by
      unfold shrB
      simp only [ha, hx]
    simp only [invB, hsh]
    unfold xop4
    show xop2 C.T _ e H K
    unfold xop2
    have hxs : xsB2 C.T (.store t a x) e H = true := by
      unfold xsB2
      simp only [ha, hi, hx]
    rw [hxs]
    simp only [ha, hx]
    unfold storeF
    simp only [hs]
    have e1 : nmsL l = [] := nmsL_nl hb3
    have e2 : viewL H l = some ([], l) := viewL_nl hb3
    have e3 : delN H (nmsL l) = H := by rw [e1]; rfl
    simp only [hb1, hb2, Bool.and_self, cond_true, e2, e3, hi, hb5, hb3, hb4, Bool.true_and]
    exact ⟨ho _ (by simp), hK⟩
  · have h2 := c5.out o e H obs v δ nx K h ho hK
    have hi : invB o = false := by
      unfold invB
      split
      · cases h
      · rfl
    have hsh : shrB o e H = false := by
      unfold shrB
      split
      · cases h
      · rfl
    unfold xop7
    rw [hi]
    simp only [hsh]
    exact h2
noncomputable def mkI (p : Nat) (S : List (FuncId × PSpec)) (G : FuncId → Option GSpec) (D0 D : List (FuncId × FSpec)) (M : MT) (cuts : List Nat) : Ctx := ⟨p, tlook tt, slook S, dG (D0 ++ D) G, fun o e H => invB o || (shrB o e H || xsE (tlook tt) o e H), xop7 M (slook S) (dG (D0 ++ D) G) (tlook tt), fun i => cuts.any (Nat.beq i), dXD (D0 ++ D), dXN0 D0 D, dX6 (tlook tt)⟩
theorem mkI_ok {p : Nat} {S : List (FuncId × PSpec)} {G : FuncId → Option GSpec} {D0 D : List (FuncId × FSpec)} {M : MT} {cuts : List Nat} (hS : POK Try.prog (slook S)) (hG : ∀ g s, G g = some s → GSOK Try.prog g s) (hD : ∀ g FS, dlook (D0 ++ D) g = some FS → GSOK Try.prog g (fG FS)) (hM : MOK Try.prog M) : COK Try.prog (mkI p S G D0 D M cuts) :=
  have hG' : ∀ g s, dG (D0 ++ D) G g = some s → GSOK Try.prog g s := fun g s h => by
    simp only [dG] at h
    split at h
    · rename_i FS hd
      cases h
      exact hD g FS hd
    · exact hG g s h
  ⟨ttok, hS, gok_of ttok (xok7 ttok hS hG' hM rfl) hG', dok_of (D0 ++ D), copyok6 rfl rfl⟩
theorem fokI {S : List (FuncId × PSpec)} {G : FuncId → Option GSpec} (D0 D : List (FuncId × FSpec)) (M : MT) (cuts : List Nat) (hS : POK Try.prog (slook S)) (hG : ∀ g s, G g = some s → GSOK Try.prog g s) (hD : ∀ g FS, dlook (D0 ++ D) g = some FS → GSOK Try.prog g (fG FS)) (hM : MOK Try.prog M) {g : FuncId} {fn : Func} (hf : FnOK Try.prog g fn) {FS : FSpec}
    (h : ∀ l es obs v es', FS l es = some (obs, v, es') → (∀ p ∈ obs, p) → l.length ≤ fn.ntmps ∧ vcFn (mkI es.length S G D0 D M cuts) fn l ⟨es.length, num 0 (es.map some)⟩ (RetF es.length v es')) : GSOK Try.prog g (fG FS) :=
  fok_of (T := tlook tt) (S := slook S) (G := dG (D0 ++ D) G) (xs := fun o e H => invB o || (shrB o e H || xsE (tlook tt) o e H)) (X := xop7 M (slook S) (dG (D0 ++ D) G) (tlook tt)) (cut := fun i => cuts.any (Nat.beq i)) (XD := dXD (D0 ++ D)) (XN := dXN0 D0 D) (DX := dX6 (tlook tt)) (fun p => mkI_ok (p := p) (cuts := cuts) hS hG hD hM) mixed hf h
end Go.Proofs.Ytgbekbofeaoniaa
namespace Go.Proofs.Ytgbekbofeaoniaa
open Go Go.RowKit
structure It where
  l : Int
  i : Int
  p : Int
  n : Int
def It.z : It := ⟨0, 0, 0, 0⟩
abbrev It.av (x : It) : AV := .agg [.int .i64 x.l, .int .i64 x.i, .int .i64 x.p, .int .i64 x.n]
abbrev rowG (L : List It) : Nat → AV := fun j => (L.getD j It.z).av
abbrev rowE (L : List It) : Ent := .recs 136 4 L.length (rowG L)
structure RowP (n : Nat) (f : Nat → AV) : Prop where
  out : ∃ L : List It, n = L.length ∧ f = rowG L
theorem rowp (L : List It) : RowP L.length (rowG L) := ⟨L, rfl, rfl⟩
theorem rowp0 (L : List It) : RowP L.length (fun j => rowG L (0 + j)) := ⟨L, rfl, funext fun j => by rw [Nat.zero_add]⟩
def itOf : AV → It
  | .agg [.int _ l, .int _ i, .int _ p, .int _ n] => ⟨l, i, p, n⟩
  | _ => It.z
def qrL (n : Nat) (f : Nat → AV) : List It := (List.range n).map fun j => itOf (f j)
theorem qrL_row (L : List It) : qrL L.length (rowG L) = L := by
  unfold qrL
  refine List.ext_getElem (by simp) fun j h1 h2 => ?_
  simp only [List.getElem_map, List.getElem_range]
  show L.getD j It.z = _
  rw [List.getD_eq_getElem?_getD, List.getElem?_eq_getElem h2]
  rfl
def It.lt (x y : It) : Prop := x.p < y.p ∨ x.p = y.p ∧ x.n < y.n
instance (x y : It) : Decidable (x.lt y) := by unfold It.lt; exact inferInstance
def lessF : AV → AV → Bool
  | .agg [_, _, .int _ p, .int _ n], .agg [_, _, .int _ q, .int _ m] => decide (p < q ∨ p = q ∧ n < m)
  | _, _ => false
theorem q_meth : MOK Try.prog [(134, "Push", 129, none), (134, "Pop", 128, none), (134, "Len", 123, some 74), (134, "Less", 124, some 74), (134, "Swap", 125, some 74)] :=
  mok_cons (fun v w => by kernel_rfl) (mok_cons (fun v w => by kernel_rfl) (mok_cons (fun a w => by kernel_rfl) (mok_cons (fun a w => by kernel_rfl) (mok_cons (fun a w => by kernel_rfl) mok_nil))))
abbrev lenRS : PSpec := fun l => match l with | [.ro 4 n f] => some ([], .int .i64 (n : Int)) | [.nils] => some ([], .int .i64 0) | _ => none
theorem lenR_s : SOK Try.prog 123 lenRS := by
  refine sok_of (C := mkC 0 [] noG) (mkC_ok pok_nil noG_ok) rfl mixed ⟨Try.func123, by kernel_rfl, by kernel_rfl, by kernel_rfl⟩ fun l obs v h ho => ?_
  unfold lenRS at h
  split at h
  · simp only [Option.some.injEq, Prod.mk.injEq] at h
    obtain ⟨rfl, rfl⟩ := h
    refine ⟨Nat.le_of_ble_eq_true rfl, ?_⟩
    (repeat' (first | (refine xI (fun hfk => ?_) (fun hfk => ?_) <;> ((try (first | replace hfk := oT hfk | replace hfk := oF hfk | simp only [oD, ne_eq, reduceCtorEq] at hfk)); (try exact oX))) | (refine And.intro ?ob ?_; (case ob => (exact oZ))) | exact True.intro | (show _ = _; first | exact oY | exact rfl) | exact oW | (apply And.intro)))
  · simp only [Option.some.injEq, Prod.mk.injEq] at h
    obtain ⟨rfl, rfl⟩ := h
    refine ⟨Nat.le_of_ble_eq_true rfl, ?_⟩
    (repeat' (first | (refine xI (fun hfk => ?_) (fun hfk => ?_) <;> ((try (first | replace hfk := oT hfk | replace hfk := oF hfk | simp only [oD, ne_eq, reduceCtorEq] at hfk)); (try exact oX))) | (refine And.intro ?ob ?_; (case ob => (exact oZ))) | exact True.intro | (show _ = _; first | exact oY | exact rfl) | exact oW | (apply And.intro)))
  · cases h
abbrev lessRS : PSpec := fun l => match l with | [.ro 4 n f, .int .i64 i, .int .i64 k] => some ([RowP n f, 0 ≤ i, i < (n : Int), 0 ≤ k, k < (n : Int)], .bool (lessF (f i.toNat) (f k.toNat))) | _ => none
theorem lessR_s : SOK Try.prog 124 lessRS := by
  refine sok_of (C := mkC 0 [] noG) (mkC_ok pok_nil noG_ok) rfl mixed ⟨Try.func124, by kernel_rfl, by kernel_rfl, by kernel_rfl⟩ fun l obs v h ho => ?_
  (unfold lessRS at h; split at h; rotate_left; (focus (cases h)); rename_i n f i k; simp only [Option.some.injEq, Prod.mk.injEq] at h; obtain ⟨rfl, rfl⟩ := h; simp only [List.mem_cons, List.not_mem_nil, or_false, forall_eq_or_imp, forall_eq, false_implies, implies_true] at ho)
  obtain ⟨⟨L, rfl, rfl⟩, i0, i1, k0, k1⟩ := ho
  refine ⟨Nat.le_of_ble_eq_true rfl, ?_⟩
  obtain ⟨x, hx⟩ : ∃ x, L.getD i.toNat It.z = x := ⟨_, rfl⟩
  obtain ⟨y, hy⟩ : ∃ y, L.getD k.toNat It.z = y := ⟨_, rfl⟩
  have hv : lessF (rowG L i.toNat) (rowG L k.toNat) = decide (x.lt y) := by rw [← hx, ← hy]; rfl
  rw [hv]
  by_cases c1 : (L.getD i.toNat It.z).p < (L.getD k.toNat It.z).p
  · have e : decide (x.lt y) = true := decide_eq_true (.inl (by rw [← hx, ← hy]; exact c1))
    rw [e]
    (repeat' (first | (refine xI (fun hfk => ?_) (fun hfk => ?_) <;> ((try (first | replace hfk := oT hfk | replace hfk := oF hfk | simp only [oD, ne_eq, reduceCtorEq] at hfk)); (try exact oX))) | (refine And.intro ?ob ?_; (case ob => (exact oZ))) | exact True.intro | (show _ = _; first | exact oY | exact rfl) | exact oW | (apply And.intro)))
  · by_cases c2 : (L.getD i.toNat It.z).p = (L.getD k.toNat It.z).p
    · have e : decide ((L.getD i.toNat It.z).n < (L.getD k.toNat It.z).n) = decide (x.lt y) := decide_eq_decide.2 ⟨fun h => .inr (by rw [← hx, ← hy]; exact ⟨c2, h⟩), fun h => by
        rw [← hx, ← hy] at h
        rcases h with h | h
        · exact absurd h c1
        · exact h.2⟩
      (repeat' (first | (refine xI (fun hfk => ?_) (fun hfk => ?_) <;> ((try (first | replace hfk := oT hfk | replace hfk := oF hfk | simp only [oD, ne_eq, reduceCtorEq] at hfk)); (try exact oX))) | (refine And.intro ?ob ?_; (case ob => (exact oZ))) | exact True.intro | (show _ = _; first | exact oY | (exact e; done) | exact rfl) | exact oW | (apply And.intro)))
    · have e : decide (x.lt y) = false := decide_eq_false fun h => by
        rw [← hx, ← hy] at h
        rcases h with h | h
        · exact c1 h
        · exact c2 h.1
      rw [e]
      (repeat' (first | (refine xI (fun hfk => ?_) (fun hfk => ?_) <;> ((try (first | replace hfk := oT hfk | replace hfk := oF hfk | simp only [oD, ne_eq, reduceCtorEq] at hfk)); (try exact oX))) | (refine And.intro ?ob ?_; (case ob => (exact oZ))) | exact True.intro | (show _ = _; first | exact oY | exact rfl) | exact oW | (apply And.intro)))
def swapL (L : List It) (i k : Nat) : List It := (L.set i (L.getD k It.z)).set k (L.getD i It.z)
def swapG (f : Nat → AV) (i k : Nat) : Nat → AV := fun m => if m = k then f i else if m = i then f k else f m
theorem swapL_len (L : List It) (i k : Nat) : (swapL L i k).length = L.length := by simp [swapL]
theorem swapL_get {L : List It} {i k : Nat} (hi : i < L.length) (hk : k < L.length) (m : Nat) : (swapL L i k).getD m It.z = if m = k then L.getD i It.z else if m = i then L.getD k It.z else L.getD m It.z := by
  unfold swapL
  rw [List.getD_eq_getElem?_getD, List.getElem?_set]
  by_cases h1 : k = m
  · subst h1
    rw [if_pos rfl, if_pos rfl, if_pos (by simpa using hk)]
    rfl
  · rw [if_neg h1, if_neg (fun h => h1 h.symm), List.getElem?_set]
    by_cases h2 : i = m
    · subst h2
      rw [if_pos rfl, if_pos rfl, if_pos hi]
      rfl
    · rw [if_neg h2, if_neg (fun h => h2 h.symm), ← List.getD_eq_getElem?_getD]
theorem swapG_row {L : List It} {i k : Nat} (hi : i < L.length) (hk : k < L.length) : swapG (rowG L) i k = rowG (swapL L i k) := by
  funext m
  show (if m = k then (L.getD i It.z).av else if m = i then (L.getD k It.z).av else (L.getD m It.z).av) = ((swapL L i k).getD m It.z).av
  rw [swapL_get hi hk]
  by_cases h1 : m = k
  · rw [if_pos h1, if_pos h1]
  · rw [if_neg h1, if_neg h1]
    by_cases h2 : m = i
    · rw [if_pos h2, if_pos h2]
    · rw [if_neg h2, if_neg h2]
attribute [local irreducible] qrL
def swapRF : FSpec := fun l es => match l, es with
  | [.sl 0 4 0 n, .int .i64 i, .int .i64 k], [.recs 136 4 m f] => some ([RowP m f, n = m, 0 ≤ i, i < (n : Int), 0 ≤ k, k < (n : Int)], .tup [], [some (.recs 136 4 m (swapG f i.toNat k.toNat))])
  | _, _ => none
theorem swapR_g : GSOK Try.prog 125 (fG swapRF) := by
  refine fokI (S := []) (G := noG) [] [] [] [] pok_nil noG_ok dl_nil mok_nil ⟨Try.func125, by kernel_rfl, by kernel_rfl, by kernel_rfl⟩ fun l es obs v es' h ho => ?_
  unfold swapRF at h
  split at h
  rotate_left
  · cases h
  rename_i n i k m f
  simp only [Option.some.injEq, Prod.mk.injEq] at h
  obtain ⟨rfl, rfl, rfl⟩ := h
  simp only [List.mem_cons, List.not_mem_nil, or_false, forall_eq_or_imp, forall_eq] at ho
  obtain ⟨⟨L, rfl, rfl⟩, rfl, i0, i1, k0, k1⟩ := ho
  refine ⟨Nat.le_of_ble_eq_true rfl, ?_⟩
  (repeat' (first | (refine xI (fun hfk => ?_) (fun hfk => ?_) <;> ((try (first | replace hfk := oT hfk | replace hfk := oF hfk | simp only [oD, ne_eq, reduceCtorEq] at hfk)); (try exact oX))) | (refine And.intro ?ob ?_; (case ob => (exact oZ))) | exact True.intro | (show _ = _; first | exact oY | exact rfl) | exact oW | (apply And.intro)))
  refine ⟨[some 0], ?_⟩
  (repeat' (first | (refine xI (fun hfk => ?_) (fun hfk => ?_) <;> ((try (first | replace hfk := oT hfk | replace hfk := oF hfk | simp only [oD, ne_eq, reduceCtorEq] at hfk)); (try exact oX))) | (refine And.intro ?ob ?_; (case ob => (exact oZ))) | exact True.intro | (show _ = _; first | exact oY | exact rfl) | exact oW | (apply And.intro)))
  intro j hj
  show (if j = 0 + k.toNat then (L.getD (0 + i.toNat) It.z).av else if j = 0 + i.toNat then (L.getD (0 + k.toNat) It.z).av else (L.getD j It.z).av) = _
  rw [Nat.zero_add, Nat.zero_add]
  rfl
def pushRF : FSpec := fun l es => match l, es with
  | [.ptr 0 0, .ifc 136 [.agg [.int .i64 a, .int .i64 b, .int .i64 p, .int .i64 q]]], [.cells 76 [.sl 1 4 0 n, .int .i64 c], .recs 136 4 m f] =>
    some ([RowP m f, n = m, n ≤ 1000000], .tup [], [some (.cells 76 [.sl 2 4 0 (n + 1), .int .i64 c]), none, some (.recs 136 4 (m + 1) (rowG (qrL m f ++ [⟨a, b, p, q⟩])))])
  | _, _ => none
theorem pushR_g : GSOK Try.prog 129 (fG pushRF) := by
  refine fokI (S := []) (G := noG) [] [] [] [] pok_nil noG_ok dl_nil mok_nil ⟨Try.func129, by kernel_rfl, by kernel_rfl, by kernel_rfl⟩ fun l es obs v es' h ho => ?_
  unfold pushRF at h
  split at h
  rotate_left
  · cases h
  rename_i a b p q n c m f
  simp only [Option.some.injEq, Prod.mk.injEq] at h
  obtain ⟨rfl, rfl, rfl⟩ := h
  simp only [List.mem_cons, List.not_mem_nil, or_false, forall_eq_or_imp, forall_eq] at ho
  obtain ⟨⟨L, rfl, rfl⟩, rfl, n1⟩ := ho
  rw [qrL_row]
  refine ⟨Nat.le_of_ble_eq_true rfl, ?_⟩
  (repeat' (first | (refine xI (fun hfk => ?_) (fun hfk => ?_) <;> ((try (first | replace hfk := oT hfk | replace hfk := oF hfk | simp only [oD, ne_eq, reduceCtorEq] at hfk)); (try exact oX))) | (refine And.intro ?ob ?_; (case ob => (exact oZ))) | exact True.intro | (show _ = _; first | exact oY | exact rfl) | exact oW | (apply And.intro)))
  refine ⟨[some 0, some 1, some 4], ?_⟩
  (repeat' (first | (refine xI (fun hfk => ?_) (fun hfk => ?_) <;> ((try (first | replace hfk := oT hfk | replace hfk := oF hfk | simp only [oD, ne_eq, reduceCtorEq] at hfk)); (try exact oX))) | (refine And.intro ?ob ?_; (case ob => (exact oZ))) | exact True.intro | (show _ = _; first | exact oY | exact rfl) | exact oW | (apply And.intro)))
  intro j hj
  show (if j < L.length then rowG L j else chunkA _ [AV.int .i64 a, AV.int .i64 b, AV.int .i64 p, AV.int .i64 q] (0 + (j - L.length))) = ((L ++ [It.mk a b p q]).getD j It.z).av
  by_cases h : j < L.length
  · rw [if_pos h, List.getD_eq_getElem?_getD, List.getElem?_append_left h, ← List.getD_eq_getElem?_getD]
  · rw [if_neg h, show 0 + (j - L.length) = 0 by omega, show j = L.length by omega, List.getD_eq_getElem?_getD, List.getElem?_append_right (Nat.le_refl _), Nat.sub_self]
    rfl
def popRF : FSpec := fun l es => match l, es with
  | [.ptr 0 0], [.cells 76 [.sl 1 4 0 n, .int .i64 c], .recs 136 4 m f] =>
    some ([RowP m f, n = m, 0 < n, n ≤ 1000000], .ifc 136 [f (n - 1)], [some (.cells 76 [.sl 1 4 0 (n - 1), .int .i64 c]), some (.recs 136 4 (m - 1) (rowG ((qrL m f).take (m - 1))))])
  | _, _ => none
theorem popR_g : GSOK Try.prog 128 (fG popRF) := by
  refine fokI (S := []) (G := noG) [] [] [] [] pok_nil noG_ok dl_nil mok_nil ⟨Try.func128, by kernel_rfl, by kernel_rfl, by kernel_rfl⟩ fun l es obs v es' h ho => ?_
  unfold popRF at h
  split at h
  rotate_left
  · cases h
  rename_i n c m f
  simp only [Option.some.injEq, Prod.mk.injEq] at h
  obtain ⟨rfl, rfl, rfl⟩ := h
  simp only [List.mem_cons, List.not_mem_nil, or_false, forall_eq_or_imp, forall_eq] at ho
  obtain ⟨⟨L, rfl, rfl⟩, rfl, n0, n1⟩ := ho
  rw [qrL_row]
  have hq : L.getD (0 + ((L.length : Int) - 1).toNat) It.z = L.getD (L.length - 1) It.z := by rw [show 0 + ((L.length : Int) - 1).toNat = L.length - 1 by omega]
  refine ⟨Nat.le_of_ble_eq_true rfl, ?_⟩
  (repeat' (first | (refine xI (fun hfk => ?_) (fun hfk => ?_) <;> ((try (first | replace hfk := oT hfk | replace hfk := oF hfk | simp only [oD, ne_eq, reduceCtorEq] at hfk)); (try exact oX))) | (refine And.intro ?ob ?_; (case ob => (exact oZ))) | exact True.intro | (show _ = _; first | exact oY | exact rfl) | exact oW | (apply And.intro)))
  refine ⟨[some 0, some 1], ?_⟩
  (repeat' (first | (refine xI (fun hfk => ?_) (fun hfk => ?_) <;> ((try (first | replace hfk := oT hfk | replace hfk := oF hfk | simp only [oD, ne_eq, reduceCtorEq] at hfk)); (try exact oX))) | (refine And.intro ?ob ?_; (case ob => (exact oZ))) | exact True.intro | (show _ = _; first | exact oY | (first | exact congrArg It.l hq | exact congrArg It.i hq | exact congrArg It.p hq | exact congrArg It.n hq | skip; done) | exact rfl) | exact oW | (apply And.intro)))
  intro j hj
  show (L.getD j It.z).av = ((L.take (L.length - 1)).getD j It.z).av
  rw [List.getD_eq_getElem?_getD, List.getD_eq_getElem?_getD, List.getElem?_take_of_lt hj]
end Go.Proofs.Ytgbekbofeaoniaa
namespace Go.Proofs.Ytgbekbofeaoniaa
open Go Go.RowKit
def upL (L : List It) (j : Nat) : List It :=
  if h : 0 < j then (if (L.getD j It.z).lt (L.getD ((j - 1) / 2) It.z) then upL (swapL L ((j - 1) / 2) j) ((j - 1) / 2) else L) else L
termination_by j
decreasing_by omega
theorem upL_0 (L : List It) : upL L 0 = L := by rw [upL]; rfl
theorem upL_no {L : List It} {j : Nat} (h : ¬ (L.getD j It.z).lt (L.getD ((j - 1) / 2) It.z)) : upL L j = L := by
  rw [upL]
  by_cases h0 : 0 < j
  · rw [dif_pos h0, if_neg h]
  · rw [dif_neg h0]
theorem upL_yes {L : List It} {j : Nat} (h0 : 0 < j) (h : (L.getD j It.z).lt (L.getD ((j - 1) / 2) It.z)) : upL L j = upL (swapL L ((j - 1) / 2) j) ((j - 1) / 2) := by
  rw [upL, dif_pos h0, if_pos h]
theorem up_par (j : Nat) : Int.tdiv ((j : Int) - 1) 2 = (((j - 1) / 2 : Nat) : Int) := by
  by_cases h : j = 0
  · subst h; rfl
  · rw [Int.tdiv_eq_ediv_of_nonneg (by omega)]; omega
theorem lessF_at (A : List It) (k q : Nat) : lessF (rowG A (0 + (k : Int).toNat)) (rowG A (0 + (q : Int).toNat)) = decide ((A.getD k It.z).lt (A.getD q It.z)) := by
  rw [Nat.zero_add, Nat.zero_add]; rfl
theorem rowp_at {A : List It} {n : Nat} (h : A.length = n) : RowP n (rowG A) := by rw [← h]; exact rowp A
theorem rowp_at0 {A : List It} {n : Nat} (h : A.length = n) : RowP n (fun j => rowG A (0 + j)) := by rw [← h]; exact rowp0 A
def upF : FSpec := fun l es => match l, es with
  | [.ifc 134 [.ptr 0 0], .int .i64 j], [.cells 76 [.sl 1 4 0 n, .int .i64 c], .recs 136 4 m f] =>
    some ([RowP m f, n = m, n ≤ 1000000, 0 ≤ j, j < (n : Int)], .tup [], [some (.cells 76 [.sl 1 4 0 n, .int .i64 c]), some (.recs 136 4 m (rowG (upL (qrL m f) j.toNat)))])
  | _, _ => none
def chL (L : List It) (i n : Nat) : Nat := if 2 * i + 2 < n ∧ (L.getD (2 * i + 2) It.z).lt (L.getD (2 * i + 1) It.z) then 2 * i + 2 else 2 * i + 1
theorem chL_ge (L : List It) (i n : Nat) : 2 * i + 1 ≤ chL L i n := by unfold chL; split <;> omega
theorem chL_lt (L : List It) {i n : Nat} (h : 2 * i + 1 < n) : chL L i n < n := by
  unfold chL
  split
  · rename_i k; exact k.1
  · exact h
def downL (L : List It) (i n : Nat) : List It :=
  if h : 2 * i + 1 < n then (if (L.getD (chL L i n) It.z).lt (L.getD i It.z) then downL (swapL L i (chL L i n)) (chL L i n) n else L) else L
termination_by n - i
decreasing_by have := chL_ge L i n; have := chL_lt L h; omega
theorem downL_end {L : List It} {i n : Nat} (h : ¬ 2 * i + 1 < n) : downL L i n = L := by rw [downL, dif_neg h]
theorem downL_no {L : List It} {i n : Nat} (h : ¬ (L.getD (chL L i n) It.z).lt (L.getD i It.z)) : downL L i n = L := by
  rw [downL]
  by_cases h0 : 2 * i + 1 < n
  · rw [dif_pos h0, if_neg h]
  · rw [dif_neg h0]
theorem downL_yes {L : List It} {i n : Nat} (h0 : 2 * i + 1 < n) (h : (L.getD (chL L i n) It.z).lt (L.getD i It.z)) : downL L i n = downL (swapL L i (chL L i n)) (chL L i n) n := by
  rw [downL, dif_pos h0, if_pos h]
attribute [local irreducible] swapL qrL lessF
theorem up_g : GSOK Try.prog 89 (fG upF) := by
  refine fokI (S := [(124, lessRS)]) (G := glook [(125, fG swapRF)]) [] [] _ [0] (pok_cons lessR_s pok_nil) (gl_cons swapR_g gl_nil) dl_nil q_meth ⟨Try.func89, by kernel_rfl, by kernel_rfl, by kernel_rfl⟩ fun l es obs v es' h ho => ?_
  unfold upF at h
  split at h
  rotate_left
  · cases h
  rename_i j n c m f
  simp only [Option.some.injEq, Prod.mk.injEq] at h
  obtain ⟨rfl, rfl, rfl⟩ := h
  simp only [List.mem_cons, List.not_mem_nil, or_false, forall_eq_or_imp, forall_eq] at ho
  obtain ⟨⟨L, rfl, rfl⟩, rfl, n1, j0, j1⟩ := ho
  obtain ⟨j, rfl⟩ := Int.eq_ofNat_of_zero_le j0
  rw [qrL_row, Int.toNat_natCast]
  refine ⟨Nat.le_of_ble_eq_true rfl, ?_⟩
  (repeat' (first | (refine xI (fun hfk => ?_) (fun hfk => ?_) <;> ((try (first | replace hfk := oT hfk | replace hfk := oF hfk | simp only [oD, ne_eq, reduceCtorEq] at hfk)); (try exact oX))) | (refine And.intro ?ob ?_; (case ob => (exact oZ))) | exact True.intro | (show _ = _; first | exact oY | exact rfl) | exact oW | (apply And.intro)))
  refine ⟨List It × Nat, fun g => [(0, .ifc 134 [.ptr 0 0]), (1, .int .i64 (g.2 : Int))],
    fun g => ⟨2, [(0, some (.cells 76 [.sl 1 4 0 L.length, .int .i64 c])), (1, some (.recs 136 4 L.length (rowG g.1)))]⟩,
    fun g => g.1.length = L.length ∧ g.2 < L.length ∧ upL g.1 g.2 = upL L j, fun g => g.2, ⟨(L, j), [some 0, some 1], ⟨rfl, by show j < _; omega, rfl⟩, ?_⟩, fun g hg => ?_⟩
  · (repeat' (first | (refine And.intro ?_ ?_) | exact True.intro | (show _ = _; with_reducible rfl) | exact Chk.mk (by kernel_rfl)))
    all_goals first | rfl | (exact fun _ _ => rfl)
  obtain ⟨A, k⟩ := g
  obtain ⟨a1, a2, a3⟩ := hg
  have a1 : A.length = L.length := a1
  have a2 : k < L.length := a2
  have a3 : upL A k = upL L j := a3
  dsimp only
  rw [← a3]
  clear a3
  obtain ⟨q, hq⟩ : ∃ q, (k - 1) / 2 = q := ⟨_, rfl⟩
  have hp : Int.tdiv ((k : Int) - 1) 2 = (q : Int) := by rw [up_par, hq]
  have dr : rngI .i64 (Int.tdiv ((k : Int) - 1) 2) := by rw [hp]; exact rng64 (by omega) (by omega)
  (repeat' (first | (refine xI (fun hfk => ?_) (fun hfk => ?_) <;> ((try (first | replace hfk := oT hfk | replace hfk := oF hfk | simp only [oD, ne_eq, reduceCtorEq] at hfk)); (try exact oX))) | (refine And.intro ?ob ?_; (case ob => (exact oZ))) | exact True.intro | (show _ = _; first | exact oY | (first | exact dr | skip; done) | exact rfl) | exact oW | (apply And.intro)))
  refine ⟨[(0, .ifc 134 [.ptr 0 0]), (1, .int .i64 (k : Int)), (4, .int .i64 (q : Int))], ⟨2, [(0, some (.cells 76 [.sl 1 4 0 L.length, .int .i64 c])), (1, some (.recs 136 4 L.length (rowG A)))]⟩, [some 0, some 1], ?_, ?_⟩
  · (repeat' (first | (refine And.intro ?_ ?_) | exact True.intro | (show _ = _; with_reducible rfl) | exact Chk.mk (by kernel_rfl)))
    all_goals first | rfl | exact hp | (exact fun _ _ => rfl)
  clear hp dr
  by_cases k0 : k = 0
  · subst k0
    have q0 : q = 0 := by omega
    subst q0
    rw [upL_0]
    (repeat' (first | (refine xI (fun hfk => ?_) (fun hfk => ?_) <;> ((try (first | replace hfk := oT hfk | replace hfk := oF hfk | simp only [oD, ne_eq, reduceCtorEq] at hfk)); (try exact oX))) | (refine And.intro ?ob ?_; (case ob => (exact oZ))) | exact True.intro | (show _ = _; first | exact oY | exact rfl) | exact oW | (apply And.intro)))
    refine ⟨[some 0, some 1], ?_⟩
    (repeat' (first | (refine xI (fun hfk => ?_) (fun hfk => ?_) <;> ((try (first | replace hfk := oT hfk | replace hfk := oF hfk | simp only [oD, ne_eq, reduceCtorEq] at hfk)); (try exact oX))) | (refine And.intro ?ob ?_; (case ob => (exact oZ))) | exact True.intro | (show _ = _; first | exact oY | exact rfl) | exact oW | (apply And.intro)))
  · have rp := rowp_at0 a1
    have rq := rowp_at a1
    have lf := lessF_at A k q
    by_cases hl : (A.getD k It.z).lt (A.getD q It.z)
    · rw [upL_yes (by omega) (by rw [hq]; exact hl), hq]
      rw [decide_eq_true hl] at lf
      (repeat' (first | (refine xI (fun hfk => ?_) (fun hfk => ?_) <;> ((try (first | replace hfk := oT hfk | replace hfk := oF hfk | simp only [oD, ne_eq, reduceCtorEq] at hfk)); (try exact oX))) | (refine And.intro ?ob ?_; (case ob => (exact oZ))) | exact True.intro | (show _ = _; first | exact oY | (first | exact rp | skip; done) | exact rfl) | exact oW | (apply And.intro)))
      (refine ⟨[1], ⟨by kernel_rfl⟩, ?_⟩)
      (repeat' (first | (refine xI (fun hfk => ?_) (fun hfk => ?_) <;> ((try (first | replace hfk := oT hfk | replace hfk := oF hfk | simp only [oD, ne_eq, reduceCtorEq] at hfk)); (try exact oX))) | (refine And.intro ?ob ?_; (case ob => (exact oZ))) | exact True.intro | (show _ = _; first | exact oY | (first | exact rq | skip; done) | exact rfl) | exact oW | (apply And.intro)))
      refine ⟨(swapL A q k, q), [some 0, some 1], ⟨by show (swapL A q k).length = _; rw [swapL_len, a1], by show q < _; omega, rfl⟩, ?mu, ?_⟩
      case mu => (show q < k; omega)
      have hsw : swapG (rowG A) q k = rowG (swapL A q k) := swapG_row (by omega) (by omega)
      (repeat' (first | (refine And.intro ?_ ?_) | exact True.intro | (show _ = _; with_reducible rfl) | exact Chk.mk (by kernel_rfl)))
      all_goals first | rfl | (exact fun j _ => congrFun hsw j) | skip
    · rw [upL_no (by rw [hq]; exact hl)]
      rw [decide_eq_false hl] at lf
      (repeat' (first | (refine xI (fun hfk => ?_) (fun hfk => ?_) <;> ((try (first | replace hfk := oT hfk | replace hfk := oF hfk | simp only [oD, ne_eq, reduceCtorEq] at hfk)); (try exact oX))) | (refine And.intro ?ob ?_; (case ob => (exact oZ))) | exact True.intro | (show _ = _; first | exact oY | (first | exact rp | skip; done) | exact rfl) | exact oW | (apply And.intro)))
      refine ⟨[some 0, some 1], ?_⟩
      (repeat' (first | (refine xI (fun hfk => ?_) (fun hfk => ?_) <;> ((try (first | replace hfk := oT hfk | replace hfk := oF hfk | simp only [oD, ne_eq, reduceCtorEq] at hfk)); (try exact oX))) | (refine And.intro ?ob ?_; (case ob => (exact oZ))) | exact True.intro | (show _ = _; first | exact oY | exact rfl) | exact oW | (apply And.intro)))
def downF : FSpec := fun l es => match l, es with
  | [.ifc 134 [.ptr 0 0], .int .i64 i, .int .i64 r], [.cells 76 [.sl 1 4 0 n, .int .i64 c], .recs 136 4 m f] =>
    some ([RowP m f, n = m, n ≤ 1000000, 0 ≤ i, i ≤ (n : Int), 0 ≤ r, r ≤ (n : Int)], .any, [some (.cells 76 [.sl 1 4 0 n, .int .i64 c]), some (.recs 136 4 m (rowG (downL (qrL m f) i.toNat r.toNat)))])
  | _, _ => none
theorem down_g : GSOK Try.prog 90 (fG downF) := by
  refine fokI (S := [(124, lessRS)]) (G := glook [(125, fG swapRF)]) [] [] _ [2, 5] (pok_cons lessR_s pok_nil) (gl_cons swapR_g gl_nil) dl_nil q_meth ⟨Try.func90, by kernel_rfl, by kernel_rfl, by kernel_rfl⟩ fun l es obs v es' h ho => ?_
  unfold downF at h
  split at h
  rotate_left
  · cases h
  rename_i i0 n m0 c m f
  simp only [Option.some.injEq, Prod.mk.injEq] at h
  obtain ⟨rfl, rfl, rfl⟩ := h
  simp only [List.mem_cons, List.not_mem_nil, or_false, forall_eq_or_imp, forall_eq] at ho
  obtain ⟨⟨L, rfl, rfl⟩, rfl, n1, j0, j1, r0, r1⟩ := ho
  obtain ⟨i0, rfl⟩ := Int.eq_ofNat_of_zero_le j0
  obtain ⟨n, rfl⟩ := Int.eq_ofNat_of_zero_le r0
  rw [qrL_row, Int.toNat_natCast, Int.toNat_natCast]
  refine ⟨Nat.le_of_ble_eq_true rfl, ?_⟩
  (repeat' (first | (refine xI (fun hfk => ?_) (fun hfk => ?_) <;> ((try (first | replace hfk := oT hfk | replace hfk := oF hfk | simp only [oD, ne_eq, reduceCtorEq] at hfk)); (try exact oX))) | (refine And.intro ?ob ?_; (case ob => (exact oZ))) | exact True.intro | (show _ = _; first | exact oY | exact rfl) | exact oW | (apply And.intro)))
  refine ⟨List It × Nat, fun g => [(0, .ifc 134 [.ptr 0 0]), (1, .int .i64 (i0 : Int)), (2, .int .i64 (n : Int)), (7, .int .i64 (g.2 : Int))],
    fun g => ⟨2, [(0, some (.cells 76 [.sl 1 4 0 L.length, .int .i64 c])), (1, some (.recs 136 4 L.length (rowG g.1)))]⟩,
    fun g => g.1.length = L.length ∧ g.2 ≤ L.length ∧ downL g.1 g.2 n = downL L i0 n, fun g => n - g.2, ⟨(L, i0), [some 0, some 1], ⟨rfl, by show i0 ≤ _; omega, rfl⟩, ?_⟩, fun g hg => ?_⟩
  · (repeat' (first | (refine And.intro ?_ ?_) | exact True.intro | (show _ = _; with_reducible rfl) | exact Chk.mk (by kernel_rfl)))
    all_goals first | rfl | (exact fun _ _ => rfl)
  obtain ⟨A, k⟩ := g
  obtain ⟨a1, a2, a3⟩ := hg
  have a1 : A.length = L.length := a1
  have a2 : k ≤ L.length := a2
  have a3 : downL A k n = downL L i0 n := a3
  dsimp only
  rw [← a3]
  clear a3
  obtain ⟨u, hu⟩ : ∃ u, 2 * k + 1 = u := ⟨_, rfl⟩
  have hp : 2 * (k : Int) + 1 = (u : Int) := by omega
  (repeat' (first | (refine xI (fun hfk => ?_) (fun hfk => ?_) <;> ((try (first | replace hfk := oT hfk | replace hfk := oF hfk | simp only [oD, ne_eq, reduceCtorEq] at hfk)); (try exact oX))) | (refine And.intro ?ob ?_; (case ob => (exact oZ))) | exact True.intro | (show _ = _; first | exact oY | exact rfl) | exact oW | (apply And.intro)))
  refine ⟨[(0, .ifc 134 [.ptr 0 0]), (1, .int .i64 (i0 : Int)), (2, .int .i64 (n : Int)), (7, .int .i64 (k : Int)), (8, .int .i64 (u : Int))], ⟨2, [(0, some (.cells 76 [.sl 1 4 0 L.length, .int .i64 c])), (1, some (.recs 136 4 L.length (rowG A)))]⟩, [some 0, some 1], ?_, ?_⟩
  · (repeat' (first | (refine And.intro ?_ ?_) | exact True.intro | (show _ = _; with_reducible rfl) | exact Chk.mk (by kernel_rfl)))
    all_goals first | rfl | exact hp | (exact fun _ _ => rfl)
  by_cases hd : u < n
  rotate_left
  · rw [downL_end (by omega)]
    (repeat' (first | (refine xI (fun hfk => ?_) (fun hfk => ?_) <;> ((try (first | replace hfk := oT hfk | replace hfk := oF hfk | simp only [oD, ne_eq, reduceCtorEq] at hfk)); (try exact oX))) | (refine And.intro ?ob ?_; (case ob => (exact oZ))) | exact True.intro | (show _ = _; first | exact oY | exact rfl) | exact oW | (apply And.intro)))
    refine ⟨[some 0, some 1], ?_⟩
    (repeat' (first | (refine xI (fun hfk => ?_) (fun hfk => ?_) <;> ((try (first | replace hfk := oT hfk | replace hfk := oF hfk | simp only [oD, ne_eq, reduceCtorEq] at hfk)); (try exact oX))) | (refine And.intro ?ob ?_; (case ob => (exact oZ))) | exact True.intro | (show _ = _; first | exact oY | exact rfl) | exact oW | (apply And.intro)))
  obtain ⟨v, hv⟩ : ∃ v, u + 1 = v := ⟨_, rfl⟩
  have hp2 : (u : Int) + 1 = (v : Int) := by omega
  (repeat' (first | (refine xI (fun hfk => ?_) (fun hfk => ?_) <;> ((try (first | replace hfk := oT hfk | replace hfk := oF hfk | simp only [oD, ne_eq, reduceCtorEq] at hfk)); (try exact oX))) | (refine And.intro ?ob ?_; (case ob => (exact oZ))) | exact True.intro | (show _ = _; first | exact oY | exact rfl) | exact oW | (apply And.intro)))
  refine ⟨[(0, .ifc 134 [.ptr 0 0]), (1, .int .i64 (i0 : Int)), (2, .int .i64 (n : Int)), (7, .int .i64 (k : Int)), (8, .int .i64 (u : Int)), (9, .int .i64 (u : Int)), (10, .int .i64 (v : Int))], ⟨2, [(0, some (.cells 76 [.sl 1 4 0 L.length, .int .i64 c])), (1, some (.recs 136 4 L.length (rowG A)))]⟩, [some 0, some 1], ?_, ?_⟩
  · (repeat' (first | (refine And.intro ?_ ?_) | exact True.intro | (show _ = _; with_reducible rfl) | exact Chk.mk (by kernel_rfl)))
    all_goals first | rfl | exact hp2 | (exact fun _ _ => rfl)
  clear hp hp2
  have rp := rowp_at0 a1
  have rq := rowp_at a1
  by_cases hvn : v < n
  · have lf := lessF_at A v u
    by_cases hc : (A.getD v It.z).lt (A.getD u It.z)
    · have hj : chL A k n = v := by
        unfold chL
        rw [if_pos (by rw [show 2 * k + 2 = v by omega, hu]; exact ⟨hvn, hc⟩)]
        omega
      rw [decide_eq_true hc] at lf
      have lf2 := lessF_at A v k
      by_cases hl : (A.getD v It.z).lt (A.getD k It.z)
      · rw [downL_yes (by omega) (by rw [hj]; exact hl), hj]
        rw [decide_eq_true hl] at lf2
        (repeat' (first | (refine xI (fun hfk => ?_) (fun hfk => ?_) <;> ((try (first | replace hfk := oT hfk | replace hfk := oF hfk | simp only [oD, ne_eq, reduceCtorEq] at hfk)); (try exact oX))) | (refine And.intro ?ob ?_; (case ob => (exact oZ))) | exact True.intro | (show _ = _; first | exact oY | (first | exact rp | skip; done) | exact rfl) | exact oW | (apply And.intro)))
        (refine ⟨[1], ⟨by kernel_rfl⟩, ?_⟩)
        (repeat' (first | (refine xI (fun hfk => ?_) (fun hfk => ?_) <;> ((try (first | replace hfk := oT hfk | replace hfk := oF hfk | simp only [oD, ne_eq, reduceCtorEq] at hfk)); (try exact oX))) | (refine And.intro ?ob ?_; (case ob => (exact oZ))) | exact True.intro | (show _ = _; first | exact oY | (first | exact rq | skip; done) | exact rfl) | exact oW | (apply And.intro)))
        refine ⟨(swapL A k v, v), [some 0, some 1], ⟨by show (swapL A k v).length = _; rw [swapL_len, a1], by show v ≤ _; omega, rfl⟩, ?mu, ?_⟩
        case mu => (show n - v < n - k; omega)
        have hsw : swapG (rowG A) k v = rowG (swapL A k v) := swapG_row (by omega) (by omega)
        (repeat' (first | (refine And.intro ?_ ?_) | exact True.intro | (show _ = _; with_reducible rfl) | exact Chk.mk (by kernel_rfl)))
        all_goals first | rfl | (exact fun j _ => congrFun hsw j) | skip
      · rw [downL_no (by rw [hj]; exact hl)]
        rw [decide_eq_false hl] at lf2
        (repeat' (first | (refine xI (fun hfk => ?_) (fun hfk => ?_) <;> ((try (first | replace hfk := oT hfk | replace hfk := oF hfk | simp only [oD, ne_eq, reduceCtorEq] at hfk)); (try exact oX))) | (refine And.intro ?ob ?_; (case ob => (exact oZ))) | exact True.intro | (show _ = _; first | exact oY | (first | exact rp | skip; done) | exact rfl) | exact oW | (apply And.intro)))
        refine ⟨[some 0, some 1], ?_⟩
        (repeat' (first | (refine xI (fun hfk => ?_) (fun hfk => ?_) <;> ((try (first | replace hfk := oT hfk | replace hfk := oF hfk | simp only [oD, ne_eq, reduceCtorEq] at hfk)); (try exact oX))) | (refine And.intro ?ob ?_; (case ob => (exact oZ))) | exact True.intro | (show _ = _; first | exact oY | exact rfl) | exact oW | (apply And.intro)))
    · have hj : chL A k n = u := by
        unfold chL
        rw [if_neg (by rw [show 2 * k + 2 = v by omega, hu]; exact fun h => hc h.2)]
        omega
      rw [decide_eq_false hc] at lf
      have lf2 := lessF_at A u k
      by_cases hl : (A.getD u It.z).lt (A.getD k It.z)
      · rw [downL_yes (by omega) (by rw [hj]; exact hl), hj]
        rw [decide_eq_true hl] at lf2
        (repeat' (first | (refine xI (fun hfk => ?_) (fun hfk => ?_) <;> ((try (first | replace hfk := oT hfk | replace hfk := oF hfk | simp only [oD, ne_eq, reduceCtorEq] at hfk)); (try exact oX))) | (refine And.intro ?ob ?_; (case ob => (exact oZ))) | exact True.intro | (show _ = _; first | exact oY | (first | exact rp | skip; done) | exact rfl) | exact oW | (apply And.intro)))
        (refine ⟨[1], ⟨by kernel_rfl⟩, ?_⟩)
        (repeat' (first | (refine xI (fun hfk => ?_) (fun hfk => ?_) <;> ((try (first | replace hfk := oT hfk | replace hfk := oF hfk | simp only [oD, ne_eq, reduceCtorEq] at hfk)); (try exact oX))) | (refine And.intro ?ob ?_; (case ob => (exact oZ))) | exact True.intro | (show _ = _; first | exact oY | (first | exact rq | skip; done) | exact rfl) | exact oW | (apply And.intro)))
        refine ⟨(swapL A k u, u), [some 0, some 1], ⟨by show (swapL A k u).length = _; rw [swapL_len, a1], by show u ≤ _; omega, rfl⟩, ?mu, ?_⟩
        case mu => (show n - u < n - k; omega)
        have hsw : swapG (rowG A) k u = rowG (swapL A k u) := swapG_row (by omega) (by omega)
        (repeat' (first | (refine And.intro ?_ ?_) | exact True.intro | (show _ = _; with_reducible rfl) | exact Chk.mk (by kernel_rfl)))
        all_goals first | rfl | (exact fun j _ => congrFun hsw j) | skip
      · rw [downL_no (by rw [hj]; exact hl)]
        rw [decide_eq_false hl] at lf2
        (repeat' (first | (refine xI (fun hfk => ?_) (fun hfk => ?_) <;> ((try (first | replace hfk := oT hfk | replace hfk := oF hfk | simp only [oD, ne_eq, reduceCtorEq] at hfk)); (try exact oX))) | (refine And.intro ?ob ?_; (case ob => (exact oZ))) | exact True.intro | (show _ = _; first | exact oY | (first | exact rp | skip; done) | exact rfl) | exact oW | (apply And.intro)))
        refine ⟨[some 0, some 1], ?_⟩
        (repeat' (first | (refine xI (fun hfk => ?_) (fun hfk => ?_) <;> ((try (first | replace hfk := oT hfk | replace hfk := oF hfk | simp only [oD, ne_eq, reduceCtorEq] at hfk)); (try exact oX))) | (refine And.intro ?ob ?_; (case ob => (exact oZ))) | exact True.intro | (show _ = _; first | exact oY | exact rfl) | exact oW | (apply And.intro)))
  · have hj : chL A k n = u := by
      unfold chL
      rw [if_neg (by rw [show 2 * k + 2 = v by omega]; exact fun h => hvn h.1)]
      omega
    have lf2 := lessF_at A u k
    by_cases hl : (A.getD u It.z).lt (A.getD k It.z)
    · rw [downL_yes (by omega) (by rw [hj]; exact hl), hj]
      rw [decide_eq_true hl] at lf2
      (repeat' (first | (refine xI (fun hfk => ?_) (fun hfk => ?_) <;> ((try (first | replace hfk := oT hfk | replace hfk := oF hfk | simp only [oD, ne_eq, reduceCtorEq] at hfk)); (try exact oX))) | (refine And.intro ?ob ?_; (case ob => (exact oZ))) | exact True.intro | (show _ = _; first | exact oY | (first | exact rp | skip; done) | exact rfl) | exact oW | (apply And.intro)))
      (refine ⟨[1], ⟨by kernel_rfl⟩, ?_⟩)
      (repeat' (first | (refine xI (fun hfk => ?_) (fun hfk => ?_) <;> ((try (first | replace hfk := oT hfk | replace hfk := oF hfk | simp only [oD, ne_eq, reduceCtorEq] at hfk)); (try exact oX))) | (refine And.intro ?ob ?_; (case ob => (exact oZ))) | exact True.intro | (show _ = _; first | exact oY | (first | exact rq | skip; done) | exact rfl) | exact oW | (apply And.intro)))
      refine ⟨(swapL A k u, u), [some 0, some 1], ⟨by show (swapL A k u).length = _; rw [swapL_len, a1], by show u ≤ _; omega, rfl⟩, ?mu, ?_⟩
      case mu => (show n - u < n - k; omega)
      have hsw : swapG (rowG A) k u = rowG (swapL A k u) := swapG_row (by omega) (by omega)
      (repeat' (first | (refine And.intro ?_ ?_) | exact True.intro | (show _ = _; with_reducible rfl) | exact Chk.mk (by kernel_rfl)))
      all_goals first | rfl | (exact fun j _ => congrFun hsw j) | skip
    · rw [downL_no (by rw [hj]; exact hl)]
      rw [decide_eq_false hl] at lf2
      (repeat' (first | (refine xI (fun hfk => ?_) (fun hfk => ?_) <;> ((try (first | replace hfk := oT hfk | replace hfk := oF hfk | simp only [oD, ne_eq, reduceCtorEq] at hfk)); (try exact oX))) | (refine And.intro ?ob ?_; (case ob => (exact oZ))) | exact True.intro | (show _ = _; first | exact oY | (first | exact rp | skip; done) | exact rfl) | exact oW | (apply And.intro)))
      refine ⟨[some 0, some 1], ?_⟩
      (repeat' (first | (refine xI (fun hfk => ?_) (fun hfk => ?_) <;> ((try (first | replace hfk := oT hfk | replace hfk := oF hfk | simp only [oD, ne_eq, reduceCtorEq] at hfk)); (try exact oX))) | (refine And.intro ?ob ?_; (case ob => (exact oZ))) | exact True.intro | (show _ = _; first | exact oY | exact rfl) | exact oW | (apply And.intro)))
end Go.Proofs.Ytgbekbofeaoniaa
namespace Go.Proofs.Ytgbekbofeaoniaa
open Go Go.RowKit
theorem upL_len (L : List It) (j : Nat) : (upL L j).length = L.length := by
  induction j using Nat.strongRecOn generalizing L with
  | _ j ih =>
    by_cases h0 : 0 < j
    · by_cases h : (L.getD j It.z).lt (L.getD ((j - 1) / 2) It.z)
      · rw [upL_yes h0 h, ih _ (by omega), swapL_len]
      · rw [upL_no h]
    · obtain rfl : j = 0 := by omega
      rw [upL_0]
theorem downL_len (L : List It) (i n : Nat) : (downL L i n).length = L.length := by
  generalize hk : n - i = k
  induction k using Nat.strongRecOn generalizing L i with
  | _ k ih =>
    by_cases h0 : 2 * i + 1 < n
    · by_cases h : (L.getD (chL L i n) It.z).lt (L.getD i It.z)
      · have h1 := chL_ge L i n
        have h2 := chL_lt L h0
        rw [downL_yes h0 h, ih (n - chL L i n) (by omega) _ _ rfl, swapL_len]
      · rw [downL_no h]
    · rw [downL_end h0]
def popL (L : List It) : List It := (downL (swapL L 0 (L.length - 1)) 0 (L.length - 1)).take (L.length - 1)
def popX (L : List It) : It := (downL (swapL L 0 (L.length - 1)) 0 (L.length - 1)).getD (L.length - 1) It.z
def pushL (L : List It) (x : It) : List It := upL (L ++ [x]) L.length
theorem pushL_len (L : List It) (x : It) : (pushL L x).length = L.length + 1 := by unfold pushL; rw [upL_len, List.length_append]; rfl
theorem popL_len (L : List It) : (popL L).length = L.length - 1 := by unfold popL; rw [List.length_take, downL_len, swapL_len]; omega
attribute [local irreducible] swapL qrL
def hpushF : FSpec := fun l es => match l, es with
  | [.ifc 134 [.ptr 0 0], .ifc 136 [.agg [.int .i64 a, .int .i64 b, .int .i64 p, .int .i64 q]]], [.cells 76 [.sl 1 4 0 n, .int .i64 c], .recs 136 4 m f] =>
    some ([RowP m f, n = m, n ≤ 100000], .tup [], [some (.cells 76 [.sl 2 4 0 (n + 1), .int .i64 c]), none, some (.recs 136 4 (m + 1) (rowG (pushL (qrL m f) ⟨a, b, p, q⟩)))])
  | _, _ => none
theorem hpush_g : GSOK Try.prog 67 (fG hpushF) := by
  refine fokI (S := [(123, lenRS)]) (G := glook [(129, fG pushRF), (89, fG upF)]) [] [] _ [0] (pok_cons lenR_s pok_nil) (gl_cons pushR_g (gl_cons up_g gl_nil)) dl_nil q_meth ⟨Try.func67, by kernel_rfl, by kernel_rfl, by kernel_rfl⟩ fun l es obs v es' h ho => ?_
  unfold hpushF at h
  split at h
  rotate_left
  · cases h
  rename_i a b p q n c m f
  simp only [Option.some.injEq, Prod.mk.injEq] at h
  obtain ⟨rfl, rfl, rfl⟩ := h
  simp only [List.mem_cons, List.not_mem_nil, or_false, forall_eq_or_imp, forall_eq] at ho
  obtain ⟨⟨L, rfl, rfl⟩, rfl, n1⟩ := ho
  rw [qrL_row]
  have rp := rowp L
  refine ⟨Nat.le_of_ble_eq_true rfl, ?_⟩
  (repeat' (first | (refine xI (fun hfk => ?_) (fun hfk => ?_) <;> ((try (first | replace hfk := oT hfk | replace hfk := oF hfk | simp only [oD, ne_eq, reduceCtorEq] at hfk)); (try exact oX))) | (refine And.intro ?ob ?_; (case ob => (exact oZ))) | exact True.intro | (show _ = _; first | exact oY | exact rfl) | exact oW | (apply And.intro)))
  (refine ⟨[0, 1], ⟨by kernel_rfl⟩, ?_⟩)
  (repeat' (first | (refine xI (fun hfk => ?_) (fun hfk => ?_) <;> ((try (first | replace hfk := oT hfk | replace hfk := oF hfk | simp only [oD, ne_eq, reduceCtorEq] at hfk)); (try exact oX))) | (refine And.intro ?ob ?_; (case ob => (exact oZ))) | exact True.intro | (show _ = _; first | exact oY | (first | exact rp | skip; done) | exact rfl) | exact oW | (apply And.intro)))
  refine ⟨[(0, .ifc 134 [.ptr 0 0])], ⟨3, [(0, some (.cells 76 [.sl 2 4 0 (L.length + 1), .int .i64 c])), (2, some (.recs 136 4 (L.length + 1) (rowG (L ++ [It.mk a b p q]))))]⟩, [some 0, some 1, some 2], ?_, ?_⟩
  · have hr : qrL L.length (rowG L) = L := qrL_row L
    (repeat' (first | (refine And.intro ?_ ?_) | exact True.intro | (show _ = _; with_reducible rfl) | exact Chk.mk (by kernel_rfl)))
    all_goals first | rfl | (rw [hr]; exact fun _ _ => rfl)
  have hl : (L ++ [It.mk a b p q]).length = L.length + 1 := by rw [List.length_append]; rfl
  have rq : RowP (L.length + 1) (rowG (L ++ [It.mk a b p q])) := rowp_at hl
  (repeat' (first | (refine xI (fun hfk => ?_) (fun hfk => ?_) <;> ((try (first | replace hfk := oT hfk | replace hfk := oF hfk | simp only [oD, ne_eq, reduceCtorEq] at hfk)); (try exact oX))) | (refine And.intro ?ob ?_; (case ob => (exact oZ))) | exact True.intro | (show _ = _; first | exact oY | exact rfl) | exact oW | (apply And.intro)))
  (refine ⟨[0, 2], ⟨by kernel_rfl⟩, ?_⟩)
  (repeat' (first | (refine xI (fun hfk => ?_) (fun hfk => ?_) <;> ((try (first | replace hfk := oT hfk | replace hfk := oF hfk | simp only [oD, ne_eq, reduceCtorEq] at hfk)); (try exact oX))) | (refine And.intro ?ob ?_; (case ob => (exact oZ))) | exact True.intro | (show _ = _; first | exact oY | (first | exact rq | skip; done) | exact rfl) | exact oW | (apply And.intro)))
  refine ⟨[some 0, some 1, some 2], ?_⟩
  have hr : qrL (L.length + 1) (rowG (L ++ [It.mk a b p q])) = L ++ [It.mk a b p q] := by rw [← hl]; exact qrL_row _
  have e : upL (qrL (L.length + 1) (rowG (L ++ [It.mk a b p q]))) (((L.length + 1 : Nat) : Int) - 1).toNat = pushL L ⟨a, b, p, q⟩ := by
    rw [hr, show (((L.length + 1 : Nat) : Int) - 1).toNat = L.length by omega]
    rfl
  (repeat' (first | (refine xI (fun hfk => ?_) (fun hfk => ?_) <;> ((try (first | replace hfk := oT hfk | replace hfk := oF hfk | simp only [oD, ne_eq, reduceCtorEq] at hfk)); (try exact oX))) | (refine And.intro ?ob ?_; (case ob => (exact oZ))) | exact True.intro | (show _ = _; first | exact oY | exact rfl) | exact oW | (apply And.intro)))
  exact fun j _ => by rw [e]
def hpopF : FSpec := fun l es => match l, es with
  | [.ifc 134 [.ptr 0 0]], [.cells 76 [.sl 1 4 0 n, .int .i64 c], .recs 136 4 m f] =>
    some ([RowP m f, n = m, 0 < n, n ≤ 1000000], .ifc 136 [(popX (qrL m f)).av], [some (.cells 76 [.sl 1 4 0 (n - 1), .int .i64 c]), some (.recs 136 4 (m - 1) (rowG (popL (qrL m f))))])
  | _, _ => none
theorem hpop_g : GSOK Try.prog 68 (fG hpopF) := by
  refine fokI (S := [(123, lenRS)]) (G := glook [(128, fG popRF), (125, fG swapRF), (90, fG downF)]) [] [] _ [1, 2, 3] (pok_cons lenR_s pok_nil) (gl_cons popR_g (gl_cons swapR_g (gl_cons down_g gl_nil))) dl_nil q_meth ⟨Try.func68, by kernel_rfl, by kernel_rfl, by kernel_rfl⟩ fun l es obs v es' h ho => ?_
  unfold hpopF at h
  split at h
  rotate_left
  · cases h
  rename_i n c m f
  simp only [Option.some.injEq, Prod.mk.injEq] at h
  obtain ⟨rfl, rfl, rfl⟩ := h
  simp only [List.mem_cons, List.not_mem_nil, or_false, forall_eq_or_imp, forall_eq] at ho
  obtain ⟨⟨L, rfl, rfl⟩, rfl, n0, n1⟩ := ho
  rw [qrL_row]
  have rp := rowp L
  obtain ⟨k, hk⟩ : ∃ k, L.length - 1 = k := ⟨_, rfl⟩
  have hk2 : ((L.length : Nat) : Int) - 1 = (k : Int) := by omega
  refine ⟨Nat.le_of_ble_eq_true rfl, ?_⟩
  (repeat' (first | (refine xI (fun hfk => ?_) (fun hfk => ?_) <;> ((try (first | replace hfk := oT hfk | replace hfk := oF hfk | simp only [oD, ne_eq, reduceCtorEq] at hfk)); (try exact oX))) | (refine And.intro ?ob ?_; (case ob => (exact oZ))) | exact True.intro | (show _ = _; first | exact oY | exact rfl) | exact oW | (apply And.intro)))
  refine ⟨[(0, .ifc 134 [.ptr 0 0]), (3, .int .i64 (k : Int))], ⟨2, [(0, some (.cells 76 [.sl 1 4 0 L.length, .int .i64 c])), (1, some (.recs 136 4 L.length (rowG L)))]⟩, [some 0, some 1], ?_, ?_⟩
  · (repeat' (first | (refine And.intro ?_ ?_) | exact True.intro | (show _ = _; with_reducible rfl) | exact Chk.mk (by kernel_rfl)))
    all_goals first | rfl | exact hk2 | (exact fun _ _ => rfl)
  (repeat' (first | (refine xI (fun hfk => ?_) (fun hfk => ?_) <;> ((try (first | replace hfk := oT hfk | replace hfk := oF hfk | simp only [oD, ne_eq, reduceCtorEq] at hfk)); (try exact oX))) | (refine And.intro ?ob ?_; (case ob => (exact oZ))) | exact True.intro | (show _ = _; first | exact oY | exact rfl) | exact oW | (apply And.intro)))
  (refine ⟨[1], ⟨by kernel_rfl⟩, ?_⟩)
  (repeat' (first | (refine xI (fun hfk => ?_) (fun hfk => ?_) <;> ((try (first | replace hfk := oT hfk | replace hfk := oF hfk | simp only [oD, ne_eq, reduceCtorEq] at hfk)); (try exact oX))) | (refine And.intro ?ob ?_; (case ob => (exact oZ))) | exact True.intro | (show _ = _; first | exact oY | (first | exact rp | skip; done) | exact rfl) | exact oW | (apply And.intro)))
  have hs : swapG (rowG L) 0 k = rowG (swapL L 0 k) := swapG_row (by omega) (by omega)
  have hsl : (swapL L 0 k).length = L.length := swapL_len L 0 k
  refine ⟨[(0, .ifc 134 [.ptr 0 0]), (3, .int .i64 (k : Int))], ⟨2, [(0, some (.cells 76 [.sl 1 4 0 L.length, .int .i64 c])), (1, some (.recs 136 4 L.length (rowG (swapL L 0 k))))]⟩, [some 0, some 1], ?_, ?_⟩
  · (repeat' (first | (refine And.intro ?_ ?_) | exact True.intro | (show _ = _; with_reducible rfl) | exact Chk.mk (by kernel_rfl)))
    all_goals first | rfl | (exact fun j _ => congrFun hs j)
  have rq : RowP L.length (rowG (swapL L 0 k)) := rowp_at hsl
  (repeat' (first | (refine xI (fun hfk => ?_) (fun hfk => ?_) <;> ((try (first | replace hfk := oT hfk | replace hfk := oF hfk | simp only [oD, ne_eq, reduceCtorEq] at hfk)); (try exact oX))) | (refine And.intro ?ob ?_; (case ob => (exact oZ))) | exact True.intro | (show _ = _; first | exact oY | exact rfl) | exact oW | (apply And.intro)))
  (refine ⟨[0, 1], ⟨by kernel_rfl⟩, ?_⟩)
  (repeat' (first | (refine xI (fun hfk => ?_) (fun hfk => ?_) <;> ((try (first | replace hfk := oT hfk | replace hfk := oF hfk | simp only [oD, ne_eq, reduceCtorEq] at hfk)); (try exact oX))) | (refine And.intro ?ob ?_; (case ob => (exact oZ))) | exact True.intro | (show _ = _; first | exact oY | (first | exact rq | skip; done) | exact rfl) | exact oW | (apply And.intro)))
  have hr : qrL L.length (rowG (swapL L 0 k)) = swapL L 0 k := by rw [← hsl]; exact qrL_row _
  obtain ⟨B, hB⟩ : ∃ B, downL (swapL L 0 k) 0 k = B := ⟨_, rfl⟩
  have hBl : B.length = L.length := by rw [← hB, downL_len, hsl]
  have e : downL (qrL L.length (rowG (swapL L 0 k))) (Int.toNat 0) (k : Int).toNat = B := by rw [hr]; exact hB
  refine ⟨[(0, .ifc 134 [.ptr 0 0])], ⟨2, [(0, some (.cells 76 [.sl 1 4 0 L.length, .int .i64 c])), (1, some (.recs 136 4 L.length (rowG B)))]⟩, [some 0, some 1], ?_, ?_⟩
  · (repeat' (first | (refine And.intro ?_ ?_) | exact True.intro | (show _ = _; with_reducible rfl) | exact Chk.mk (by kernel_rfl)))
    all_goals first | rfl | (exact fun j _ => by rw [← e])
  have rb : RowP L.length (rowG B) := rowp_at hBl
  (repeat' (first | (refine xI (fun hfk => ?_) (fun hfk => ?_) <;> ((try (first | replace hfk := oT hfk | replace hfk := oF hfk | simp only [oD, ne_eq, reduceCtorEq] at hfk)); (try exact oX))) | (refine And.intro ?ob ?_; (case ob => (exact oZ))) | exact True.intro | (show _ = _; first | exact oY | exact rfl) | exact oW | (apply And.intro)))
  (refine ⟨[0, 1], ⟨by kernel_rfl⟩, ?_⟩)
  (repeat' (first | (refine xI (fun hfk => ?_) (fun hfk => ?_) <;> ((try (first | replace hfk := oT hfk | replace hfk := oF hfk | simp only [oD, ne_eq, reduceCtorEq] at hfk)); (try exact oX))) | (refine And.intro ?ob ?_; (case ob => (exact oZ))) | exact True.intro | (show _ = _; first | exact oY | (first | exact rb | skip; done) | exact rfl) | exact oW | (apply And.intro)))
  refine ⟨[some 0, some 1], ?_⟩
  have hrb : qrL L.length (rowG B) = B := by rw [← hBl]; exact qrL_row _
  have hpx : popX L = B.getD (L.length - 1) It.z := by unfold popX; rw [hk, hB]
  have hpl : popL L = B.take (L.length - 1) := by unfold popL; rw [hk, hB]
  rw [hpx, hpl]
  (repeat' (first | (refine xI (fun hfk => ?_) (fun hfk => ?_) <;> ((try (first | replace hfk := oT hfk | replace hfk := oF hfk | simp only [oD, ne_eq, reduceCtorEq] at hfk)); (try exact oX))) | (refine And.intro ?ob ?_; (case ob => (exact oZ))) | exact True.intro | (show _ = _; first | exact oY | exact rfl) | exact oW | (apply And.intro)))
  exact fun j _ => by rw [hrb]
end Go.Proofs.Ytgbekbofeaoniaa
namespace Go.Proofs.Ytgbekbofeaoniaa
open Go Go.RowKit
def gdq (s1 s2 : GSpec) : GSpec := fun l H K => s1 l H K ∨ s2 l H K
theorem gdq_ok {P : Program} {g : FuncId} {s1 s2 : GSpec} (h1 : GSOK P g s1) (h2 : GSOK P g s2) : GSOK P g (gdq s1 s2) := ⟨h1.1, fun l H K h => h.elim (h1.2 l H K) (h2.2 l H K)⟩
theorem push_a : pushL [] ⟨0, 1, 2, 0⟩ = [⟨0, 1, 2, 0⟩] := by unfold pushL; exact upL_0 _
theorem push_b : pushL [⟨0, 1, 2, 0⟩] ⟨0, 2, 1, 1⟩ = [⟨0, 2, 1, 1⟩, ⟨0, 1, 2, 0⟩] := by
  unfold pushL
  rw [upL_yes (by decide) (by decide)]
  exact upL_0 _
theorem pop_b : popX [⟨0, 2, 1, 1⟩, ⟨0, 1, 2, 0⟩] = ⟨0, 2, 1, 1⟩ ∧ popL [⟨0, 2, 1, 1⟩, ⟨0, 1, 2, 0⟩] = [⟨0, 1, 2, 0⟩] := by
  have e : downL (swapL [⟨0, 2, 1, 1⟩, ⟨0, 1, 2, 0⟩] 0 1) 0 1 = [⟨0, 1, 2, 0⟩, ⟨0, 2, 1, 1⟩] := by
    rw [downL_end (by decide)]
    rfl
  constructor
  · unfold popX
    show (downL (swapL [⟨0, 2, 1, 1⟩, ⟨0, 1, 2, 0⟩] 0 1) 0 1).getD 1 It.z = _
    rw [e]; rfl
  · unfold popL
    show (downL (swapL [⟨0, 2, 1, 1⟩, ⟨0, 1, 2, 0⟩] 0 1) 0 1).take 1 = _
    rw [e]; rfl
attribute [local irreducible] swapL qrL popL popX pushL
def qnewF : FSpec := fun l es => match l, es with
  | [], [] => some ([], .ptr 0 0, [some (.cells 76 [.nils, .int .i64 0])])
  | _, _ => none
theorem qnew_g : GSOK Try.prog 34 (fG qnewF) := by
  refine fokI (S := []) (G := noG) [] [] [] [] pok_nil noG_ok dl_nil mok_nil ⟨Try.func34, by kernel_rfl, by kernel_rfl, by kernel_rfl⟩ fun l es obs v es' h ho => ?_
  unfold qnewF at h
  split at h
  rotate_left
  · cases h
  simp only [Option.some.injEq, Prod.mk.injEq] at h
  obtain ⟨rfl, rfl, rfl⟩ := h
  refine ⟨Nat.le_of_ble_eq_true rfl, ?_⟩
  (repeat' (first | (refine xI (fun hfk => ?_) (fun hfk => ?_) <;> ((try (first | replace hfk := oT hfk | replace hfk := oF hfk | simp only [oD, ne_eq, reduceCtorEq] at hfk)); (try exact oX))) | (refine And.intro ?ob ?_; (case ob => (exact oZ))) | exact True.intro | (show _ = _; first | exact oY | exact rfl) | exact oW | (apply And.intro)))
  refine ⟨[some 0], ?_⟩
  (repeat' (first | (refine xI (fun hfk => ?_) (fun hfk => ?_) <;> ((try (first | replace hfk := oT hfk | replace hfk := oF hfk | simp only [oD, ne_eq, reduceCtorEq] at hfk)); (try exact oX))) | (refine And.intro ?ob ?_; (case ob => (exact oZ))) | exact True.intro | (show _ = _; first | exact oY | exact rfl) | exact oW | (apply And.intro)))
abbrev qlenS : PSpec := fun l => match l with | [.rop (.agg [.ro 4 n f, .int .i64 c])] => some ([], .int .i64 (n : Int)) | [.rop (.agg [.nils, .int .i64 c])] => some ([], .int .i64 0) | [.nilp] => some ([], .int .i64 0) | _ => none
theorem qlen_s : SOK Try.prog 39 qlenS := by
  refine sok_of (C := mkC 0 [] noG) (mkC_ok pok_nil noG_ok) rfl mixed ⟨Try.func39, by kernel_rfl, by kernel_rfl, by kernel_rfl⟩ fun l obs v h ho => ?_
  unfold qlenS at h
  split at h
  rotate_right
  · cases h
  all_goals (
    simp only [Option.some.injEq, Prod.mk.injEq] at h
    obtain ⟨rfl, rfl⟩ := h
    refine ⟨Nat.le_of_ble_eq_true rfl, ?_⟩
    (repeat' (first | (refine xI (fun hfk => ?_) (fun hfk => ?_) <;> ((try (first | replace hfk := oT hfk | replace hfk := oF hfk | simp only [oD, ne_eq, reduceCtorEq] at hfk)); (try exact oX))) | (refine And.intro ?ob ?_; (case ob => (exact oZ))) | exact True.intro | (show _ = _; first | exact oY | exact rfl) | exact oW | (apply And.intro))))
def qpushF : FSpec := fun l es => match l, es with
  | [.ptr 0 0, .agg [.int .i64 a, .int .i64 b], .int .i64 p], [.cells 76 [.sl 1 4 0 n, .int .i64 c], .recs 136 4 m f] =>
    some ([RowP m f, n = m, n ≤ 100000, 0 ≤ c, c ≤ 1000000], .tup [], [some (.cells 76 [.sl 2 4 0 (n + 1), .int .i64 (c + 1)]), none, some (.recs 136 4 (m + 1) (rowG (pushL (qrL m f) ⟨a, b, p, c⟩)))])
  | _, _ => none
theorem qpush_g : GSOK Try.prog 35 (fG qpushF) := by
  refine fokI (S := []) (G := glook [(67, fG hpushF)]) [] [] _ [] pok_nil (gl_cons hpush_g gl_nil) dl_nil q_meth ⟨Try.func35, by kernel_rfl, by kernel_rfl, by kernel_rfl⟩ fun l es obs v es' h ho => ?_
  unfold qpushF at h
  split at h
  rotate_left
  · cases h
  rename_i a b p n c m f
  simp only [Option.some.injEq, Prod.mk.injEq] at h
  obtain ⟨rfl, rfl, rfl⟩ := h
  simp only [List.mem_cons, List.not_mem_nil, or_false, forall_eq_or_imp, forall_eq] at ho
  obtain ⟨⟨L, rfl, rfl⟩, rfl, n1, c0, c1⟩ := ho
  rw [qrL_row]
  have rp := rowp L
  refine ⟨Nat.le_of_ble_eq_true rfl, ?_⟩
  (repeat' (first | (refine xI (fun hfk => ?_) (fun hfk => ?_) <;> ((try (first | replace hfk := oT hfk | replace hfk := oF hfk | simp only [oD, ne_eq, reduceCtorEq] at hfk)); (try exact oX))) | (refine And.intro ?ob ?_; (case ob => (exact oZ))) | exact True.intro | (show _ = _; first | exact oY | exact rfl) | exact oW | (apply And.intro)))
  (refine ⟨[0, 1], ⟨by kernel_rfl⟩, ?_⟩)
  (repeat' (first | (refine xI (fun hfk => ?_) (fun hfk => ?_) <;> ((try (first | replace hfk := oT hfk | replace hfk := oF hfk | simp only [oD, ne_eq, reduceCtorEq] at hfk)); (try exact oX))) | (refine And.intro ?ob ?_; (case ob => (exact oZ))) | exact True.intro | (show _ = _; first | exact oY | (first | exact rp | skip; done) | exact rfl) | exact oW | (apply And.intro)))
  refine ⟨[some 0, some 1, some 3], ?_⟩
  have hr : qrL L.length (rowG L) = L := qrL_row L
  (repeat' (first | (refine xI (fun hfk => ?_) (fun hfk => ?_) <;> ((try (first | replace hfk := oT hfk | replace hfk := oF hfk | simp only [oD, ne_eq, reduceCtorEq] at hfk)); (try exact oX))) | (refine And.intro ?ob ?_; (case ob => (exact oZ))) | exact True.intro | (show _ = _; first | exact oY | exact rfl) | exact oW | (apply And.intro)))
  exact fun j _ => by rw [hr]
def qpopF : FSpec := fun l es => match l, es with
  | [.ptr 0 0], [.cells 76 [.sl 1 4 0 n, .int .i64 c], .recs 136 4 m f] =>
    some ([RowP m f, n = m, 0 < n, n ≤ 100000], .tup [.agg [.int .i64 (popX (qrL m f)).l, .int .i64 (popX (qrL m f)).i], .int .i64 (popX (qrL m f)).p, .tru], [some (.cells 76 [.sl 1 4 0 (n - 1), .int .i64 c]), some (.recs 136 4 (m - 1) (rowG (popL (qrL m f))))])
  | _, _ => none
theorem qpop_g : GSOK Try.prog 36 (fG qpopF) := by
  refine fokI (S := [(39, qlenS)]) (G := glook [(68, fG hpopF)]) [] [] _ [] (pok_cons qlen_s pok_nil) (gl_cons hpop_g gl_nil) dl_nil q_meth ⟨Try.func36, by kernel_rfl, by kernel_rfl, by kernel_rfl⟩ fun l es obs v es' h ho => ?_
  unfold qpopF at h
  split at h
  rotate_left
  · cases h
  rename_i n c m f
  simp only [Option.some.injEq, Prod.mk.injEq] at h
  obtain ⟨rfl, rfl, rfl⟩ := h
  simp only [List.mem_cons, List.not_mem_nil, or_false, forall_eq_or_imp, forall_eq] at ho
  obtain ⟨⟨L, rfl, rfl⟩, rfl, n0, n1⟩ := ho
  rw [qrL_row]
  have rp := rowp L
  refine ⟨Nat.le_of_ble_eq_true rfl, ?_⟩
  (repeat' (first | (refine xI (fun hfk => ?_) (fun hfk => ?_) <;> ((try (first | replace hfk := oT hfk | replace hfk := oF hfk | simp only [oD, ne_eq, reduceCtorEq] at hfk)); (try exact oX))) | (refine And.intro ?ob ?_; (case ob => (exact oZ))) | exact True.intro | (show _ = _; first | exact oY | exact rfl) | exact oW | (apply And.intro)))
  (refine ⟨[0, 1], ⟨by kernel_rfl⟩, ?_⟩)
  (repeat' (first | (refine xI (fun hfk => ?_) (fun hfk => ?_) <;> ((try (first | replace hfk := oT hfk | replace hfk := oF hfk | simp only [oD, ne_eq, reduceCtorEq] at hfk)); (try exact oX))) | (refine And.intro ?ob ?_; (case ob => (exact oZ))) | exact True.intro | (show _ = _; first | exact oY | (first | exact rp | skip; done) | exact rfl) | exact oW | (apply And.intro)))
  refine ⟨[some 0, some 1], ?_⟩
  have hr : qrL L.length (rowG L) = L := qrL_row L
  (repeat' (first | (refine xI (fun hfk => ?_) (fun hfk => ?_) <;> ((try (first | replace hfk := oT hfk | replace hfk := oF hfk | simp only [oD, ne_eq, reduceCtorEq] at hfk)); (try exact oX))) | (refine And.intro ?ob ?_; (case ob => (exact oZ))) | exact True.intro | (show _ = _; first | exact oY | (rw [hr]; done) | exact rfl) | exact oW | (apply And.intro)))
  exact fun j _ => by rw [hr]
def qpop0F : FSpec := fun l es => match l, es with
  | [.ptr 0 0], [.cells 76 [.sl 1 4 0 n, .int .i64 c], .recs 136 4 m f] =>
    some ([n = 0, m = 0], .tup [.agg [.int .i64 0, .int .i64 0], .int .i64 0, .fls], [some (.cells 76 [.sl 1 4 0 0, .int .i64 c]), some (.recs 136 4 0 f)])
  | _, _ => none
theorem qpop0_g : GSOK Try.prog 36 (fG qpop0F) := by
  refine fokI (S := [(39, qlenS)]) (G := noG) [] [] [] [] (pok_cons qlen_s pok_nil) noG_ok dl_nil mok_nil ⟨Try.func36, by kernel_rfl, by kernel_rfl, by kernel_rfl⟩ fun l es obs v es' h ho => ?_
  unfold qpop0F at h
  split at h
  rotate_left
  · cases h
  rename_i n c m f
  simp only [Option.some.injEq, Prod.mk.injEq] at h
  obtain ⟨rfl, rfl, rfl⟩ := h
  simp only [List.mem_cons, List.not_mem_nil, or_false, forall_eq_or_imp, forall_eq] at ho
  obtain ⟨rfl, rfl⟩ := ho
  refine ⟨Nat.le_of_ble_eq_true rfl, ?_⟩
  (repeat' (first | (refine xI (fun hfk => ?_) (fun hfk => ?_) <;> ((try (first | replace hfk := oT hfk | replace hfk := oF hfk | simp only [oD, ne_eq, reduceCtorEq] at hfk)); (try exact oX))) | (refine And.intro ?ob ?_; (case ob => (exact oZ))) | exact True.intro | (show _ = _; first | exact oY | exact rfl) | exact oW | (apply And.intro)))
  refine ⟨[some 0, some 1], ?_⟩
  (repeat' (first | (refine xI (fun hfk => ?_) (fun hfk => ?_) <;> ((try (first | replace hfk := oT hfk | replace hfk := oF hfk | simp only [oD, ne_eq, reduceCtorEq] at hfk)); (try exact oX))) | (refine And.intro ?ob ?_; (case ob => (exact oZ))) | exact True.intro | (show _ = _; first | exact oY | exact rfl) | exact oW | (apply And.intro)))
theorem qpop_d : GSOK Try.prog 36 (gdq (fG qpopF) (fG qpop0F)) := gdq_ok qpop_g qpop0_g
abbrev al43S : PSpec := fun l => match l with | [] => some ([], .bool true) | _ => none
theorem alive43_s : SOK Try.prog 40 al43S := by
  refine sok_of (C := mkI 0 [(39, qlenS)] (glook [(34, fG qnewF), (35, fG qpushF), (36, gdq (fG qpopF) (fG qpop0F))]) [] [] [] [1, 4, 5]) (mkI_ok (pok_cons qlen_s pok_nil) (gl_cons qnew_g (gl_cons qpush_g (gl_cons qpop_d gl_nil))) dl_nil mok_nil) rfl mixed ⟨Try.func40, by kernel_rfl, by kernel_rfl, by kernel_rfl⟩ fun l obs v h ho => ?_
  unfold al43S at h; split at h; rotate_left; (focus (cases h)); simp only [Option.some.injEq, Prod.mk.injEq] at h; obtain ⟨rfl, rfl⟩ := h
  refine ⟨Nat.le_of_ble_eq_true rfl, ?_⟩
  (repeat' (first | (refine xI (fun hfk => ?_) (fun hfk => ?_) <;> ((try (first | replace hfk := oT hfk | replace hfk := oF hfk | simp only [oD, ne_eq, reduceCtorEq] at hfk)); (try exact oX))) | (refine And.intro ?ob ?_; (case ob => (exact oZ))) | exact True.intro | (show _ = _; first | exact oY | exact rfl) | exact oW | (apply And.intro)))
  (refine ⟨[], ⟨by kernel_rfl⟩, ?_⟩)
  (repeat' (first | (refine xI (fun hfk => ?_) (fun hfk => ?_) <;> ((try (first | replace hfk := oT hfk | replace hfk := oF hfk | simp only [oD, ne_eq, reduceCtorEq] at hfk)); (try exact oX))) | (refine And.intro ?ob ?_; (case ob => (exact oZ))) | exact True.intro | (show _ = _; first | exact oY | exact rfl) | exact oW | (apply And.intro)))
  refine ⟨[(1, .ptr 0 0)], ⟨2, [(0, some (.cells 76 [.sl 1 4 0 0, .int .i64 0])), (1, some (rowE []))]⟩, [some 0, none], ?_, ?_⟩
  · (repeat' (first | (refine And.intro ?_ ?_) | exact True.intro | (show _ = _; with_reducible rfl) | exact Chk.mk (by kernel_rfl)))
    all_goals rfl
  have r0 : RowP 0 (rowG []) := rowp []
  (repeat' (first | (refine xI (fun hfk => ?_) (fun hfk => ?_) <;> ((try (first | replace hfk := oT hfk | replace hfk := oF hfk | simp only [oD, ne_eq, reduceCtorEq] at hfk)); (try exact oX))) | (refine And.intro ?ob ?_; (case ob => (exact oZ))) | exact True.intro | (show _ = _; first | exact oY | exact rfl) | exact oW | (apply And.intro)))
  (refine ⟨[0, 1], ⟨by kernel_rfl⟩, ?_⟩)
  (repeat' (first | (refine xI (fun hfk => ?_) (fun hfk => ?_) <;> ((try (first | replace hfk := oT hfk | replace hfk := oF hfk | simp only [oD, ne_eq, reduceCtorEq] at hfk)); (try exact oX))) | (refine And.intro ?ob ?_; (case ob => (exact oZ))) | exact True.intro | (show _ = _; first | exact oY | (first | exact r0 | skip; done) | exact rfl) | exact oW | (apply And.intro)))
  have e1 : pushL (qrL 0 (rowG [])) ⟨0, 1, 2, 0⟩ = [⟨0, 1, 2, 0⟩] := by rw [show qrL 0 (rowG []) = [] from qrL_row []]; exact push_a
  refine ⟨[(1, .ptr 0 0)], ⟨2, [(0, some (.cells 76 [.sl 1 4 0 1, .int .i64 1])), (1, some (rowE [⟨0, 1, 2, 0⟩]))]⟩, [some 0, some 2], ?_, ?_⟩
  · (repeat' (first | (refine And.intro ?_ ?_) | exact True.intro | (show _ = _; with_reducible rfl) | exact Chk.mk (by kernel_rfl)))
    all_goals first | rfl | (exact fun j _ => congrArg (fun L => rowG L j) e1)
  have r1 : RowP 1 (rowG [⟨0, 1, 2, 0⟩]) := rowp [⟨0, 1, 2, 0⟩]
  (repeat' (first | (refine xI (fun hfk => ?_) (fun hfk => ?_) <;> ((try (first | replace hfk := oT hfk | replace hfk := oF hfk | simp only [oD, ne_eq, reduceCtorEq] at hfk)); (try exact oX))) | (refine And.intro ?ob ?_; (case ob => (exact oZ))) | exact True.intro | (show _ = _; first | exact oY | exact rfl) | exact oW | (apply And.intro)))
  (refine ⟨[0, 1], ⟨by kernel_rfl⟩, ?_⟩)
  (repeat' (first | (refine xI (fun hfk => ?_) (fun hfk => ?_) <;> ((try (first | replace hfk := oT hfk | replace hfk := oF hfk | simp only [oD, ne_eq, reduceCtorEq] at hfk)); (try exact oX))) | (refine And.intro ?ob ?_; (case ob => (exact oZ))) | exact True.intro | (show _ = _; first | exact oY | (first | exact r1 | skip; done) | exact rfl) | exact oW | (apply And.intro)))
  have e2 : pushL (qrL 1 (rowG [⟨0, 1, 2, 0⟩])) ⟨0, 2, 1, 1⟩ = [⟨0, 2, 1, 1⟩, ⟨0, 1, 2, 0⟩] := by rw [show qrL 1 (rowG [⟨0, 1, 2, 0⟩]) = [⟨0, 1, 2, 0⟩] from qrL_row [⟨0, 1, 2, 0⟩]]; exact push_b
  refine ⟨[(1, .ptr 0 0)], ⟨2, [(0, some (.cells 76 [.sl 1 4 0 2, .int .i64 2])), (1, some (rowE [⟨0, 2, 1, 1⟩, ⟨0, 1, 2, 0⟩]))]⟩, [some 0, some 2], ?_, ?_⟩
  · (repeat' (first | (refine And.intro ?_ ?_) | exact True.intro | (show _ = _; with_reducible rfl) | exact Chk.mk (by kernel_rfl)))
    all_goals first | rfl | (exact fun j _ => congrArg (fun L => rowG L j) e2)
  have r2 : RowP 2 (rowG [⟨0, 2, 1, 1⟩, ⟨0, 1, 2, 0⟩]) := rowp [⟨0, 2, 1, 1⟩, ⟨0, 1, 2, 0⟩]
  have e3 : qrL 2 (rowG [⟨0, 2, 1, 1⟩, ⟨0, 1, 2, 0⟩]) = [⟨0, 2, 1, 1⟩, ⟨0, 1, 2, 0⟩] := qrL_row [⟨0, 2, 1, 1⟩, ⟨0, 1, 2, 0⟩]
  have e4 : popX (qrL 2 (rowG [⟨0, 2, 1, 1⟩, ⟨0, 1, 2, 0⟩])) = ⟨0, 2, 1, 1⟩ := by rw [e3]; exact pop_b.1
  have e5 : (popX (qrL 2 (rowG [⟨0, 2, 1, 1⟩, ⟨0, 1, 2, 0⟩]))).i = 2 := by rw [e4]
  have e6 : (popX (qrL 2 (rowG [⟨0, 2, 1, 1⟩, ⟨0, 1, 2, 0⟩]))).p = 1 := by rw [e4]
  (repeat' (first | (refine xI (fun hfk => ?_) (fun hfk => ?_) <;> ((try (first | replace hfk := oT hfk | replace hfk := oF hfk | simp only [oD, ne_eq, reduceCtorEq] at hfk)); (try exact oX))) | (refine And.intro ?ob ?_; (case ob => (exact oZ))) | exact True.intro | (show _ = _; first | exact oY | exact rfl) | exact oW | (apply And.intro)))
  left
  (refine ⟨[0, 1], ⟨by kernel_rfl⟩, ?_⟩)
  (repeat' (first | (refine xI (fun hfk => ?_) (fun hfk => ?_) <;> ((try (first | replace hfk := oT hfk | replace hfk := oF hfk | simp only [oD, ne_eq, reduceCtorEq] at hfk)); (try exact oX))) | (refine And.intro ?ob ?_; (case ob => (exact oZ))) | exact True.intro | (show _ = _; first | exact oY | (first | exact r2 | skip; done) | exact rfl) | exact oW | (apply And.intro)))
end Go.Proofs.Ytgbekbofeaoniaa
namespace Go.Proofs.Ytgbekbofeaoniaa
structure R4 where
  x0 : Int
  y0 : Int
  x1 : Int
  y1 : Int
def R4.zero : R4 := ⟨0, 0, 0, 0⟩
@[simp] theorem zero_x0 : R4.zero.x0 = 0 := rfl
@[simp] theorem zero_y0 : R4.zero.y0 = 0 := rfl
@[simp] theorem zero_x1 : R4.zero.x1 = 0 := rfl
@[simp] theorem zero_y1 : R4.zero.y1 = 0 := rfl
def inB (x : Int) : Bool := decide (-2147483648 ≤ x) && decide (x ≤ 2147483648)
def R4.right (r : R4) : Bool := inB r.x0 && inB r.y0 && inB r.x1 && inB r.y1
def R4.empty (r : R4) : Bool := !r.right || decide (r.x1 ≤ r.x0) || decide (r.y1 ≤ r.y0)
def R4.norm (r : R4) : R4 := if r.empty = true then .zero else r
abbrev R4.meet (a b : R4) : R4 := ⟨max a.x0 b.x0, max a.y0 b.y0, min a.x1 b.x1, min a.y1 b.y1⟩
def beq8 (a0 a1 a2 a3 b0 b1 b2 b3 : Int) : Bool := a0 == b0 && a1 == b1 && a2 == b2 && a3 == b3
def R4.beq (a b : R4) : Bool := beq8 a.x0 a.y0 a.x1 a.y1 b.x0 b.y0 b.x1 b.y1
def R4.both (a b : R4) : R4 := if a.empty = true then .zero else if b.empty = true then .zero else (a.meet b).norm
def R4.inside (a b : R4) : Bool := a.empty || (a.both b).beq a
def cutI (x : Int) : Int := max (-2147483648) (min x 2147483648)
theorem R4.bounds {r : R4} (h : r.empty = false) : -2147483648 ≤ r.x0 ∧ r.x0 < r.x1 ∧ r.x1 ≤ 2147483648 ∧ -2147483648 ≤ r.y0 ∧ r.y0 < r.y1 ∧ r.y1 ≤ 2147483648 := by
  simp [R4.empty, R4.right, inB] at h
  omega
theorem area_fit {w h : Int} (h0 : 0 < h) (w0 : 0 ≤ w) (hq : w ≤ 9223372036854775807 / h) : 0 ≤ w * h ∧ w * h ≤ 9223372036854775807 :=
  ⟨Int.mul_nonneg w0 (by omega), (Int.le_ediv_iff_mul_le h0).1 hq⟩
def R4.rboth (a b : R4) : R4 := (a.norm.meet b.norm).norm
def R4.rarea (r : R4) : Int := if 0 < r.norm.y1 - r.norm.y0 ∧ 9223372036854775807 / (r.norm.y1 - r.norm.y0) < r.norm.x1 - r.norm.x0 then 9223372036854775807 else (r.norm.x1 - r.norm.x0) * (r.norm.y1 - r.norm.y0)
theorem R4.norm_bounds (r : R4) : -2147483648 ≤ r.norm.x0 ∧ r.norm.x0 ≤ r.norm.x1 ∧ r.norm.x1 ≤ 2147483648 ∧ -2147483648 ≤ r.norm.y0 ∧ r.norm.y0 ≤ r.norm.y1 ∧ r.norm.y1 ≤ 2147483648 := by
  cases he : r.empty
  · have := R4.bounds he
    simp only [R4.norm, he, Bool.false_eq_true, if_false]
    omega
  · simp [R4.norm, he]
theorem R4.ext' {a b : R4} (h0 : a.x0 = b.x0) (h1 : a.y0 = b.y0) (h2 : a.x1 = b.x1) (h3 : a.y1 = b.y1) : a = b := by
  cases a; cases b; simp_all
theorem R4.norm_of {r : R4} (h : r.empty = false) : r.norm = r := by simp [R4.norm, h]
theorem R4.norm_zero {r : R4} (h : r.empty = true) : r.norm = .zero := by simp [R4.norm, h]
theorem R4.beq_self (r : R4) : r.beq r = true := by simp [R4.beq, beq8]
theorem R4.beq_iff (a b : R4) : a.beq b = true ↔ a = b := by
  constructor
  · intro h
    simp [R4.beq, beq8] at h
    exact R4.ext' h.1.1.1 h.1.1.2 h.1.2 h.2
  · rintro rfl; exact a.beq_self
end Go.Proofs.Ytgbekbofeaoniaa
namespace Go.Proofs.Ytgbekbofeaoniaa
open Go Go.RowKit
abbrev R4.av (r : R4) : AV := .agg [.int .i64 r.x0, .int .i64 r.y0, .int .i64 r.x1, .int .i64 r.y1]
def sI (f : Int → AV) : PSpec := fun l => match l with | [.int .i64 x] => some ([], f x) | _ => none
def sR (f : R4 → AV) : PSpec := fun l => match l with | [.agg [.int .i64 a, .int .i64 b, .int .i64 c, .int .i64 d]] => some ([], f ⟨a, b, c, d⟩) | _ => none
def sRI (f : R4 → Int → AV) : PSpec := fun l => match l with | [.agg [.int .i64 a, .int .i64 b, .int .i64 c, .int .i64 d], .int .i64 x] => some ([], f ⟨a, b, c, d⟩ x) | _ => none
def sRR (f : R4 → R4 → AV) : PSpec := fun l => match l with
  | [.agg [.int .i64 a, .int .i64 b, .int .i64 c, .int .i64 d], .agg [.int .i64 p, .int .i64 q, .int .i64 r, .int .i64 s]] => some ([], f ⟨a, b, c, d⟩ ⟨p, q, r, s⟩)
  | _ => none
theorem sI_inv {f : Int → AV} {l : List AV} {obs : List Prop} {v : AV} (h : sI f l = some (obs, v)) : ∃ x, l = [.int .i64 x] ∧ v = f x := by
  unfold sI at h; split at h
  · simp at h; exact ⟨_, rfl, h.2.symm⟩
  · cases h
theorem sR_inv {f : R4 → AV} {l : List AV} {obs : List Prop} {v : AV} (h : sR f l = some (obs, v)) : ∃ r : R4, l = [r.av] ∧ v = f r := by
  unfold sR at h; split at h
  · simp at h; exact ⟨⟨_, _, _, _⟩, rfl, h.2.symm⟩
  · cases h
theorem sRI_inv {f : R4 → Int → AV} {l : List AV} {obs : List Prop} {v : AV} (h : sRI f l = some (obs, v)) : ∃ (r : R4) (x : Int), l = [r.av, .int .i64 x] ∧ v = f r x := by
  unfold sRI at h; split at h
  · simp at h; exact ⟨⟨_, _, _, _⟩, _, rfl, h.2.symm⟩
  · cases h
theorem sRR_inv {f : R4 → R4 → AV} {l : List AV} {obs : List Prop} {v : AV} (h : sRR f l = some (obs, v)) : ∃ r s : R4, l = [r.av, s.av] ∧ v = f r s := by
  unfold sRR at h; split at h
  · simp at h; exact ⟨⟨_, _, _, _⟩, ⟨_, _, _, _⟩, rfl, h.2.symm⟩
  · cases h
section
variable {r0 r1 r2 r3 k : Int}
end
theorem in_s : SOK Try.prog 100 (sI fun x => .bool (inB x)) := by
  refine sok_of (C := mkC 0 [] noG) (mkC_ok pok_nil noG_ok) rfl mixed ⟨Try.func100, by kernel_rfl, by kernel_rfl, by kernel_rfl⟩ fun l obs v h _ => ?_
  obtain ⟨x, rfl, rfl⟩ := sI_inv h
  skip
  refine ⟨Nat.le_of_ble_eq_true rfl, ?_⟩
  (repeat' (first | apply And.intro | intro h)); (all_goals (try exact Chk.mk (by kernel_rfl)))
  all_goals (show _ = _; (try simp_all [inB]); (try omega))
theorem right_s : SOK Try.prog 91 (sR fun r => .bool r.right) := by
  refine sok_of (C := mkC 0 [(100, sI fun x => .bool (inB x))] noG) (mkC_ok (pok_cons in_s pok_nil) noG_ok) rfl mixed ⟨Try.func91, by kernel_rfl, by kernel_rfl, by kernel_rfl⟩ fun l obs v h _ => ?_
  obtain ⟨r, rfl, rfl⟩ := sR_inv h
  obtain ⟨r0, r1, r2, r3⟩ := r
  refine ⟨Nat.le_of_ble_eq_true rfl, ?_⟩
  (repeat' (first | apply And.intro | intro h)); (all_goals (try exact Chk.mk (by kernel_rfl)))
  all_goals (show _ = _; (try simp_all [R4.right]); (try omega))
theorem empty_s : SOK Try.prog 69 (sR fun r => .bool r.empty) := by
  refine sok_of (C := mkC 0 [(91, sR fun r => .bool r.right)] noG) (mkC_ok (pok_cons right_s pok_nil) noG_ok) rfl mixed ⟨Try.func69, by kernel_rfl, by kernel_rfl, by kernel_rfl⟩ fun l obs v h _ => ?_
  obtain ⟨r, rfl, rfl⟩ := sR_inv h
  obtain ⟨r0, r1, r2, r3⟩ := r
  refine ⟨Nat.le_of_ble_eq_true rfl, ?_⟩
  (repeat' (first | apply And.intro | intro h)); (all_goals (try exact Chk.mk (by kernel_rfl)))
  all_goals (show _ = _; (try simp_all [R4.empty]); (try omega))
theorem norm_s : SOK Try.prog 99 (sR fun r => r.norm.av) := by
  refine sok_of (C := mkC 0 [(69, sR fun r => .bool r.empty)] noG) (mkC_ok (pok_cons empty_s pok_nil) noG_ok) rfl mixed ⟨Try.func99, by kernel_rfl, by kernel_rfl, by kernel_rfl⟩ fun l obs v h _ => ?_
  obtain ⟨r, rfl, rfl⟩ := sR_inv h
  obtain ⟨r0, r1, r2, r3⟩ := r
  refine ⟨Nat.le_of_ble_eq_true rfl, ?_⟩
  (repeat' (first | apply And.intro | intro h)); (all_goals (try exact Chk.mk (by kernel_rfl)))
  all_goals (show _ = _; (try simp_all [R4.norm, R4.zero]); (try omega))
theorem both_s : SOK Try.prog 83 (sRR fun a b => (a.both b).av) := by
  refine sok_of (C := mkC 0 [(69, sR fun r => .bool r.empty), (99, sR fun r => r.norm.av)] noG) (mkC_ok (pok_cons empty_s (pok_cons norm_s pok_nil)) noG_ok) rfl mixed ⟨Try.func83, by kernel_rfl, by kernel_rfl, by kernel_rfl⟩ fun l obs v h _ => ?_
  obtain ⟨a, b, rfl, rfl⟩ := sRR_inv h
  obtain ⟨a0, a1, a2, a3⟩ := a; obtain ⟨b0, b1, b2, b3⟩ := b
  refine ⟨Nat.le_of_ble_eq_true rfl, ?_⟩
  (repeat' (first | apply And.intro | intro h)); (all_goals (try exact Chk.mk (by kernel_rfl)))
  all_goals (show _ = _; (try simp_all [R4.both, R4.zero]); (try omega))
theorem rin_s : SOK Try.prog 104 (sI fun x => .bool (inB x)) := by
  refine sok_of (C := mkC 0 [] noG) (mkC_ok pok_nil noG_ok) rfl mixed ⟨Try.func104, by kernel_rfl, by kernel_rfl, by kernel_rfl⟩ fun l obs v h _ => ?_
  obtain ⟨x, rfl, rfl⟩ := sI_inv h
  skip
  refine ⟨Nat.le_of_ble_eq_true rfl, ?_⟩
  (repeat' (first | apply And.intro | intro h)); (all_goals (try exact Chk.mk (by kernel_rfl)))
  all_goals (show _ = _; (try simp_all [inB]); (try omega))
theorem rright_s : SOK Try.prog 101 (sR fun r => .bool r.right) := by
  refine sok_of (C := mkC 0 [(104, sI fun x => .bool (inB x))] noG) (mkC_ok (pok_cons rin_s pok_nil) noG_ok) rfl mixed ⟨Try.func101, by kernel_rfl, by kernel_rfl, by kernel_rfl⟩ fun l obs v h _ => ?_
  obtain ⟨r, rfl, rfl⟩ := sR_inv h
  obtain ⟨r0, r1, r2, r3⟩ := r
  refine ⟨Nat.le_of_ble_eq_true rfl, ?_⟩
  (repeat' (first | apply And.intro | intro h)); (all_goals (try exact Chk.mk (by kernel_rfl)))
  all_goals (show _ = _; (try simp_all [R4.right]); (try omega))
theorem rnorm_s : SOK Try.prog 92 (sR fun r => r.norm.av) := by
  refine sok_of (C := mkC 0 [(101, sR fun r => .bool r.right)] noG) (mkC_ok (pok_cons rright_s pok_nil) noG_ok) rfl mixed ⟨Try.func92, by kernel_rfl, by kernel_rfl, by kernel_rfl⟩ fun l obs v h _ => ?_
  obtain ⟨r, rfl, rfl⟩ := sR_inv h
  obtain ⟨r0, r1, r2, r3⟩ := r
  refine ⟨Nat.le_of_ble_eq_true rfl, ?_⟩
  (repeat' (first | apply And.intro | intro h)); (all_goals (try exact Chk.mk (by kernel_rfl)))
  all_goals (show _ = _; (try simp_all [R4.norm, R4.empty, R4.zero]); (try (split <;> (try simp_all) <;> (try omega))))
end Go.Proofs.Ytgbekbofeaoniaa
namespace Go.Proofs.Ytgbekbofeaoniaa
def gcheck (g : R4) : Int := if 32768 < g.x0 ∨ 32768 < g.y0 then 30 else if g.x0 < 1 ∨ g.y0 < 1 then 12 else if g.x1 < 1 ∨ 4096 < g.x1 ∨ g.y1 < 1 ∨ 4096 < g.y1 then 10 else 0
def gcols (g : R4) : Int := if gcheck g = 0 then (g.x0 + g.x1 - 1) / g.x1 else 0
def grows (g : R4) : Int := if gcheck g = 0 then (g.y0 + g.y1 - 1) / g.y1 else 0
theorem gcheck_inv {g : R4} (h : gcheck g = 0) : 1 ≤ g.x0 ∧ g.x0 ≤ 32768 ∧ 1 ≤ g.y0 ∧ g.y0 ≤ 32768 ∧ 1 ≤ g.x1 ∧ g.x1 ≤ 4096 ∧ 1 ≤ g.y1 ∧ g.y1 ≤ 4096 := by
  unfold gcheck at h
  split at h
  · cases h
  · split at h
    · cases h
    · split at h
      · cases h
      · omega
theorem gcols_bd (g : R4) : 0 ≤ gcols g ∧ gcols g ≤ 32768 := by
  unfold gcols
  split
  · rename_i h
    have := gcheck_inv h
    constructor
    · exact Int.ediv_nonneg (by omega) (by omega)
    · have h1 : (g.x0 + g.x1 - 1) / g.x1 < 32769 := by
        rw [Int.ediv_lt_iff_lt_mul (by omega)]
        have : 32769 * g.x1 = 32768 * g.x1 + g.x1 := by omega
        have h2 : g.x0 ≤ g.x0 * g.x1 := by
          have := Int.mul_le_mul_of_nonneg_left (show (1 : Int) ≤ g.x1 by omega) (show 0 ≤ g.x0 by omega)
          omega
        have h3 : 32768 ≤ 32768 * g.x1 := by omega
        omega
      omega
  · omega
theorem grows_bd (g : R4) : 0 ≤ grows g ∧ grows g ≤ 32768 := by
  unfold grows
  split
  · rename_i h
    have := gcheck_inv h
    constructor
    · exact Int.ediv_nonneg (by omega) (by omega)
    · have h1 : (g.y0 + g.y1 - 1) / g.y1 < 32769 := by
        rw [Int.ediv_lt_iff_lt_mul (by omega)]
        have : 32769 * g.y1 = 32768 * g.y1 + g.y1 := by omega
        have h2 : g.y0 ≤ g.y0 * g.y1 := by
          have := Int.mul_le_mul_of_nonneg_left (show (1 : Int) ≤ g.y1 by omega) (show 0 ≤ g.y0 by omega)
          omega
        have h3 : 32768 ≤ 32768 * g.y1 := by omega
        omega
      omega
  · omega
def gcount (g : R4) : Int := gcols g * grows g
theorem gcount_bd (g : R4) : 0 ≤ gcount g ∧ gcount g ≤ 1073741824 := by
  have h1 := gcols_bd g
  have h2 := grows_bd g
  constructor
  · exact Int.mul_nonneg h1.1 h2.1
  · have := Int.mul_le_mul h1.2 h2.2 h2.1 (by omega)
    unfold gcount; omega
theorem lt_ceil {a b : Int} {k : Nat} (hb : 1 ≤ b) (ha : 1 ≤ a) : (k : Int) * b < a ↔ k < ((a + b - 1) / b).toNat := by
  have h0 : 0 ≤ (a + b - 1) / b := Int.ediv_nonneg (by omega) (by omega)
  have h1 : (k : Int) < (a + b - 1) / b ↔ (k : Int) * b < a := by
    rw [← Int.add_one_le_iff, Int.le_ediv_iff_mul_le (by omega), Int.add_mul]
    omega
  rw [← h1]
  omega
def cN (g : R4) : Nat := ((g.x0 + g.x1 - 1) / g.x1).toNat
def rN (g : R4) : Nat := ((g.y0 + g.y1 - 1) / g.y1).toNat
def tileAt (g : R4) (j k : Nat) : R4 := ⟨k * g.x1, j * g.y1, min (k * g.x1 + g.x1) g.x0, min (j * g.y1 + g.y1) g.y0⟩
theorem cN_eq {g : R4} (h : gcheck g = 0) : (cN g : Int) = gcols g := by
  have h0 := gcols_bd g
  unfold gcols at h0 ⊢
  rw [if_pos h] at h0 ⊢
  unfold cN; omega
theorem rN_eq {g : R4} (h : gcheck g = 0) : (rN g : Int) = grows g := by
  have h0 := grows_bd g
  unfold grows at h0 ⊢
  rw [if_pos h] at h0 ⊢
  unfold rN; omega
end Go.Proofs.Ytgbekbofeaoniaa
namespace Go.Proofs.Ytgbekbofeaoniaa
open Go Go.RowKit
theorem gcheck_s : SOK Try.prog 103 (sR fun g => .int .i64 (gcheck g)) := by
  refine sok_of (C := mkC 0 [] noG) (mkC_ok pok_nil noG_ok) rfl mixed ⟨Try.func103, by kernel_rfl, by kernel_rfl, by kernel_rfl⟩ fun l obs v h _ => ?_
  obtain ⟨r, rfl, rfl⟩ := sR_inv h
  obtain ⟨r0, r1, r2, r3⟩ := r
  refine ⟨Nat.le_of_ble_eq_true rfl, ?_⟩
  (repeat' (first | apply And.intro | intro h)); (all_goals (try exact Chk.mk (by kernel_rfl)))
  all_goals (show _ = gcheck _; simp only [decide_eq_true_eq, decide_eq_false_iff_not, Bool.not_eq_true', Bool.not_eq_false', Bool.and_eq_true, Bool.or_eq_true, Bool.and_eq_false_iff, Bool.or_eq_false_iff, Int.not_lt, Int.not_le, ne_eq, Classical.not_not] at *; unfold gcheck; simp only; (repeat' split) <;> omega)
theorem gright_s : SOK Try.prog 98 (sR fun g => .bool (decide (gcheck g = 0))) := by
  refine sok_of (C := mkC 0 [(103, sR fun g => .int .i64 (gcheck g))] noG) (mkC_ok (pok_cons gcheck_s pok_nil) noG_ok) rfl mixed ⟨Try.func98, by kernel_rfl, by kernel_rfl, by kernel_rfl⟩ fun l obs v h _ => ?_
  obtain ⟨r, rfl, rfl⟩ := sR_inv h
  obtain ⟨r0, r1, r2, r3⟩ := r
  refine ⟨Nat.le_of_ble_eq_true rfl, ?_⟩
  (repeat' (first | apply And.intro | intro h)); (all_goals (try exact Chk.mk (by kernel_rfl)))
  all_goals (show _ = _; rfl)
section
variable {r0 r1 r2 r3 : Int}
theorem gcols_r1 (h : decide (gcheck ⟨r0, r1, r2, r3⟩ = 0) = true) : rngI .i64 (r0 + r2) ∧ rngI .i64 (r0 + r2 - 1) ∧ r2 ≠ 0 ∧ rngI .i64 ((r0 + r2 - 1).tdiv r2) ∧ (r0 + r2 - 1).tdiv r2 = gcols ⟨r0, r1, r2, r3⟩ := by
  have h := of_decide_eq_true h
  have hb := gcheck_inv h
  simp only at hb
  have e : (r0 + r2 - 1).tdiv r2 = gcols ⟨r0, r1, r2, r3⟩ := by rw [Int.tdiv_eq_ediv_of_nonneg (by omega)]; simp [gcols, h]
  have hc := gcols_bd ⟨r0, r1, r2, r3⟩
  exact ⟨rng64 (by omega) (by omega), rng64 (by omega) (by omega), by omega, rng64 (by omega) (by omega), e⟩
theorem gcols_r0 (h : decide (gcheck ⟨r0, r1, r2, r3⟩ = 0) = false) : gcols ⟨r0, r1, r2, r3⟩ = 0 ∧ grows ⟨r0, r1, r2, r3⟩ = 0 := by
  have h := of_decide_eq_false h
  simp [gcols, grows, h]
theorem grows_r1 (h : decide (gcheck ⟨r0, r1, r2, r3⟩ = 0) = true) : rngI .i64 (r1 + r3) ∧ rngI .i64 (r1 + r3 - 1) ∧ r3 ≠ 0 ∧ rngI .i64 ((r1 + r3 - 1).tdiv r3) ∧ (r1 + r3 - 1).tdiv r3 = grows ⟨r0, r1, r2, r3⟩ := by
  have h := of_decide_eq_true h
  have hb := gcheck_inv h
  simp only at hb
  have e : (r1 + r3 - 1).tdiv r3 = grows ⟨r0, r1, r2, r3⟩ := by rw [Int.tdiv_eq_ediv_of_nonneg (by omega)]; simp [grows, h]
  have hc := grows_bd ⟨r0, r1, r2, r3⟩
  exact ⟨rng64 (by omega) (by omega), rng64 (by omega) (by omega), by omega, rng64 (by omega) (by omega), e⟩
end
theorem gcols_s : SOK Try.prog 82 (sR fun g => .int .i64 (gcols g)) := by
  refine sok_of (C := mkC 0 [(98, sR fun g => .bool (decide (gcheck g = 0)))] noG) (mkC_ok (pok_cons gright_s pok_nil) noG_ok) rfl mixed ⟨Try.func82, by kernel_rfl, by kernel_rfl, by kernel_rfl⟩ fun l obs v h _ => ?_
  obtain ⟨r, rfl, rfl⟩ := sR_inv h
  obtain ⟨r0, r1, r2, r3⟩ := r
  refine ⟨Nat.le_of_ble_eq_true rfl, ?_⟩
  refine ⟨fun h1 => ?_, fun h1 => ?_⟩
  · exact (gcols_r0 (by simpa using h1)).1.symm
  · obtain ⟨a1, a2, a3, a4, a5⟩ := gcols_r1 (by simpa using h1)
    exact ⟨a1, a2, a3, a4, a5⟩
theorem grows_s : SOK Try.prog 97 (sR fun g => .int .i64 (grows g)) := by
  refine sok_of (C := mkC 0 [(98, sR fun g => .bool (decide (gcheck g = 0)))] noG) (mkC_ok (pok_cons gright_s pok_nil) noG_ok) rfl mixed ⟨Try.func97, by kernel_rfl, by kernel_rfl, by kernel_rfl⟩ fun l obs v h _ => ?_
  obtain ⟨r, rfl, rfl⟩ := sR_inv h
  obtain ⟨r0, r1, r2, r3⟩ := r
  refine ⟨Nat.le_of_ble_eq_true rfl, ?_⟩
  refine ⟨fun h1 => ?_, fun h1 => ?_⟩
  · exact (gcols_r0 (by simpa using h1)).2.symm
  · obtain ⟨a1, a2, a3, a4, a5⟩ := grows_r1 (by simpa using h1)
    exact ⟨a1, a2, a3, a4, a5⟩
theorem gcount_s : SOK Try.prog 81 (sR fun g => .int .i64 (gcount g)) := by
  refine sok_of (C := mkC 0 [(82, sR fun g => .int .i64 (gcols g)), (97, sR fun g => .int .i64 (grows g))] noG) (mkC_ok (pok_cons gcols_s (pok_cons grows_s pok_nil)) noG_ok) rfl mixed ⟨Try.func81, by kernel_rfl, by kernel_rfl, by kernel_rfl⟩ fun l obs v h _ => ?_
  obtain ⟨r, rfl, rfl⟩ := sR_inv h
  obtain ⟨r0, r1, r2, r3⟩ := r
  have hb := gcount_bd ⟨r0, r1, r2, r3⟩
  refine ⟨Nat.le_of_ble_eq_true rfl, ?_⟩
  exact ⟨⟨by kernel_rfl⟩, (show rngI .i64 (gcount ⟨r0, r1, r2, r3⟩) from rng64 (by omega) (by omega)), rfl⟩
theorem gwhole_s : SOK Try.prog 84 (sR fun g => (R4.mk 0 0 g.x0 g.y0).av) := by
  refine sok_of (C := mkC 0 [] noG) (mkC_ok pok_nil noG_ok) rfl mixed ⟨Try.func84, by kernel_rfl, by kernel_rfl, by kernel_rfl⟩ fun l obs v h _ => ?_
  obtain ⟨r, rfl, rfl⟩ := sR_inv h
  obtain ⟨r0, r1, r2, r3⟩ := r
  refine ⟨Nat.le_of_ble_eq_true rfl, ?_⟩
  exact ⟨rfl, rfl, rfl, rfl⟩
end Go.Proofs.Ytgbekbofeaoniaa
namespace Go.Proofs.Ytgbekbofeaoniaa
theorem gcount_eq {g : R4} (h : gcheck g = 0) : gcount g = ((rN g * cN g : Nat) : Int) := by
  unfold gcount; rw [← cN_eq h, ← rN_eq h, Int.mul_comm]; rfl
theorem gcount_0 {g : R4} (h : gcheck g ≠ 0) : gcols g = 0 ∧ grows g = 0 ∧ gcount g = 0 := by simp [gcount, gcols, grows, h]
theorem gcount_pos {g : R4} {i : Int} (h : i < gcount g) (h0 : 0 ≤ i) : gcheck g = 0 := by
  by_cases hc : gcheck g = 0
  · exact hc
  · have := (gcount_0 hc).2.2; omega
def gis (g : R4) (i : Int) : Bool := decide (0 ≤ i) && decide (i < gcount g)
def gtile (g : R4) (i : Int) : R4 := if 0 ≤ i ∧ i < gcount g then tileAt g (i.toNat / cN g) (i.toNat % cN g) else .zero
theorem cN_pos {g : R4} (h : gcheck g = 0) : 0 < cN g := by
  have hb := gcheck_inv h
  exact (lt_ceil (k := 0) (by omega) (by omega)).1 (by simp; omega)
theorem gidx {g : R4} {i : Int} (h0 : 0 ≤ i) (h : i < gcount g) : gcheck g = 0 ∧ i.toNat / cN g < rN g ∧ i.toNat % cN g < cN g ∧ i.tmod (gcols g) = ((i.toNat % cN g : Nat) : Int) ∧ i.tdiv (gcols g) = ((i.toNat / cN g : Nat) : Int) := by
  have hg := gcount_pos h h0
  rw [gcount_eq hg] at h
  have hp := cN_pos hg
  refine ⟨hg, ?_, Nat.mod_lt _ hp, ?_, ?_⟩
  · rw [Nat.div_lt_iff_lt_mul hp]; omega
  · rw [← cN_eq hg, Int.tmod_eq_emod_of_nonneg h0]
    conv => lhs; rw [← Int.toNat_of_nonneg h0]
    rfl
  · rw [← cN_eq hg, Int.tdiv_eq_ediv_of_nonneg h0]
    conv => lhs; rw [← Int.toNat_of_nonneg h0]
    rfl
theorem tile_lt {g : R4} (hg : gcheck g = 0) {j k : Nat} (hj : j < rN g) (hk : k < cN g) : (k : Int) * g.x1 < g.x0 ∧ (j : Int) * g.y1 < g.y0 ∧ 0 ≤ (k : Int) * g.x1 ∧ 0 ≤ (j : Int) * g.y1 := by
  have hb := gcheck_inv hg
  exact ⟨(lt_ceil (by omega) (by omega)).2 hk, (lt_ceil (by omega) (by omega)).2 hj, Int.mul_nonneg (by omega) (by omega), Int.mul_nonneg (by omega) (by omega)⟩
theorem tile_both {g : R4} (hg : gcheck g = 0) {j k : Nat} (hj : j < rN g) (hk : k < cN g) : (R4.mk (k * g.x1) (j * g.y1) (k * g.x1 + g.x1) (j * g.y1 + g.y1)).both ⟨0, 0, g.x0, g.y0⟩ = tileAt g j k := by
  have hb := gcheck_inv hg
  have ht := tile_lt hg hj hk
  unfold tileAt
  generalize (k : Int) * g.x1 = a at *
  generalize (j : Int) * g.y1 = b at *
  obtain ⟨W, H, TW, TH⟩ := g
  simp only at *
  have e1 : max a 0 = a := by omega
  have e2 : max b 0 = b := by omega
  simp only [R4.both, R4.norm, R4.empty, R4.right, inB, R4.meet, e1, e2]
  have d1 : decide (-2147483648 ≤ a) = true := by simp; omega
  have d2 : decide (a ≤ 2147483648) = true := by simp; omega
  have d3 : decide (-2147483648 ≤ b) = true := by simp; omega
  have d4 : decide (b ≤ 2147483648) = true := by simp; omega
  have d5 : decide (-2147483648 ≤ a + TW) = true := by simp; omega
  have d6 : decide (a + TW ≤ 2147483648) = true := by simp; omega
  have d7 : decide (-2147483648 ≤ b + TH) = true := by simp; omega
  have d8 : decide (b + TH ≤ 2147483648) = true := by simp; omega
  have d9 : decide (a + TW ≤ a) = false := by simp; omega
  have d10 : decide (b + TH ≤ b) = false := by simp; omega
  have d11 : decide (-2147483648 ≤ W) = true := by simp; omega
  have d12 : decide (W ≤ 2147483648) = true := by simp; omega
  have d13 : decide (-2147483648 ≤ H) = true := by simp; omega
  have d14 : decide (H ≤ 2147483648) = true := by simp; omega
  have d15 : decide (W ≤ 0) = false := by simp; omega
  have d16 : decide (H ≤ 0) = false := by simp; omega
  have d17 : decide (-2147483648 ≤ min (a + TW) W) = true := by simp; omega
  have d18 : decide (min (a + TW) W ≤ 2147483648) = true := by simp; omega
  have d19 : decide (-2147483648 ≤ min (b + TH) H) = true := by simp; omega
  have d20 : decide (min (b + TH) H ≤ 2147483648) = true := by simp; omega
  have d21 : decide (min (a + TW) W ≤ a) = false := by simp; omega
  have d22 : decide (min (b + TH) H ≤ b) = false := by simp; omega
  simp only [d1, d2, d3, d4, d5, d6, d7, d8, d9, d10, d11, d12, d13, d14, d15, d16, d17, d18, d19, d20, d21, d22]
  rfl
end Go.Proofs.Ytgbekbofeaoniaa
namespace Go.Proofs.Ytgbekbofeaoniaa
open Go Go.RowKit
theorem gtile_s : SOK Try.prog 64 (sRI fun g i => .tup [(gtile g i).av, .bool (gis g i)]) := by
  refine sok_of (C := mkC 0 [(82, sR fun g => .int .i64 (gcols g)), (81, sR fun g => .int .i64 (gcount g)), (84, sR fun g => (R4.mk 0 0 g.x0 g.y0).av), (83, sRR fun a b => (a.both b).av)] noG)
    (mkC_ok (pok_cons gcols_s (pok_cons gcount_s (pok_cons gwhole_s (pok_cons both_s pok_nil)))) noG_ok) rfl mixed ⟨Try.func64, by kernel_rfl, by kernel_rfl, by kernel_rfl⟩ fun l obs v h _ => ?_
  obtain ⟨r, i, rfl, rfl⟩ := sRI_inv h
  obtain ⟨r0, r1, r2, r3⟩ := r
  refine ⟨Nat.le_of_ble_eq_true rfl, ?_⟩
  refine ⟨fun h1 => ?_, fun h1 => ⟨fun h2 => ?_, fun h2 => ?_⟩⟩
  · have h1 : i < 0 := of_decide_eq_true h1
    have e1 : gtile ⟨r0, r1, r2, r3⟩ i = .zero := if_neg (by omega)
    have e2 : gis ⟨r0, r1, r2, r3⟩ i = false := by simp [gis]; omega
    rw [e1, e2]
    (repeat' (first | apply And.intro | intro h)); (all_goals (try exact Chk.mk (by kernel_rfl)))
    (all_goals (try first | exact True.intro | exact rfl | exact And.intro rfl rfl | exact And.intro rfl (fun _ _ => rfl)))
  · have h1 : ¬ i < 0 := of_decide_eq_false h1
    have h2 : gcount ⟨r0, r1, r2, r3⟩ ≤ i := of_decide_eq_true h2
    have e1 : gtile ⟨r0, r1, r2, r3⟩ i = .zero := if_neg (by omega)
    have e2 : gis ⟨r0, r1, r2, r3⟩ i = false := by simp [gis]; omega
    rw [e1, e2]
    (repeat' (first | apply And.intro | intro h)); (all_goals (try exact Chk.mk (by kernel_rfl)))
    (all_goals (try first | exact True.intro | exact rfl | exact And.intro rfl rfl | exact And.intro rfl (fun _ _ => rfl)))
  · have h1 : ¬ i < 0 := of_decide_eq_false h1
    have h2 : ¬ gcount ⟨r0, r1, r2, r3⟩ ≤ i := of_decide_eq_false h2
    have e2 : gis ⟨r0, r1, r2, r3⟩ i = true := by simp [gis]; omega
    obtain ⟨hg, hj, hk, e3, e4⟩ := gidx (g := ⟨r0, r1, r2, r3⟩) (i := i) (by omega) (by omega)
    have e1 : gtile ⟨r0, r1, r2, r3⟩ i = tileAt ⟨r0, r1, r2, r3⟩ (i.toNat / cN ⟨r0, r1, r2, r3⟩) (i.toNat % cN ⟨r0, r1, r2, r3⟩) := if_pos (by omega)
    have hb := gcheck_inv hg
    have ht := tile_lt hg hj hk
    have hbt := tile_both hg hj hk
    rw [e2, e1, ← hbt]
    simp only at hb ht ⊢
    generalize i.toNat / cN ⟨r0, r1, r2, r3⟩ = J at *
    generalize i.toNat % cN ⟨r0, r1, r2, r3⟩ = K at *
    have hcp := cN_pos hg
    have hc0 : gcols ⟨r0, r1, r2, r3⟩ ≠ 0 := by rw [← cN_eq hg]; omega
    have q1 : rngI .i64 (i.tmod (gcols ⟨r0, r1, r2, r3⟩) * r2) := by rw [e3]; exact rng64 (by omega) (by omega)
    have q2 : rngI .i64 (i.tdiv (gcols ⟨r0, r1, r2, r3⟩)) := by
      rw [e4]
      have := grows_bd ⟨r0, r1, r2, r3⟩
      rw [← rN_eq hg] at this
      exact rng64 (by omega) (by omega)
    have q3 : rngI .i64 (i.tdiv (gcols ⟨r0, r1, r2, r3⟩) * r3) := by rw [e4]; exact rng64 (by omega) (by omega)
    have q4 : rngI .i64 (i.tmod (gcols ⟨r0, r1, r2, r3⟩) * r2 + r2) := by rw [e3]; exact rng64 (by omega) (by omega)
    have q5 : rngI .i64 (i.tdiv (gcols ⟨r0, r1, r2, r3⟩) * r3 + r3) := by rw [e4]; exact rng64 (by omega) (by omega)
    rw [← e3, ← e4]
    refine ⟨⟨by kernel_rfl⟩, hc0, q1, hc0, q2, q3, ?_⟩
    (repeat' (first | apply And.intro | intro h)); (all_goals (try exact Chk.mk (by kernel_rfl)))
    (all_goals (try first | exact True.intro | exact rfl | exact And.intro rfl rfl | exact And.intro rfl (fun _ _ => rfl)))
    · exact q4
    · exact q5
end Go.Proofs.Ytgbekbofeaoniaa
namespace Go.Proofs.Ytgbekbofeaoniaa
open Go Go.RowKit
section
variable {r : R4}
theorem ra_w (r : R4) : rngI .i64 (r.norm.x1 - r.norm.x0) := by have := R4.norm_bounds r; exact rng64 (by omega) (by omega)
theorem ra_h (r : R4) : rngI .i64 (r.norm.y1 - r.norm.y0) := by have := R4.norm_bounds r; exact rng64 (by omega) (by omega)
theorem ra_td (r : R4) (h : decide (0 < r.norm.y1 - r.norm.y0) = true) : Int.tdiv 9223372036854775807 (r.norm.y1 - r.norm.y0) = 9223372036854775807 / (r.norm.y1 - r.norm.y0) := Int.tdiv_eq_ediv_of_nonneg (by omega)
theorem ra_ne (r : R4) (h : decide (0 < r.norm.y1 - r.norm.y0) = true) (h0 : r.norm.y1 - r.norm.y0 = 0) : False := by
  replace h := of_decide_eq_true h; omega
theorem ra_q (r : R4) (h : decide (0 < r.norm.y1 - r.norm.y0) = true) : rngI .i64 (Int.tdiv 9223372036854775807 (r.norm.y1 - r.norm.y0)) := by
  rw [ra_td r h]
  replace h := of_decide_eq_true h
  have h1 : 0 ≤ 9223372036854775807 / (r.norm.y1 - r.norm.y0) := Int.ediv_nonneg (by omega) (by omega)
  have h2 : 9223372036854775807 / (r.norm.y1 - r.norm.y0) ≤ 9223372036854775807 := Int.ediv_le_self _ (by omega)
  exact rng64 (by omega) (by omega)
theorem ra_v1 (r : R4) (h : decide (0 < r.norm.y1 - r.norm.y0) = true) (hd : decide (Int.tdiv 9223372036854775807 (r.norm.y1 - r.norm.y0) < r.norm.x1 - r.norm.x0) = true) : 9223372036854775807 = r.rarea := by
  rw [ra_td r h] at hd
  exact (if_pos ⟨of_decide_eq_true h, of_decide_eq_true hd⟩).symm
theorem ra_p (r : R4) (h : decide (0 < r.norm.y1 - r.norm.y0) = true) (hd : decide (Int.tdiv 9223372036854775807 (r.norm.y1 - r.norm.y0) < r.norm.x1 - r.norm.x0) = false) : rngI .i64 ((r.norm.x1 - r.norm.x0) * (r.norm.y1 - r.norm.y0)) := by
  rw [ra_td r h] at hd
  replace h := of_decide_eq_true h
  replace hd := of_decide_eq_false hd
  have := R4.norm_bounds r
  have := area_fit (w := r.norm.x1 - r.norm.x0) h (by omega) (by omega)
  exact rng64 (by omega) (by omega)
theorem ra_v2 (r : R4) (h : decide (0 < r.norm.y1 - r.norm.y0) = true) (hd : decide (Int.tdiv 9223372036854775807 (r.norm.y1 - r.norm.y0) < r.norm.x1 - r.norm.x0) = false) : (r.norm.x1 - r.norm.x0) * (r.norm.y1 - r.norm.y0) = r.rarea := by
  rw [ra_td r h] at hd
  exact (if_neg (fun hh => of_decide_eq_false hd hh.2)).symm
theorem ra_h0 (r : R4) (h : decide (0 < r.norm.y1 - r.norm.y0) = false) : r.norm.y1 - r.norm.y0 = 0 := by
  have := R4.norm_bounds r
  replace h := of_decide_eq_false h; omega
theorem ra_p0 (r : R4) (h : decide (0 < r.norm.y1 - r.norm.y0) = false) : rngI .i64 ((r.norm.x1 - r.norm.x0) * (r.norm.y1 - r.norm.y0)) := by
  rw [ra_h0 r h, Int.mul_zero]; exact rng64 (by omega) (by omega)
theorem ra_v3 (r : R4) (h : decide (0 < r.norm.y1 - r.norm.y0) = false) : (r.norm.x1 - r.norm.x0) * (r.norm.y1 - r.norm.y0) = r.rarea :=
  (if_neg (fun hh => of_decide_eq_false h hh.1)).symm
end
theorem rarea_s : SOK Try.prog 71 (sR fun r => .int .i64 r.rarea) := by
  refine sok_of (C := mkC 0 [(92, sR fun r => r.norm.av)] noG)
    (mkC_ok (pok_cons rnorm_s pok_nil) noG_ok) rfl mixed ⟨Try.func71, by kernel_rfl, by kernel_rfl, by kernel_rfl⟩ fun l obs v h _ => ?_
  obtain ⟨r, rfl, rfl⟩ := sR_inv h
  refine ⟨Nat.le_of_ble_eq_true rfl, ?_⟩
  (repeat' (first | apply And.intro | intro h)); (all_goals (try exact Chk.mk (by kernel_rfl)))
  (all_goals (try first | exact True.intro | exact rfl | exact And.intro rfl rfl | exact And.intro rfl (fun _ _ => rfl)))
  · exact ra_w r
  · exact ra_h r
  · rename_i h1; exact ra_ne r h1 h
  · exact ra_q r h
  · rename_i h1; exact ra_v1 r h1 h
  · rename_i h1; exact ra_p r h1 h
  · rename_i h1; exact ra_v2 r h1 h
  · exact ra_p0 r h
  · exact ra_v3 r h
end Go.Proofs.Ytgbekbofeaoniaa
namespace Go.Proofs.Ytgbekbofeaoniaa
open Go Go.RowKit
theorem cutI_bd (x : Int) : -2147483648 ≤ cutI x ∧ cutI x ≤ 2147483648 := by unfold cutI; omega
def axV (x f t : Int) : Int := if x < f then f - x else if t ≤ x then x - t + 1 else 0
def apV (r : R4) (x y : Int) : Int := if r.empty = true then 0 else axV (cutI x) r.x0 r.x1 + axV (cutI y) r.y0 r.y1
theorem axV_max {x f t : Int} (h : f < t) : max (max (f - x) 0) (x - t + 1) = axV x f t := by
  unfold axV
  by_cases h1 : x < f
  · rw [if_pos h1]; omega
  · rw [if_neg h1]
    by_cases h2 : t ≤ x
    · rw [if_pos h2]; omega
    · rw [if_neg h2]; omega
theorem axV_bd {x f t : Int} (hx : -2147483648 ≤ x ∧ x ≤ 2147483648) (hf : -2147483648 ≤ f ∧ f ≤ 2147483648) (ht : -2147483648 ≤ t ∧ t ≤ 2147483648) : 0 ≤ axV x f t ∧ axV x f t ≤ 4294967297 := by
  unfold axV
  by_cases h1 : x < f
  · rw [if_pos h1]; omega
  · rw [if_neg h1]
    by_cases h2 : t ≤ x
    · rw [if_pos h2]; omega
    · rw [if_neg h2]; omega
abbrev cutQ : PSpec := fun l => match l with | [.int .i64 x] => some ([], .int .i64 (cutI x)) | _ => none
theorem qcut_s : SOK Try.prog 70 cutQ := by
  refine sok_of (C := mkC 0 [] noG) (mkC_ok pok_nil noG_ok) rfl mixed ⟨Try.func70, by kernel_rfl, by kernel_rfl, by kernel_rfl⟩ fun l obs v h ho => ?_
  (unfold cutQ at h; split at h; rotate_left; (focus (cases h)); rename_i x; simp only [Option.some.injEq, Prod.mk.injEq] at h; obtain ⟨rfl, rfl⟩ := h; simp only [List.mem_cons, List.not_mem_nil, or_false, forall_eq_or_imp, forall_eq, false_implies, implies_true] at ho)
  refine ⟨Nat.le_of_ble_eq_true rfl, ?_⟩
  (repeat' (first | (refine xI (fun hfk => ?_) (fun hfk => ?_) <;> ((try (first | replace hfk := oT hfk | replace hfk := oF hfk | simp only [oD, ne_eq, reduceCtorEq] at hfk)); (try exact oX))) | (refine And.intro ?ob ?_; (case ob => (exact oZ))) | exact True.intro | (show _ = _; first | exact oY | exact rfl) | exact oW | (apply And.intro)))
theorem rcut43_s : SOK Try.prog 73 cutQ := by
  refine sok_of (C := mkC 0 [] noG) (mkC_ok pok_nil noG_ok) rfl mixed ⟨Try.func73, by kernel_rfl, by kernel_rfl, by kernel_rfl⟩ fun l obs v h ho => ?_
  (unfold cutQ at h; split at h; rotate_left; (focus (cases h)); rename_i x; simp only [Option.some.injEq, Prod.mk.injEq] at h; obtain ⟨rfl, rfl⟩ := h; simp only [List.mem_cons, List.not_mem_nil, or_false, forall_eq_or_imp, forall_eq, false_implies, implies_true] at ho)
  refine ⟨Nat.le_of_ble_eq_true rfl, ?_⟩
  (repeat' (first | (refine xI (fun hfk => ?_) (fun hfk => ?_) <;> ((try (first | replace hfk := oT hfk | replace hfk := oF hfk | simp only [oD, ne_eq, reduceCtorEq] at hfk)); (try exact oX))) | (refine And.intro ?ob ?_; (case ob => (exact oZ))) | exact True.intro | (show _ = _; first | exact oY | exact rfl) | exact oW | (apply And.intro)))
abbrev axS : PSpec := fun l => match l with | [.int .i64 x, .int .i64 f, .int .i64 t] => some ([-2147483648 ≤ x, x ≤ 2147483648, -2147483648 ≤ f, f ≤ 2147483648, -2147483648 ≤ t, t ≤ 2147483648], .int .i64 (axV x f t)) | _ => none
theorem axis_s : SOK Try.prog 72 axS := by
  refine sok_of (C := mkC 0 [] noG) (mkC_ok pok_nil noG_ok) rfl mixed ⟨Try.func72, by kernel_rfl, by kernel_rfl, by kernel_rfl⟩ fun l obs v h ho => ?_
  (unfold axS at h; split at h; rotate_left; (focus (cases h)); rename_i x f t; simp only [Option.some.injEq, Prod.mk.injEq] at h; obtain ⟨rfl, rfl⟩ := h; simp only [List.mem_cons, List.not_mem_nil, or_false, forall_eq_or_imp, forall_eq, false_implies, implies_true] at ho)
  obtain ⟨x0, x1, f0, f1, t0, t1⟩ := ho
  refine ⟨Nat.le_of_ble_eq_true rfl, ?_⟩
  by_cases h1 : x < f
  · have e : axV x f t = f - x := if_pos h1
    rw [e]
    (repeat' (first | (refine xI (fun hfk => ?_) (fun hfk => ?_) <;> ((try (first | replace hfk := oT hfk | replace hfk := oF hfk | simp only [oD, ne_eq, reduceCtorEq] at hfk)); (try exact oX))) | (refine And.intro ?ob ?_; (case ob => (exact oZ))) | exact True.intro | (show _ = _; first | exact oY | exact rfl) | exact oW | (apply And.intro)))
  · by_cases h2 : t ≤ x
    · have e : axV x f t = x - t + 1 := (if_neg h1).trans (if_pos h2)
      rw [e]
      (repeat' (first | (refine xI (fun hfk => ?_) (fun hfk => ?_) <;> ((try (first | replace hfk := oT hfk | replace hfk := oF hfk | simp only [oD, ne_eq, reduceCtorEq] at hfk)); (try exact oX))) | (refine And.intro ?ob ?_; (case ob => (exact oZ))) | exact True.intro | (show _ = _; first | exact oY | exact rfl) | exact oW | (apply And.intro)))
    · have e : axV x f t = 0 := (if_neg h1).trans (if_neg h2)
      rw [e]
      (repeat' (first | (refine xI (fun hfk => ?_) (fun hfk => ?_) <;> ((try (first | replace hfk := oT hfk | replace hfk := oF hfk | simp only [oD, ne_eq, reduceCtorEq] at hfk)); (try exact oX))) | (refine And.intro ?ob ?_; (case ob => (exact oZ))) | exact True.intro | (show _ = _; first | exact oY | exact rfl) | exact oW | (apply And.intro)))
abbrev apS : PSpec := fun l => match l with | [.agg [.int .i64 a, .int .i64 b, .int .i64 c, .int .i64 d], .int .i64 x, .int .i64 y] => some ([], .int .i64 (apV ⟨a, b, c, d⟩ x y)) | _ => none
attribute [local irreducible] cutI axV
theorem apart_s : SOK Try.prog 41 apS := by
  refine sok_of (C := mkC 0 [(69, sR fun r => .bool r.empty), (70, cutQ)] noG) (mkC_ok (pok_cons empty_s (pok_cons qcut_s pok_nil)) noG_ok) rfl mixed ⟨Try.func41, by kernel_rfl, by kernel_rfl, by kernel_rfl⟩ fun l obs v h ho => ?_
  (unfold apS at h; split at h; rotate_left; (focus (cases h)); rename_i a b c d x y; simp only [Option.some.injEq, Prod.mk.injEq] at h; obtain ⟨rfl, rfl⟩ := h; simp only [List.mem_cons, List.not_mem_nil, or_false, forall_eq_or_imp, forall_eq, false_implies, implies_true] at ho)
  refine ⟨Nat.le_of_ble_eq_true rfl, ?_⟩
  have cx := cutI_bd x
  have cy := cutI_bd y
  cases he : R4.empty ⟨a, b, c, d⟩ with
  | true =>
    have e : apV ⟨a, b, c, d⟩ x y = 0 := if_pos he
    rw [e]
    (repeat' (first | (refine xI (fun hfk => ?_) (fun hfk => ?_) <;> ((try (first | replace hfk := oT hfk | replace hfk := oF hfk | simp only [oD, ne_eq, reduceCtorEq] at hfk)); (try exact oX))) | (refine And.intro ?ob ?_; (case ob => (exact oZ))) | exact True.intro | (show _ = _; first | exact oY | exact rfl) | exact oW | (apply And.intro)))
  | false =>
    have hb := R4.bounds he
    dsimp only at hb
    obtain ⟨b1, b2, b3, b4, b5, b6⟩ := hb
    have e : max (max (a - cutI x) 0) (cutI x - c + 1) + max (max (b - cutI y) 0) (cutI y - d + 1) = apV ⟨a, b, c, d⟩ x y := by
      rw [axV_max b2, axV_max b5]
      exact (if_neg (by rw [he]; decide)).symm
    (repeat' (first | (refine xI (fun hfk => ?_) (fun hfk => ?_) <;> ((try (first | replace hfk := oT hfk | replace hfk := oF hfk | simp only [oD, ne_eq, reduceCtorEq] at hfk)); (try exact oX))) | (refine And.intro ?ob ?_; (case ob => (exact oZ))) | exact True.intro | (show _ = _; first | exact oY | (first | exact e | skip; done) | exact rfl) | exact oW | (apply And.intro)))
theorem rapart_s : SOK Try.prog 42 apS := by
  refine sok_of (C := mkC 0 [(71, sR fun r => .int .i64 r.rarea), (73, cutQ), (72, axS)] noG) (mkC_ok (pok_cons rarea_s (pok_cons rcut43_s (pok_cons axis_s pok_nil))) noG_ok) rfl mixed ⟨Try.func42, by kernel_rfl, by kernel_rfl, by kernel_rfl⟩ fun l obs v h ho => ?_
  (unfold apS at h; split at h; rotate_left; (focus (cases h)); rename_i a b c d x y; simp only [Option.some.injEq, Prod.mk.injEq] at h; obtain ⟨rfl, rfl⟩ := h; simp only [List.mem_cons, List.not_mem_nil, or_false, forall_eq_or_imp, forall_eq, false_implies, implies_true] at ho)
  refine ⟨Nat.le_of_ble_eq_true rfl, ?_⟩
  have cx := cutI_bd x
  have cy := cutI_bd y
  cases he : R4.empty ⟨a, b, c, d⟩ with
  | true =>
    have e : apV ⟨a, b, c, d⟩ x y = 0 := if_pos he
    have hz : R4.rarea ⟨a, b, c, d⟩ = 0 := by
      unfold R4.rarea
      rw [R4.norm_zero he]
      rfl
    rw [e]
    (repeat' (first | (refine xI (fun hfk => ?_) (fun hfk => ?_) <;> ((try (first | replace hfk := oT hfk | replace hfk := oF hfk | simp only [oD, ne_eq, reduceCtorEq] at hfk)); (try exact oX))) | (refine And.intro ?ob ?_; (case ob => (exact oZ))) | exact True.intro | (show _ = _; first | exact oY | exact rfl) | exact oW | (apply And.intro)))
  | false =>
    have hb := R4.bounds he
    dsimp only at hb
    obtain ⟨b1, b2, b3, b4, b5, b6⟩ := hb
    have hz : ¬ R4.rarea ⟨a, b, c, d⟩ = 0 := by
      unfold R4.rarea
      rw [R4.norm_of he]
      dsimp only
      by_cases k : 0 < d - b ∧ 9223372036854775807 / (d - b) < c - a
      · rw [if_pos k]; decide
      · rw [if_neg k]
        have := Int.mul_pos (a := c - a) (b := d - b) (by omega) (by omega)
        omega
    have q1 := axV_bd (x := cutI x) (f := a) (t := c) cx (by omega) (by omega)
    have q2 := axV_bd (x := cutI y) (f := b) (t := d) cy (by omega) (by omega)
    have e : axV (cutI x) a c + axV (cutI y) b d = apV ⟨a, b, c, d⟩ x y := (if_neg (by rw [he]; decide)).symm
    (repeat' (first | (refine xI (fun hfk => ?_) (fun hfk => ?_) <;> ((try (first | replace hfk := oT hfk | replace hfk := oF hfk | simp only [oD, ne_eq, reduceCtorEq] at hfk)); (try exact oX))) | (refine And.intro ?ob ?_; (case ob => (exact oZ))) | exact True.intro | (show _ = _; first | exact oY | (first | exact e | skip; done) | exact rfl) | exact oW | (apply And.intro)))
end Go.Proofs.Ytgbekbofeaoniaa

