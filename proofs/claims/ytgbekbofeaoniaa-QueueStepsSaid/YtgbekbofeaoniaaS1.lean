/- Texts laid together. No condition. -/
import Derived.Test.YtgbekbofeaoniaaE21
import Derived.Test.YtgbekbofeaoniaaE20
import Derived.Test.YtgbekbofeaoniaaFQs
namespace Go.Proofs.Ytgbekbofeaoniaa
theorem oT {p : Prop} [Decidable p] (h : decide p = true) : p := of_decide_eq_true h
theorem oF {p : Prop} [Decidable p] (h : decide p = false) : ¬ p := of_decide_eq_false h
theorem oA {p : Prop} [Decidable p] : (decide p = true) = p := decide_eq_true_eq
theorem oB {p : Prop} [Decidable p] : decide p = false ↔ ¬ p := decide_eq_false_iff_not
theorem oD : (∀ (p : Prop) [Decidable p], (decide p = true) = p) ∧ (∀ (p : Prop) [Decidable p], decide p = false ↔ ¬ p) ∧ ((∀ b : Bool, ((!b) = true) = (b = false)) ∧ (∀ b : Bool, ((!b) = false) = (b = true)) ∧ (∀ a b : Bool, ((a && b) = true) = (a = true ∧ b = true)) ∧ (∀ a b : Bool, ((a || b) = true) = (a = true ∨ b = true)) ∧ (∀ a b : Bool, ((a && b) = false) = (a = false ∨ b = false)) ∧ (∀ a b : Bool, ((a || b) = false) = (a = false ∧ b = false)) ∧ (∀ a b : Int, (¬ a < b) = (b ≤ a)) ∧ (∀ a b : Int, (¬ a ≤ b) = (b < a))) ∧ ((∀ p : Prop, (¬ ¬ p) = p) ∧ (true = false) = False ∧ (false = true) = False ∧ (∀ p : Prop, (p ∨ False) = p) ∧ (∀ p : Prop, (False ∨ p) = p) ∧ (∀ p : Prop, (p ∧ True) = p) ∧ (∀ p : Prop, (True ∧ p) = p) ∧ (¬ True) = False ∧ (¬ False) = True) := ⟨fun _ _ => oA, fun _ _ => oB, dh1, dh0⟩
theorem xF {x : Bool} (h : x = true) (k : x = false) : False := Bool.noConfusion (Eq.trans (Eq.symm h) k)
theorem xI {x : Bool} {A B : Prop} (f : x = true → A) (g : x = false → B) : (x = true → A) ∧ (x = false → B) := ⟨f, g⟩
theorem xT {x : Bool} (h : x = false) (k : x = true) : False := Bool.noConfusion (Eq.trans (Eq.symm h) k)
theorem oZ {p : Prop} (h : p := by (first | exact Chk.mk (by kernel_rfl) | exact True.intro | with_reducible assumption | exact rng64 (by omega) (by omega) | omega | (dsimp only; omega) | (show (_ : Nat) ≤ _; omega) | (simp only [ll1, ll2, ll0]; first | done | omega) | (dsimp only; simp only [ll1, ll2, ll0]; omega))) : p := h
theorem oX (h : False := by first | omega | contradiction | exact xF hfk (by with_reducible assumption) | exact xT hfk (by with_reducible assumption)) {p : Prop} : p := h.elim
theorem oY {p : Prop} (h : p := by first | with_reducible rfl | with_reducible assumption | omega | (simp only [ll1, ll2, ll0]; omega)) : p := h
theorem oW {p : Prop} (h : p := by first | with_reducible assumption | omega | (intro j hj; exact rfl)) : p := h
end Go.Proofs.Ytgbekbofeaoniaa
set_option maxRecDepth 100000
set_option maxHeartbeats 4000000
set_option linter.unusedVariables false
set_option linter.unusedSimpArgs false
namespace Go.Proofs.Ytgbekbofeaoniaa
open Go Go.RowKit
def dstr (T : TypeId → Option TI) (o : Op) (e : Env) (H : AH) : DR := match o with
  | .convert s d x => (match tdq T s, tdq T d, evA e x with
    | .slice es, .str, some v => (match tdq T es, intsOfA H .u8 v with
      | .int .u8, some (obs, l) => some (obs, .str (l.map fun n => UInt8.ofNat n.toNat), [], H.nx)
      | _, _ => none)
    | .str, .slice el, some (.str z) => (match tdq T el with
      | .int .u8 => some ([z.length ≤ 140737488355328], .sl H.nx 1 0 z.length, [(H.nx, some (.ints el .u8 (z.map fun c => (c.toNat : Int))))], H.nx + 1)
      | _ => none)
    | _, _, _ => none)
  | _ => none
def dX5 (T : TypeId → Option TI) (o : Op) (e : Env) (H : AH) : DR := match dstr T o e H with | some r => some r | none => dX4 T o e H
theorem dstr_congr {T : TypeId → Option TI} {o : Op} {e e' : Env} {H : AH} (h : ∀ x ∈ o.operands.toList, evA e x = evA e' x) : dstr T o e H = dstr T o e' H := by
  unfold dstr
  split
  · rename_i s d x
    rw [h x (by simp [Op.operands])]
  · rfl
theorem copyok5 {C : Ctx} (hC : C.X = xop4 C.T) (hD : C.DX = dX5 C.T) : CopyOK C := by
  have c4 := copyok4 (C := { C with X := xop4 C.T, DX := dX4 C.T }) rfl rfl
  refine ⟨fun o e e' H h => by
    have := c4.congr o e e' H h
    rw [hD]; unfold dX5; rw [dstr_congr h]
    show _ = (match dstr C.T o e' H with | some r => some r | none => dX4 C.T o e' H)
    rw [show dX4 C.T o e H = dX4 C.T o e' H from this], ?_⟩
  intro o e H obs v δ nx K h ho hK
  rw [hC]
  rw [hD] at h
  unfold dX5 at h
  split at h
  · rename_i r hr
    cases h
    unfold dstr at hr
    split at hr
    · rename_i s d x
      split at hr
      · rename_i es u hs hd hx
        split at hr
        · rename_i obs' l he hi
          cases hr
          have hb : rowB C.T (.convert s d x) e H = false := by
            unfold rowB
            simp only [hs, hd, hx]
          show xop4 C.T _ e H K
          unfold xop4
          rw [hb]
          show xop2 C.T _ e H K
          unfold xop2
          simp only [xsB2]
          unfold xop
          simp only [hx]
          unfold aconvX
          simp only [hs, hd, he, hi]
          exact obl_intro ho hK
        · cases hr
      · rename_i el z hs hd hx
        split at hr
        · rename_i he
          cases hr
          have hb : rowB C.T (.convert s d x) e H = true := by
            unfold rowB
            simp only [hs, hd, hx]
          show xop4 C.T _ e H K
          unfold xop4
          rw [hb]
          show rowX C.T _ e H K
          unfold rowX
          simp only [hx]
          unfold convS
          simp only [hs, hd, he]
          exact ⟨ho _ (by simp), hK⟩
        · cases hr
      · cases hr
    · cases hr
  · exact c4.out o e H obs v δ nx K h ho hK
noncomputable def mkT (p : Nat) (S : List (FuncId × PSpec)) (G : FuncId → Option GSpec) (D0 D : List (FuncId × FSpec)) (cuts : List Nat) : Ctx := ⟨p, tlook tt, slook S, dG (D0 ++ D) G, xsE (tlook tt), xop4 (tlook tt), fun i => cuts.any (Nat.beq i), dXD (D0 ++ D), dXN0 D0 D, dX5 (tlook tt)⟩
end Go.Proofs.Ytgbekbofeaoniaa
namespace Go.Proofs.Ytgbekbofeaoniaa
open Go Go.RowKit
abbrev MT : Type := List (TypeId × String × FuncId × Option TypeId)
def mlook : MT → TypeId → String → Option (FuncId × Option TypeId)
  | [], _, _ => none
  | (t, n, f, d) :: r, t', n' => bif Nat.beq t t' && (n == n') then some (f, d) else mlook r t' n'
def MFact (P : Program) (t : TypeId) (name : String) (f : FuncId) : Option TypeId → Prop
  | none => ∀ (v : Value) (w : World), (method (P.types.size + Made.depth) t v name).run P w = .ok (f, v) w
  | some el => ∀ (a : Addr) (w : World), (method (P.types.size + Made.depth) t (.pointer (some a)) name).run P w = (do let x ← loadVar el a; pure (f, x) : Sem (FuncId × Value)).run P w
def MOK (P : Program) (M : MT) : Prop := ∀ t n f d, mlook M t n = some (f, d) → MFact P t n f d
theorem mok_nil {P : Program} : MOK P [] := fun _ _ _ _ h => by cases h
theorem mok_cons {P : Program} {M : MT} {t : TypeId} {n : String} {f : FuncId} {d : Option TypeId} (h : MFact P t n f d) (hM : MOK P M) : MOK P ((t, n, f, d) :: M) := by
  intro t' n' f' d' hl
  unfold mlook at hl
  cases hb : Nat.beq t t' && (n == n')
  · rw [hb] at hl
    exact hM t' n' f' d' hl
  · rw [hb] at hl
    rw [Bool.and_eq_true] at hb
    have e1 := beq_iff.1 hb.1
    have e2 : n = n' := by simpa using hb.2
    subst e1; subst e2
    cases hl
    exact h
def invA (T : TypeId → Option TI) (M : MT) (e : Env) (H : AH) (x : Operand) (name : String) (args : List Operand) : Option (List Prop × FuncId × List AV) :=
  match evA e x, evAs e args with
  | some (.ifc t [v]), some l => (match mlook M t name with
    | some (f, none) => some ([], f, v :: l)
    | some (f, some el) => (match aload T el H v with
      | some (obs, r) => some (obs, f, r :: l)
      | none => none)
    | none => none)
  | _, _ => none
def pcall (H : AH) (s : PSpec) (l : List AV) : QR := bif l.all nlB then s l else (match viewAs H l with
  | some (p, l') => (match s l' with
    | some (q, v) => bif flatB v then some (p ++ q, v) else none
    | none => none)
  | none => none)
noncomputable def fcall (S : FuncId → Option PSpec) (G : FuncId → Option GSpec) (f : FuncId) (l : List AV) (H : AH) (K : AV → AH → Prop) : Prop :=
  match S f with
  | some s => (match pcall H s l with | some (obs, v) => obl obs (K v H) | none => False)
  | none => (match G f with | some s => s l H K | none => False)
def invB (o : Op) : Bool := match o with
  | .call { callee := .invoke _ _, .. } => true
  | _ => false
noncomputable def invX (M : MT) (S : FuncId → Option PSpec) (G : FuncId → Option GSpec) (T : TypeId → Option TI) (o : Op) (e : Env) (H : AH) (K : AV → AH → Prop) : Prop := match o with
  | .call { callee := .invoke x name, args, .. } => (match invA T M e H x name args.toList with
    | some (obs, f, l) => obl obs (fcall S G f l H K)
    | none => False)
  | _ => False
def shrB (o : Op) (e : Env) (H : AH) : Bool := match o with
  | .store _ a x => (match evA e a, evA e x with
    | some (.ptr _ _), some (.sl i sz 0 _) => (match H.get i with | some (.recs _ sz' _ _) => Nat.beq sz sz' | _ => false)
    | _, _ => false)
  | _ => false
def shrX (T : TypeId → Option TI) (o : Op) (e : Env) (H : AH) (K : AV → AH → Prop) : Prop := match o with
  | .store t a x => (match evA e a, evA e x with
    | some va, some (.sl i sz 0 n) => (match H.get i with
      | some (.recs el sz' m get) => n ≤ m ∧ astore T (H.set i (.recs el sz' n get)) t va (.sl i sz 0 n) (K .any)
      | _ => False)
    | _, _ => False)
  | _ => False
noncomputable def xop7 (M : MT) (S : FuncId → Option PSpec) (G : FuncId → Option GSpec) (T : TypeId → Option TI) (o : Op) (e : Env) (H : AH) (K : AV → AH → Prop) : Prop := match invB o with
  | true => invX M S G T o e H K
  | false => (match shrB o e H with
    | true => shrX T o e H K
    | false => xop4 T o e H K)
theorem run_invoke {P : Program} {w : World} {f : FuncId} (hc : callable P f) {ρ : Operand → Value} {o : Oper} {x : Operand} {name : String} {args : Array Operand} {ts : Array TypeId} {t : TypeId} {v r : Value} (ho : o.op = .call { callee := .invoke x name, args, argTypes := ts })
    (hx : ρ x = .iface t v) (hm : (method (P.types.size + Made.depth) t v name).run P w = .ok (f, r) w) : (execOp ρ o).run P w = .ok (.enter f (r :: args.toList.map ρ).toArray) w := by
  obtain ⟨fn, h1, h2, h3⟩ := hc
  have h2' : ¬ fn.name = "runtime.NumGoroutine" := by simpa using h2
  have h3' : ¬ fn.body = none := fun e => by simp [e] at h3
  have e0 : (#[Value.iface t v] ++ args.map ρ)[0]? = some (.iface t v) := by
    rw [← Array.getElem?_toList]
    simp
  have e1 : (#[Value.iface t v] ++ args.map ρ).extract 1 (#[Value.iface t v] ++ args.map ρ).size = args.map ρ := by
    apply Array.ext'
    simp
    exact List.take_of_length_le (by simp)
  have e2 : (#[r] ++ args.map ρ) = (r :: args.toList.map ρ).toArray := by
    apply Array.ext'
    simp
  have key : (callMethod (.iface t v) name (args.map ρ)).run P w = .ok (.enter f (r :: args.toList.map ρ).toArray) w := by
    unfold callMethod
    show Sem.run P (do let p ← program; let x ← method (p.types.size + Made.depth) t v name; callFunc x.1 (#[x.2] ++ args.map ρ)) w = _
    rw [Sem.run_bind]
    show Sem.run P (do let x ← method (P.types.size + Made.depth) t v name; callFunc x.1 (#[x.2] ++ args.map ρ)) w = _
    rw [Sem.run_bind, hm]
    show Sem.run P (callFunc f (#[r] ++ args.map ρ)) w = _
    rw [e2]
    simp [callFunc, h1, h2', h3']
  have he : execOp ρ o = invoke (.fn (.method name) #[]) (#[Value.iface t v] ++ args.map ρ) := by
    simp [execOp, ho, resolve, hx]
  rw [he]
  unfold invoke
  simp only [e0, e1]
  exact key
section
variable {P : Program} {C : Ctx} {R : PN} {w : World} {F Ob : Nat → Prop} {W0 : World} {H : AH} {T : TypeId → Option TI} {S : FuncId → Option PSpec} {G : FuncId → Option GSpec} {M : MT}
theorem fcall_ok (hS : POK P S) (hG : ∀ g s, G g = some s → GSOK P g s) {o : Oper} {a : Act} {e : Env} {K : AV → AH → Prop} {f : FuncId} {l : List AV} {cl : List Value} (h : fcall S G f l H K) (hH : HRel F Ob W0 R H w) (hE : ERel R w (Wr F R H) e a.tmps)
    (hc : CRel R w (Wr F R H) l cl) (hrun : callable P f → (execOp a.eval o).run P w = .ok (.enter f cl.toArray) w) : o.wp P a w (GP F Ob W0 R H o a e K) NoWay := by
  unfold fcall at h
  split at h
  · rename_i s hs
    obtain ⟨hcall, hsp⟩ := hS f s hs
    split at h
    rotate_left
    · exact h.elim
    rename_i obs v hp
    obtain ⟨ho, hK⟩ := obl_inv h
    have key : ∀ {obs' : List Prop} {r' : AV} {l' : List AV} (O' : Nat → Prop), s l' = some (obs', r') → (∀ p ∈ obs', p) → FBd O' w → CRel noN w O' l' cl →
        (∀ w' cv, Rep noN w' O' r' cv → Rep R w' (Wr F R H) v cv) → o.wp P a w (GP F Ob W0 R H o a e K) NoWay := by
      intro obs' r' l' O' h1 h2 h3 h4 h5
      unfold Oper.wp
      rw [hrun hcall]
      refine Calls.mono (hsp l' obs' r' h1 h2 w O' _ h3 h4) fun en w' ⟨cv, he, hx, hr⟩ => ?_
      subst he
      exact ⟨R, v, H, cv, hK, rfl, fun _ _ => rfl, hH.quiet hx, hE.mono (fun _ _ k => k) (hx.weaken fun _ _ k => k.elim) (fun _ _ k => k), h5 w' cv hr⟩
    unfold pcall at hp
    cases hnl : l.all nlB
    · simp only [hnl, cond_false] at hp
      split at hp
      · rename_i p l' hv
        split at hp
        · rename_i q v' hsv
          replace hp := bif_some hp; obtain ⟨hfl, hp⟩ := hp
          simp only [Option.some.injEq, Prod.mk.injEq] at hp
          obtain ⟨rfl, rfl⟩ := hp
          exact key F hsv (fun p hp => ho p (by simp [hp])) ⟨fun b k => hH.wr_lt (.inl k), hH.gl.mono fun b k => .inl k⟩ (viewAs_rep hH hc hv (fun p hp => ho p (by simp [hp]))) fun w' cv hr => flatB_rep hr hfl _ _ _
        · cases hp
      · cases hp
    · simp only [hnl, cond_true] at hp
      rw [List.all_eq_true] at hnl
      exact key (Wr F R H) hp ho ⟨fun b => hH.wr_lt, hH.gl⟩ ⟨hc.1, fun j x v hx hv => nlB_rep (hc.2 j x v hx hv) (hnl x (List.mem_of_getElem? hx)) noN⟩ fun w' cv hr => hr.mono (by simp) (Ext.refl (Wr F R H) _) (fun _ _ k => k)
  · split at h
    · rename_i s hs
      obtain ⟨hcall, hsp⟩ := hG f s hs
      unfold Oper.wp
      rw [hrun hcall]
      refine Calls.mono (hsp _ H K h F Ob W0 R w _ hH hc) fun en w' ⟨R', v, H', cv, hK, he, hR, hx, hH', hwr, hr⟩ => ?_
      subst he
      exact ⟨R', v, H', cv, hK, rfl, hR, hH', hE.mono (hH.keep hR) hx hwr, hr⟩
    · exact h.elim
theorem invX_ok (hT : TOK P T) (hS : POK P S) (hG : ∀ g s, G g = some s → GSOK P g s) (hM : MOK P M) {o : Oper} {a : Act} {e : Env} {K : AV → AH → Prop} (h : invX M S G T o.op e H K) (hH : HRel F Ob W0 R H w) (hE : ERel R w (Wr F R H) e a.tmps) : o.wp P a w (GP F Ob W0 R H o a e K) NoWay := by
  unfold invX at h
  split at h
  rotate_left
  · exact h.elim
  rename_i x name args ts ho
  split at h
  rotate_left
  · exact h.elim
  rename_i obs f l hi
  obtain ⟨hob, h'⟩ := obl_inv h
  unfold invA at hi
  split at hi
  rotate_left
  · cases hi
  rename_i t v l0 hx hl
  have hrx := evA_rep hE hx
  generalize hgx : a.eval x = cx at hrx
  have hargs := evAs_rel hE hl
  cases hrx with
  | ifc _ _ vs hvl hvc =>
    match vs, hvl with
    | [u], _ =>
      have hv := hvc 0 _ _ rfl rfl
      split at hi
      · rename_i f' hm
        simp only [Option.some.injEq, Prod.mk.injEq] at hi
        obtain ⟨rfl, rfl, rfl⟩ := hi
        exact fcall_ok hS hG h' hH hE (cl := u :: args.toList.map a.eval) (crel_cons hv hargs) fun hcall => run_invoke hcall ho hgx (hM t name f' none hm u w)
      · rename_i f' el hm
        split at hi
        · rename_i obs' r hld
          simp only [Option.some.injEq, Prod.mk.injEq] at hi
          obtain ⟨rfl, rfl, rfl⟩ := hi
          obtain ⟨cv, h1, h2⟩ := aload_ok hT hld hob hH hv
          obtain ⟨ad, rfl⟩ : ∃ ad, u = .pointer (some ad) := by
            unfold aload at hld
            split at hld
            · cases hv; exact ⟨_, rfl⟩
            · cases hv; exact ⟨_, rfl⟩
            · cases hv; exact ⟨_, rfl⟩
            · cases hld
          refine fcall_ok hS hG h' hH hE (cl := cv :: args.toList.map a.eval) (crel_cons h2 hargs) fun hcall => run_invoke hcall ho hgx ?_
          show (method (P.types.size + Made.depth) t (.pointer (some ad)) name).run P w = _
          rw [hM t name f' (some el) hm ad w]
          have h3 : (loadVar el ad).run P w = .ok cv w := by simpa [Instr.loadAt, Instr.sureAddr] using h1
          rw [Sem.run_bind, h3]
          rfl
        · cases hi
      · cases hi
theorem HRel.shr {i m n : Nat} {el : TypeId} {sz : Nat} {get : Nat → AV} (hH : HRel F Ob W0 R H w) (hi : H.get i = some (.recs el sz m get)) (hn : n ≤ m) : HRel F Ob W0 R (H.set i (.recs el sz n get)) w ∧ ∀ g, Wr F R (H.set i (.recs el sz n get)) g ↔ Wr F R H g := by
  have hwr : ∀ g, Wr F R (H.set i (.recs el sz n get)) g ↔ Wr F R H g := fun g => or_congr Iff.rfl (own_set hi g)
  refine ⟨⟨hH.len, hH.ext, hH.fb, fun g hg => hH.own g ((own_set hi g).1 hg), fun j e' hj => ?_, fun j k e1 e2 g hj hk h1 h2 => ?_⟩, hwr⟩
  · rw [get_set] at hj
    have up : ∀ {b : Option Nat} {e : Ent}, e.holds R w (Wr F R H) b → e.holds R w (Wr F R (H.set i (.recs el sz n get))) b := fun h => Ent.holds_mono h (fun _ _ k => k) (Ext.refl _ _) (fun b _ k => (hwr b).1 k) fun _ _ => rfl
    by_cases hij : i = j
    · rw [if_pos hij] at hj
      cases hj
      subst hij
      obtain ⟨b, hb, hh⟩ := hH.ent i _ hi
      refine ⟨b, hb, up ?_⟩
      cases b with
      | none =>
        have : m = 0 := hh
        show n = 0
        omega
      | some b =>
        obtain ⟨vs, fr, vals, g1, g2, g3, g4, g5⟩ := hh
        exact ⟨vs, fr, vals, g1, g2, Nat.le_trans (Nat.mul_le_mul_right _ hn) g3, fun j hj => g4 j (by omega), fun j hj => g5 j (by omega)⟩
    · rw [if_neg hij] at hj
      obtain ⟨b, hb, hh⟩ := hH.ent j _ hj
      exact ⟨b, hb, up hh⟩
  · have h4 : ∀ {j : Nat} {e : Ent}, (H.set i (.recs el sz n get)).get j = some e → ∃ e', H.get j = some e' := by
      intro j e hj
      rw [get_set] at hj
      by_cases hij : i = j
      · subst hij; exact ⟨_, hi⟩
      · rw [if_neg hij] at hj; exact ⟨_, hj⟩
    obtain ⟨x, hx⟩ := h4 hj
    obtain ⟨x', hx'⟩ := h4 hk
    exact hH.dis j k x x' g hx hx' h1 h2
theorem shrX_ok (hT : TOK P T) {o : Oper} {a : Act} {e : Env} {K : AV → AH → Prop} (h : shrX T o.op e H K) (hH : HRel F Ob W0 R H w) (hE : ERel R w (Wr F R H) e a.tmps) : o.wp P a w (GP F Ob W0 R H o a e K) NoWay := by
  unfold shrX at h
  split at h
  rotate_left
  · exact h.elim
  rename_i t ax x ho
  split at h
  rotate_left
  · exact h.elim
  rename_i va i sz n hax hx
  split at h
  rotate_left
  · exact h.elim
  rename_i el sz' m get hi
  obtain ⟨hn, hK⟩ := h
  obtain ⟨p1, p2⟩ := hH.shr hi hn
  have hE2 : ERel R w (Wr F R (H.set i (.recs el sz' n get))) e a.tmps := hE.mono (fun _ _ k => k) (Ext.refl _ _) fun b _ k => (p2 b).1 k
  have := store_ok (C := ⟨0, T, fun _ => none, fun _ => none, fun _ _ _ => false, fun _ _ _ _ => False, fun _ => false, fun _ _ _ => none, fun _ => 0, fun _ _ _ => none⟩) hT (K := K) ho (by
    rw [ho]
    unfold aopG
    simp only [hax, hx]
    exact hK) p1 hE2
  exact this
theorem xok7 (hT : TOK P C.T) (hS : POK P S) (hG : ∀ g s, G g = some s → GSOK P g s) (hM : MOK P M) (hC : C.X = xop7 M S G C.T) : XOK P C := by
  intro o a e F Ob W0 R H w K h hH hE
  rw [hC] at h
  unfold xop7 at h
  split at h
  · exact invX_ok hT hS hG hM h hH hE
  split at h
  · exact shrX_ok hT h hH hE
  · exact xok4 (C := { C with X := xop4 C.T }) hT rfl o a e F Ob W0 R H w K h hH hE
end
def dstoreF (T : TypeId → Option TI) (o : Op) (e : Env) (H : AH) : DR := match o with
  | .store t a x => (match szOf T t, evA e a, evA e x with
    | some s, some (.eptr i sz j 0), some (.agg l) => bif Nat.beq s sz && Nat.beq l.length sz && l.all nl0 && l.all isOne then (match H.get i with
      | some (.recs el sz' n get) => bif Nat.beq sz sz' then some ([j < n], .any, [(i, some (.recs el sz' n (fun m => if m = j then .agg l else get m)))], H.nx) else none
      | _ => none) else none
    | _, _, _ => none)
  | _ => none
def dX6 (T : TypeId → Option TI) (o : Op) (e : Env) (H : AH) : DR := match dstoreF T o e H with | some r => some r | none => dX5 T o e H
theorem dstoreF_congr {T : TypeId → Option TI} {o : Op} {e e' : Env} {H : AH} (h : ∀ x ∈ o.operands.toList, evA e x = evA e' x) : dstoreF T o e H = dstoreF T o e' H := by
  unfold dstoreF
  split
  · rename_i t a x
    rw [h a (by simp [Op.operands]), h x (by simp [Op.operands])]
  · rfl
theorem view0_nl {H : AH} {x : AV} (h : nl0 x = true) : view0 H x = some ([], x) := by
  cases x <;> first | rfl | cases h
theorem viewL_nl {H : AH} : ∀ {l : List AV}, l.all nl0 = true → viewL H l = some ([], l)
  | [], _ => rfl
  | x :: l, h => by
    rw [List.all_cons, Bool.and_eq_true] at h
    unfold viewL
    rw [view0_nl h.1, viewL_nl h.2]
    rfl
theorem nms0_nl {x : AV} (h : nl0 x = true) : nms0 x = [] := by
  cases x <;> first | rfl | cases h
theorem nmsL_nl : ∀ {l : List AV}, l.all nl0 = true → nmsL l = []
  | [], _ => rfl
  | x :: l, h => by
    rw [List.all_cons, Bool.and_eq_true] at h
    unfold nmsL
    rw [nms0_nl h.1, nmsL_nl h.2]
    rfl
theorem copyok6 {M : MT} {S : FuncId → Option PSpec} {G : FuncId → Option GSpec} {C : Ctx} (hC : C.X = xop7 M S G C.T) (hD : C.DX = dX6 C.T) : CopyOK C := by
  have c5 := copyok5 (C := { C with X := xop4 C.T, DX := dX5 C.T }) rfl rfl
  refine ⟨fun o e e' H h => by
    have := c5.congr o e e' H h
    rw [hD]; unfold dX6; rw [dstoreF_congr h]
    show _ = (match dstoreF C.T o e' H with | some r => some r | none => dX5 C.T o e' H)
    rw [show dX5 C.T o e H = dX5 C.T o e' H from this], ?_⟩
  intro o e H obs v δ nx K h ho hK
  rw [hC]
  rw [hD] at h
  unfold dX6 at h
  split at h
  · rename_i r hr
    cases h
    unfold dstoreF at hr
    split at hr
    rotate_left
    · cases hr
    rename_i t a x
    split at hr
    rotate_left
    · cases hr
    rename_i s i sz j l hs ha hx
    replace hr := bif_some hr; obtain ⟨hb, hr⟩ := hr
    simp only [Bool.and_eq_true] at hb
    obtain ⟨⟨⟨hb1, hb2⟩, hb3⟩, hb4⟩ := hb
    split at hr
    rotate_left
    · cases hr
    rename_i el sz' n get hi
    replace hr := bif_some hr; obtain ⟨hb5, hr⟩ := hr
    cases hr
    show xop7 M S G C.T _ e H K
    unfold xop7
    have hsh : shrB (.store t a x) e H = false := by
      unfold shrB
      simp only [ha, hx]
    simp only [invB, hsh]
    unfold xop4
    show xop2 C.T _ e H K
    unfold xop2
    have hxs : xsB2 C.T (.store t a x) e H = true := by
      unfold xsB2
      simp only [ha, hi, hx]
    rw [hxs]
    simp only [ha, hx]
    unfold storeF
    simp only [hs]
    have e1 : nmsL l = [] := nmsL_nl hb3
    have e2 : viewL H l = some ([], l) := viewL_nl hb3
    have e3 : delN H (nmsL l) = H := by rw [e1]; rfl
    simp only [hb1, hb2, Bool.and_self, cond_true, e2, e3, hi, hb5, hb3, hb4, Bool.true_and]
    exact ⟨ho _ (by simp), hK⟩
  · have h2 := c5.out o e H obs v δ nx K h ho hK
    have hi : invB o = false := by
      unfold invB
      split
      · cases h
      · rfl
    have hsh : shrB o e H = false := by
      unfold shrB
      split
      · cases h
      · rfl
    unfold xop7
    rw [hi]
    simp only [hsh]
    exact h2
noncomputable def mkI (p : Nat) (S : List (FuncId × PSpec)) (G : FuncId → Option GSpec) (D0 D : List (FuncId × FSpec)) (M : MT) (cuts : List Nat) : Ctx := ⟨p, tlook tt, slook S, dG (D0 ++ D) G, fun o e H => invB o || (shrB o e H || xsE (tlook tt) o e H), xop7 M (slook S) (dG (D0 ++ D) G) (tlook tt), fun i => cuts.any (Nat.beq i), dXD (D0 ++ D), dXN0 D0 D, dX6 (tlook tt)⟩
theorem mkI_ok {p : Nat} {S : List (FuncId × PSpec)} {G : FuncId → Option GSpec} {D0 D : List (FuncId × FSpec)} {M : MT} {cuts : List Nat} (hS : POK Try.prog (slook S)) (hG : ∀ g s, G g = some s → GSOK Try.prog g s) (hD : ∀ g FS, dlook (D0 ++ D) g = some FS → GSOK Try.prog g (fG FS)) (hM : MOK Try.prog M) : COK Try.prog (mkI p S G D0 D M cuts) :=
  have hG' : ∀ g s, dG (D0 ++ D) G g = some s → GSOK Try.prog g s := fun g s h => by
    simp only [dG] at h
    split at h
    · rename_i FS hd
      cases h
      exact hD g FS hd
    · exact hG g s h
  ⟨ttok, hS, gok_of ttok (xok7 ttok hS hG' hM rfl) hG', dok_of (D0 ++ D), copyok6 rfl rfl⟩
theorem fokI {S : List (FuncId × PSpec)} {G : FuncId → Option GSpec} (D0 D : List (FuncId × FSpec)) (M : MT) (cuts : List Nat) (hS : POK Try.prog (slook S)) (hG : ∀ g s, G g = some s → GSOK Try.prog g s) (hD : ∀ g FS, dlook (D0 ++ D) g = some FS → GSOK Try.prog g (fG FS)) (hM : MOK Try.prog M) {g : FuncId} {fn : Func} (hf : FnOK Try.prog g fn) {FS : FSpec}
    (h : ∀ l es obs v es', FS l es = some (obs, v, es') → (∀ p ∈ obs, p) → l.length ≤ fn.ntmps ∧ vcFn (mkI es.length S G D0 D M cuts) fn l ⟨es.length, num 0 (es.map some)⟩ (RetF es.length v es')) : GSOK Try.prog g (fG FS) :=
  fok_of (T := tlook tt) (S := slook S) (G := dG (D0 ++ D) G) (xs := fun o e H => invB o || (shrB o e H || xsE (tlook tt) o e H)) (X := xop7 M (slook S) (dG (D0 ++ D) G) (tlook tt)) (cut := fun i => cuts.any (Nat.beq i)) (XD := dXD (D0 ++ D)) (XN := dXN0 D0 D) (DX := dX6 (tlook tt)) (fun p => mkI_ok (p := p) (cuts := cuts) hS hG hD hM) mixed hf h
end Go.Proofs.Ytgbekbofeaoniaa
namespace Go.Proofs.Ytgbekbofeaoniaa
open Go Go.RowKit
structure It where
  l : Int
  i : Int
  p : Int
  n : Int
def It.z : It := ⟨0, 0, 0, 0⟩
abbrev It.av (x : It) : AV := .agg [.int .i64 x.l, .int .i64 x.i, .int .i64 x.p, .int .i64 x.n]
abbrev rowG (L : List It) : Nat → AV := fun j => (L.getD j It.z).av
abbrev rowE (L : List It) : Ent := .recs 136 4 L.length (rowG L)
structure RowP (n : Nat) (f : Nat → AV) : Prop where
  out : ∃ L : List It, n = L.length ∧ f = rowG L
theorem rowp (L : List It) : RowP L.length (rowG L) := ⟨L, rfl, rfl⟩
theorem rowp0 (L : List It) : RowP L.length (fun j => rowG L (0 + j)) := ⟨L, rfl, funext fun j => by rw [Nat.zero_add]⟩
def itOf : AV → It
  | .agg [.int _ l, .int _ i, .int _ p, .int _ n] => ⟨l, i, p, n⟩
  | _ => It.z
def qrL (n : Nat) (f : Nat → AV) : List It := (List.range n).map fun j => itOf (f j)
theorem qrL_row (L : List It) : qrL L.length (rowG L) = L := by
  unfold qrL
  refine List.ext_getElem (by simp) fun j h1 h2 => ?_
  simp only [List.getElem_map, List.getElem_range]
  show L.getD j It.z = _
  rw [List.getD_eq_getElem?_getD, List.getElem?_eq_getElem h2]
  rfl
def It.lt (x y : It) : Prop := x.p < y.p ∨ x.p = y.p ∧ x.n < y.n
instance (x y : It) : Decidable (x.lt y) := by unfold It.lt; exact inferInstance
def lessF : AV → AV → Bool
  | .agg [_, _, .int _ p, .int _ n], .agg [_, _, .int _ q, .int _ m] => decide (p < q ∨ p = q ∧ n < m)
  | _, _ => false
theorem q_meth : MOK Try.prog [(134, "Push", 129, none), (134, "Pop", 128, none), (134, "Len", 123, some 74), (134, "Less", 124, some 74), (134, "Swap", 125, some 74)] :=
  mok_cons (fun v w => by kernel_rfl) (mok_cons (fun v w => by kernel_rfl) (mok_cons (fun a w => by kernel_rfl) (mok_cons (fun a w => by kernel_rfl) (mok_cons (fun a w => by kernel_rfl) mok_nil))))
abbrev lenRS : PSpec := fun l => match l with | [.ro 4 n f] => some ([], .int .i64 (n : Int)) | [.nils] => some ([], .int .i64 0) | _ => none
theorem lenR_s : SOK Try.prog 123 lenRS := by
  refine sok_of (C := mkC 0 [] noG) (mkC_ok pok_nil noG_ok) rfl mixed ⟨Try.func123, by kernel_rfl, by kernel_rfl, by kernel_rfl⟩ fun l obs v h ho => ?_
  unfold lenRS at h
  split at h
  · simp only [Option.some.injEq, Prod.mk.injEq] at h
    obtain ⟨rfl, rfl⟩ := h
    refine ⟨Nat.le_of_ble_eq_true rfl, ?_⟩
    (repeat' (first | (refine xI (fun hfk => ?_) (fun hfk => ?_) <;> ((try (first | replace hfk := oT hfk | replace hfk := oF hfk | simp only [oD, ne_eq, reduceCtorEq] at hfk)); (try exact oX))) | (refine And.intro ?ob ?_; (case ob => (exact oZ))) | exact True.intro | (show _ = _; first | exact oY | exact rfl) | exact oW | (apply And.intro)))
  · simp only [Option.some.injEq, Prod.mk.injEq] at h
    obtain ⟨rfl, rfl⟩ := h
    refine ⟨Nat.le_of_ble_eq_true rfl, ?_⟩
    (repeat' (first | (refine xI (fun hfk => ?_) (fun hfk => ?_) <;> ((try (first | replace hfk := oT hfk | replace hfk := oF hfk | simp only [oD, ne_eq, reduceCtorEq] at hfk)); (try exact oX))) | (refine And.intro ?ob ?_; (case ob => (exact oZ))) | exact True.intro | (show _ = _; first | exact oY | exact rfl) | exact oW | (apply And.intro)))
  · cases h
abbrev lessRS : PSpec := fun l => match l with | [.ro 4 n f, .int .i64 i, .int .i64 k] => some ([RowP n f, 0 ≤ i, i < (n : Int), 0 ≤ k, k < (n : Int)], .bool (lessF (f i.toNat) (f k.toNat))) | _ => none
theorem lessR_s : SOK Try.prog 124 lessRS := by
  refine sok_of (C := mkC 0 [] noG) (mkC_ok pok_nil noG_ok) rfl mixed ⟨Try.func124, by kernel_rfl, by kernel_rfl, by kernel_rfl⟩ fun l obs v h ho => ?_
  (unfold lessRS at h; split at h; rotate_left; (focus (cases h)); rename_i n f i k; simp only [Option.some.injEq, Prod.mk.injEq] at h; obtain ⟨rfl, rfl⟩ := h; simp only [List.mem_cons, List.not_mem_nil, or_false, forall_eq_or_imp, forall_eq, false_implies, implies_true] at ho)
  obtain ⟨⟨L, rfl, rfl⟩, i0, i1, k0, k1⟩ := ho
  refine ⟨Nat.le_of_ble_eq_true rfl, ?_⟩
  obtain ⟨x, hx⟩ : ∃ x, L.getD i.toNat It.z = x := ⟨_, rfl⟩
  obtain ⟨y, hy⟩ : ∃ y, L.getD k.toNat It.z = y := ⟨_, rfl⟩
  have hv : lessF (rowG L i.toNat) (rowG L k.toNat) = decide (x.lt y) := by rw [← hx, ← hy]; rfl
  rw [hv]
  by_cases c1 : (L.getD i.toNat It.z).p < (L.getD k.toNat It.z).p
  · have e : decide (x.lt y) = true := decide_eq_true (.inl (by rw [← hx, ← hy]; exact c1))
    rw [e]
    (repeat' (first | (refine xI (fun hfk => ?_) (fun hfk => ?_) <;> ((try (first | replace hfk := oT hfk | replace hfk := oF hfk | simp only [oD, ne_eq, reduceCtorEq] at hfk)); (try exact oX))) | (refine And.intro ?ob ?_; (case ob => (exact oZ))) | exact True.intro | (show _ = _; first | exact oY | exact rfl) | exact oW | (apply And.intro)))
  · by_cases c2 : (L.getD i.toNat It.z).p = (L.getD k.toNat It.z).p
    · have e : decide ((L.getD i.toNat It.z).n < (L.getD k.toNat It.z).n) = decide (x.lt y) := decide_eq_decide.2 ⟨fun h => .inr (by rw [← hx, ← hy]; exact ⟨c2, h⟩), fun h => by
        rw [← hx, ← hy] at h
        rcases h with h | h
        · exact absurd h c1
        · exact h.2⟩
      (repeat' (first | (refine xI (fun hfk => ?_) (fun hfk => ?_) <;> ((try (first | replace hfk := oT hfk | replace hfk := oF hfk | simp only [oD, ne_eq, reduceCtorEq] at hfk)); (try exact oX))) | (refine And.intro ?ob ?_; (case ob => (exact oZ))) | exact True.intro | (show _ = _; first | exact oY | (exact e; done) | exact rfl) | exact oW | (apply And.intro)))
    · have e : decide (x.lt y) = false := decide_eq_false fun h => by
        rw [← hx, ← hy] at h
        rcases h with h | h
        · exact c1 h
        · exact c2 h.1
      rw [e]
      (repeat' (first | (refine xI (fun hfk => ?_) (fun hfk => ?_) <;> ((try (first | replace hfk := oT hfk | replace hfk := oF hfk | simp only [oD, ne_eq, reduceCtorEq] at hfk)); (try exact oX))) | (refine And.intro ?ob ?_; (case ob => (exact oZ))) | exact True.intro | (show _ = _; first | exact oY | exact rfl) | exact oW | (apply And.intro)))
def swapL (L : List It) (i k : Nat) : List It := (L.set i (L.getD k It.z)).set k (L.getD i It.z)
def swapG (f : Nat → AV) (i k : Nat) : Nat → AV := fun m => if m = k then f i else if m = i then f k else f m
theorem swapL_len (L : List It) (i k : Nat) : (swapL L i k).length = L.length := by simp [swapL]
theorem swapL_get {L : List It} {i k : Nat} (hi : i < L.length) (hk : k < L.length) (m : Nat) : (swapL L i k).getD m It.z = if m = k then L.getD i It.z else if m = i then L.getD k It.z else L.getD m It.z := by
  unfold swapL
  rw [List.getD_eq_getElem?_getD, List.getElem?_set]
  by_cases h1 : k = m
  · subst h1
    rw [if_pos rfl, if_pos rfl, if_pos (by simpa using hk)]
    rfl
  · rw [if_neg h1, if_neg (fun h => h1 h.symm), List.getElem?_set]
    by_cases h2 : i = m
    · subst h2
      rw [if_pos rfl, if_pos rfl, if_pos hi]
      rfl
    · rw [if_neg h2, if_neg (fun h => h2 h.symm), ← List.getD_eq_getElem?_getD]
theorem swapG_row {L : List It} {i k : Nat} (hi : i < L.length) (hk : k < L.length) : swapG (rowG L) i k = rowG (swapL L i k) := by
  funext m
  show (if m = k then (L.getD i It.z).av else if m = i then (L.getD k It.z).av else (L.getD m It.z).av) = ((swapL L i k).getD m It.z).av
  rw [swapL_get hi hk]
  by_cases h1 : m = k
  · rw [if_pos h1, if_pos h1]
  · rw [if_neg h1, if_neg h1]
    by_cases h2 : m = i
    · rw [if_pos h2, if_pos h2]
    · rw [if_neg h2, if_neg h2]
attribute [local irreducible] qrL
def swapRF : FSpec := fun l es => match l, es with
  | [.sl 0 4 0 n, .int .i64 i, .int .i64 k], [.recs 136 4 m f] => some ([RowP m f, n = m, 0 ≤ i, i < (n : Int), 0 ≤ k, k < (n : Int)], .tup [], [some (.recs 136 4 m (swapG f i.toNat k.toNat))])
  | _, _ => none
theorem swapR_g : GSOK Try.prog 125 (fG swapRF) := by
  refine fokI (S := []) (G := noG) [] [] [] [] pok_nil noG_ok dl_nil mok_nil ⟨Try.func125, by kernel_rfl, by kernel_rfl, by kernel_rfl⟩ fun l es obs v es' h ho => ?_
  unfold swapRF at h
  split at h
  rotate_left
  · cases h
  rename_i n i k m f
  simp only [Option.some.injEq, Prod.mk.injEq] at h
  obtain ⟨rfl, rfl, rfl⟩ := h
  simp only [List.mem_cons, List.not_mem_nil, or_false, forall_eq_or_imp, forall_eq] at ho
  obtain ⟨⟨L, rfl, rfl⟩, rfl, i0, i1, k0, k1⟩ := ho
  refine ⟨Nat.le_of_ble_eq_true rfl, ?_⟩
  (repeat' (first | (refine xI (fun hfk => ?_) (fun hfk => ?_) <;> ((try (first | replace hfk := oT hfk | replace hfk := oF hfk | simp only [oD, ne_eq, reduceCtorEq] at hfk)); (try exact oX))) | (refine And.intro ?ob ?_; (case ob => (exact oZ))) | exact True.intro | (show _ = _; first | exact oY | exact rfl) | exact oW | (apply And.intro)))
  refine ⟨[some 0], ?_⟩
  (repeat' (first | (refine xI (fun hfk => ?_) (fun hfk => ?_) <;> ((try (first | replace hfk := oT hfk | replace hfk := oF hfk | simp only [oD, ne_eq, reduceCtorEq] at hfk)); (try exact oX))) | (refine And.intro ?ob ?_; (case ob => (exact oZ))) | exact True.intro | (show _ = _; first | exact oY | exact rfl) | exact oW | (apply And.intro)))
  intro j hj
  show (if j = 0 + k.toNat then (L.getD (0 + i.toNat) It.z).av else if j = 0 + i.toNat then (L.getD (0 + k.toNat) It.z).av else (L.getD j It.z).av) = _
  rw [Nat.zero_add, Nat.zero_add]
  rfl
def pushRF : FSpec := fun l es => match l, es with
  | [.ptr 0 0, .ifc 136 [.agg [.int .i64 a, .int .i64 b, .int .i64 p, .int .i64 q]]], [.cells 76 [.sl 1 4 0 n, .int .i64 c], .recs 136 4 m f] =>
    some ([RowP m f, n = m, n ≤ 1000000], .tup [], [some (.cells 76 [.sl 2 4 0 (n + 1), .int .i64 c]), none, some (.recs 136 4 (m + 1) (rowG (qrL m f ++ [⟨a, b, p, q⟩])))])
  | _, _ => none
theorem pushR_g : GSOK Try.prog 129 (fG pushRF) := by
  refine fokI (S := []) (G := noG) [] [] [] [] pok_nil noG_ok dl_nil mok_nil ⟨Try.func129, by kernel_rfl, by kernel_rfl, by kernel_rfl⟩ fun l es obs v es' h ho => ?_
  unfold pushRF at h
  split at h
  rotate_left
  · cases h
  rename_i a b p q n c m f
  simp only [Option.some.injEq, Prod.mk.injEq] at h
  obtain ⟨rfl, rfl, rfl⟩ := h
  simp only [List.mem_cons, List.not_mem_nil, or_false, forall_eq_or_imp, forall_eq] at ho
  obtain ⟨⟨L, rfl, rfl⟩, rfl, n1⟩ := ho
  rw [qrL_row]
  refine ⟨Nat.le_of_ble_eq_true rfl, ?_⟩
  (repeat' (first | (refine xI (fun hfk => ?_) (fun hfk => ?_) <;> ((try (first | replace hfk := oT hfk | replace hfk := oF hfk | simp only [oD, ne_eq, reduceCtorEq] at hfk)); (try exact oX))) | (refine And.intro ?ob ?_; (case ob => (exact oZ))) | exact True.intro | (show _ = _; first | exact oY | exact rfl) | exact oW | (apply And.intro)))
  refine ⟨[some 0, some 1, some 4], ?_⟩
  (repeat' (first | (refine xI (fun hfk => ?_) (fun hfk => ?_) <;> ((try (first | replace hfk := oT hfk | replace hfk := oF hfk | simp only [oD, ne_eq, reduceCtorEq] at hfk)); (try exact oX))) | (refine And.intro ?ob ?_; (case ob => (exact oZ))) | exact True.intro | (show _ = _; first | exact oY | exact rfl) | exact oW | (apply And.intro)))
  intro j hj
  show (if j < L.length then rowG L j else chunkA _ [AV.int .i64 a, AV.int .i64 b, AV.int .i64 p, AV.int .i64 q] (0 + (j - L.length))) = ((L ++ [It.mk a b p q]).getD j It.z).av
  by_cases h : j < L.length
  · rw [if_pos h, List.getD_eq_getElem?_getD, List.getElem?_append_left h, ← List.getD_eq_getElem?_getD]
  · rw [if_neg h, show 0 + (j - L.length) = 0 by omega, show j = L.length by omega, List.getD_eq_getElem?_getD, List.getElem?_append_right (Nat.le_refl _), Nat.sub_self]
    rfl
def popRF : FSpec := fun l es => match l, es with
  | [.ptr 0 0], [.cells 76 [.sl 1 4 0 n, .int .i64 c], .recs 136 4 m f] =>
    some ([RowP m f, n = m, 0 < n, n ≤ 1000000], .ifc 136 [f (n - 1)], [some (.cells 76 [.sl 1 4 0 (n - 1), .int .i64 c]), some (.recs 136 4 (m - 1) (rowG ((qrL m f).take (m - 1))))])
  | _, _ => none
theorem popR_g : GSOK Try.prog 128 (fG popRF) := by
  refine fokI (S := []) (G := noG) [] [] [] [] pok_nil noG_ok dl_nil mok_nil ⟨Try.func128, by kernel_rfl, by kernel_rfl, by kernel_rfl⟩ fun l es obs v es' h ho => ?_
  unfold popRF at h
  split at h
  rotate_left
  · cases h
  rename_i n c m f
  simp only [Option.some.injEq, Prod.mk.injEq] at h
  obtain ⟨rfl, rfl, rfl⟩ := h
  simp only [List.mem_cons, List.not_mem_nil, or_false, forall_eq_or_imp, forall_eq] at ho
  obtain ⟨⟨L, rfl, rfl⟩, rfl, n0, n1⟩ := ho
  rw [qrL_row]
  have hq : L.getD (0 + ((L.length : Int) - 1).toNat) It.z = L.getD (L.length - 1) It.z := by rw [show 0 + ((L.length : Int) - 1).toNat = L.length - 1 by omega]
  refine ⟨Nat.le_of_ble_eq_true rfl, ?_⟩
  (repeat' (first | (refine xI (fun hfk => ?_) (fun hfk => ?_) <;> ((try (first | replace hfk := oT hfk | replace hfk := oF hfk | simp only [oD, ne_eq, reduceCtorEq] at hfk)); (try exact oX))) | (refine And.intro ?ob ?_; (case ob => (exact oZ))) | exact True.intro | (show _ = _; first | exact oY | exact rfl) | exact oW | (apply And.intro)))
  refine ⟨[some 0, some 1], ?_⟩
  (repeat' (first | (refine xI (fun hfk => ?_) (fun hfk => ?_) <;> ((try (first | replace hfk := oT hfk | replace hfk := oF hfk | simp only [oD, ne_eq, reduceCtorEq] at hfk)); (try exact oX))) | (refine And.intro ?ob ?_; (case ob => (exact oZ))) | exact True.intro | (show _ = _; first | exact oY | (first | exact congrArg It.l hq | exact congrArg It.i hq | exact congrArg It.p hq | exact congrArg It.n hq | skip; done) | exact rfl) | exact oW | (apply And.intro)))
  intro j hj
  show (L.getD j It.z).av = ((L.take (L.length - 1)).getD j It.z).av
  rw [List.getD_eq_getElem?_getD, List.getD_eq_getElem?_getD, List.getElem?_take_of_lt hj]
end Go.Proofs.Ytgbekbofeaoniaa
namespace Go.Proofs.Ytgbekbofeaoniaa
open Go Go.RowKit
def upL (L : List It) (j : Nat) : List It :=
  if h : 0 < j then (if (L.getD j It.z).lt (L.getD ((j - 1) / 2) It.z) then upL (swapL L ((j - 1) / 2) j) ((j - 1) / 2) else L) else L
termination_by j
decreasing_by omega
theorem upL_0 (L : List It) : upL L 0 = L := by rw [upL]; rfl
theorem upL_no {L : List It} {j : Nat} (h : ¬ (L.getD j It.z).lt (L.getD ((j - 1) / 2) It.z)) : upL L j = L := by
  rw [upL]
  by_cases h0 : 0 < j
  · rw [dif_pos h0, if_neg h]
  · rw [dif_neg h0]
theorem upL_yes {L : List It} {j : Nat} (h0 : 0 < j) (h : (L.getD j It.z).lt (L.getD ((j - 1) / 2) It.z)) : upL L j = upL (swapL L ((j - 1) / 2) j) ((j - 1) / 2) := by
  rw [upL, dif_pos h0, if_pos h]
theorem up_par (j : Nat) : Int.tdiv ((j : Int) - 1) 2 = (((j - 1) / 2 : Nat) : Int) := by
  by_cases h : j = 0
  · subst h; rfl
  · rw [Int.tdiv_eq_ediv_of_nonneg (by omega)]; omega
theorem lessF_at (A : List It) (k q : Nat) : lessF (rowG A (0 + (k : Int).toNat)) (rowG A (0 + (q : Int).toNat)) = decide ((A.getD k It.z).lt (A.getD q It.z)) := by
  rw [Nat.zero_add, Nat.zero_add]; rfl
theorem rowp_at {A : List It} {n : Nat} (h : A.length = n) : RowP n (rowG A) := by rw [← h]; exact rowp A
theorem rowp_at0 {A : List It} {n : Nat} (h : A.length = n) : RowP n (fun j => rowG A (0 + j)) := by rw [← h]; exact rowp0 A
def upF : FSpec := fun l es => match l, es with
  | [.ifc 134 [.ptr 0 0], .int .i64 j], [.cells 76 [.sl 1 4 0 n, .int .i64 c], .recs 136 4 m f] =>
    some ([RowP m f, n = m, n ≤ 1000000, 0 ≤ j, j < (n : Int)], .tup [], [some (.cells 76 [.sl 1 4 0 n, .int .i64 c]), some (.recs 136 4 m (rowG (upL (qrL m f) j.toNat)))])
  | _, _ => none
def chL (L : List It) (i n : Nat) : Nat := if 2 * i + 2 < n ∧ (L.getD (2 * i + 2) It.z).lt (L.getD (2 * i + 1) It.z) then 2 * i + 2 else 2 * i + 1
theorem chL_ge (L : List It) (i n : Nat) : 2 * i + 1 ≤ chL L i n := by unfold chL; split <;> omega
theorem chL_lt (L : List It) {i n : Nat} (h : 2 * i + 1 < n) : chL L i n < n := by
  unfold chL
  split
  · rename_i k; exact k.1
  · exact h
def downL (L : List It) (i n : Nat) : List It :=
  if h : 2 * i + 1 < n then (if (L.getD (chL L i n) It.z).lt (L.getD i It.z) then downL (swapL L i (chL L i n)) (chL L i n) n else L) else L
termination_by n - i
decreasing_by have := chL_ge L i n; have := chL_lt L h; omega
theorem downL_end {L : List It} {i n : Nat} (h : ¬ 2 * i + 1 < n) : downL L i n = L := by rw [downL, dif_neg h]
theorem downL_no {L : List It} {i n : Nat} (h : ¬ (L.getD (chL L i n) It.z).lt (L.getD i It.z)) : downL L i n = L := by
  rw [downL]
  by_cases h0 : 2 * i + 1 < n
  · rw [dif_pos h0, if_neg h]
  · rw [dif_neg h0]
theorem downL_yes {L : List It} {i n : Nat} (h0 : 2 * i + 1 < n) (h : (L.getD (chL L i n) It.z).lt (L.getD i It.z)) : downL L i n = downL (swapL L i (chL L i n)) (chL L i n) n := by
  rw [downL, dif_pos h0, if_pos h]
attribute [local irreducible] swapL qrL lessF
theorem up_g : GSOK Try.prog 89 (fG upF) := by
  refine fokI (S := [(124, lessRS)]) (G := glook [(125, fG swapRF)]) [] [] _ [0] (pok_cons lessR_s pok_nil) (gl_cons swapR_g gl_nil) dl_nil q_meth ⟨Try.func89, by kernel_rfl, by kernel_rfl, by kernel_rfl⟩ fun l es obs v es' h ho => ?_
  unfold upF at h
  split at h
  rotate_left
  · cases h
  rename_i j n c m f
  simp only [Option.some.injEq, Prod.mk.injEq] at h
  obtain ⟨rfl, rfl, rfl⟩ := h
  simp only [List.mem_cons, List.not_mem_nil, or_false, forall_eq_or_imp, forall_eq] at ho
  obtain ⟨⟨L, rfl, rfl⟩, rfl, n1, j0, j1⟩ := ho
  obtain ⟨j, rfl⟩ := Int.eq_ofNat_of_zero_le j0
  rw [qrL_row, Int.toNat_natCast]
  refine ⟨Nat.le_of_ble_eq_true rfl, ?_⟩
  (repeat' (first | (refine xI (fun hfk => ?_) (fun hfk => ?_) <;> ((try (first | replace hfk := oT hfk | replace hfk := oF hfk | simp only [oD, ne_eq, reduceCtorEq] at hfk)); (try exact oX))) | (refine And.intro ?ob ?_; (case ob => (exact oZ))) | exact True.intro | (show _ = _; first | exact oY | exact rfl) | exact oW | (apply And.intro)))
  refine ⟨List It × Nat, fun g => [(0, .ifc 134 [.ptr 0 0]), (1, .int .i64 (g.2 : Int))],
    fun g => ⟨2, [(0, some (.cells 76 [.sl 1 4 0 L.length, .int .i64 c])), (1, some (.recs 136 4 L.length (rowG g.1)))]⟩,
    fun g => g.1.length = L.length ∧ g.2 < L.length ∧ upL g.1 g.2 = upL L j, fun g => g.2, ⟨(L, j), [some 0, some 1], ⟨rfl, by show j < _; omega, rfl⟩, ?_⟩, fun g hg => ?_⟩
  · (repeat' (first | (refine And.intro ?_ ?_) | exact True.intro | (show _ = _; with_reducible rfl) | exact Chk.mk (by kernel_rfl)))
    all_goals first | rfl | (exact fun _ _ => rfl)
  obtain ⟨A, k⟩ := g
  obtain ⟨a1, a2, a3⟩ := hg
  have a1 : A.length = L.length := a1
  have a2 : k < L.length := a2
  have a3 : upL A k = upL L j := a3
  dsimp only
  rw [← a3]
  clear a3
  obtain ⟨q, hq⟩ : ∃ q, (k - 1) / 2 = q := ⟨_, rfl⟩
  have hp : Int.tdiv ((k : Int) - 1) 2 = (q : Int) := by rw [up_par, hq]
  have dr : rngI .i64 (Int.tdiv ((k : Int) - 1) 2) := by rw [hp]; exact rng64 (by omega) (by omega)
  (repeat' (first | (refine xI (fun hfk => ?_) (fun hfk => ?_) <;> ((try (first | replace hfk := oT hfk | replace hfk := oF hfk | simp only [oD, ne_eq, reduceCtorEq] at hfk)); (try exact oX))) | (refine And.intro ?ob ?_; (case ob => (exact oZ))) | exact True.intro | (show _ = _; first | exact oY | (first | exact dr | skip; done) | exact rfl) | exact oW | (apply And.intro)))
  refine ⟨[(0, .ifc 134 [.ptr 0 0]), (1, .int .i64 (k : Int)), (4, .int .i64 (q : Int))], ⟨2, [(0, some (.cells 76 [.sl 1 4 0 L.length, .int .i64 c])), (1, some (.recs 136 4 L.length (rowG A)))]⟩, [some 0, some 1], ?_, ?_⟩
  · (repeat' (first | (refine And.intro ?_ ?_) | exact True.intro | (show _ = _; with_reducible rfl) | exact Chk.mk (by kernel_rfl)))
    all_goals first | rfl | exact hp | (exact fun _ _ => rfl)
  clear hp dr
  by_cases k0 : k = 0
  · subst k0
    have q0 : q = 0 := by omega
    subst q0
    rw [upL_0]
    (repeat' (first | (refine xI (fun hfk => ?_) (fun hfk => ?_) <;> ((try (first | replace hfk := oT hfk | replace hfk := oF hfk | simp only [oD, ne_eq, reduceCtorEq] at hfk)); (try exact oX))) | (refine And.intro ?ob ?_; (case ob => (exact oZ))) | exact True.intro | (show _ = _; first | exact oY | exact rfl) | exact oW | (apply And.intro)))
    refine ⟨[some 0, some 1], ?_⟩
    (repeat' (first | (refine xI (fun hfk => ?_) (fun hfk => ?_) <;> ((try (first | replace hfk := oT hfk | replace hfk := oF hfk | simp only [oD, ne_eq, reduceCtorEq] at hfk)); (try exact oX))) | (refine And.intro ?ob ?_; (case ob => (exact oZ))) | exact True.intro | (show _ = _; first | exact oY | exact rfl) | exact oW | (apply And.intro)))
  · have rp := rowp_at0 a1
    have rq := rowp_at a1
    have lf := lessF_at A k q
    by_cases hl : (A.getD k It.z).lt (A.getD q It.z)
    · rw [upL_yes (by omega) (by rw [hq]; exact hl), hq]
      rw [decide_eq_true hl] at lf
      (repeat' (first | (refine xI (fun hfk => ?_) (fun hfk => ?_) <;> ((try (first | replace hfk := oT hfk | replace hfk := oF hfk | simp only [oD, ne_eq, reduceCtorEq] at hfk)); (try exact oX))) | (refine And.intro ?ob ?_; (case ob => (exact oZ))) | exact True.intro | (show _ = _; first | exact oY | (first | exact rp | skip; done) | exact rfl) | exact oW | (apply And.intro)))
      (refine ⟨[1], ⟨by kernel_rfl⟩, ?_⟩)
      (repeat' (first | (refine xI (fun hfk => ?_) (fun hfk => ?_) <;> ((try (first | replace hfk := oT hfk | replace hfk := oF hfk | simp only [oD, ne_eq, reduceCtorEq] at hfk)); (try exact oX))) | (refine And.intro ?ob ?_; (case ob => (exact oZ))) | exact True.intro | (show _ = _; first | exact oY | (first | exact rq | skip; done) | exact rfl) | exact oW | (apply And.intro)))
      refine ⟨(swapL A q k, q), [some 0, some 1], ⟨by show (swapL A q k).length = _; rw [swapL_len, a1], by show q < _; omega, rfl⟩, ?mu, ?_⟩
      case mu => (show q < k; omega)
      have hsw : swapG (rowG A) q k = rowG (swapL A q k) := swapG_row (by omega) (by omega)
      (repeat' (first | (refine And.intro ?_ ?_) | exact True.intro | (show _ = _; with_reducible rfl) | exact Chk.mk (by kernel_rfl)))
      all_goals first | rfl | (exact fun j _ => congrFun hsw j) | skip
    · rw [upL_no (by rw [hq]; exact hl)]
      rw [decide_eq_false hl] at lf
      (repeat' (first | (refine xI (fun hfk => ?_) (fun hfk => ?_) <;> ((try (first | replace hfk := oT hfk | replace hfk := oF hfk | simp only [oD, ne_eq, reduceCtorEq] at hfk)); (try exact oX))) | (refine And.intro ?ob ?_; (case ob => (exact oZ))) | exact True.intro | (show _ = _; first | exact oY | (first | exact rp | skip; done) | exact rfl) | exact oW | (apply And.intro)))
      refine ⟨[some 0, some 1], ?_⟩
      (repeat' (first | (refine xI (fun hfk => ?_) (fun hfk => ?_) <;> ((try (first | replace hfk := oT hfk | replace hfk := oF hfk | simp only [oD, ne_eq, reduceCtorEq] at hfk)); (try exact oX))) | (refine And.intro ?ob ?_; (case ob => (exact oZ))) | exact True.intro | (show _ = _; first | exact oY | exact rfl) | exact oW | (apply And.intro)))
def downF : FSpec := fun l es => match l, es with
  | [.ifc 134 [.ptr 0 0], .int .i64 i, .int .i64 r], [.cells 76 [.sl 1 4 0 n, .int .i64 c], .recs 136 4 m f] =>
    some ([RowP m f, n = m, n ≤ 1000000, 0 ≤ i, i ≤ (n : Int), 0 ≤ r, r ≤ (n : Int)], .any, [some (.cells 76 [.sl 1 4 0 n, .int .i64 c]), some (.recs 136 4 m (rowG (downL (qrL m f) i.toNat r.toNat)))])
  | _, _ => none
theorem down_g : GSOK Try.prog 90 (fG downF) := by
  refine fokI (S := [(124, lessRS)]) (G := glook [(125, fG swapRF)]) [] [] _ [2, 5] (pok_cons lessR_s pok_nil) (gl_cons swapR_g gl_nil) dl_nil q_meth ⟨Try.func90, by kernel_rfl, by kernel_rfl, by kernel_rfl⟩ fun l es obs v es' h ho => ?_
  unfold downF at h
  split at h
  rotate_left
  · cases h
  rename_i i0 n m0 c m f
  simp only [Option.some.injEq, Prod.mk.injEq] at h
  obtain ⟨rfl, rfl, rfl⟩ := h
  simp only [List.mem_cons, List.not_mem_nil, or_false, forall_eq_or_imp, forall_eq] at ho
  obtain ⟨⟨L, rfl, rfl⟩, rfl, n1, j0, j1, r0, r1⟩ := ho
  obtain ⟨i0, rfl⟩ := Int.eq_ofNat_of_zero_le j0
  obtain ⟨n, rfl⟩ := Int.eq_ofNat_of_zero_le r0
  rw [qrL_row, Int.toNat_natCast, Int.toNat_natCast]
  refine ⟨Nat.le_of_ble_eq_true rfl, ?_⟩
  (repeat' (first | (refine xI (fun hfk => ?_) (fun hfk => ?_) <;> ((try (first | replace hfk := oT hfk | replace hfk := oF hfk | simp only [oD, ne_eq, reduceCtorEq] at hfk)); (try exact oX))) | (refine And.intro ?ob ?_; (case ob => (exact oZ))) | exact True.intro | (show _ = _; first | exact oY | exact rfl) | exact oW | (apply And.intro)))
  refine ⟨List It × Nat, fun g => [(0, .ifc 134 [.ptr 0 0]), (1, .int .i64 (i0 : Int)), (2, .int .i64 (n : Int)), (7, .int .i64 (g.2 : Int))],
    fun g => ⟨2, [(0, some (.cells 76 [.sl 1 4 0 L.length, .int .i64 c])), (1, some (.recs 136 4 L.length (rowG g.1)))]⟩,
    fun g => g.1.length = L.length ∧ g.2 ≤ L.length ∧ downL g.1 g.2 n = downL L i0 n, fun g => n - g.2, ⟨(L, i0), [some 0, some 1], ⟨rfl, by show i0 ≤ _; omega, rfl⟩, ?_⟩, fun g hg => ?_⟩
  · (repeat' (first | (refine And.intro ?_ ?_) | exact True.intro | (show _ = _; with_reducible rfl) | exact Chk.mk (by kernel_rfl)))
    all_goals first | rfl | (exact fun _ _ => rfl)
  obtain ⟨A, k⟩ := g
  obtain ⟨a1, a2, a3⟩ := hg
  have a1 : A.length = L.length := a1
  have a2 : k ≤ L.length := a2
  have a3 : downL A k n = downL L i0 n := a3
  dsimp only
  rw [← a3]
  clear a3
  obtain ⟨u, hu⟩ : ∃ u, 2 * k + 1 = u := ⟨_, rfl⟩
  have hp : 2 * (k : Int) + 1 = (u : Int) := by omega
  (repeat' (first | (refine xI (fun hfk => ?_) (fun hfk => ?_) <;> ((try (first | replace hfk := oT hfk | replace hfk := oF hfk | simp only [oD, ne_eq, reduceCtorEq] at hfk)); (try exact oX))) | (refine And.intro ?ob ?_; (case ob => (exact oZ))) | exact True.intro | (show _ = _; first | exact oY | exact rfl) | exact oW | (apply And.intro)))
  refine ⟨[(0, .ifc 134 [.ptr 0 0]), (1, .int .i64 (i0 : Int)), (2, .int .i64 (n : Int)), (7, .int .i64 (k : Int)), (8, .int .i64 (u : Int))], ⟨2, [(0, some (.cells 76 [.sl 1 4 0 L.length, .int .i64 c])), (1, some (.recs 136 4 L.length (rowG A)))]⟩, [some 0, some 1], ?_, ?_⟩
  · (repeat' (first | (refine And.intro ?_ ?_) | exact True.intro | (show _ = _; with_reducible rfl) | exact Chk.mk (by kernel_rfl)))
    all_goals first | rfl | exact hp | (exact fun _ _ => rfl)
  by_cases hd : u < n
  rotate_left
  · rw [downL_end (by omega)]
    (repeat' (first | (refine xI (fun hfk => ?_) (fun hfk => ?_) <;> ((try (first | replace hfk := oT hfk | replace hfk := oF hfk | simp only [oD, ne_eq, reduceCtorEq] at hfk)); (try exact oX))) | (refine And.intro ?ob ?_; (case ob => (exact oZ))) | exact True.intro | (show _ = _; first | exact oY | exact rfl) | exact oW | (apply And.intro)))
    refine ⟨[some 0, some 1], ?_⟩
    (repeat' (first | (refine xI (fun hfk => ?_) (fun hfk => ?_) <;> ((try (first | replace hfk := oT hfk | replace hfk := oF hfk | simp only [oD, ne_eq, reduceCtorEq] at hfk)); (try exact oX))) | (refine And.intro ?ob ?_; (case ob => (exact oZ))) | exact True.intro | (show _ = _; first | exact oY | exact rfl) | exact oW | (apply And.intro)))
  obtain ⟨v, hv⟩ : ∃ v, u + 1 = v := ⟨_, rfl⟩
  have hp2 : (u : Int) + 1 = (v : Int) := by omega
  (repeat' (first | (refine xI (fun hfk => ?_) (fun hfk => ?_) <;> ((try (first | replace hfk := oT hfk | replace hfk := oF hfk | simp only [oD, ne_eq, reduceCtorEq] at hfk)); (try exact oX))) | (refine And.intro ?ob ?_; (case ob => (exact oZ))) | exact True.intro | (show _ = _; first | exact oY | exact rfl) | exact oW | (apply And.intro)))
  refine ⟨[(0, .ifc 134 [.ptr 0 0]), (1, .int .i64 (i0 : Int)), (2, .int .i64 (n : Int)), (7, .int .i64 (k : Int)), (8, .int .i64 (u : Int)), (9, .int .i64 (u : Int)), (10, .int .i64 (v : Int))], ⟨2, [(0, some (.cells 76 [.sl 1 4 0 L.length, .int .i64 c])), (1, some (.recs 136 4 L.length (rowG A)))]⟩, [some 0, some 1], ?_, ?_⟩
  · (repeat' (first | (refine And.intro ?_ ?_) | exact True.intro | (show _ = _; with_reducible rfl) | exact Chk.mk (by kernel_rfl)))
    all_goals first | rfl | exact hp2 | (exact fun _ _ => rfl)
  clear hp hp2
  have rp := rowp_at0 a1
  have rq := rowp_at a1
  by_cases hvn : v < n
  · have lf := lessF_at A v u
    by_cases hc : (A.getD v It.z).lt (A.getD u It.z)
    · have hj : chL A k n = v := by
        unfold chL
        rw [if_pos (by rw [show 2 * k + 2 = v by omega, hu]; exact ⟨hvn, hc⟩)]
        omega
      rw [decide_eq_true hc] at lf
      have lf2 := lessF_at A v k
      by_cases hl : (A.getD v It.z).lt (A.getD k It.z)
      · rw [downL_yes (by omega) (by rw [hj]; exact hl), hj]
        rw [decide_eq_true hl] at lf2
        (repeat' (first | (refine xI (fun hfk => ?_) (fun hfk => ?_) <;> ((try (first | replace hfk := oT hfk | replace hfk := oF hfk | simp only [oD, ne_eq, reduceCtorEq] at hfk)); (try exact oX))) | (refine And.intro ?ob ?_; (case ob => (exact oZ))) | exact True.intro | (show _ = _; first | exact oY | (first | exact rp | skip; done) | exact rfl) | exact oW | (apply And.intro)))
        (refine ⟨[1], ⟨by kernel_rfl⟩, ?_⟩)
        (repeat' (first | (refine xI (fun hfk => ?_) (fun hfk => ?_) <;> ((try (first | replace hfk := oT hfk | replace hfk := oF hfk | simp only [oD, ne_eq, reduceCtorEq] at hfk)); (try exact oX))) | (refine And.intro ?ob ?_; (case ob => (exact oZ))) | exact True.intro | (show _ = _; first | exact oY | (first | exact rq | skip; done) | exact rfl) | exact oW | (apply And.intro)))
        refine ⟨(swapL A k v, v), [some 0, some 1], ⟨by show (swapL A k v).length = _; rw [swapL_len, a1], by show v ≤ _; omega, rfl⟩, ?mu, ?_⟩
        case mu => (show n - v < n - k; omega)
        have hsw : swapG (rowG A) k v = rowG (swapL A k v) := swapG_row (by omega) (by omega)
        (repeat' (first | (refine And.intro ?_ ?_) | exact True.intro | (show _ = _; with_reducible rfl) | exact Chk.mk (by kernel_rfl)))
        all_goals first | rfl | (exact fun j _ => congrFun hsw j) | skip
      · rw [downL_no (by rw [hj]; exact hl)]
        rw [decide_eq_false hl] at lf2
        (repeat' (first | (refine xI (fun hfk => ?_) (fun hfk => ?_) <;> ((try (first | replace hfk := oT hfk | replace hfk := oF hfk | simp only [oD, ne_eq, reduceCtorEq] at hfk)); (try exact oX))) | (refine And.intro ?ob ?_; (case ob => (exact oZ))) | exact True.intro | (show _ = _; first | exact oY | (first | exact rp | skip; done) | exact rfl) | exact oW | (apply And.intro)))
        refine ⟨[some 0, some 1], ?_⟩
        (repeat' (first | (refine xI (fun hfk => ?_) (fun hfk => ?_) <;> ((try (first | replace hfk := oT hfk | replace hfk := oF hfk | simp only [oD, ne_eq, reduceCtorEq] at hfk)); (try exact oX))) | (refine And.intro ?ob ?_; (case ob => (exact oZ))) | exact True.intro | (show _ = _; first | exact oY | exact rfl) | exact oW | (apply And.intro)))
    · have hj : chL A k n = u := by
        unfold chL
        rw [if_neg (by rw [show 2 * k + 2 = v by omega, hu]; exact fun h => hc h.2)]
        omega
      rw [decide_eq_false hc] at lf
      have lf2 := lessF_at A u k
      by_cases hl : (A.getD u It.z).lt (A.getD k It.z)
      · rw [downL_yes (by omega) (by rw [hj]; exact hl), hj]
        rw [decide_eq_true hl] at lf2
        (repeat' (first | (refine xI (fun hfk => ?_) (fun hfk => ?_) <;> ((try (first | replace hfk := oT hfk | replace hfk := oF hfk | simp only [oD, ne_eq, reduceCtorEq] at hfk)); (try exact oX))) | (refine And.intro ?ob ?_; (case ob => (exact oZ))) | exact True.intro | (show _ = _; first | exact oY | (first | exact rp | skip; done) | exact rfl) | exact oW | (apply And.intro)))
        (refine ⟨[1], ⟨by kernel_rfl⟩, ?_⟩)
        (repeat' (first | (refine xI (fun hfk => ?_) (fun hfk => ?_) <;> ((try (first | replace hfk := oT hfk | replace hfk := oF hfk | simp only [oD, ne_eq, reduceCtorEq] at hfk)); (try exact oX))) | (refine And.intro ?ob ?_; (case ob => (exact oZ))) | exact True.intro | (show _ = _; first | exact oY | (first | exact rq | skip; done) | exact rfl) | exact oW | (apply And.intro)))
        refine ⟨(swapL A k u, u), [some 0, some 1], ⟨by show (swapL A k u).length = _; rw [swapL_len, a1], by show u ≤ _; omega, rfl⟩, ?mu, ?_⟩
        case mu => (show n - u < n - k; omega)
        have hsw : swapG (rowG A) k u = rowG (swapL A k u) := swapG_row (by omega) (by omega)
        (repeat' (first | (refine And.intro ?_ ?_) | exact True.intro | (show _ = _; with_reducible rfl) | exact Chk.mk (by kernel_rfl)))
        all_goals first | rfl | (exact fun j _ => congrFun hsw j) | skip
      · rw [downL_no (by rw [hj]; exact hl)]
        rw [decide_eq_false hl] at lf2
        (repeat' (first | (refine xI (fun hfk => ?_) (fun hfk => ?_) <;> ((try (first | replace hfk := oT hfk | replace hfk := oF hfk | simp only [oD, ne_eq, reduceCtorEq] at hfk)); (try exact oX))) | (refine And.intro ?ob ?_; (case ob => (exact oZ))) | exact True.intro | (show _ = _; first | exact oY | (first | exact rp | skip; done) | exact rfl) | exact oW | (apply And.intro)))
        refine ⟨[some 0, some 1], ?_⟩
        (repeat' (first | (refine xI (fun hfk => ?_) (fun hfk => ?_) <;> ((try (first | replace hfk := oT hfk | replace hfk := oF hfk | simp only [oD, ne_eq, reduceCtorEq] at hfk)); (try exact oX))) | (refine And.intro ?ob ?_; (case ob => (exact oZ))) | exact True.intro | (show _ = _; first | exact oY | exact rfl) | exact oW | (apply And.intro)))
  · have hj : chL A k n = u := by
      unfold chL
      rw [if_neg (by rw [show 2 * k + 2 = v by omega]; exact fun h => hvn h.1)]
      omega
    have lf2 := lessF_at A u k
    by_cases hl : (A.getD u It.z).lt (A.getD k It.z)
    · rw [downL_yes (by omega) (by rw [hj]; exact hl), hj]
      rw [decide_eq_true hl] at lf2
      (repeat' (first | (refine xI (fun hfk => ?_) (fun hfk => ?_) <;> ((try (first | replace hfk := oT hfk | replace hfk := oF hfk | simp only [oD, ne_eq, reduceCtorEq] at hfk)); (try exact oX))) | (refine And.intro ?ob ?_; (case ob => (exact oZ))) | exact True.intro | (show _ = _; first | exact oY | (first | exact rp | skip; done) | exact rfl) | exact oW | (apply And.intro)))
      (refine ⟨[1], ⟨by kernel_rfl⟩, ?_⟩)
      (repeat' (first | (refine xI (fun hfk => ?_) (fun hfk => ?_) <;> ((try (first | replace hfk := oT hfk | replace hfk := oF hfk | simp only [oD, ne_eq, reduceCtorEq] at hfk)); (try exact oX))) | (refine And.intro ?ob ?_; (case ob => (exact oZ))) | exact True.intro | (show _ = _; first | exact oY | (first | exact rq | skip; done) | exact rfl) | exact oW | (apply And.intro)))
      refine ⟨(swapL A k u, u), [some 0, some 1], ⟨by show (swapL A k u).length = _; rw [swapL_len, a1], by show u ≤ _; omega, rfl⟩, ?mu, ?_⟩
      case mu => (show n - u < n - k; omega)
      have hsw : swapG (rowG A) k u = rowG (swapL A k u) := swapG_row (by omega) (by omega)
      (repeat' (first | (refine And.intro ?_ ?_) | exact True.intro | (show _ = _; with_reducible rfl) | exact Chk.mk (by kernel_rfl)))
      all_goals first | rfl | (exact fun j _ => congrFun hsw j) | skip
    · rw [downL_no (by rw [hj]; exact hl)]
      rw [decide_eq_false hl] at lf2
      (repeat' (first | (refine xI (fun hfk => ?_) (fun hfk => ?_) <;> ((try (first | replace hfk := oT hfk | replace hfk := oF hfk | simp only [oD, ne_eq, reduceCtorEq] at hfk)); (try exact oX))) | (refine And.intro ?ob ?_; (case ob => (exact oZ))) | exact True.intro | (show _ = _; first | exact oY | (first | exact rp | skip; done) | exact rfl) | exact oW | (apply And.intro)))
      refine ⟨[some 0, some 1], ?_⟩
      (repeat' (first | (refine xI (fun hfk => ?_) (fun hfk => ?_) <;> ((try (first | replace hfk := oT hfk | replace hfk := oF hfk | simp only [oD, ne_eq, reduceCtorEq] at hfk)); (try exact oX))) | (refine And.intro ?ob ?_; (case ob => (exact oZ))) | exact True.intro | (show _ = _; first | exact oY | exact rfl) | exact oW | (apply And.intro)))
end Go.Proofs.Ytgbekbofeaoniaa
namespace Go.Proofs.Ytgbekbofeaoniaa
open Go Go.RowKit
theorem upL_len (L : List It) (j : Nat) : (upL L j).length = L.length := by
  induction j using Nat.strongRecOn generalizing L with
  | _ j ih =>
    by_cases h0 : 0 < j
    · by_cases h : (L.getD j It.z).lt (L.getD ((j - 1) / 2) It.z)
      · rw [upL_yes h0 h, ih _ (by omega), swapL_len]
      · rw [upL_no h]
    · obtain rfl : j = 0 := by omega
      rw [upL_0]
theorem downL_len (L : List It) (i n : Nat) : (downL L i n).length = L.length := by
  generalize hk : n - i = k
  induction k using Nat.strongRecOn generalizing L i with
  | _ k ih =>
    by_cases h0 : 2 * i + 1 < n
    · by_cases h : (L.getD (chL L i n) It.z).lt (L.getD i It.z)
      · have h1 := chL_ge L i n
        have h2 := chL_lt L h0
        rw [downL_yes h0 h, ih (n - chL L i n) (by omega) _ _ rfl, swapL_len]
      · rw [downL_no h]
    · rw [downL_end h0]
def popL (L : List It) : List It := (downL (swapL L 0 (L.length - 1)) 0 (L.length - 1)).take (L.length - 1)
def popX (L : List It) : It := (downL (swapL L 0 (L.length - 1)) 0 (L.length - 1)).getD (L.length - 1) It.z
def pushL (L : List It) (x : It) : List It := upL (L ++ [x]) L.length
theorem pushL_len (L : List It) (x : It) : (pushL L x).length = L.length + 1 := by unfold pushL; rw [upL_len, List.length_append]; rfl
theorem popL_len (L : List It) : (popL L).length = L.length - 1 := by unfold popL; rw [List.length_take, downL_len, swapL_len]; omega
attribute [local irreducible] swapL qrL
def hpushF : FSpec := fun l es => match l, es with
  | [.ifc 134 [.ptr 0 0], .ifc 136 [.agg [.int .i64 a, .int .i64 b, .int .i64 p, .int .i64 q]]], [.cells 76 [.sl 1 4 0 n, .int .i64 c], .recs 136 4 m f] =>
    some ([RowP m f, n = m, n ≤ 100000], .tup [], [some (.cells 76 [.sl 2 4 0 (n + 1), .int .i64 c]), none, some (.recs 136 4 (m + 1) (rowG (pushL (qrL m f) ⟨a, b, p, q⟩)))])
  | _, _ => none
theorem hpush_g : GSOK Try.prog 67 (fG hpushF) := by
  refine fokI (S := [(123, lenRS)]) (G := glook [(129, fG pushRF), (89, fG upF)]) [] [] _ [0] (pok_cons lenR_s pok_nil) (gl_cons pushR_g (gl_cons up_g gl_nil)) dl_nil q_meth ⟨Try.func67, by kernel_rfl, by kernel_rfl, by kernel_rfl⟩ fun l es obs v es' h ho => ?_
  unfold hpushF at h
  split at h
  rotate_left
  · cases h
  rename_i a b p q n c m f
  simp only [Option.some.injEq, Prod.mk.injEq] at h
  obtain ⟨rfl, rfl, rfl⟩ := h
  simp only [List.mem_cons, List.not_mem_nil, or_false, forall_eq_or_imp, forall_eq] at ho
  obtain ⟨⟨L, rfl, rfl⟩, rfl, n1⟩ := ho
  rw [qrL_row]
  have rp := rowp L
  refine ⟨Nat.le_of_ble_eq_true rfl, ?_⟩
  (repeat' (first | (refine xI (fun hfk => ?_) (fun hfk => ?_) <;> ((try (first | replace hfk := oT hfk | replace hfk := oF hfk | simp only [oD, ne_eq, reduceCtorEq] at hfk)); (try exact oX))) | (refine And.intro ?ob ?_; (case ob => (exact oZ))) | exact True.intro | (show _ = _; first | exact oY | exact rfl) | exact oW | (apply And.intro)))
  (refine ⟨[0, 1], ⟨by kernel_rfl⟩, ?_⟩)
  (repeat' (first | (refine xI (fun hfk => ?_) (fun hfk => ?_) <;> ((try (first | replace hfk := oT hfk | replace hfk := oF hfk | simp only [oD, ne_eq, reduceCtorEq] at hfk)); (try exact oX))) | (refine And.intro ?ob ?_; (case ob => (exact oZ))) | exact True.intro | (show _ = _; first | exact oY | (first | exact rp | skip; done) | exact rfl) | exact oW | (apply And.intro)))
  refine ⟨[(0, .ifc 134 [.ptr 0 0])], ⟨3, [(0, some (.cells 76 [.sl 2 4 0 (L.length + 1), .int .i64 c])), (2, some (.recs 136 4 (L.length + 1) (rowG (L ++ [It.mk a b p q]))))]⟩, [some 0, some 1, some 2], ?_, ?_⟩
  · have hr : qrL L.length (rowG L) = L := qrL_row L
    (repeat' (first | (refine And.intro ?_ ?_) | exact True.intro | (show _ = _; with_reducible rfl) | exact Chk.mk (by kernel_rfl)))
    all_goals first | rfl | (rw [hr]; exact fun _ _ => rfl)
  have hl : (L ++ [It.mk a b p q]).length = L.length + 1 := by rw [List.length_append]; rfl
  have rq : RowP (L.length + 1) (rowG (L ++ [It.mk a b p q])) := rowp_at hl
  (repeat' (first | (refine xI (fun hfk => ?_) (fun hfk => ?_) <;> ((try (first | replace hfk := oT hfk | replace hfk := oF hfk | simp only [oD, ne_eq, reduceCtorEq] at hfk)); (try exact oX))) | (refine And.intro ?ob ?_; (case ob => (exact oZ))) | exact True.intro | (show _ = _; first | exact oY | exact rfl) | exact oW | (apply And.intro)))
  (refine ⟨[0, 2], ⟨by kernel_rfl⟩, ?_⟩)
  (repeat' (first | (refine xI (fun hfk => ?_) (fun hfk => ?_) <;> ((try (first | replace hfk := oT hfk | replace hfk := oF hfk | simp only [oD, ne_eq, reduceCtorEq] at hfk)); (try exact oX))) | (refine And.intro ?ob ?_; (case ob => (exact oZ))) | exact True.intro | (show _ = _; first | exact oY | (first | exact rq | skip; done) | exact rfl) | exact oW | (apply And.intro)))
  refine ⟨[some 0, some 1, some 2], ?_⟩
  have hr : qrL (L.length + 1) (rowG (L ++ [It.mk a b p q])) = L ++ [It.mk a b p q] := by rw [← hl]; exact qrL_row _
  have e : upL (qrL (L.length + 1) (rowG (L ++ [It.mk a b p q]))) (((L.length + 1 : Nat) : Int) - 1).toNat = pushL L ⟨a, b, p, q⟩ := by
    rw [hr, show (((L.length + 1 : Nat) : Int) - 1).toNat = L.length by omega]
    rfl
  (repeat' (first | (refine xI (fun hfk => ?_) (fun hfk => ?_) <;> ((try (first | replace hfk := oT hfk | replace hfk := oF hfk | simp only [oD, ne_eq, reduceCtorEq] at hfk)); (try exact oX))) | (refine And.intro ?ob ?_; (case ob => (exact oZ))) | exact True.intro | (show _ = _; first | exact oY | exact rfl) | exact oW | (apply And.intro)))
  exact fun j _ => by rw [e]
def hpopF : FSpec := fun l es => match l, es with
  | [.ifc 134 [.ptr 0 0]], [.cells 76 [.sl 1 4 0 n, .int .i64 c], .recs 136 4 m f] =>
    some ([RowP m f, n = m, 0 < n, n ≤ 1000000], .ifc 136 [(popX (qrL m f)).av], [some (.cells 76 [.sl 1 4 0 (n - 1), .int .i64 c]), some (.recs 136 4 (m - 1) (rowG (popL (qrL m f))))])
  | _, _ => none
theorem hpop_g : GSOK Try.prog 68 (fG hpopF) := by
  refine fokI (S := [(123, lenRS)]) (G := glook [(128, fG popRF), (125, fG swapRF), (90, fG downF)]) [] [] _ [1, 2, 3] (pok_cons lenR_s pok_nil) (gl_cons popR_g (gl_cons swapR_g (gl_cons down_g gl_nil))) dl_nil q_meth ⟨Try.func68, by kernel_rfl, by kernel_rfl, by kernel_rfl⟩ fun l es obs v es' h ho => ?_
  unfold hpopF at h
  split at h
  rotate_left
  · cases h
  rename_i n c m f
  simp only [Option.some.injEq, Prod.mk.injEq] at h
  obtain ⟨rfl, rfl, rfl⟩ := h
  simp only [List.mem_cons, List.not_mem_nil, or_false, forall_eq_or_imp, forall_eq] at ho
  obtain ⟨⟨L, rfl, rfl⟩, rfl, n0, n1⟩ := ho
  rw [qrL_row]
  have rp := rowp L
  obtain ⟨k, hk⟩ : ∃ k, L.length - 1 = k := ⟨_, rfl⟩
  have hk2 : ((L.length : Nat) : Int) - 1 = (k : Int) := by omega
  refine ⟨Nat.le_of_ble_eq_true rfl, ?_⟩
  (repeat' (first | (refine xI (fun hfk => ?_) (fun hfk => ?_) <;> ((try (first | replace hfk := oT hfk | replace hfk := oF hfk | simp only [oD, ne_eq, reduceCtorEq] at hfk)); (try exact oX))) | (refine And.intro ?ob ?_; (case ob => (exact oZ))) | exact True.intro | (show _ = _; first | exact oY | exact rfl) | exact oW | (apply And.intro)))
  refine ⟨[(0, .ifc 134 [.ptr 0 0]), (3, .int .i64 (k : Int))], ⟨2, [(0, some (.cells 76 [.sl 1 4 0 L.length, .int .i64 c])), (1, some (.recs 136 4 L.length (rowG L)))]⟩, [some 0, some 1], ?_, ?_⟩
  · (repeat' (first | (refine And.intro ?_ ?_) | exact True.intro | (show _ = _; with_reducible rfl) | exact Chk.mk (by kernel_rfl)))
    all_goals first | rfl | exact hk2 | (exact fun _ _ => rfl)
  (repeat' (first | (refine xI (fun hfk => ?_) (fun hfk => ?_) <;> ((try (first | replace hfk := oT hfk | replace hfk := oF hfk | simp only [oD, ne_eq, reduceCtorEq] at hfk)); (try exact oX))) | (refine And.intro ?ob ?_; (case ob => (exact oZ))) | exact True.intro | (show _ = _; first | exact oY | exact rfl) | exact oW | (apply And.intro)))
  (refine ⟨[1], ⟨by kernel_rfl⟩, ?_⟩)
  (repeat' (first | (refine xI (fun hfk => ?_) (fun hfk => ?_) <;> ((try (first | replace hfk := oT hfk | replace hfk := oF hfk | simp only [oD, ne_eq, reduceCtorEq] at hfk)); (try exact oX))) | (refine And.intro ?ob ?_; (case ob => (exact oZ))) | exact True.intro | (show _ = _; first | exact oY | (first | exact rp | skip; done) | exact rfl) | exact oW | (apply And.intro)))
  have hs : swapG (rowG L) 0 k = rowG (swapL L 0 k) := swapG_row (by omega) (by omega)
  have hsl : (swapL L 0 k).length = L.length := swapL_len L 0 k
  refine ⟨[(0, .ifc 134 [.ptr 0 0]), (3, .int .i64 (k : Int))], ⟨2, [(0, some (.cells 76 [.sl 1 4 0 L.length, .int .i64 c])), (1, some (.recs 136 4 L.length (rowG (swapL L 0 k))))]⟩, [some 0, some 1], ?_, ?_⟩
  · (repeat' (first | (refine And.intro ?_ ?_) | exact True.intro | (show _ = _; with_reducible rfl) | exact Chk.mk (by kernel_rfl)))
    all_goals first | rfl | (exact fun j _ => congrFun hs j)
  have rq : RowP L.length (rowG (swapL L 0 k)) := rowp_at hsl
  (repeat' (first | (refine xI (fun hfk => ?_) (fun hfk => ?_) <;> ((try (first | replace hfk := oT hfk | replace hfk := oF hfk | simp only [oD, ne_eq, reduceCtorEq] at hfk)); (try exact oX))) | (refine And.intro ?ob ?_; (case ob => (exact oZ))) | exact True.intro | (show _ = _; first | exact oY | exact rfl) | exact oW | (apply And.intro)))
  (refine ⟨[0, 1], ⟨by kernel_rfl⟩, ?_⟩)
  (repeat' (first | (refine xI (fun hfk => ?_) (fun hfk => ?_) <;> ((try (first | replace hfk := oT hfk | replace hfk := oF hfk | simp only [oD, ne_eq, reduceCtorEq] at hfk)); (try exact oX))) | (refine And.intro ?ob ?_; (case ob => (exact oZ))) | exact True.intro | (show _ = _; first | exact oY | (first | exact rq | skip; done) | exact rfl) | exact oW | (apply And.intro)))
  have hr : qrL L.length (rowG (swapL L 0 k)) = swapL L 0 k := by rw [← hsl]; exact qrL_row _
  obtain ⟨B, hB⟩ : ∃ B, downL (swapL L 0 k) 0 k = B := ⟨_, rfl⟩
  have hBl : B.length = L.length := by rw [← hB, downL_len, hsl]
  have e : downL (qrL L.length (rowG (swapL L 0 k))) (Int.toNat 0) (k : Int).toNat = B := by rw [hr]; exact hB
  refine ⟨[(0, .ifc 134 [.ptr 0 0])], ⟨2, [(0, some (.cells 76 [.sl 1 4 0 L.length, .int .i64 c])), (1, some (.recs 136 4 L.length (rowG B)))]⟩, [some 0, some 1], ?_, ?_⟩
  · (repeat' (first | (refine And.intro ?_ ?_) | exact True.intro | (show _ = _; with_reducible rfl) | exact Chk.mk (by kernel_rfl)))
    all_goals first | rfl | (exact fun j _ => by rw [← e])
  have rb : RowP L.length (rowG B) := rowp_at hBl
  (repeat' (first | (refine xI (fun hfk => ?_) (fun hfk => ?_) <;> ((try (first | replace hfk := oT hfk | replace hfk := oF hfk | simp only [oD, ne_eq, reduceCtorEq] at hfk)); (try exact oX))) | (refine And.intro ?ob ?_; (case ob => (exact oZ))) | exact True.intro | (show _ = _; first | exact oY | exact rfl) | exact oW | (apply And.intro)))
  (refine ⟨[0, 1], ⟨by kernel_rfl⟩, ?_⟩)
  (repeat' (first | (refine xI (fun hfk => ?_) (fun hfk => ?_) <;> ((try (first | replace hfk := oT hfk | replace hfk := oF hfk | simp only [oD, ne_eq, reduceCtorEq] at hfk)); (try exact oX))) | (refine And.intro ?ob ?_; (case ob => (exact oZ))) | exact True.intro | (show _ = _; first | exact oY | (first | exact rb | skip; done) | exact rfl) | exact oW | (apply And.intro)))
  refine ⟨[some 0, some 1], ?_⟩
  have hrb : qrL L.length (rowG B) = B := by rw [← hBl]; exact qrL_row _
  have hpx : popX L = B.getD (L.length - 1) It.z := by unfold popX; rw [hk, hB]
  have hpl : popL L = B.take (L.length - 1) := by unfold popL; rw [hk, hB]
  rw [hpx, hpl]
  (repeat' (first | (refine xI (fun hfk => ?_) (fun hfk => ?_) <;> ((try (first | replace hfk := oT hfk | replace hfk := oF hfk | simp only [oD, ne_eq, reduceCtorEq] at hfk)); (try exact oX))) | (refine And.intro ?ob ?_; (case ob => (exact oZ))) | exact True.intro | (show _ = _; first | exact oY | exact rfl) | exact oW | (apply And.intro)))
  exact fun j _ => by rw [hrb]
end Go.Proofs.Ytgbekbofeaoniaa
namespace Go.Proofs.Ytgbekbofeaoniaa
theorem It.asym {a b : It} (h : a.lt b) : ¬ b.lt a := by
  unfold It.lt at *; omega
theorem It.tr {a b c : It} (h : a.lt b) (k : b.lt c) : a.lt c := by
  unfold It.lt at *; omega
theorem It.ntr {a b c : It} (h : ¬ a.lt b) (k : ¬ b.lt c) : ¬ a.lt c := by
  unfold It.lt at *; omega
theorem It.irr (a : It) : ¬ a.lt a := by
  unfold It.lt; omega
abbrev par (j : Nat) : Nat := (j - 1) / 2
abbrev atL (L : List It) (j : Nat) : It := L.getD j It.z
theorem atL_eq {L : List It} {j : Nat} (h : j < L.length) : atL L j = L[j] := by
  show L.getD j It.z = _
  rw [List.getD_eq_getElem?_getD, List.getElem?_eq_getElem h]; rfl
def HPn (L : List It) (n : Nat) : Prop := ∀ j, 0 < j → j < n → ¬ (atL L j).lt (atL L (par j))
structure UpI (L : List It) (k : Nat) : Prop where
  oth : ∀ j, 0 < j → j < L.length → j ≠ k → ¬ (atL L j).lt (atL L (par j))
  bel : ∀ j, 0 < j → j < L.length → par j = k → 0 < k → ¬ (atL L j).lt (atL L (par k))
theorem swap_at {L : List It} {i k : Nat} (hi : i < L.length) (hk : k < L.length) (m : Nat) : atL (swapL L i k) m = if m = k then atL L i else if m = i then atL L k else atL L m := swapL_get hi hk m
theorem up_heap : ∀ (j : Nat) (L : List It), j < L.length → UpI L j → HPn (upL L j) (upL L j).length := by
  intro j
  induction j using Nat.strongRecOn with
  | _ k ih =>
    intro L hk h
    rw [upL_len]
    by_cases h0 : 0 < k
    · by_cases hl : (atL L k).lt (atL L (par k))
      · rw [upL_yes h0 hl]
        have hp : par k < k := by unfold par; omega
        have hpl : par k < L.length := by omega
        have := ih (par k) hp (swapL L (par k) k) (by rw [swapL_len]; exact hpl) ?_
        · rw [upL_len, swapL_len] at this
          exact this
        refine ⟨fun j j0 jl jp => ?_, fun j j0 jl jp p0 => ?_⟩
        · rw [swapL_len] at jl
          rw [swap_at hpl hk, swap_at hpl hk]
          by_cases e1 : j = k
          · subst e1
            rw [if_pos rfl, if_neg (by omega), if_pos rfl]
            exact It.asym hl
          · rw [if_neg e1, if_neg jp]
            by_cases e2 : par j = k
            · rw [if_pos e2]
              exact h.bel j j0 jl e2 h0
            · rw [if_neg e2]
              by_cases e3 : par j = par k
              · rw [if_pos e3]
                have := h.oth j j0 jl e1
                rw [e3] at this
                exact fun q => this (It.tr q hl)
              · rw [if_neg e3]
                exact h.oth j j0 jl e1
        · rw [swapL_len] at jl
          rw [swap_at hpl hk, swap_at hpl hk]
          have hpp : par (par k) < par k := by unfold par at p0 ⊢; omega
          rw [if_neg (show ¬ par (par k) = k by omega), if_neg (show ¬ par (par k) = par k by omega)]
          have h2 := h.oth (par k) p0 (by omega) (by omega)
          by_cases e1 : j = k
          · rw [if_pos e1]
            exact h2
          · rw [if_neg e1, if_neg (show ¬ j = par k from fun e => by
              have : par j < j := by unfold par; omega
              omega)]
            have h1 := h.oth j j0 jl e1
            rw [jp] at h1
            exact It.ntr h1 h2
      · rw [upL_no hl]
        intro j j0 jl
        by_cases e : j = k
        · subst e; exact hl
        · exact h.oth j j0 jl e
    · obtain rfl : k = 0 := by omega
      rw [upL_0]
      intro j j0 jl
      exact h.oth j j0 jl (by omega)
structure DownI (L : List It) (i n : Nat) : Prop where
  oth : ∀ j, 0 < j → j < n → par j ≠ i → ¬ (atL L j).lt (atL L (par j))
  bel : ∀ j, 0 < j → j < n → par j = i → 0 < i → ¬ (atL L j).lt (atL L (par i))
theorem ch_min {L : List It} {i n j : Nat} (j0 : 0 < j) (hj : j < n) (hp : par j = i) : ¬ (atL L j).lt (atL L (chL L i n)) := by
  have h2 : j = 2 * i + 1 ∨ j = 2 * i + 2 := by unfold par at hp; omega
  unfold chL
  by_cases k : 2 * i + 2 < n ∧ (L.getD (2 * i + 2) It.z).lt (L.getD (2 * i + 1) It.z)
  · rw [if_pos k]
    rcases h2 with rfl | rfl
    · exact It.asym k.2
    · exact It.irr _
  · rw [if_neg k]
    rcases h2 with rfl | rfl
    · exact It.irr _
    · exact fun q => k ⟨hj, q⟩
theorem down_heap : ∀ (m : Nat) (L : List It) (i n : Nat), n - i = m → n ≤ L.length → DownI L i n → HPn (downL L i n) n := by
  intro m
  induction m using Nat.strongRecOn with
  | _ m ih =>
    intro L i n hm hn h
    by_cases h0 : 2 * i + 1 < n
    · by_cases hl : (L.getD (chL L i n) It.z).lt (L.getD i It.z)
      · have h1 := chL_ge L i n
        have h2 := chL_lt L h0
        rw [downL_yes h0 hl]
        obtain ⟨c, hc⟩ : ∃ c, chL L i n = c := ⟨_, rfl⟩
        have mn : ∀ j, 0 < j → j < n → par j = i → ¬ (atL L j).lt (atL L c) := fun j j0 jl jp => by rw [← hc]; exact ch_min j0 jl jp
        rw [hc] at h1 h2 hl ⊢
        have hl : (atL L c).lt (atL L i) := hl
        have hil : i < L.length := by omega
        have hcl : c < L.length := by omega
        have hpc : par c = i := by
          rw [← hc]
          unfold chL par
          split <;> omega
        refine ih (n - c) (by omega) (swapL L i c) c n rfl (by rw [swapL_len]; exact hn) ⟨fun j j0 jl jp => ?_, fun j j0 jl jp c0 => ?_⟩
        · rw [swap_at hil hcl, swap_at hil hcl, if_neg jp]
          by_cases e1 : j = c
          · subst e1
            rw [if_pos rfl, if_pos hpc]
            exact It.asym hl
          · rw [if_neg e1]
            by_cases e2 : j = i
            · subst e2
              rw [if_pos rfl, if_neg (show ¬ par j = j by unfold par; omega)]
              have := h.bel c (by omega) (by omega) hpc j0
              exact this
            · rw [if_neg e2]
              by_cases e3 : par j = i
              · rw [if_pos e3]
                exact mn j j0 jl e3
              · rw [if_neg e3]
                exact h.oth j j0 jl e3
        · rw [swap_at hil hcl, swap_at hil hcl, hpc]
          have hjc : ¬ j = c := fun e => by
            have : par j < j := by unfold par; omega
            omega
          have hji : ¬ j = i := fun e => by
            have : par j < j := by unfold par; omega
            omega
          rw [if_neg hjc, if_neg hji, if_neg (show ¬ i = c by omega), if_pos rfl]
          have := h.oth j j0 jl (by omega)
          rw [jp] at this
          exact this
      · rw [downL_no hl]
        intro j j0 jl
        by_cases e : par j = i
        · have h3 := ch_min (L := L) j0 jl e
          rw [e]
          exact It.ntr h3 hl
        · exact h.oth j j0 jl e
    · rw [downL_end h0]
      intro j j0 jl
      exact h.oth j j0 jl (by unfold par; omega)
theorem down_keep : ∀ (m : Nat) (L : List It) (i n : Nat), n - i = m → n ≤ L.length → ∀ j, n ≤ j → atL (downL L i n) j = atL L j := by
  intro m
  induction m using Nat.strongRecOn with
  | _ m ih =>
    intro L i n hm hn j hj
    by_cases h0 : 2 * i + 1 < n
    · by_cases hl : (L.getD (chL L i n) It.z).lt (L.getD i It.z)
      · have h1 := chL_ge L i n
        have h2 := chL_lt L h0
        rw [downL_yes h0 hl, ih (n - chL L i n) (by omega) _ _ _ rfl (by rw [swapL_len]; exact hn) j hj, swap_at (by omega) (by omega), if_neg (by omega), if_neg (by omega)]
      · rw [downL_no hl]
    · rw [downL_end h0]
theorem swap_perm {L : List It} {i k : Nat} (hi : i < L.length) (hk : k < L.length) : (swapL L i k).Perm L := by
  have := List.set_set_perm hi hk
  have e1 : L.getD i It.z = L[i] := atL_eq hi
  have e2 : L.getD k It.z = L[k] := atL_eq hk
  unfold swapL
  rw [e1, e2]
  exact this
theorem up_perm : ∀ (j : Nat) (L : List It), j < L.length → (upL L j).Perm L := by
  intro j
  induction j using Nat.strongRecOn with
  | _ k ih =>
    intro L hk
    by_cases h0 : 0 < k
    · by_cases hl : (L.getD k It.z).lt (L.getD ((k - 1) / 2) It.z)
      · rw [upL_yes h0 hl]
        exact (ih _ (by omega) _ (by rw [swapL_len]; omega)).trans (swap_perm (by omega) hk)
      · rw [upL_no hl]
    · obtain rfl : k = 0 := by omega
      rw [upL_0]
theorem down_perm : ∀ (m : Nat) (L : List It) (i n : Nat), n - i = m → n ≤ L.length → (downL L i n).Perm L := by
  intro m
  induction m using Nat.strongRecOn with
  | _ m ih =>
    intro L i n hm hn
    by_cases h0 : 2 * i + 1 < n
    · by_cases hl : (L.getD (chL L i n) It.z).lt (L.getD i It.z)
      · have h1 := chL_ge L i n
        have h2 := chL_lt L h0
        rw [downL_yes h0 hl]
        exact (ih _ (by omega) _ _ _ rfl (by rw [swapL_len]; exact hn)).trans (swap_perm (by omega) (by omega))
      · rw [downL_no hl]
    · rw [downL_end h0]
theorem erase_perm : ∀ {L : List It} {a : Nat} (h : a < L.length), (L[a] :: L.eraseIdx a).Perm L
  | x :: L, 0, h => List.Perm.refl _
  | x :: L, a + 1, h => by
    have ih := erase_perm (L := L) (a := a) (by simpa using h)
    show (L[a]'(by simpa using h) :: x :: L.eraseIdx a).Perm (x :: L)
    exact (List.Perm.swap _ _ _).trans (ih.cons x)
theorem heap_min {L : List It} {n : Nat} (h : HPn L n) : ∀ j, j < n → ¬ (atL L j).lt (atL L 0) := by
  intro j
  induction j using Nat.strongRecOn with
  | _ j ih =>
    intro hj
    by_cases h0 : 0 < j
    · exact It.ntr (h j h0 hj) (ih (par j) (by unfold par; omega) (by unfold par; omega))
    · obtain rfl : j = 0 := by omega
      exact It.irr _
structure QI (L N : List It) (c : Nat) : Prop where
  heap : HPn L L.length
  perm : L.Perm N
  inc : N.Pairwise (fun a b => a.n < b.n)
  lt : ∀ x ∈ N, x.n < (c : Int)
theorem qi_nil (c : Nat) : QI [] [] c := ⟨fun j j0 jl => absurd jl (Nat.not_lt_zero _), List.Perm.refl _, List.Pairwise.nil, fun x hx => by cases hx⟩
theorem qi_len {L N : List It} {c : Nat} (h : QI L N c) : L.length = N.length := h.perm.length_eq
theorem qi_push {L N : List It} {c : Nat} (h : QI L N c) (l i p : Int) : QI (pushL L ⟨l, i, p, c⟩) (N ++ [⟨l, i, p, c⟩]) (c + 1) := by
  obtain ⟨x, hx⟩ : ∃ x : It, ⟨l, i, p, c⟩ = x := ⟨_, rfl⟩
  have hl : L.length < (L ++ [x]).length := by rw [List.length_append]; exact Nat.lt_succ_self _
  have at1 : ∀ j, j < L.length → atL (L ++ [x]) j = atL L j := fun j hj => by
    show (L ++ [x]).getD j It.z = L.getD j It.z
    rw [List.getD_eq_getElem?_getD, List.getElem?_append_left hj, ← List.getD_eq_getElem?_getD]
  have hu : UpI (L ++ [x]) L.length := ⟨fun j j0 jl jk => by
    have jl2 : j < L.length := by rw [List.length_append] at jl; have : j < L.length + 1 := jl; omega
    rw [at1 j jl2, at1 (par j) (by unfold par; omega)]
    exact h.heap j j0 jl2, fun j j0 jl jp p0 => by
    rw [List.length_append] at jl
    have : j < L.length + 1 := jl
    unfold par at jp
    omega⟩
  rw [hx]
  refine ⟨up_heap _ _ hl hu, (up_perm _ _ hl).trans (h.perm.append_right [x]), ?_, ?_⟩
  · rw [List.pairwise_append]
    refine ⟨h.inc, List.pairwise_singleton _ _, fun a ha b hb => ?_⟩
    rw [List.mem_singleton.1 hb, ← hx]
    exact h.lt a ha
  · intro y hy
    rcases List.mem_append.1 hy with k | k
    · have := h.lt y k
      omega
    · rw [List.mem_singleton.1 k, ← hx]
      show (c : Int) < ((c + 1 : Nat) : Int)
      omega
def fstV (M : Nat → Int) : Nat → Nat
  | 0 => 0
  | k + 1 => if M k < M (fstV M k) then k else fstV M k
theorem fst_spec (M : Nat → Int) : ∀ k, (∀ j, j < k → M (fstV M k) ≤ M j) ∧ (∀ j, j < fstV M k → M (fstV M k) < M j) ∧ (0 < k → fstV M k < k)
  | 0 => ⟨fun j h => absurd h (Nat.not_lt_zero _), fun j h => absurd h (Nat.not_lt_zero _), fun h => absurd h (Nat.lt_irrefl _)⟩
  | k + 1 => by
    obtain ⟨h1, h2, h3⟩ := fst_spec M k
    unfold fstV
    by_cases c : M k < M (fstV M k)
    · rw [if_pos c]
      refine ⟨fun j hj => ?_, fun j hj => ?_, fun _ => Nat.lt_succ_self _⟩
      · by_cases e : j = k
        · subst e; exact Int.le_refl _
        · have := h1 j (by omega); omega
      · have := h1 j hj; omega
    · rw [if_neg c]
      refine ⟨fun j hj => ?_, h2, fun _ => ?_⟩
      · by_cases e : j = k
        · subst e; omega
        · exact h1 j (by omega)
      · by_cases k0 : 0 < k
        · have := h3 k0; omega
        · obtain rfl : k = 0 := by omega
          show fstV M 0 < 1
          exact Nat.one_pos
theorem qi_pop {L N : List It} {c : Nat} (h : QI L N c) (h0 : 0 < L.length) (at_ : Nat) (ha : fstV (fun j => (atL N j).p) N.length = at_) :
    at_ < N.length ∧ popX L = atL N at_ ∧ QI (popL L) (N.eraseIdx at_) c := by
  have hnl := qi_len h
  obtain ⟨k, hk⟩ : ∃ k, L.length - 1 = k := ⟨_, rfl⟩
  have hlk : L.length = k + 1 := by omega
  obtain ⟨A, hA⟩ : ∃ A, swapL L 0 k = A := ⟨_, rfl⟩
  have hAl : A.length = L.length := by rw [← hA, swapL_len]
  obtain ⟨B, hB⟩ : ∃ B, downL A 0 k = B := ⟨_, rfl⟩
  have hBl : B.length = L.length := by rw [← hB, downL_len, hAl]
  have hpx : popX L = atL B k := by unfold popX; rw [hk, hA, hB]
  have hpl : popL L = B.take k := by unfold popL; rw [hk, hA, hB]
  have swA : ∀ j, atL A j = if j = k then atL L 0 else if j = 0 then atL L k else atL L j := fun j => by rw [← hA]; exact swap_at (by omega) (by omega) j
  have hBk : atL B k = atL L 0 := by
    rw [← hB, down_keep k A 0 k rfl (by omega) k (Nat.le_refl _), swA, if_pos rfl]
  have hd : DownI A 0 k := ⟨fun j j0 jl jp => by
    rw [swA, swA, if_neg (by omega), if_neg (by omega), if_neg (show ¬ par j = k by unfold par; omega), if_neg jp]
    exact h.heap j j0 (by omega), fun j j0 jl jp c0 => absurd c0 (Nat.lt_irrefl _)⟩
  have hBh : HPn B k := by rw [← hB]; exact down_heap k A 0 k rfl (by omega) hd
  have hBp : B.Perm L := by
    rw [← hB]
    refine (down_perm k A 0 k rfl (by omega)).trans ?_
    rw [← hA]
    exact swap_perm (by omega) (by omega)
  have hBs : B = B.take k ++ [atL L 0] := by
    have e : B.take (k + 1) = B := List.take_of_length_le (by omega)
    rw [List.take_add_one, List.getElem?_eq_getElem (by omega)] at e
    have e2 : B[k]'(by omega) = atL L 0 := by rw [← atL_eq (by omega)]; exact hBk
    rw [e2] at e
    exact e.symm
  have hx : popX L = atL L 0 := by rw [hpx, hBk]
  have hmem : atL L 0 ∈ N := h.perm.subset (by rw [atL_eq h0]; exact List.getElem_mem h0)
  have hmin : ∀ y ∈ N, ¬ y.lt (atL L 0) := fun y hy => by
    have := h.perm.symm.subset hy
    obtain ⟨j, hj, rfl⟩ := List.mem_iff_getElem.1 this
    rw [← atL_eq hj]
    exact heap_min h.heap j hj
  obtain ⟨a, hal, hax⟩ := List.mem_iff_getElem.1 hmem
  have haN : atL N a = atL L 0 := by rw [atL_eq hal]; exact hax
  obtain ⟨f1, f2, f3⟩ := fst_spec (fun j => (atL N j).p) N.length
  rw [ha] at f1 f2 f3
  have f3 := f3 (by omega)
  have mina : ∀ j, j < N.length → ¬ (atL N j).lt (atL N a) := fun j hj => by
    rw [haN]
    exact hmin _ (by rw [atL_eq hj]; exact List.getElem_mem hj)
  have incN : ∀ i j, i < j → j < N.length → (atL N i).n < (atL N j).n := fun i j hij hj => by
    rw [atL_eq (by omega), atL_eq hj]
    exact List.pairwise_iff_getElem.1 h.inc i j (by omega) hj hij
  have hat : at_ = a := by
    rcases Nat.lt_trichotomy at_ a with k1 | k1 | k1
    · exfalso
      have g1 : (atL N at_).p ≤ (atL N a).p := f1 a hal
      have g2 := incN at_ a k1 hal
      refine mina at_ f3 ?_
      unfold It.lt
      omega
    · exact k1
    · exfalso
      have g1 : (atL N at_).p < (atL N a).p := f2 a k1
      have g2 := mina at_ f3
      unfold It.lt at g2
      omega
  subst hat
  refine ⟨hal, by rw [hx, haN], ?_, ?_, ?_, ?_⟩
  · rw [hpl]
    have : (B.take k).length = k := by rw [List.length_take]; omega
    rw [this]
    intro j j0 jl
    have tk : ∀ i, i < k → atL (B.take k) i = atL B i := fun i hi => by
      show (B.take k).getD i It.z = B.getD i It.z
      rw [List.getD_eq_getElem?_getD, List.getElem?_take_of_lt hi, ← List.getD_eq_getElem?_getD]
    rw [tk j jl, tk (par j) (by unfold par; omega)]
    exact hBh j j0 jl
  · rw [hpl]
    have p1 : (atL L 0 :: B.take k).Perm N := by
      have q : (B.take k ++ [atL L 0]).Perm N := by rw [← hBs]; exact hBp.trans h.perm
      exact (List.perm_append_comm (l₁ := [atL L 0]) (l₂ := B.take k)).trans q
    have p2 : N.Perm (N[at_] :: N.eraseIdx at_) := (erase_perm hal).symm
    rw [hax] at p2
    exact (p1.trans p2).cons_inv
  · exact h.inc.sublist (List.eraseIdx_sublist _ _)
  · exact fun y hy => h.lt y ((List.eraseIdx_sublist _ _).subset hy)
end Go.Proofs.Ytgbekbofeaoniaa
namespace Go.Proofs.Ytgbekbofeaoniaa
open Go Go.RowKit
def gdq (s1 s2 : GSpec) : GSpec := fun l H K => s1 l H K ∨ s2 l H K
theorem gdq_ok {P : Program} {g : FuncId} {s1 s2 : GSpec} (h1 : GSOK P g s1) (h2 : GSOK P g s2) : GSOK P g (gdq s1 s2) := ⟨h1.1, fun l H K h => h.elim (h1.2 l H K) (h2.2 l H K)⟩
theorem push_a : pushL [] ⟨0, 1, 2, 0⟩ = [⟨0, 1, 2, 0⟩] := by unfold pushL; exact upL_0 _
theorem push_b : pushL [⟨0, 1, 2, 0⟩] ⟨0, 2, 1, 1⟩ = [⟨0, 2, 1, 1⟩, ⟨0, 1, 2, 0⟩] := by
  unfold pushL
  rw [upL_yes (by decide) (by decide)]
  exact upL_0 _
theorem pop_b : popX [⟨0, 2, 1, 1⟩, ⟨0, 1, 2, 0⟩] = ⟨0, 2, 1, 1⟩ ∧ popL [⟨0, 2, 1, 1⟩, ⟨0, 1, 2, 0⟩] = [⟨0, 1, 2, 0⟩] := by
  have e : downL (swapL [⟨0, 2, 1, 1⟩, ⟨0, 1, 2, 0⟩] 0 1) 0 1 = [⟨0, 1, 2, 0⟩, ⟨0, 2, 1, 1⟩] := by
    rw [downL_end (by decide)]
    rfl
  constructor
  · unfold popX
    show (downL (swapL [⟨0, 2, 1, 1⟩, ⟨0, 1, 2, 0⟩] 0 1) 0 1).getD 1 It.z = _
    rw [e]; rfl
  · unfold popL
    show (downL (swapL [⟨0, 2, 1, 1⟩, ⟨0, 1, 2, 0⟩] 0 1) 0 1).take 1 = _
    rw [e]; rfl
attribute [local irreducible] swapL qrL popL popX pushL
def qnewF : FSpec := fun l es => match l, es with
  | [], [] => some ([], .ptr 0 0, [some (.cells 76 [.nils, .int .i64 0])])
  | _, _ => none
theorem qnew_g : GSOK Try.prog 34 (fG qnewF) := by
  refine fokI (S := []) (G := noG) [] [] [] [] pok_nil noG_ok dl_nil mok_nil ⟨Try.func34, by kernel_rfl, by kernel_rfl, by kernel_rfl⟩ fun l es obs v es' h ho => ?_
  unfold qnewF at h
  split at h
  rotate_left
  · cases h
  simp only [Option.some.injEq, Prod.mk.injEq] at h
  obtain ⟨rfl, rfl, rfl⟩ := h
  refine ⟨Nat.le_of_ble_eq_true rfl, ?_⟩
  (repeat' (first | (refine xI (fun hfk => ?_) (fun hfk => ?_) <;> ((try (first | replace hfk := oT hfk | replace hfk := oF hfk | simp only [oD, ne_eq, reduceCtorEq] at hfk)); (try exact oX))) | (refine And.intro ?ob ?_; (case ob => (exact oZ))) | exact True.intro | (show _ = _; first | exact oY | exact rfl) | exact oW | (apply And.intro)))
  refine ⟨[some 0], ?_⟩
  (repeat' (first | (refine xI (fun hfk => ?_) (fun hfk => ?_) <;> ((try (first | replace hfk := oT hfk | replace hfk := oF hfk | simp only [oD, ne_eq, reduceCtorEq] at hfk)); (try exact oX))) | (refine And.intro ?ob ?_; (case ob => (exact oZ))) | exact True.intro | (show _ = _; first | exact oY | exact rfl) | exact oW | (apply And.intro)))
abbrev qlenS : PSpec := fun l => match l with | [.rop (.agg [.ro 4 n f, .int .i64 c])] => some ([], .int .i64 (n : Int)) | [.rop (.agg [.nils, .int .i64 c])] => some ([], .int .i64 0) | [.nilp] => some ([], .int .i64 0) | _ => none
theorem qlen_s : SOK Try.prog 39 qlenS := by
  refine sok_of (C := mkC 0 [] noG) (mkC_ok pok_nil noG_ok) rfl mixed ⟨Try.func39, by kernel_rfl, by kernel_rfl, by kernel_rfl⟩ fun l obs v h ho => ?_
  unfold qlenS at h
  split at h
  rotate_right
  · cases h
  all_goals (
    simp only [Option.some.injEq, Prod.mk.injEq] at h
    obtain ⟨rfl, rfl⟩ := h
    refine ⟨Nat.le_of_ble_eq_true rfl, ?_⟩
    (repeat' (first | (refine xI (fun hfk => ?_) (fun hfk => ?_) <;> ((try (first | replace hfk := oT hfk | replace hfk := oF hfk | simp only [oD, ne_eq, reduceCtorEq] at hfk)); (try exact oX))) | (refine And.intro ?ob ?_; (case ob => (exact oZ))) | exact True.intro | (show _ = _; first | exact oY | exact rfl) | exact oW | (apply And.intro))))
def qpushF : FSpec := fun l es => match l, es with
  | [.ptr 0 0, .agg [.int .i64 a, .int .i64 b], .int .i64 p], [.cells 76 [.sl 1 4 0 n, .int .i64 c], .recs 136 4 m f] =>
    some ([RowP m f, n = m, n ≤ 100000, 0 ≤ c, c ≤ 1000000], .tup [], [some (.cells 76 [.sl 2 4 0 (n + 1), .int .i64 (c + 1)]), none, some (.recs 136 4 (m + 1) (rowG (pushL (qrL m f) ⟨a, b, p, c⟩)))])
  | _, _ => none
theorem qpush_g : GSOK Try.prog 35 (fG qpushF) := by
  refine fokI (S := []) (G := glook [(67, fG hpushF)]) [] [] _ [] pok_nil (gl_cons hpush_g gl_nil) dl_nil q_meth ⟨Try.func35, by kernel_rfl, by kernel_rfl, by kernel_rfl⟩ fun l es obs v es' h ho => ?_
  unfold qpushF at h
  split at h
  rotate_left
  · cases h
  rename_i a b p n c m f
  simp only [Option.some.injEq, Prod.mk.injEq] at h
  obtain ⟨rfl, rfl, rfl⟩ := h
  simp only [List.mem_cons, List.not_mem_nil, or_false, forall_eq_or_imp, forall_eq] at ho
  obtain ⟨⟨L, rfl, rfl⟩, rfl, n1, c0, c1⟩ := ho
  rw [qrL_row]
  have rp := rowp L
  refine ⟨Nat.le_of_ble_eq_true rfl, ?_⟩
  (repeat' (first | (refine xI (fun hfk => ?_) (fun hfk => ?_) <;> ((try (first | replace hfk := oT hfk | replace hfk := oF hfk | simp only [oD, ne_eq, reduceCtorEq] at hfk)); (try exact oX))) | (refine And.intro ?ob ?_; (case ob => (exact oZ))) | exact True.intro | (show _ = _; first | exact oY | exact rfl) | exact oW | (apply And.intro)))
  (refine ⟨[0, 1], ⟨by kernel_rfl⟩, ?_⟩)
  (repeat' (first | (refine xI (fun hfk => ?_) (fun hfk => ?_) <;> ((try (first | replace hfk := oT hfk | replace hfk := oF hfk | simp only [oD, ne_eq, reduceCtorEq] at hfk)); (try exact oX))) | (refine And.intro ?ob ?_; (case ob => (exact oZ))) | exact True.intro | (show _ = _; first | exact oY | (first | exact rp | skip; done) | exact rfl) | exact oW | (apply And.intro)))
  refine ⟨[some 0, some 1, some 3], ?_⟩
  have hr : qrL L.length (rowG L) = L := qrL_row L
  (repeat' (first | (refine xI (fun hfk => ?_) (fun hfk => ?_) <;> ((try (first | replace hfk := oT hfk | replace hfk := oF hfk | simp only [oD, ne_eq, reduceCtorEq] at hfk)); (try exact oX))) | (refine And.intro ?ob ?_; (case ob => (exact oZ))) | exact True.intro | (show _ = _; first | exact oY | exact rfl) | exact oW | (apply And.intro)))
  exact fun j _ => by rw [hr]
abbrev qpushN : PSpec := fun l => match l with | [.nilp, .agg [.int .i64 a, .int .i64 b], .int .i64 p] => some ([], .tup []) | _ => none
theorem qpushN_s : SOK Try.prog 35 qpushN := by
  refine sok_of (C := mkC 0 [] noG) (mkC_ok pok_nil noG_ok) rfl mixed ⟨Try.func35, by kernel_rfl, by kernel_rfl, by kernel_rfl⟩ fun l obs v h ho => ?_
  (unfold qpushN at h; split at h; rotate_left; (focus (cases h)); rename_i a b p; simp only [Option.some.injEq, Prod.mk.injEq] at h; obtain ⟨rfl, rfl⟩ := h; simp only [List.mem_cons, List.not_mem_nil, or_false, forall_eq_or_imp, forall_eq, false_implies, implies_true] at ho)
  refine ⟨Nat.le_of_ble_eq_true rfl, ?_⟩
  (repeat' (first | (refine xI (fun hfk => ?_) (fun hfk => ?_) <;> ((try (first | replace hfk := oT hfk | replace hfk := oF hfk | simp only [oD, ne_eq, reduceCtorEq] at hfk)); (try exact oX))) | (refine And.intro ?ob ?_; (case ob => (exact oZ))) | exact True.intro | (show _ = _; first | exact oY | exact rfl) | exact oW | (apply And.intro)))
def qpopF : FSpec := fun l es => match l, es with
  | [.ptr 0 0], [.cells 76 [.sl 1 4 0 n, .int .i64 c], .recs 136 4 m f] =>
    some ([RowP m f, n = m, 0 < n, n ≤ 100000], .tup [.agg [.int .i64 (popX (qrL m f)).l, .int .i64 (popX (qrL m f)).i], .int .i64 (popX (qrL m f)).p, .tru], [some (.cells 76 [.sl 1 4 0 (n - 1), .int .i64 c]), some (.recs 136 4 (m - 1) (rowG (popL (qrL m f))))])
  | _, _ => none
theorem qpop_g : GSOK Try.prog 36 (fG qpopF) := by
  refine fokI (S := [(39, qlenS)]) (G := glook [(68, fG hpopF)]) [] [] _ [] (pok_cons qlen_s pok_nil) (gl_cons hpop_g gl_nil) dl_nil q_meth ⟨Try.func36, by kernel_rfl, by kernel_rfl, by kernel_rfl⟩ fun l es obs v es' h ho => ?_
  unfold qpopF at h
  split at h
  rotate_left
  · cases h
  rename_i n c m f
  simp only [Option.some.injEq, Prod.mk.injEq] at h
  obtain ⟨rfl, rfl, rfl⟩ := h
  simp only [List.mem_cons, List.not_mem_nil, or_false, forall_eq_or_imp, forall_eq] at ho
  obtain ⟨⟨L, rfl, rfl⟩, rfl, n0, n1⟩ := ho
  rw [qrL_row]
  have rp := rowp L
  refine ⟨Nat.le_of_ble_eq_true rfl, ?_⟩
  (repeat' (first | (refine xI (fun hfk => ?_) (fun hfk => ?_) <;> ((try (first | replace hfk := oT hfk | replace hfk := oF hfk | simp only [oD, ne_eq, reduceCtorEq] at hfk)); (try exact oX))) | (refine And.intro ?ob ?_; (case ob => (exact oZ))) | exact True.intro | (show _ = _; first | exact oY | exact rfl) | exact oW | (apply And.intro)))
  (refine ⟨[0, 1], ⟨by kernel_rfl⟩, ?_⟩)
  (repeat' (first | (refine xI (fun hfk => ?_) (fun hfk => ?_) <;> ((try (first | replace hfk := oT hfk | replace hfk := oF hfk | simp only [oD, ne_eq, reduceCtorEq] at hfk)); (try exact oX))) | (refine And.intro ?ob ?_; (case ob => (exact oZ))) | exact True.intro | (show _ = _; first | exact oY | (first | exact rp | skip; done) | exact rfl) | exact oW | (apply And.intro)))
  refine ⟨[some 0, some 1], ?_⟩
  have hr : qrL L.length (rowG L) = L := qrL_row L
  (repeat' (first | (refine xI (fun hfk => ?_) (fun hfk => ?_) <;> ((try (first | replace hfk := oT hfk | replace hfk := oF hfk | simp only [oD, ne_eq, reduceCtorEq] at hfk)); (try exact oX))) | (refine And.intro ?ob ?_; (case ob => (exact oZ))) | exact True.intro | (show _ = _; first | exact oY | (rw [hr]; done) | exact rfl) | exact oW | (apply And.intro)))
  exact fun j _ => by rw [hr]
def qpop0F : FSpec := fun l es => match l, es with
  | [.ptr 0 0], [.cells 76 [.sl 1 4 0 n, .int .i64 c], .recs 136 4 m f] =>
    some ([n = 0, m = 0], .tup [.agg [.int .i64 0, .int .i64 0], .int .i64 0, .fls], [some (.cells 76 [.sl 1 4 0 0, .int .i64 c]), some (.recs 136 4 0 f)])
  | _, _ => none
theorem qpop0_g : GSOK Try.prog 36 (fG qpop0F) := by
  refine fokI (S := [(39, qlenS)]) (G := noG) [] [] [] [] (pok_cons qlen_s pok_nil) noG_ok dl_nil mok_nil ⟨Try.func36, by kernel_rfl, by kernel_rfl, by kernel_rfl⟩ fun l es obs v es' h ho => ?_
  unfold qpop0F at h
  split at h
  rotate_left
  · cases h
  rename_i n c m f
  simp only [Option.some.injEq, Prod.mk.injEq] at h
  obtain ⟨rfl, rfl, rfl⟩ := h
  simp only [List.mem_cons, List.not_mem_nil, or_false, forall_eq_or_imp, forall_eq] at ho
  obtain ⟨rfl, rfl⟩ := ho
  refine ⟨Nat.le_of_ble_eq_true rfl, ?_⟩
  (repeat' (first | (refine xI (fun hfk => ?_) (fun hfk => ?_) <;> ((try (first | replace hfk := oT hfk | replace hfk := oF hfk | simp only [oD, ne_eq, reduceCtorEq] at hfk)); (try exact oX))) | (refine And.intro ?ob ?_; (case ob => (exact oZ))) | exact True.intro | (show _ = _; first | exact oY | exact rfl) | exact oW | (apply And.intro)))
  refine ⟨[some 0, some 1], ?_⟩
  (repeat' (first | (refine xI (fun hfk => ?_) (fun hfk => ?_) <;> ((try (first | replace hfk := oT hfk | replace hfk := oF hfk | simp only [oD, ne_eq, reduceCtorEq] at hfk)); (try exact oX))) | (refine And.intro ?ob ?_; (case ob => (exact oZ))) | exact True.intro | (show _ = _; first | exact oY | exact rfl) | exact oW | (apply And.intro)))
abbrev qpopN : PSpec := fun l => match l with | [.nilp] => some ([], .tup [.agg [.int .i64 0, .int .i64 0], .int .i64 0, .fls]) | _ => none
theorem qpopN_s : SOK Try.prog 36 qpopN := by
  refine sok_of (C := mkC 0 [(39, qlenS)] noG) (mkC_ok (pok_cons qlen_s pok_nil) noG_ok) rfl mixed ⟨Try.func36, by kernel_rfl, by kernel_rfl, by kernel_rfl⟩ fun l obs v h ho => ?_
  unfold qpopN at h
  split at h
  rotate_left
  · cases h
  simp only [Option.some.injEq, Prod.mk.injEq] at h
  obtain ⟨rfl, rfl⟩ := h
  refine ⟨Nat.le_of_ble_eq_true rfl, ?_⟩
  (repeat' (first | (refine xI (fun hfk => ?_) (fun hfk => ?_) <;> ((try (first | replace hfk := oT hfk | replace hfk := oF hfk | simp only [oD, ne_eq, reduceCtorEq] at hfk)); (try exact oX))) | (refine And.intro ?ob ?_; (case ob => (exact oZ))) | exact True.intro | (show _ = _; first | exact oY | exact rfl) | exact oW | (apply And.intro)))
theorem qpop_d : GSOK Try.prog 36 (gdq (fG qpopF) (fG qpop0F)) := gdq_ok qpop_g qpop0_g
abbrev al43S : PSpec := fun l => match l with | [] => some ([], .bool true) | _ => none
theorem alive43_s : SOK Try.prog 40 al43S := by
  refine sok_of (C := mkI 0 [(39, qlenS)] (glook [(34, fG qnewF), (35, fG qpushF), (36, gdq (fG qpopF) (fG qpop0F))]) [] [] [] [1, 4, 5]) (mkI_ok (pok_cons qlen_s pok_nil) (gl_cons qnew_g (gl_cons qpush_g (gl_cons qpop_d gl_nil))) dl_nil mok_nil) rfl mixed ⟨Try.func40, by kernel_rfl, by kernel_rfl, by kernel_rfl⟩ fun l obs v h ho => ?_
  unfold al43S at h; split at h; rotate_left; (focus (cases h)); simp only [Option.some.injEq, Prod.mk.injEq] at h; obtain ⟨rfl, rfl⟩ := h
  refine ⟨Nat.le_of_ble_eq_true rfl, ?_⟩
  (repeat' (first | (refine xI (fun hfk => ?_) (fun hfk => ?_) <;> ((try (first | replace hfk := oT hfk | replace hfk := oF hfk | simp only [oD, ne_eq, reduceCtorEq] at hfk)); (try exact oX))) | (refine And.intro ?ob ?_; (case ob => (exact oZ))) | exact True.intro | (show _ = _; first | exact oY | exact rfl) | exact oW | (apply And.intro)))
  (refine ⟨[], ⟨by kernel_rfl⟩, ?_⟩)
  (repeat' (first | (refine xI (fun hfk => ?_) (fun hfk => ?_) <;> ((try (first | replace hfk := oT hfk | replace hfk := oF hfk | simp only [oD, ne_eq, reduceCtorEq] at hfk)); (try exact oX))) | (refine And.intro ?ob ?_; (case ob => (exact oZ))) | exact True.intro | (show _ = _; first | exact oY | exact rfl) | exact oW | (apply And.intro)))
  refine ⟨[(1, .ptr 0 0)], ⟨2, [(0, some (.cells 76 [.sl 1 4 0 0, .int .i64 0])), (1, some (rowE []))]⟩, [some 0, none], ?_, ?_⟩
  · (repeat' (first | (refine And.intro ?_ ?_) | exact True.intro | (show _ = _; with_reducible rfl) | exact Chk.mk (by kernel_rfl)))
    all_goals rfl
  have r0 : RowP 0 (rowG []) := rowp []
  (repeat' (first | (refine xI (fun hfk => ?_) (fun hfk => ?_) <;> ((try (first | replace hfk := oT hfk | replace hfk := oF hfk | simp only [oD, ne_eq, reduceCtorEq] at hfk)); (try exact oX))) | (refine And.intro ?ob ?_; (case ob => (exact oZ))) | exact True.intro | (show _ = _; first | exact oY | exact rfl) | exact oW | (apply And.intro)))
  (refine ⟨[0, 1], ⟨by kernel_rfl⟩, ?_⟩)
  (repeat' (first | (refine xI (fun hfk => ?_) (fun hfk => ?_) <;> ((try (first | replace hfk := oT hfk | replace hfk := oF hfk | simp only [oD, ne_eq, reduceCtorEq] at hfk)); (try exact oX))) | (refine And.intro ?ob ?_; (case ob => (exact oZ))) | exact True.intro | (show _ = _; first | exact oY | (first | exact r0 | skip; done) | exact rfl) | exact oW | (apply And.intro)))
  have e1 : pushL (qrL 0 (rowG [])) ⟨0, 1, 2, 0⟩ = [⟨0, 1, 2, 0⟩] := by rw [show qrL 0 (rowG []) = [] from qrL_row []]; exact push_a
  refine ⟨[(1, .ptr 0 0)], ⟨2, [(0, some (.cells 76 [.sl 1 4 0 1, .int .i64 1])), (1, some (rowE [⟨0, 1, 2, 0⟩]))]⟩, [some 0, some 2], ?_, ?_⟩
  · (repeat' (first | (refine And.intro ?_ ?_) | exact True.intro | (show _ = _; with_reducible rfl) | exact Chk.mk (by kernel_rfl)))
    all_goals first | rfl | (exact fun j _ => congrArg (fun L => rowG L j) e1)
  have r1 : RowP 1 (rowG [⟨0, 1, 2, 0⟩]) := rowp [⟨0, 1, 2, 0⟩]
  (repeat' (first | (refine xI (fun hfk => ?_) (fun hfk => ?_) <;> ((try (first | replace hfk := oT hfk | replace hfk := oF hfk | simp only [oD, ne_eq, reduceCtorEq] at hfk)); (try exact oX))) | (refine And.intro ?ob ?_; (case ob => (exact oZ))) | exact True.intro | (show _ = _; first | exact oY | exact rfl) | exact oW | (apply And.intro)))
  (refine ⟨[0, 1], ⟨by kernel_rfl⟩, ?_⟩)
  (repeat' (first | (refine xI (fun hfk => ?_) (fun hfk => ?_) <;> ((try (first | replace hfk := oT hfk | replace hfk := oF hfk | simp only [oD, ne_eq, reduceCtorEq] at hfk)); (try exact oX))) | (refine And.intro ?ob ?_; (case ob => (exact oZ))) | exact True.intro | (show _ = _; first | exact oY | (first | exact r1 | skip; done) | exact rfl) | exact oW | (apply And.intro)))
  have e2 : pushL (qrL 1 (rowG [⟨0, 1, 2, 0⟩])) ⟨0, 2, 1, 1⟩ = [⟨0, 2, 1, 1⟩, ⟨0, 1, 2, 0⟩] := by rw [show qrL 1 (rowG [⟨0, 1, 2, 0⟩]) = [⟨0, 1, 2, 0⟩] from qrL_row [⟨0, 1, 2, 0⟩]]; exact push_b
  refine ⟨[(1, .ptr 0 0)], ⟨2, [(0, some (.cells 76 [.sl 1 4 0 2, .int .i64 2])), (1, some (rowE [⟨0, 2, 1, 1⟩, ⟨0, 1, 2, 0⟩]))]⟩, [some 0, some 2], ?_, ?_⟩
  · (repeat' (first | (refine And.intro ?_ ?_) | exact True.intro | (show _ = _; with_reducible rfl) | exact Chk.mk (by kernel_rfl)))
    all_goals first | rfl | (exact fun j _ => congrArg (fun L => rowG L j) e2)
  have r2 : RowP 2 (rowG [⟨0, 2, 1, 1⟩, ⟨0, 1, 2, 0⟩]) := rowp [⟨0, 2, 1, 1⟩, ⟨0, 1, 2, 0⟩]
  have e3 : qrL 2 (rowG [⟨0, 2, 1, 1⟩, ⟨0, 1, 2, 0⟩]) = [⟨0, 2, 1, 1⟩, ⟨0, 1, 2, 0⟩] := qrL_row [⟨0, 2, 1, 1⟩, ⟨0, 1, 2, 0⟩]
  have e4 : popX (qrL 2 (rowG [⟨0, 2, 1, 1⟩, ⟨0, 1, 2, 0⟩])) = ⟨0, 2, 1, 1⟩ := by rw [e3]; exact pop_b.1
  have e5 : (popX (qrL 2 (rowG [⟨0, 2, 1, 1⟩, ⟨0, 1, 2, 0⟩]))).i = 2 := by rw [e4]
  have e6 : (popX (qrL 2 (rowG [⟨0, 2, 1, 1⟩, ⟨0, 1, 2, 0⟩]))).p = 1 := by rw [e4]
  (repeat' (first | (refine xI (fun hfk => ?_) (fun hfk => ?_) <;> ((try (first | replace hfk := oT hfk | replace hfk := oF hfk | simp only [oD, ne_eq, reduceCtorEq] at hfk)); (try exact oX))) | (refine And.intro ?ob ?_; (case ob => (exact oZ))) | exact True.intro | (show _ = _; first | exact oY | exact rfl) | exact oW | (apply And.intro)))
  left
  (refine ⟨[0, 1], ⟨by kernel_rfl⟩, ?_⟩)
  (repeat' (first | (refine xI (fun hfk => ?_) (fun hfk => ?_) <;> ((try (first | replace hfk := oT hfk | replace hfk := oF hfk | simp only [oD, ne_eq, reduceCtorEq] at hfk)); (try exact oX))) | (refine And.intro ?ob ?_; (case ob => (exact oZ))) | exact True.intro | (show _ = _; first | exact oY | (first | exact r2 | skip; done) | exact rfl) | exact oW | (apply And.intro)))
end Go.Proofs.Ytgbekbofeaoniaa
namespace Go.Proofs.Ytgbekbofeaoniaa
open Go Go.RowKit
abbrev jtA (x : It) : AV := .agg [.int .i64 x.l, .int .i64 x.i, .int .i64 x.p]
abbrev rowJ (N : List It) : Nat → AV := fun j => jtA (N.getD j It.z)
structure RowJ (n : Nat) (f : Nat → AV) : Prop where
  out : ∃ N : List It, n = N.length ∧ f = rowJ N
theorem rowj0 (N : List It) : RowJ N.length (fun j => rowJ N (0 + j)) := ⟨N, rfl, funext fun j => by rw [Nat.zero_add]⟩
def pOf : AV → Int
  | .agg [_, _, .int _ p] => p
  | _ => 0
def wiG (f : Nat → AV) (a : Nat) : Nat → AV := fun j => if j < a then f j else f (j + 1)
theorem wiG_row (N : List It) {a : Nat} (ha : a < N.length) (j : Nat) : wiG (rowJ N) a j = rowJ (N.eraseIdx a) j := by
  show (if j < a then jtA (N.getD j It.z) else jtA (N.getD (j + 1) It.z)) = jtA ((N.eraseIdx a).getD j It.z)
  rw [List.getD_eq_getElem?_getD (l := N.eraseIdx a), List.getElem?_eraseIdx]
  by_cases h : j < a
  · rw [if_pos h, if_pos h, ← List.getD_eq_getElem?_getD]
  · rw [if_neg h, if_neg h, ← List.getD_eq_getElem?_getD]
abbrev firstS : PSpec := fun l => match l with | [.ro 3 n f] => some ([RowJ n f, n ≤ 1000000], .int .i64 (fstV (fun j => pOf (f j)) n : Int)) | _ => none
attribute [local irreducible] fstV
theorem fst_0 (M : Nat → Int) : fstV M 0 = 0 := by unfold fstV; rfl
theorem fst_yes {M : Nat → Int} {k : Nat} (h : M k < M (fstV M k)) : fstV M (k + 1) = k := by rw [fstV, if_pos h]
theorem fst_no {M : Nat → Int} {k : Nat} (h : ¬ M k < M (fstV M k)) : fstV M (k + 1) = fstV M k := by rw [fstV, if_neg h]
theorem fst_lt (M : Nat → Int) {k n : Nat} (hk : k ≤ n) (hn : 0 < n) : fstV M k < n := by
  rcases Nat.eq_zero_or_pos k with h | h
  · subst h; rw [fst_0]; exact hn
  · have := (fst_spec M k).2.2 h; omega
theorem first_s : SOK Try.prog 37 firstS := by
  refine sok_of (C := mkC 0 [] noG) (mkC_ok pok_nil noG_ok) rfl mixed ⟨Try.func37, by kernel_rfl, by kernel_rfl, by kernel_rfl⟩ fun l obs v h ho => ?_
  (unfold firstS at h; split at h; rotate_left; (focus (cases h)); rename_i n f; simp only [Option.some.injEq, Prod.mk.injEq] at h; obtain ⟨rfl, rfl⟩ := h; simp only [List.mem_cons, List.not_mem_nil, or_false, forall_eq_or_imp, forall_eq, false_implies, implies_true] at ho)
  obtain ⟨⟨N, rfl, rfl⟩, n1⟩ := ho
  refine ⟨Nat.le_of_ble_eq_true rfl, ?_⟩
  (repeat' (first | (refine xI (fun hfk => ?_) (fun hfk => ?_) <;> ((try (first | replace hfk := oT hfk | replace hfk := oF hfk | simp only [oD, ne_eq, reduceCtorEq] at hfk)); (try exact oX))) | (refine And.intro ?ob ?_; (case ob => (exact oZ))) | exact True.intro | (show _ = _; first | exact oY | exact rfl) | exact oW | (apply And.intro)))
  refine ⟨Nat, fun i => [(0, .ro 3 N.length (rowJ N)), (3, .int .i64 (fstV (fun j => pOf (rowJ N j)) i : Int)), (4, .int .i64 (i : Int))], fun i => ⟨0, []⟩,
    fun i => i ≤ N.length, fun i => N.length - i, ⟨0, [], Nat.zero_le _, ?_⟩, fun i hi => ?_⟩
  · have e0 := fst_0 (fun j => pOf (rowJ N j))
    have q0 : (0 : Int) = ((fstV (fun j => pOf (rowJ N j)) 0 : Nat) : Int) := by rw [e0]; rfl
    (repeat' (first | (refine And.intro ?_ ?_) | exact True.intro | (show _ = _; with_reducible rfl) | exact Chk.mk (by kernel_rfl)))
    all_goals first | exact q0 | rfl | (exact fun _ _ => rfl)
  have hi : i ≤ N.length := hi
  dsimp only
  by_cases hlt : i < N.length
  · have hb := fst_lt (fun j => pOf (rowJ N j)) hi (by omega)
    obtain ⟨b, hbe⟩ : ∃ b, fstV (fun j => pOf (rowJ N j)) i = b := ⟨_, rfl⟩
    rw [hbe] at hb ⊢
    by_cases c : (N.getD i It.z).p < (N.getD b It.z).p
    · have e1 : fstV (fun j => pOf (rowJ N j)) (i + 1) = i := fst_yes (by rw [hbe]; exact c)
      have c' : (N.getD (i : Int).toNat It.z).p < (N.getD (b : Int).toNat It.z).p := c
      (repeat' (first | (refine xI (fun hfk => ?_) (fun hfk => ?_) <;> ((try (first | replace hfk := oT hfk | replace hfk := oF hfk | simp only [oD, ne_eq, reduceCtorEq] at hfk)); (try exact oX))) | (refine And.intro ?ob ?_; (case ob => (exact oZ))) | exact True.intro | (show _ = _; first | exact oY | exact rfl) | exact oW | (apply And.intro)))
      refine ⟨i + 1, [], hlt, ?mu, ?_⟩
      case mu => (show N.length - (i + 1) < N.length - i; omega)
      have q1 : (i : Int) = ((fstV (fun j => pOf (rowJ N j)) (i + 1) : Nat) : Int) := by rw [e1]
      (repeat' (first | (refine And.intro ?_ ?_) | exact True.intro | (show _ = _; with_reducible rfl) | exact Chk.mk (by kernel_rfl)))
      all_goals first | exact q1 | rfl | (exact fun _ _ => rfl) | (show (_ : Int) = _; omega)
    · have e1 : fstV (fun j => pOf (rowJ N j)) (i + 1) = b := (fst_no (by rw [hbe]; exact c)).trans hbe
      have c' : ¬ (N.getD (i : Int).toNat It.z).p < (N.getD (b : Int).toNat It.z).p := c
      (repeat' (first | (refine xI (fun hfk => ?_) (fun hfk => ?_) <;> ((try (first | replace hfk := oT hfk | replace hfk := oF hfk | simp only [oD, ne_eq, reduceCtorEq] at hfk)); (try exact oX))) | (refine And.intro ?ob ?_; (case ob => (exact oZ))) | exact True.intro | (show _ = _; first | exact oY | exact rfl) | exact oW | (apply And.intro)))
      refine ⟨i + 1, [], hlt, ?mu, ?_⟩
      case mu => (show N.length - (i + 1) < N.length - i; omega)
      have q1 : (b : Int) = ((fstV (fun j => pOf (rowJ N j)) (i + 1) : Nat) : Int) := by rw [e1]
      (repeat' (first | (refine And.intro ?_ ?_) | exact True.intro | (show _ = _; with_reducible rfl) | exact Chk.mk (by kernel_rfl)))
      all_goals first | exact q1 | rfl | (exact fun _ _ => rfl) | (show (_ : Int) = _; omega)
  · obtain rfl : i = N.length := by omega
    (repeat' (first | (refine xI (fun hfk => ?_) (fun hfk => ?_) <;> ((try (first | replace hfk := oT hfk | replace hfk := oF hfk | simp only [oD, ne_eq, reduceCtorEq] at hfk)); (try exact oX))) | (refine And.intro ?ob ?_; (case ob => (exact oZ))) | exact True.intro | (show _ = _; first | exact oY | exact rfl) | exact oW | (apply And.intro)))
def withoutF : FSpec := fun l es => match l, es with
  | [.ro 3 n f, .int .i64 a], [] => some ([RowJ n f, n ≤ 1000000, 0 ≤ a, a < (n : Int)], .sl 0 3 0 (n - 1), [some (.recs 82 3 (n - 1) (wiG f a.toNat))])
  | _, _ => none
theorem wiG_at {f : Nat → AV} {a j : Nat} : wiG f a j = if j < a then f j else f (j + 1) := rfl
theorem without_g : GSOK Try.prog 38 (fG withoutF) := by
  refine fokI (S := []) (G := noG) [] [] [] [] pok_nil noG_ok dl_nil mok_nil ⟨Try.func38, by kernel_rfl, by kernel_rfl, by kernel_rfl⟩ fun l es obs v es' h ho => ?_
  unfold withoutF at h
  split at h
  rotate_left
  · cases h
  rename_i n f a
  simp only [Option.some.injEq, Prod.mk.injEq] at h
  obtain ⟨rfl, rfl, rfl⟩ := h
  simp only [List.mem_cons, List.not_mem_nil, or_false, forall_eq_or_imp, forall_eq] at ho
  obtain ⟨⟨N, rfl, rfl⟩, n1, a0, a1⟩ := ho
  obtain ⟨a, rfl⟩ := Int.eq_ofNat_of_zero_le a0
  rw [Int.toNat_natCast]
  refine ⟨Nat.le_of_ble_eq_true rfl, ?_⟩
  (repeat' (first | (refine xI (fun hfk => ?_) (fun hfk => ?_) <;> ((try (first | replace hfk := oT hfk | replace hfk := oF hfk | simp only [oD, ne_eq, reduceCtorEq] at hfk)); (try exact oX))) | (refine And.intro ?ob ?_; (case ob => (exact oZ))) | exact True.intro | (show _ = _; first | exact oY | exact rfl) | exact oW | (apply And.intro)))
  refine ⟨Nat, fun i => [(0, .ro 3 N.length (rowJ N)), (1, .int .i64 (a : Int)), (5, .sl 0 3 0 (if i ≤ a then i else i - 1)), (6, .int .i64 (i : Int))],
    fun i => ⟨1, [(0, some (.recs 82 3 (if i ≤ a then i else i - 1) (wiG (rowJ N) a)))]⟩,
    fun i => i ≤ N.length, fun i => N.length - i, ⟨0, [none], Nat.zero_le _, ?_⟩, fun i hi => ?_⟩
  · have q0 : 0 = if 0 ≤ a then 0 else 0 - 1 := by rw [if_pos (Nat.zero_le a)]
    (repeat' (first | (refine And.intro ?_ ?_) | exact True.intro | (show _ = _; with_reducible rfl) | exact Chk.mk (by kernel_rfl)))
    all_goals first | exact q0.symm | rfl | (exact fun _ _ => rfl)
  have hi : i ≤ N.length := hi
  dsimp only
  by_cases hlt : i < N.length
  · by_cases hia : i = a
    · subst hia
      rw [if_pos (Nat.le_refl _)]
      (repeat' (first | (refine xI (fun hfk => ?_) (fun hfk => ?_) <;> ((try (first | replace hfk := oT hfk | replace hfk := oF hfk | simp only [oD, ne_eq, reduceCtorEq] at hfk)); (try exact oX))) | (refine And.intro ?ob ?_; (case ob => (exact oZ))) | exact True.intro | (show _ = _; first | exact oY | exact rfl) | exact oW | (apply And.intro)))
      refine ⟨i + 1, [some 0], hlt, ?mu, ?_⟩
      case mu => (show N.length - (i + 1) < N.length - i; omega)
      have q1 : i = if i + 1 ≤ i then i + 1 else i + 1 - 1 := by rw [if_neg (by omega)]; rfl
      (repeat' (first | (refine And.intro ?_ ?_) | exact True.intro | (show _ = _; with_reducible rfl) | exact Chk.mk (by kernel_rfl)))
      all_goals first | exact q1 | rfl | (exact fun _ _ => rfl) | (show (_ : Int) = _; omega)
    · obtain ⟨k, hk⟩ : ∃ k, (if i ≤ a then i else i - 1) = k := ⟨_, rfl⟩
      rw [hk]
      have hkl : k ≤ i := by rw [← hk]; split <;> omega
      have q1 : k + 1 = if i + 1 ≤ a then i + 1 else i + 1 - 1 := by
        rw [← hk]
        by_cases c : i ≤ a
        · rw [if_pos c, if_pos (by omega)]
        · rw [if_neg c, if_neg (by omega)]; omega
      have hx : wiG (rowJ N) a k = rowJ N i := by
        rw [wiG_at, ← hk]
        by_cases c : i ≤ a
        · rw [if_pos c, if_pos (by omega)]
        · rw [if_neg c, if_neg (by omega), show i - 1 + 1 = i by omega]
      (repeat' (first | (refine xI (fun hfk => ?_) (fun hfk => ?_) <;> ((try (first | replace hfk := oT hfk | replace hfk := oF hfk | simp only [oD, ne_eq, reduceCtorEq] at hfk)); (try exact oX))) | (refine And.intro ?ob ?_; (case ob => (exact oZ))) | exact True.intro | (show _ = _; first | exact oY | exact rfl) | exact oW | (apply And.intro)))
      refine ⟨i + 1, [some 2], hlt, ?mu, ?_⟩
      case mu => (show N.length - (i + 1) < N.length - i; omega)
      (repeat' (first | (refine And.intro ?_ ?_) | exact True.intro | (show _ = _; with_reducible rfl) | exact Chk.mk (by kernel_rfl)))
      all_goals first | exact q1 | rfl | (exact fun _ _ => rfl) | (show (_ : Int) = _; omega) | skip
      intro j hj
      rw [← q1] at hj
      show (if j < k then wiG (rowJ N) a j else chunkA _ _ (0 + (j - k))) = _
      by_cases c : j < k
      · rw [if_pos c]
      · rw [if_neg c, show j = k by omega, hx, show 0 + (k - k) = 0 by omega]
        rfl
  · obtain rfl : i = N.length := by omega
    have q1 : (if N.length ≤ a then N.length else N.length - 1) = N.length - 1 := by rw [if_neg (by omega)]
    rw [q1]
    (repeat' (first | (refine xI (fun hfk => ?_) (fun hfk => ?_) <;> ((try (first | replace hfk := oT hfk | replace hfk := oF hfk | simp only [oD, ne_eq, reduceCtorEq] at hfk)); (try exact oX))) | (refine And.intro ?ob ?_; (case ob => (exact oZ))) | exact True.intro | (show _ = _; first | exact oY | exact rfl) | exact oW | (apply And.intro)))
    refine ⟨[some 0], ?_⟩
    (repeat' (first | (refine xI (fun hfk => ?_) (fun hfk => ?_) <;> ((try (first | replace hfk := oT hfk | replace hfk := oF hfk | simp only [oD, ne_eq, reduceCtorEq] at hfk)); (try exact oX))) | (refine And.intro ?ob ?_; (case ob => (exact oZ))) | exact True.intro | (show _ = _; first | exact oY | exact rfl) | exact oW | (apply And.intro)))
end Go.Proofs.Ytgbekbofeaoniaa

