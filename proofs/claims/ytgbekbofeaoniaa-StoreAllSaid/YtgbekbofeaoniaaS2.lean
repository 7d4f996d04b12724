/- Texts laid together. No condition. -/
import Derived.Test.YtgbekbofeaoniaaS1
set_option maxRecDepth 100000
set_option maxHeartbeats 4000000
set_option linter.unusedVariables false
set_option linter.unusedSimpArgs false
namespace Go.Proofs.Ytgbekbofeaoniaa
open Go Go.RowKit
abbrev MT : Type := List (TypeId × String × FuncId × Option TypeId)
def mlook : MT → TypeId → String → Option (FuncId × Option TypeId)
  | [], _, _ => none
  | (t, n, f, d) :: r, t', n' => bif Nat.beq t t' && (n == n') then some (f, d) else mlook r t' n'
def MFact (P : Program) (t : TypeId) (name : String) (f : FuncId) : Option TypeId → Prop
  | none => ∀ (v : Value) (w : World), (method (P.types.size + Made.depth) t v name).run P w = .ok (f, v) w
  | some el => ∀ (a : Addr) (w : World), (method (P.types.size + Made.depth) t (.pointer (some a)) name).run P w = (do let x ← loadVar el a; pure (f, x) : Sem (FuncId × Value)).run P w
def MOK (P : Program) (M : MT) : Prop := ∀ t n f d, mlook M t n = some (f, d) → MFact P t n f d
theorem mok_nil {P : Program} : MOK P [] := fun _ _ _ _ h => by cases h
def invA (T : TypeId → Option TI) (M : MT) (e : Env) (H : AH) (x : Operand) (name : String) (args : List Operand) : Option (List Prop × FuncId × List AV) :=
  match evA e x, evAs e args with
  | some (.ifc t [v]), some l => (match mlook M t name with
    | some (f, none) => some ([], f, v :: l)
    | some (f, some el) => (match aload T el H v with
      | some (obs, r) => some (obs, f, r :: l)
      | none => none)
    | none => none)
  | _, _ => none
def pcall (H : AH) (s : PSpec) (l : List AV) : QR := bif l.all nlB then s l else (match viewAs H l with
  | some (p, l') => (match s l' with
    | some (q, v) => bif flatB v then some (p ++ q, v) else none
    | none => none)
  | none => none)
noncomputable def fcall (S : FuncId → Option PSpec) (G : FuncId → Option GSpec) (f : FuncId) (l : List AV) (H : AH) (K : AV → AH → Prop) : Prop :=
  match S f with
  | some s => (match pcall H s l with | some (obs, v) => obl obs (K v H) | none => False)
  | none => (match G f with | some s => s l H K | none => False)
def invB (o : Op) : Bool := match o with
  | .call { callee := .invoke _ _, .. } => true
  | _ => false
noncomputable def invX (M : MT) (S : FuncId → Option PSpec) (G : FuncId → Option GSpec) (T : TypeId → Option TI) (o : Op) (e : Env) (H : AH) (K : AV → AH → Prop) : Prop := match o with
  | .call { callee := .invoke x name, args, .. } => (match invA T M e H x name args.toList with
    | some (obs, f, l) => obl obs (fcall S G f l H K)
    | none => False)
  | _ => False
def shrB (o : Op) (e : Env) (H : AH) : Bool := match o with
  | .store _ a x => (match evA e a, evA e x with
    | some (.ptr _ _), some (.sl i sz 0 _) => (match H.get i with | some (.recs _ sz' _ _) => Nat.beq sz sz' | _ => false)
    | _, _ => false)
  | _ => false
def shrX (T : TypeId → Option TI) (o : Op) (e : Env) (H : AH) (K : AV → AH → Prop) : Prop := match o with
  | .store t a x => (match evA e a, evA e x with
    | some va, some (.sl i sz 0 n) => (match H.get i with
      | some (.recs el sz' m get) => n ≤ m ∧ astore T (H.set i (.recs el sz' n get)) t va (.sl i sz 0 n) (K .any)
      | _ => False)
    | _, _ => False)
  | _ => False
noncomputable def xop7 (M : MT) (S : FuncId → Option PSpec) (G : FuncId → Option GSpec) (T : TypeId → Option TI) (o : Op) (e : Env) (H : AH) (K : AV → AH → Prop) : Prop := match invB o with
  | true => invX M S G T o e H K
  | false => (match shrB o e H with
    | true => shrX T o e H K
    | false => xop4 T o e H K)
theorem run_invoke {P : Program} {w : World} {f : FuncId} (hc : callable P f) {ρ : Operand → Value} {o : Oper} {x : Operand} {name : String} {args : Array Operand} {ts : Array TypeId} {t : TypeId} {v r : Value} (ho : o.op = .call { callee := .invoke x name, args, argTypes := ts })
    (hx : ρ x = .iface t v) (hm : (method (P.types.size + Made.depth) t v name).run P w = .ok (f, r) w) : (execOp ρ o).run P w = .ok (.enter f (r :: args.toList.map ρ).toArray) w := by
  obtain ⟨fn, h1, h2, h3⟩ := hc
  have h2' : ¬ fn.name = "runtime.NumGoroutine" := by simpa using h2
  have h3' : ¬ fn.body = none := fun e => by simp [e] at h3
  have e0 : (#[Value.iface t v] ++ args.map ρ)[0]? = some (.iface t v) := by
    rw [← Array.getElem?_toList]
    simp
  have e1 : (#[Value.iface t v] ++ args.map ρ).extract 1 (#[Value.iface t v] ++ args.map ρ).size = args.map ρ := by
    apply Array.ext'
    simp
    exact List.take_of_length_le (by simp)
  have e2 : (#[r] ++ args.map ρ) = (r :: args.toList.map ρ).toArray := by
    apply Array.ext'
    simp
  have key : (callMethod (.iface t v) name (args.map ρ)).run P w = .ok (.enter f (r :: args.toList.map ρ).toArray) w := by
    unfold callMethod
    show Sem.run P (do let p ← program; let x ← method (p.types.size + Made.depth) t v name; callFunc x.1 (#[x.2] ++ args.map ρ)) w = _
    rw [Sem.run_bind]
    show Sem.run P (do let x ← method (P.types.size + Made.depth) t v name; callFunc x.1 (#[x.2] ++ args.map ρ)) w = _
    rw [Sem.run_bind, hm]
    show Sem.run P (callFunc f (#[r] ++ args.map ρ)) w = _
    rw [e2]
    simp [callFunc, h1, h2', h3']
  have he : execOp ρ o = invoke (.fn (.method name) #[]) (#[Value.iface t v] ++ args.map ρ) := by
    simp [execOp, ho, resolve, hx]
  rw [he]
  unfold invoke
  simp only [e0, e1]
  exact key
section
variable {P : Program} {C : Ctx} {R : PN} {w : World} {F Ob : Nat → Prop} {W0 : World} {H : AH} {T : TypeId → Option TI} {S : FuncId → Option PSpec} {G : FuncId → Option GSpec} {M : MT}
theorem fcall_ok (hS : POK P S) (hG : ∀ g s, G g = some s → GSOK P g s) {o : Oper} {a : Act} {e : Env} {K : AV → AH → Prop} {f : FuncId} {l : List AV} {cl : List Value} (h : fcall S G f l H K) (hH : HRel F Ob W0 R H w) (hE : ERel R w (Wr F R H) e a.tmps)
    (hc : CRel R w (Wr F R H) l cl) (hrun : callable P f → (execOp a.eval o).run P w = .ok (.enter f cl.toArray) w) : o.wp P a w (GP F Ob W0 R H o a e K) NoWay := by
  unfold fcall at h
  split at h
  · rename_i s hs
    obtain ⟨hcall, hsp⟩ := hS f s hs
    split at h
    rotate_left
    · exact h.elim
    rename_i obs v hp
    obtain ⟨ho, hK⟩ := obl_inv h
    have key : ∀ {obs' : List Prop} {r' : AV} {l' : List AV} (O' : Nat → Prop), s l' = some (obs', r') → (∀ p ∈ obs', p) → FBd O' w → CRel noN w O' l' cl →
        (∀ w' cv, Rep noN w' O' r' cv → Rep R w' (Wr F R H) v cv) → o.wp P a w (GP F Ob W0 R H o a e K) NoWay := by
      intro obs' r' l' O' h1 h2 h3 h4 h5
      unfold Oper.wp
      rw [hrun hcall]
      refine Calls.mono (hsp l' obs' r' h1 h2 w O' _ h3 h4) fun en w' ⟨cv, he, hx, hr⟩ => ?_
      subst he
      exact ⟨R, v, H, cv, hK, rfl, fun _ _ => rfl, hH.quiet hx, hE.mono (fun _ _ k => k) (hx.weaken fun _ _ k => k.elim) (fun _ _ k => k), h5 w' cv hr⟩
    unfold pcall at hp
    cases hnl : l.all nlB
    · simp only [hnl, cond_false] at hp
      split at hp
      · rename_i p l' hv
        split at hp
        · rename_i q v' hsv
          replace hp := bif_some hp; obtain ⟨hfl, hp⟩ := hp
          simp only [Option.some.injEq, Prod.mk.injEq] at hp
          obtain ⟨rfl, rfl⟩ := hp
          exact key F hsv (fun p hp => ho p (by simp [hp])) ⟨fun b k => hH.wr_lt (.inl k), hH.gl.mono fun b k => .inl k⟩ (viewAs_rep hH hc hv (fun p hp => ho p (by simp [hp]))) fun w' cv hr => flatB_rep hr hfl _ _ _
        · cases hp
      · cases hp
    · simp only [hnl, cond_true] at hp
      rw [List.all_eq_true] at hnl
      exact key (Wr F R H) hp ho ⟨fun b => hH.wr_lt, hH.gl⟩ ⟨hc.1, fun j x v hx hv => nlB_rep (hc.2 j x v hx hv) (hnl x (List.mem_of_getElem? hx)) noN⟩ fun w' cv hr => hr.mono (by simp) (Ext.refl (Wr F R H) _) (fun _ _ k => k)
  · split at h
    · rename_i s hs
      obtain ⟨hcall, hsp⟩ := hG f s hs
      unfold Oper.wp
      rw [hrun hcall]
      refine Calls.mono (hsp _ H K h F Ob W0 R w _ hH hc) fun en w' ⟨R', v, H', cv, hK, he, hR, hx, hH', hwr, hr⟩ => ?_
      subst he
      exact ⟨R', v, H', cv, hK, rfl, hR, hH', hE.mono (hH.keep hR) hx hwr, hr⟩
    · exact h.elim
theorem invX_ok (hT : TOK P T) (hS : POK P S) (hG : ∀ g s, G g = some s → GSOK P g s) (hM : MOK P M) {o : Oper} {a : Act} {e : Env} {K : AV → AH → Prop} (h : invX M S G T o.op e H K) (hH : HRel F Ob W0 R H w) (hE : ERel R w (Wr F R H) e a.tmps) : o.wp P a w (GP F Ob W0 R H o a e K) NoWay := by
  unfold invX at h
  split at h
  rotate_left
  · exact h.elim
  rename_i x name args ts ho
  split at h
  rotate_left
  · exact h.elim
  rename_i obs f l hi
  obtain ⟨hob, h'⟩ := obl_inv h
  unfold invA at hi
  split at hi
  rotate_left
  · cases hi
  rename_i t v l0 hx hl
  have hrx := evA_rep hE hx
  generalize hgx : a.eval x = cx at hrx
  have hargs := evAs_rel hE hl
  cases hrx with
  | ifc _ _ vs hvl hvc =>
    match vs, hvl with
    | [u], _ =>
      have hv := hvc 0 _ _ rfl rfl
      split at hi
      · rename_i f' hm
        simp only [Option.some.injEq, Prod.mk.injEq] at hi
        obtain ⟨rfl, rfl, rfl⟩ := hi
        exact fcall_ok hS hG h' hH hE (cl := u :: args.toList.map a.eval) (crel_cons hv hargs) fun hcall => run_invoke hcall ho hgx (hM t name f' none hm u w)
      · rename_i f' el hm
        split at hi
        · rename_i obs' r hld
          simp only [Option.some.injEq, Prod.mk.injEq] at hi
          obtain ⟨rfl, rfl, rfl⟩ := hi
          obtain ⟨cv, h1, h2⟩ := aload_ok hT hld hob hH hv
          obtain ⟨ad, rfl⟩ : ∃ ad, u = .pointer (some ad) := by
            unfold aload at hld
            split at hld
            · cases hv; exact ⟨_, rfl⟩
            · cases hv; exact ⟨_, rfl⟩
            · cases hv; exact ⟨_, rfl⟩
            · cases hld
          refine fcall_ok hS hG h' hH hE (cl := cv :: args.toList.map a.eval) (crel_cons h2 hargs) fun hcall => run_invoke hcall ho hgx ?_
          show (method (P.types.size + Made.depth) t (.pointer (some ad)) name).run P w = _
          rw [hM t name f' (some el) hm ad w]
          have h3 : (loadVar el ad).run P w = .ok cv w := by simpa [Instr.loadAt, Instr.sureAddr] using h1
          rw [Sem.run_bind, h3]
          rfl
        · cases hi
      · cases hi
theorem HRel.shr {i m n : Nat} {el : TypeId} {sz : Nat} {get : Nat → AV} (hH : HRel F Ob W0 R H w) (hi : H.get i = some (.recs el sz m get)) (hn : n ≤ m) : HRel F Ob W0 R (H.set i (.recs el sz n get)) w ∧ ∀ g, Wr F R (H.set i (.recs el sz n get)) g ↔ Wr F R H g := by
  have hwr : ∀ g, Wr F R (H.set i (.recs el sz n get)) g ↔ Wr F R H g := fun g => or_congr Iff.rfl (own_set hi g)
  refine ⟨⟨hH.len, hH.ext, hH.fb, fun g hg => hH.own g ((own_set hi g).1 hg), fun j e' hj => ?_, fun j k e1 e2 g hj hk h1 h2 => ?_⟩, hwr⟩
  · rw [get_set] at hj
    have up : ∀ {b : Option Nat} {e : Ent}, e.holds R w (Wr F R H) b → e.holds R w (Wr F R (H.set i (.recs el sz n get))) b := fun h => Ent.holds_mono h (fun _ _ k => k) (Ext.refl _ _) (fun b _ k => (hwr b).1 k) fun _ _ => rfl
    by_cases hij : i = j
    · rw [if_pos hij] at hj
      cases hj
      subst hij
      obtain ⟨b, hb, hh⟩ := hH.ent i _ hi
      refine ⟨b, hb, up ?_⟩
      cases b with
      | none =>
        have : m = 0 := hh
        show n = 0
        omega
      | some b =>
        obtain ⟨vs, fr, vals, g1, g2, g3, g4, g5⟩ := hh
        exact ⟨vs, fr, vals, g1, g2, Nat.le_trans (Nat.mul_le_mul_right _ hn) g3, fun j hj => g4 j (by omega), fun j hj => g5 j (by omega)⟩
    · rw [if_neg hij] at hj
      obtain ⟨b, hb, hh⟩ := hH.ent j _ hj
      exact ⟨b, hb, up hh⟩
  · have h4 : ∀ {j : Nat} {e : Ent}, (H.set i (.recs el sz n get)).get j = some e → ∃ e', H.get j = some e' := by
      intro j e hj
      rw [get_set] at hj
      by_cases hij : i = j
      · subst hij; exact ⟨_, hi⟩
      · rw [if_neg hij] at hj; exact ⟨_, hj⟩
    obtain ⟨x, hx⟩ := h4 hj
    obtain ⟨x', hx'⟩ := h4 hk
    exact hH.dis j k x x' g hx hx' h1 h2
theorem shrX_ok (hT : TOK P T) {o : Oper} {a : Act} {e : Env} {K : AV → AH → Prop} (h : shrX T o.op e H K) (hH : HRel F Ob W0 R H w) (hE : ERel R w (Wr F R H) e a.tmps) : o.wp P a w (GP F Ob W0 R H o a e K) NoWay := by
  unfold shrX at h
  split at h
  rotate_left
  · exact h.elim
  rename_i t ax x ho
  split at h
  rotate_left
  · exact h.elim
  rename_i va i sz n hax hx
  split at h
  rotate_left
  · exact h.elim
  rename_i el sz' m get hi
  obtain ⟨hn, hK⟩ := h
  obtain ⟨p1, p2⟩ := hH.shr hi hn
  have hE2 : ERel R w (Wr F R (H.set i (.recs el sz' n get))) e a.tmps := hE.mono (fun _ _ k => k) (Ext.refl _ _) fun b _ k => (p2 b).1 k
  have := store_ok (C := ⟨0, T, fun _ => none, fun _ => none, fun _ _ _ => false, fun _ _ _ _ => False, fun _ => false, fun _ _ _ => none, fun _ => 0, fun _ _ _ => none⟩) hT (K := K) ho (by
    rw [ho]
    unfold aopG
    simp only [hax, hx]
    exact hK) p1 hE2
  exact this
theorem xok7 (hT : TOK P C.T) (hS : POK P S) (hG : ∀ g s, G g = some s → GSOK P g s) (hM : MOK P M) (hC : C.X = xop7 M S G C.T) : XOK P C := by
  intro o a e F Ob W0 R H w K h hH hE
  rw [hC] at h
  unfold xop7 at h
  split at h
  · exact invX_ok hT hS hG hM h hH hE
  split at h
  · exact shrX_ok hT h hH hE
  · exact xok4 (C := { C with X := xop4 C.T }) hT rfl o a e F Ob W0 R H w K h hH hE
end
def dstoreF (T : TypeId → Option TI) (o : Op) (e : Env) (H : AH) : DR := match o with
  | .store t a x => (match szOf T t, evA e a, evA e x with
    | some s, some (.eptr i sz j 0), some (.agg l) => bif Nat.beq s sz && Nat.beq l.length sz && l.all nl0 && l.all isOne then (match H.get i with
      | some (.recs el sz' n get) => bif Nat.beq sz sz' then some ([j < n], .any, [(i, some (.recs el sz' n (fun m => if m = j then .agg l else get m)))], H.nx) else none
      | _ => none) else none
    | _, _, _ => none)
  | _ => none
def dX6 (T : TypeId → Option TI) (o : Op) (e : Env) (H : AH) : DR := match dstoreF T o e H with | some r => some r | none => dX5 T o e H
theorem dstoreF_congr {T : TypeId → Option TI} {o : Op} {e e' : Env} {H : AH} (h : ∀ x ∈ o.operands.toList, evA e x = evA e' x) : dstoreF T o e H = dstoreF T o e' H := by
  unfold dstoreF
  split
  · rename_i t a x
    rw [h a (by simp [Op.operands]), h x (by simp [Op.operands])]
  · rfl
theorem view0_nl {H : AH} {x : AV} (h : nl0 x = true) : view0 H x = some ([], x) := by
  cases x <;> first | rfl | cases h
theorem viewL_nl {H : AH} : ∀ {l : List AV}, l.all nl0 = true → viewL H l = some ([], l)
  | [], _ => rfl
  | x :: l, h => by
    rw [List.all_cons, Bool.and_eq_true] at h
    unfold viewL
    rw [view0_nl h.1, viewL_nl h.2]
    rfl
theorem nms0_nl {x : AV} (h : nl0 x = true) : nms0 x = [] := by
  cases x <;> first | rfl | cases h
theorem nmsL_nl : ∀ {l : List AV}, l.all nl0 = true → nmsL l = []
  | [], _ => rfl
  | x :: l, h => by
    rw [List.all_cons, Bool.and_eq_true] at h
    unfold nmsL
    rw [nms0_nl h.1, nmsL_nl h.2]
    rfl
theorem copyok6 {M : MT} {S : FuncId → Option PSpec} {G : FuncId → Option GSpec} {C : Ctx} (hC : C.X = xop7 M S G C.T) (hD : C.DX = dX6 C.T) : CopyOK C := by
  have c5 := copyok5 (C := { C with X := xop4 C.T, DX := dX5 C.T }) rfl rfl
  refine ⟨fun o e e' H h => by
    have := c5.congr o e e' H h
    rw [hD]; unfold dX6; rw [dstoreF_congr h]
    show _ = (match dstoreF C.T o e' H with | some r => some r | none => dX5 C.T o e' H)
    rw [show dX5 C.T o e H = dX5 C.T o e' H from this], ?_⟩
  intro o e H obs v δ nx K h ho hK
  rw [hC]
  rw [hD] at h
  unfold dX6 at h
  split at h
  · rename_i r hr
    cases h
    unfold dstoreF at hr
    split at hr
    rotate_left
    · cases hr
    rename_i t a x
    split at hr
    rotate_left
    · cases hr
    rename_i s i sz j l hs ha hx
    replace hr := bif_some hr; obtain ⟨hb, hr⟩ := hr
    simp only [Bool.and_eq_true] at hb
    obtain ⟨⟨⟨hb1, hb2⟩, hb3⟩, hb4⟩ := hb
    split at hr
    rotate_left
    · cases hr
    rename_i el sz' n get hi
    replace hr := bif_some hr; obtain ⟨hb5, hr⟩ := hr
    cases hr
    show xop7 M S G C.T _ e H K
    unfold xop7
    have hsh : shrB (.store t a x) e H = false := by
      unfold shrB
      simp only [ha, hx]
    simp only [invB, hsh]
    unfold xop4
    show xop2 C.T _ e H K
    unfold xop2
    have hxs : xsB2 C.T (.store t a x) e H = true := by
      unfold xsB2
      simp only [ha, hi, hx]
    rw [hxs]
    simp only [ha, hx]
    unfold storeF
    simp only [hs]
    have e1 : nmsL l = [] := nmsL_nl hb3
    have e2 : viewL H l = some ([], l) := viewL_nl hb3
    have e3 : delN H (nmsL l) = H := by rw [e1]; rfl
    simp only [hb1, hb2, Bool.and_self, cond_true, e2, e3, hi, hb5, hb3, hb4, Bool.true_and]
    exact ⟨ho _ (by simp), hK⟩
  · have h2 := c5.out o e H obs v δ nx K h ho hK
    have hi : invB o = false := by
      unfold invB
      split
      · cases h
      · rfl
    have hsh : shrB o e H = false := by
      unfold shrB
      split
      · cases h
      · rfl
    unfold xop7
    rw [hi]
    simp only [hsh]
    exact h2
noncomputable def mkI (p : Nat) (S : List (FuncId × PSpec)) (G : FuncId → Option GSpec) (D0 D : List (FuncId × FSpec)) (M : MT) (cuts : List Nat) : Ctx := ⟨p, tlook tt, slook S, dG (D0 ++ D) G, fun o e H => invB o || (shrB o e H || xsE (tlook tt) o e H), xop7 M (slook S) (dG (D0 ++ D) G) (tlook tt), fun i => cuts.any (Nat.beq i), dXD (D0 ++ D), dXN0 D0 D, dX6 (tlook tt)⟩
theorem mkI_ok {p : Nat} {S : List (FuncId × PSpec)} {G : FuncId → Option GSpec} {D0 D : List (FuncId × FSpec)} {M : MT} {cuts : List Nat} (hS : POK Try.prog (slook S)) (hG : ∀ g s, G g = some s → GSOK Try.prog g s) (hD : ∀ g FS, dlook (D0 ++ D) g = some FS → GSOK Try.prog g (fG FS)) (hM : MOK Try.prog M) : COK Try.prog (mkI p S G D0 D M cuts) :=
  have hG' : ∀ g s, dG (D0 ++ D) G g = some s → GSOK Try.prog g s := fun g s h => by
    simp only [dG] at h
    split at h
    · rename_i FS hd
      cases h
      exact hD g FS hd
    · exact hG g s h
  ⟨ttok, hS, gok_of ttok (xok7 ttok hS hG' hM rfl) hG', dok_of (D0 ++ D), copyok6 rfl rfl⟩
theorem fokI {S : List (FuncId × PSpec)} {G : FuncId → Option GSpec} (D0 D : List (FuncId × FSpec)) (M : MT) (cuts : List Nat) (hS : POK Try.prog (slook S)) (hG : ∀ g s, G g = some s → GSOK Try.prog g s) (hD : ∀ g FS, dlook (D0 ++ D) g = some FS → GSOK Try.prog g (fG FS)) (hM : MOK Try.prog M) {g : FuncId} {fn : Func} (hf : FnOK Try.prog g fn) {FS : FSpec}
    (h : ∀ l es obs v es', FS l es = some (obs, v, es') → (∀ p ∈ obs, p) → l.length ≤ fn.ntmps ∧ vcFn (mkI es.length S G D0 D M cuts) fn l ⟨es.length, num 0 (es.map some)⟩ (RetF es.length v es')) : GSOK Try.prog g (fG FS) :=
  fok_of (T := tlook tt) (S := slook S) (G := dG (D0 ++ D) G) (xs := fun o e H => invB o || (shrB o e H || xsE (tlook tt) o e H)) (X := xop7 M (slook S) (dG (D0 ++ D) G) (tlook tt)) (cut := fun i => cuts.any (Nat.beq i)) (XD := dXD (D0 ++ D)) (XN := dXN0 D0 D) (DX := dX6 (tlook tt)) (fun p => mkI_ok (p := p) (cuts := cuts) hS hG hD hM) mixed hf h
end Go.Proofs.Ytgbekbofeaoniaa
namespace Go.Proofs.Ytgbekbofeaoniaa
open Go Go.RowKit
def dbuildF (T : TypeId → Option TI) (o : Op) (e : Env) (H : AH) : DR := match o with
  | .buildSlice t len parts => bif !ptrP e parts.toList && ownP e parts.toList then (match tdq T t with
    | .slice el => (match T el with
      | some i => bif Nat.ble (len * i.sz) 16777216 && Nat.blt 0 i.sz && Nat.beq i.zero.length i.sz then (match fillA (fun j => some (j * i.sz, i.sz)) e (zerosA i (len * i.sz)) parts.toList with
        | some l => (match viewL H l with
          | some (p, r) => (match nmsL l with
            | [j] => bif r.all nl0 && r.all isOne && (i.isAgg || Nat.beq i.sz 1) then some (p, .sl H.nx i.sz 0 len, [(H.nx, some (.recs el i.sz len (chunkA i r))), (j, none)], H.nx + 1) else none
            | _ => none)
          | none => none)
        | none => none) else none
      | none => none)
    | _ => none) else none
  | _ => none
def dX7 (T : TypeId → Option TI) (o : Op) (e : Env) (H : AH) : DR := match dbuildF T o e H with | some r => some r | none => dX6 T o e H
theorem ownP_congr {e e' : Env} : ∀ {l : List (Nat × Operand)}, (∀ p ∈ l, evA e p.2 = evA e' p.2) → ownP e l = ownP e' l
  | [], _ => rfl
  | p :: r, h => by unfold ownP; rw [h p (by simp), ownP_congr fun q hq => h q (by simp [hq])]
theorem dbuildF_congr {T : TypeId → Option TI} {o : Op} {e e' : Env} {H : AH} (h : ∀ x ∈ o.operands.toList, evA e x = evA e' x) : dbuildF T o e H = dbuildF T o e' H := by
  unfold dbuildF
  split
  · rename_i t len ps
    simp only [Op.operands, Array.toList_append, List.mem_append] at h
    have h' : ∀ p ∈ ps.toList, evA e p.2 = evA e' p.2 := fun p hp => h p.2 (by simp; exact ⟨p.1, by simpa using hp⟩)
    have hf : ∀ place l, fillA place e l ps.toList = fillA place e' l ps.toList := fun place l => fillA_congr place ps.toList l h'
    simp only [hf, ptrP_congr h', ownP_congr h']
  · rfl
theorem copyok7 {M : MT} {S : FuncId → Option PSpec} {G : FuncId → Option GSpec} {C : Ctx} (hC : C.X = xop7 M S G C.T) (hD : C.DX = dX7 C.T) : CopyOK C := by
  have c6 := copyok6 (M := M) (S := S) (G := G) (C := { C with X := xop7 M S G C.T, DX := dX6 C.T }) rfl rfl
  refine ⟨fun o e e' H h => by
    have := c6.congr o e e' H h
    rw [hD]; unfold dX7; rw [dbuildF_congr h]
    show _ = (match dbuildF C.T o e' H with | some r => some r | none => dX6 C.T o e' H)
    rw [show dX6 C.T o e H = dX6 C.T o e' H from this], ?_⟩
  intro o e H obs v δ nx K h ho hK
  rw [hD] at h
  unfold dX7 at h
  split at h
  · rename_i r hr
    cases h
    rw [hC]
    unfold dbuildF at hr
    split at hr
    rotate_left
    · cases hr
    rename_i t len ps
    replace hr := bif_some hr; obtain ⟨hp, hr⟩ := hr
    rw [Bool.and_eq_true] at hp
    have hp1 : ptrP e ps.toList = false := by
      have := hp.1
      cases hq : ptrP e ps.toList with
      | true => rw [hq] at this; cases this
      | false => rfl
    have hb : rowB C.T (.buildSlice t len ps) e H = false := hp1
    have hb2 : xsB2 C.T (.buildSlice t len ps) e H = true := hp.2
    show xop7 M S G C.T _ e H K
    unfold xop7
    simp only [invB, shrB]
    unfold xop4
    rw [hb]
    show xop2 C.T _ e H K
    unfold xop2
    rw [hb2]
    show buildF C.T e H t len ps.toList K
    unfold buildF
    split at hr
    · rename_i el hd
      (try simp only [hd])
      split at hr
      · rename_i i hi
        (try simp only [hi])
        replace hr := bif_some hr; obtain ⟨h1, hr⟩ := hr
        (try simp only [h1, cond_true])
        split at hr
        · rename_i l hl
          (try simp only [hl])
          split at hr
          · rename_i p r' hv
            (try simp only [hv])
            split at hr
            · rename_i j hn
              replace hr := bif_some hr; obtain ⟨h2, hr⟩ := hr
              (try simp only [h2, cond_true])
              cases hr
              rw [hn]
              exact obl_of ho hK
            · cases hr
          · cases hr
        · cases hr
      · cases hr
    · cases hr
  · have h2 := c6.out o e H obs v δ nx K h ho hK
    rw [hC]
    exact h2
noncomputable def mkJ (p : Nat) (S : List (FuncId × PSpec)) (G : FuncId → Option GSpec) (D0 D : List (FuncId × FSpec)) (M : MT) (cuts : List Nat) : Ctx := ⟨p, tlook tt, slook S, dG (D0 ++ D) G, fun o e H => invB o || (shrB o e H || xsE (tlook tt) o e H), xop7 M (slook S) (dG (D0 ++ D) G) (tlook tt), fun i => cuts.any (Nat.beq i), dXD (D0 ++ D), dXN0 D0 D, dX7 (tlook tt)⟩
theorem mkJ_ok {p : Nat} {S : List (FuncId × PSpec)} {G : FuncId → Option GSpec} {D0 D : List (FuncId × FSpec)} {M : MT} {cuts : List Nat} (hS : POK Try.prog (slook S)) (hG : ∀ g s, G g = some s → GSOK Try.prog g s) (hD : ∀ g FS, dlook (D0 ++ D) g = some FS → GSOK Try.prog g (fG FS)) (hM : MOK Try.prog M) : COK Try.prog (mkJ p S G D0 D M cuts) :=
  have hG' : ∀ g s, dG (D0 ++ D) G g = some s → GSOK Try.prog g s := fun g s h => by
    simp only [dG] at h
    split at h
    · rename_i FS hd
      cases h
      exact hD g FS hd
    · exact hG g s h
  ⟨ttok, hS, gok_of ttok (xok7 ttok hS hG' hM rfl) hG', dok_of (D0 ++ D), copyok7 rfl rfl⟩
end Go.Proofs.Ytgbekbofeaoniaa
namespace Go.Proofs.Ytgbekbofeaoniaa
open Go Go.RowKit
def rowT (k i : Nat) : List Tl := (List.range i).map fun (j : Nat) => (⟨(k : Int), (j : Int)⟩ : Tl)
def cntT (L : List Im) (tw th : Int) (k : Nat) : Nat := (gcount (stG L tw th (k : Int))).toNat
def allT (L : List Im) (tw th : Int) : Nat → List Tl
  | 0 => []
  | k + 1 => allT L tw th k ++ rowT k (cntT L tw th k)
theorem rowT_succ (k i : Nat) : rowT k (i + 1) = rowT k i ++ [⟨(k : Int), (i : Int)⟩] := by
  unfold rowT
  rw [List.range_succ, List.map_append]
  rfl
theorem cntT_bd (L : List Im) (tw th : Int) (k : Nat) : ((cntT L tw th k : Nat) : Int) = gcount (stG L tw th (k : Int)) ∧ cntT L tw th k ≤ 1073741824 := by
  have := gcount_bd (stG L tw th (k : Int))
  unfold cntT
  omega
theorem rowT_len (k i : Nat) : (rowT k i).length = i := by
  unfold rowT
  simp
theorem allT_len (L : List Im) (tw th : Int) : ∀ k, (allT L tw th k).length ≤ k * 1073741824
  | 0 => by unfold allT; exact Nat.zero_le _
  | k + 1 => by
    have ih := allT_len L tw th k
    have := (cntT_bd L tw th k).2
    unfold allT
    rw [List.length_append, rowT_len]
    omega
abbrev tlF (A : List Tl) : Nat → AV := fun j => (A.getD j Tl.z).av
theorem tlF_snoc {A : List Tl} {x : Tl} {F : Nat → AV} (hF : F 0 = x.av) {j : Nat} (h : j < A.length + 1) : (if j < A.length then tlF A j else F (j - A.length)) = tlF (A ++ [x]) j := by
  show _ = ((A ++ [x]).getD j Tl.z).av
  by_cases c : j < A.length
  · rw [if_pos c, List.getD_eq_getElem?_getD, List.getElem?_append_left c, ← List.getD_eq_getElem?_getD]
  · rw [if_neg c, show j = A.length by omega, List.getD_eq_getElem?_getD, List.getElem?_append_right (Nat.le_refl _), Nat.sub_self]
    exact hF
def allF (L : List Im) : FSpec := fun l es => match l, es with
  | [.rop (.agg [.ro 4 n get, .int .i64 tw, .int .i64 th, .int .i64 c])], [] =>
    some ([n = L.length, get = fun j => (Lm L j).av, L.length ≤ 6], .sl 0 2 0 (allT L tw th L.length).length, [some (.recs 62 2 (allT L tw th L.length).length (tlF (allT L tw th L.length)))])
  | _, _ => none
attribute [local irreducible] gcount stG
theorem all_g (L : List Im) : GSOK Try.prog 29 (fG (allF L)) := by
  refine fokI (S := [(63, levelsS L)]) (G := glook [(62, frzP (tilesS41 L))]) [] [] [] []
    (pok_cons (levels_s L) pok_nil) (gl_cons (gfrzP (tiles41_s L)) gl_nil) dl_nil mok_nil ⟨Try.func29, by kernel_rfl, by kernel_rfl, by kernel_rfl⟩ fun l es obs v es' h ho => ?_
  unfold allF at h
  split at h
  rotate_left
  · cases h
  rename_i n get tw th c
  simp only [Option.some.injEq, Prod.mk.injEq] at h
  obtain ⟨rfl, rfl, rfl⟩ := h
  simp only [List.mem_cons, List.not_mem_nil, or_false, forall_eq_or_imp, forall_eq] at ho
  obtain ⟨rfl, rfl, l6⟩ := ho
  refine ⟨Nat.le_of_ble_eq_true rfl, ?_⟩
  (repeat' (first | (refine xI (fun hfk => ?_) (fun hfk => ?_) <;> ((try (first | replace hfk := oT hfk | replace hfk := oF hfk | simp only [oD, ne_eq, reduceCtorEq] at hfk)); (try exact oX))) | (refine And.intro ?ob ?_; (case ob => (exact oZ))) | exact True.intro | (show _ = _; first | exact oY | exact rfl) | exact oW | (apply And.intro)))
  refine ⟨Nat, fun k => [(3, .sl 0 2 0 (allT L tw th k).length), (4, .fn 62 1 [.rop (.agg [.ro 4 L.length (fun j => (Lm L j).av), .int .i64 tw, .int .i64 th, .int .i64 c])]), (10, .int .i64 (L.length : Int)), (11, .int .i64 (k : Int))],
    fun k => ⟨1, [(0, some (.recs 62 2 (allT L tw th k).length (tlF (allT L tw th k))))]⟩,
    fun k => k ≤ L.length, fun k => L.length - k, ⟨0, [none], Nat.zero_le _, ?_⟩, fun k hk => ?_⟩
  · (repeat' (first | (refine And.intro ?_ ?_) | exact True.intro | (show _ = _; with_reducible rfl) | exact Chk.mk (by kernel_rfl)))
    all_goals first | rfl | (exact fun _ _ => rfl)
  have hk : k ≤ L.length := hk
  have bA := allT_len L tw th k
  obtain ⟨c1, c2⟩ := cntT_bd L tw th k
  obtain ⟨A, hA⟩ : ∃ A, allT L tw th k = A := ⟨_, rfl⟩
  obtain ⟨cn, hcn⟩ : ∃ cn, cntT L tw th k = cn := ⟨_, rfl⟩
  have hA1 : allT L tw th (k + 1) = A ++ rowT k cn := by
    rw [← hA, ← hcn]; rfl
  rw [hA] at bA
  rw [hcn] at c1 c2
  dsimp only
  rw [hA]
  by_cases hlt : k < L.length
  · (repeat' (first | (refine xI (fun hfk => ?_) (fun hfk => ?_) <;> ((try (first | replace hfk := oT hfk | replace hfk := oF hfk | simp only [oD, ne_eq, reduceCtorEq] at hfk)); (try exact oX))) | (refine And.intro ?ob ?_; (case ob => (exact oZ))) | exact True.intro | (show _ = _; first | exact oY | exact rfl) | exact oW | (apply And.intro)))
    refine ⟨Nat, fun i => [(3, .sl 0 2 0 (A ++ rowT k i).length), (4, .fn 62 1 [.rop (.agg [.ro 4 L.length (fun j => (Lm L j).av), .int .i64 tw, .int .i64 th, .int .i64 c])]), (5, .int .i64 (k : Int)), (10, .int .i64 (L.length : Int)), (11, .int .i64 (k : Int)), (16, .int .i64 (cn : Int)), (17, .int .i64 (i : Int))],
      fun i => ⟨1, [(0, some (.recs 62 2 (A ++ rowT k i).length (tlF (A ++ rowT k i))))]⟩,
      fun i => i ≤ cn, fun i => cn - i, ⟨0, [some 0], Nat.zero_le _, ?_⟩, fun i hi => ?_⟩
    · have e0 : A ++ rowT k 0 = A := List.append_nil A
      (repeat' (first | (refine And.intro ?_ ?_) | exact True.intro | (show _ = _; with_reducible rfl) | exact Chk.mk (by kernel_rfl)))
      all_goals first | rfl | exact c1.symm | exact (congrArg List.length e0).symm | exact And.intro rfl (congrArg List.length e0).symm | (exact fun j _ => congrArg (fun A => tlF A j) e0.symm) | (exact fun _ _ => rfl)
    have hi : i ≤ cn := hi
    dsimp only
    by_cases hlt2 : i < cn
    · obtain ⟨B, hB⟩ : ∃ B, A ++ rowT k i = B := ⟨_, rfl⟩
      have lB : B.length ≤ 6 * 1073741824 + i := by rw [← hB, List.length_append, rowT_len]; omega
      have hB1 : A ++ rowT k (i + 1) = B ++ [⟨(k : Int), (i : Int)⟩] := by rw [rowT_succ, ← List.append_assoc, hB]
      obtain ⟨B', hB'⟩ : ∃ B', A ++ rowT k (i + 1) = B' := ⟨_, rfl⟩
      rw [hB'] at hB1
      have lB' : B'.length = B.length + 1 := by rw [hB1, List.length_append]; rfl
      have eB : ∀ {F : Nat → AV}, F 0 = .agg [.int .i64 (k : Int), .int .i64 (i : Int)] → ∀ j, j < B'.length → (if j < B.length then tlF B j else F (j - B.length)) = tlF B' j := fun {F} hF j hj => by
        rw [hB1]
        exact tlF_snoc hF (by omega)
      rw [hB]
      (repeat' (first | (refine xI (fun hfk => ?_) (fun hfk => ?_) <;> ((try (first | replace hfk := oT hfk | replace hfk := oF hfk | simp only [oD, ne_eq, reduceCtorEq] at hfk)); (try exact oX))) | (refine And.intro ?ob ?_; (case ob => (exact oZ))) | exact True.intro | (show _ = _; first | exact oY | exact rfl) | exact oW | (apply And.intro)))
      refine ⟨i + 1, [some 2], hlt2, ?mu, ?_⟩
      case mu => (show cn - (i + 1) < cn - i; omega)
      rw [hB']
      (repeat' (first | (refine And.intro ?_ ?_) | exact True.intro | (show _ = _; with_reducible rfl) | exact Chk.mk (by kernel_rfl)))
      all_goals first | rfl | exact lB'.symm | exact And.intro rfl lB'.symm | exact eB (F := fun j => chunkA _ _ (0 + j)) rfl | (exact fun _ _ => rfl) | (show (_ : Int) = _; omega)
    · obtain rfl : i = cn := by omega
      rw [← hA1]
      (repeat' (first | (refine xI (fun hfk => ?_) (fun hfk => ?_) <;> ((try (first | replace hfk := oT hfk | replace hfk := oF hfk | simp only [oD, ne_eq, reduceCtorEq] at hfk)); (try exact oX))) | (refine And.intro ?ob ?_; (case ob => (exact oZ))) | exact True.intro | (show _ = _; first | exact oY | exact rfl) | exact oW | (apply And.intro)))
      refine ⟨k + 1, [some 0], hlt, ?mu, ?_⟩
      case mu => (show L.length - (k + 1) < L.length - k; omega)
      (repeat' (first | (refine And.intro ?_ ?_) | exact True.intro | (show _ = _; with_reducible rfl) | exact Chk.mk (by kernel_rfl)))
      all_goals first | rfl | (exact fun _ _ => rfl) | (show (_ : Int) = _; omega)
  · obtain rfl : k = L.length := by omega
    rw [← hA]
    (repeat' (first | (refine xI (fun hfk => ?_) (fun hfk => ?_) <;> ((try (first | replace hfk := oT hfk | replace hfk := oF hfk | simp only [oD, ne_eq, reduceCtorEq] at hfk)); (try exact oX))) | (refine And.intro ?ob ?_; (case ob => (exact oZ))) | exact True.intro | (show _ = _; first | exact oY | exact rfl) | exact oW | (apply And.intro)))
    refine ⟨[some 0], ?_⟩
    (repeat' (first | (refine And.intro ?_ ?_) | exact True.intro | (show _ = _; with_reducible rfl) | exact Chk.mk (by kernel_rfl)))
    all_goals first | rfl | (exact fun _ _ => rfl)
end Go.Proofs.Ytgbekbofeaoniaa
namespace Go.Proofs.Ytgbekbofeaoniaa
open Go Go.RowKit
theorem cropL_get {w h c : Int} {p : List Int} {r : R4} (H : CropOK w h c p r) (hn : 0 < cropN c r) : ∀ (k : Nat), (k : Int) ≤ r.y1 - r.y0 → ∀ i, i < k * cropN c r → (cropL w c p r k).getD i 0 = p.getD (cropP w c r (i / cropN c r) + i % cropN c r) 0
  | 0, _, i, hi => by omega
  | k + 1, hk, i, hi => by
    have hl := H.len k (by omega)
    have hr := (H.row (k := k) (by omega)).2.2.2.2.1
    rw [Nat.add_mul, Nat.one_mul] at hi
    simp only [cropL, List.getD_eq_getElem?_getD]
    by_cases h1 : i < k * cropN c r
    · rw [List.getElem?_append_left (by omega)]
      have := cropL_get H hn k (by omega) i h1
      simpa only [List.getD_eq_getElem?_getD] using this
    · rw [List.getElem?_append_right (by omega), hl]
      have e1 : i / cropN c r = k := Nat.div_eq_of_lt_le (by omega) (by rw [Nat.add_mul, Nat.one_mul]; omega)
      have e2 : i % cropN c r = i - k * cropN c r := by
        have := Nat.div_add_mod i (cropN c r)
        rw [e1, Nat.mul_comm] at this; omega
      rw [e1, e2, List.getElem?_drop, List.getElem?_take]
      rw [if_pos (by omega)]
theorem set_same {l : List Int} {n : Nat} (h : n < l.length) : l.set n (l.getD n 0) = l := by
  refine list_getD (by simp) fun j hj => ?_
  rw [set_getD h]
  split
  · rename_i e; rw [e]
  · rfl
structure Back (w h c : Int) (p : List Int) (r : R4) : Prop where
  len : (cropL w c p r (r.y1 - r.y0).toNat).length = (r.y1 - r.y0).toNat * cropN c r
  fit : (cropL w c p r (r.y1 - r.y0).toNat).length ≤ 16777216
  pos : 0 < (cropL w c p r (r.y1 - r.y0).toNat).length
  code : pasteC w h c p.length (r.x1 - r.x0) (r.y1 - r.y0) c (cropL w c p r (r.y1 - r.y0).toNat).length r.x0 r.y0 = 0
  same : pasteI w h c p (r.x1 - r.x0) (r.y1 - r.y0) c (cropL w c p r (r.y1 - r.y0).toNat) r.x0 r.y0 = p
theorem CropOK.back {w h c : Int} {p : List Int} {r : R4} (H : CropOK w h c p r) : Back w h c p r := by
  have b := H.b
  have y := fits_inv H.f
  have l := H.l
  have hlen := H.len (r.y1 - r.y0).toNat (by omega)
  have n0 : 0 ≤ (r.x1 - r.x0) * c := Int.mul_nonneg (by omega) (by omega)
  have n1 : (cropN c r : Int) = (r.x1 - r.x0) * c := by unfold cropN; omega
  have n2 : 0 < (r.x1 - r.x0) * c := Int.mul_pos (by omega) (by omega)
  have hn : 0 < cropN c r := by omega
  have a1 : (r.x1 - r.x0) * (r.y1 - r.y0) ≤ w * h := Int.mul_le_mul (by omega) (by omega) (by omega) (by omega)
  have a0 : 0 < (r.x1 - r.x0) * (r.y1 - r.y0) := Int.mul_pos (by omega) (by omega)
  have a2 : (r.x1 - r.x0) * (r.y1 - r.y0) * c ≤ w * h * c := Int.mul_le_mul_of_nonneg_right a1 (by omega)
  have hL : (((r.y1 - r.y0).toNat * cropN c r : Nat) : Int) = (r.x1 - r.x0) * (r.y1 - r.y0) * c := by
    rw [Int.natCast_mul, n1, Int.toNat_of_nonneg (by omega), Int.mul_comm (r.x1 - r.x0) (r.y1 - r.y0), Int.mul_assoc]
  have f2 : fitsI (r.x1 - r.x0) (r.y1 - r.y0) c = 0 := by
    unfold fitsI
    rw [if_neg (by omega), if_neg (by omega), if_neg (by omega)]
  have k2 : imCheck (r.x1 - r.x0) (r.y1 - r.y0) c (cropL w c p r (r.y1 - r.y0).toNat).length = 0 := by
    unfold imCheck
    rw [if_neg (by omega), if_neg (by rw [hlen, hL]; omega)]
  have hc : pasteC w h c p.length (r.x1 - r.x0) (r.y1 - r.y0) c (cropL w c p r (r.y1 - r.y0).toNat).length r.x0 r.y0 = 0 := by
    have k1 := H.i
    unfold pasteC
    rw [if_neg (by omega), if_neg (by omega), if_neg (by omega), if_neg (by omega)]
  have hpos : 0 < (r.y1 - r.y0).toNat * cropN c r := Nat.mul_pos (by omega) hn
  refine ⟨hlen, by omega, by omega, hc, ?_⟩
  rw [paste_eq]
  unfold pasteL
  rw [if_pos hc]
  have key : ∀ i, i ≤ (cropL w c p r (r.y1 - r.y0).toNat).length → stepL p (cropL w c p r (r.y1 - r.y0).toNat) ((r.x1 - r.x0) * c).toNat (baseR w c r.x0 r.y0) i = p := by
    intro i
    induction i with
    | zero => intro _; rfl
    | succ i ih =>
      intro hi
      show (stepL p _ _ _ i).set _ _ = p
      rw [ih (by omega)]
      have hg := cropL_get H hn (r.y1 - r.y0).toNat (by omega) i (by omega)
      rw [hg]
      have hq : i / cropN c r < (r.y1 - r.y0).toNat := by rw [Nat.div_lt_iff_lt_mul hn]; omega
      have hm := Nat.mod_lt i hn
      have hr := (H.row (k := i / cropN c r) (by omega)).2.2.2.2.1
      exact set_same (l := p) (n := cropP w c r (i / cropN c r) + i % cropN c r) (by omega)
  exact key _ (Nat.le_refl _)
end Go.Proofs.Ytgbekbofeaoniaa
namespace Go.Proofs.Ytgbekbofeaoniaa
open Go Go.RowKit
theorem tilesL_gtile {g : R4} {i : Int} (h : gis g i = true) : (tilesL g (rN g)).getD i.toNat .zero = gtile g i := by
  obtain ⟨q0, q1⟩ := gis_iff.1 h
  have hg := gcount_pos q1 q0
  rw [gcount_eq hg] at q1
  rw [tilesL_get g _ _ (by omega)]
  exact (if_pos (gis_iff.1 h)).symm
end Go.Proofs.Ytgbekbofeaoniaa
namespace Go.Proofs.Ytgbekbofeaoniaa
open Go Go.RowKit
def AgB (m p : List Int) (q : Nat) : Prop := m.getD q 0 = p.getD q 0
theorem step_ag {w h c : Int} {p : List Int} {r : R4} (H : CropOK w h c p r) (hn : 0 < cropN c r) {m : List Int} (hm : m.length = p.length) {a : List Int} (ha : cropL w c p r (r.y1 - r.y0).toNat = a) (hal : a.length = (r.y1 - r.y0).toNat * cropN c r) :
    ∀ i, i ≤ a.length → (∀ q, AgB m p q → AgB (stepL m a (cropN c r) (cropP w c r) i) p q) ∧ (∀ t, t < i → AgB (stepL m a (cropN c r) (cropP w c r) i) p (cropP w c r (t / cropN c r) + t % cropN c r))
  | 0, _ => ⟨fun q hq => hq, fun t ht => absurd ht (Nat.not_lt_zero _)⟩
  | i + 1, hi => by
    obtain ⟨ih1, ih2⟩ := step_ag H hn hm ha hal i (by omega)
    have hg := cropL_get H hn (r.y1 - r.y0).toNat (by have := H.b; omega) i (by omega)
    rw [ha] at hg
    have hq : i / cropN c r < (r.y1 - r.y0).toNat := by rw [Nat.div_lt_iff_lt_mul hn]; omega
    have hmd := Nat.mod_lt i hn
    have hr := (H.row (k := i / cropN c r) (by have := H.b; omega)).2.2.2.2.1
    have hl : cropP w c r (i / cropN c r) + i % cropN c r < (stepL m a (cropN c r) (cropP w c r) i).length := by rw [stepL_len, hm]; omega
    have key : ∀ q, AgB (stepL m a (cropN c r) (cropP w c r) (i + 1)) p q ↔ q = cropP w c r (i / cropN c r) + i % cropN c r ∨ AgB (stepL m a (cropN c r) (cropP w c r) i) p q := fun q => by
      show ((stepL m a (cropN c r) (cropP w c r) i).set _ _).getD q 0 = _ ↔ _
      rw [set_getD hl]
      by_cases e : q = cropP w c r (i / cropN c r) + i % cropN c r
      · rw [if_pos e, hg, e]
        exact ⟨fun _ => .inl rfl, fun _ => rfl⟩
      · rw [if_neg e]
        exact ⟨fun k => .inr k, fun k => k.elim (fun k => absurd k e) id⟩
    refine ⟨fun q k => (key q).2 (.inr (ih1 q k)), fun t ht => (key _).2 ?_⟩
    by_cases e : t = i
    · subst e; exact .inl rfl
    · exact .inr (ih2 t (by omega))
def Cov (w c : Int) (r : R4) (q : Nat) : Prop := ∃ t, t < (r.y1 - r.y0).toNat * cropN c r ∧ q = cropP w c r (t / cropN c r) + t % cropN c r
structure PutOK (w h c : Int) (p m : List Int) (r : R4) : Prop where
  code : pasteC w h c m.length (r.x1 - r.x0) (r.y1 - r.y0) c (cropL w c p r (r.y1 - r.y0).toNat).length r.x0 r.y0 = 0
  len : (pasteL w h c m (r.x1 - r.x0) (r.y1 - r.y0) c (cropL w c p r (r.y1 - r.y0).toNat) r.x0 r.y0).length = p.length
  keep : ∀ q, AgB m p q → AgB (pasteL w h c m (r.x1 - r.x0) (r.y1 - r.y0) c (cropL w c p r (r.y1 - r.y0).toNat) r.x0 r.y0) p q
  new : ∀ q, Cov w c r q → AgB (pasteL w h c m (r.x1 - r.x0) (r.y1 - r.y0) c (cropL w c p r (r.y1 - r.y0).toNat) r.x0 r.y0) p q
  area : ((cropL w c p r (r.y1 - r.y0).toNat).length : Int) = (r.x1 - r.x0) * (r.y1 - r.y0) * c
theorem put_ok {w h c : Int} {p m : List Int} {r : R4} (H : CropOK w h c p r) (hm : m.length = p.length) : PutOK w h c p m r := by
  have B := H.back
  have b := H.b
  have y := fits_inv H.f
  have n0 : 0 < (r.x1 - r.x0) * c := Int.mul_pos (by omega) (by omega)
  have n1 : (cropN c r : Int) = (r.x1 - r.x0) * c := by unfold cropN; omega
  have hn : 0 < cropN c r := by omega
  have hal := B.len
  have hc : pasteC w h c m.length (r.x1 - r.x0) (r.y1 - r.y0) c (cropL w c p r (r.y1 - r.y0).toNat).length r.x0 r.y0 = 0 := by rw [hm]; exact B.code
  have hp : pasteL w h c m (r.x1 - r.x0) (r.y1 - r.y0) c (cropL w c p r (r.y1 - r.y0).toNat) r.x0 r.y0 = stepL m (cropL w c p r (r.y1 - r.y0).toNat) (cropN c r) (cropP w c r) (cropL w c p r (r.y1 - r.y0).toNat).length := if_pos hc
  obtain ⟨s1, s2⟩ := step_ag H hn hm rfl hal _ (Nat.le_refl _)
  refine ⟨hc, by rw [hp, stepL_len, hm], fun q k => by rw [hp]; exact s1 q k, fun q ⟨t, ht, e⟩ => by rw [hp, e]; exact s2 t (by omega), ?_⟩
  rw [hal, Int.natCast_mul, n1, Int.toNat_of_nonneg (by omega), Int.mul_comm (r.x1 - r.x0) (r.y1 - r.y0), Int.mul_assoc]
theorem cov_of {w h c : Int} {p : List Int} {r : R4} (H : CropOK w h c p r) {x y z : Int} (hx : r.x0 ≤ x ∧ x < r.x1) (hy : r.y0 ≤ y ∧ y < r.y1) (hz : 0 ≤ z ∧ z < c) {q : Nat} (hq : (q : Int) = (y * w + x) * c + z) : Cov w c r q := by
  have b := H.b
  have fw := fits_inv H.f
  have n0 : 0 < (r.x1 - r.x0) * c := Int.mul_pos (by omega) (by omega)
  have n1 : (cropN c r : Int) = (r.x1 - r.x0) * c := by unfold cropN; omega
  have hn : 0 < cropN c r := by omega
  obtain ⟨Y, hY⟩ : ∃ Y : Nat, (Y : Int) = y - r.y0 := ⟨(y - r.y0).toNat, by omega⟩
  have u0 : 0 ≤ (x - r.x0) * c := Int.mul_nonneg (by omega) (by omega)
  obtain ⟨U, hU⟩ : ∃ U : Nat, (U : Int) = (x - r.x0) * c + z := ⟨((x - r.x0) * c + z).toNat, by omega⟩
  have hUn : U < cropN c r := by
    have h1 : (x - r.x0 + 1) * c ≤ (r.x1 - r.x0) * c := Int.mul_le_mul_of_nonneg_right (by omega) (by omega)
    rw [Int.add_mul, Int.one_mul] at h1
    omega
  refine ⟨Y * cropN c r + U, ?_, ?_⟩
  · have h1 : (Y + 1) * cropN c r ≤ (r.y1 - r.y0).toNat * cropN c r := Nat.mul_le_mul_right _ (by omega)
    rw [Nat.succ_mul] at h1
    omega
  · have e1 : (Y * cropN c r + U) / cropN c r = Y := by rw [Nat.mul_comm, Nat.mul_add_div hn, Nat.div_eq_of_lt hUn]; omega
    have e2 : (Y * cropN c r + U) % cropN c r = U := by rw [Nat.mul_comm, Nat.mul_add_mod, Nat.mod_eq_of_lt hUn]
    rw [e1, e2]
    have hb : 0 ≤ ((r.y0 + Y) * w + r.x0) * c := Int.mul_nonneg (by have := Int.mul_nonneg (show 0 ≤ r.y0 + (Y : Int) by omega) (show 0 ≤ w by omega); omega) (by omega)
    have e3 : ((cropP w c r Y : Nat) : Int) = ((r.y0 + Y) * w + r.x0) * c := by unfold cropP; omega
    have e4 : r.y0 + (Y : Int) = y := by omega
    rw [e4] at e3
    have e5 : (y * w + x) * c = (y * w + r.x0) * c + (x - r.x0) * c := by
      rw [← Int.add_mul]
      congr 1
      omega
    omega
def areaS (g : R4) (J K : Nat) : Int := g.x0 * min ((J : Int) * g.y1) g.y0 + (min ((J : Int) * g.y1 + g.y1) g.y0 - (J : Int) * g.y1) * min ((K : Int) * g.x1) g.x0
def areaI (g : R4) (i : Nat) : Int := areaS g (i / cN g) (i % cN g)
theorem area_row {g : R4} (hg : gcheck g = 0) {J : Nat} (hJ : J < rN g) {K : Nat} (hK : K < cN g) : areaS g J K + ((tileAt g J K).x1 - (tileAt g J K).x0) * ((tileAt g J K).y1 - (tileAt g J K).y0) = if K + 1 < cN g then areaS g J (K + 1) else areaS g (J + 1) 0 := by
  have hb := gcheck_inv hg
  have lt := tile_lt hg hJ hK
  have hk1 : K + 1 < cN g ↔ ((K + 1 : Nat) : Int) * g.x1 < g.x0 := (lt_ceil (by omega) (by omega)).symm
  unfold tileAt areaS
  dsimp only
  rw [Int.natCast_add, Int.natCast_one, Int.add_mul, Int.one_mul] at hk1
  obtain ⟨X, hX⟩ : ∃ X, (K : Int) * g.x1 = X := ⟨_, rfl⟩
  obtain ⟨Y, hY⟩ : ∃ Y, (J : Int) * g.y1 = Y := ⟨_, rfl⟩
  rw [hX, hY] at lt
  rw [hX] at hk1
  obtain ⟨E, hE⟩ : ∃ E, min (Y + g.y1) g.y0 = E := ⟨_, rfl⟩
  have m1 : min X g.x0 = X := by omega
  have m2 : min Y g.y0 = Y := by omega
  have k1 : (((K + 1 : Nat) : Int)) * g.x1 = X + g.x1 := by rw [Int.natCast_add, Int.natCast_one, Int.add_mul, Int.one_mul, hX]
  have k2 : (((J + 1 : Nat) : Int)) * g.y1 = Y + g.y1 := by rw [Int.natCast_add, Int.natCast_one, Int.add_mul, Int.one_mul, hY]
  by_cases h : K + 1 < cN g
  · rw [if_pos h, hX, hY, k1, hE, m1, m2, Int.mul_comm (min (X + g.x1) g.x0 - X) (E - Y), Int.mul_sub]
    omega
  · rw [if_neg h, hX, hY, k2, hE, m1, m2]
    have m3 : min (X + g.x1) g.x0 = g.x0 := by
      have := mt hk1.2 h
      omega
    have m4 : min (((0 : Nat) : Int) * g.x1) g.x0 = 0 := by rw [Int.natCast_zero, Int.zero_mul]; omega
    rw [m3, m4, Int.mul_zero, Int.add_zero, Int.mul_comm (g.x0 - X) (E - Y), Int.mul_sub (E - Y), Int.mul_comm (E - Y) g.x0, Int.mul_sub g.x0]
    omega
theorem area_next {g : R4} (hg : gcheck g = 0) {i : Nat} (hi : i < rN g * cN g) : areaI g (i + 1) = areaI g i + ((gtile g i).x1 - (gtile g i).x0) * ((gtile g i).y1 - (gtile g i).y0) := by
  have hp := cN_pos hg
  have hJ : i / cN g < rN g := (Nat.div_lt_iff_lt_mul hp).2 hi
  have hK : i % cN g < cN g := Nat.mod_lt _ hp
  have eT : gtile g i = tileAt g (i / cN g) (i % cN g) := by
    unfold gtile
    rw [if_pos ⟨by omega, by rw [gcount_eq hg]; omega⟩]
    rfl
  have hd := Nat.div_add_mod i (cN g)
  rw [eT]
  have hr := area_row hg hJ hK
  unfold areaI
  by_cases h : i % cN g + 1 < cN g
  · rw [if_pos h] at hr
    have e1 : (i + 1) / cN g = i / cN g := by
      have : i + 1 = cN g * (i / cN g) + (i % cN g + 1) := by omega
      rw [this, Nat.mul_add_div hp, Nat.div_eq_of_lt h]
      omega
    have e2 : (i + 1) % cN g = i % cN g + 1 := by
      have : i + 1 = cN g * (i / cN g) + (i % cN g + 1) := by omega
      rw [this, Nat.mul_add_mod, Nat.mod_eq_of_lt h]
    rw [e1, e2]
    exact hr.symm
  · rw [if_neg h] at hr
    have e0 : i + 1 = cN g * (i / cN g + 1) := by rw [Nat.mul_add, Nat.mul_one]; omega
    have e1 : (i + 1) / cN g = i / cN g + 1 := by rw [e0, Nat.mul_div_cancel_left _ hp]
    have e2 : (i + 1) % cN g = 0 := by rw [e0, Nat.mul_mod_right]
    rw [e1, e2]
    exact hr.symm
theorem area_0 {g : R4} (hg : gcheck g = 0) : areaI g 0 = 0 := by
  have hb := gcheck_inv hg
  unfold areaI areaS
  rw [Nat.zero_div, Nat.zero_mod, Int.natCast_zero, Int.zero_mul, Int.zero_mul]
  have m1 : min 0 g.y0 = 0 := by omega
  have m2 : min 0 g.x0 = 0 := by omega
  rw [m1, m2, Int.mul_zero, Int.mul_zero]
  rfl
theorem area_end {g : R4} (hg : gcheck g = 0) : areaI g (rN g * cN g) = g.x0 * g.y0 := by
  have hb := gcheck_inv hg
  have hp := cN_pos hg
  have hr : ¬ ((rN g : Int)) * g.y1 < g.y0 := fun k => Nat.lt_irrefl _ ((lt_ceil (by omega) (by omega)).1 k)
  unfold areaI areaS
  rw [Nat.mul_div_cancel _ hp, Nat.mul_mod_left, Int.natCast_zero, Int.zero_mul]
  have m1 : min ((rN g : Int) * g.y1) g.y0 = g.y0 := by omega
  have m2 : min 0 g.x0 = 0 := by omega
  rw [m1, m2, Int.mul_zero, Int.add_zero]
end Go.Proofs.Ytgbekbofeaoniaa
namespace Go.Proofs.Ytgbekbofeaoniaa
open Go Go.RowKit
abbrev Atl (A : List Tl) (i : Nat) : Tl := A.getD i Tl.z
abbrev stA2 (L : List Im) (tw th n : Int) : Ent := .cells 126 [.sl 2 4 0 L.length, .int .i64 tw, .int .i64 th, .int .i64 n]
end Go.Proofs.Ytgbekbofeaoniaa
namespace Go.Proofs.Ytgbekbofeaoniaa
open Go Go.RowKit
theorem mem_rowT {k i : Nat} {t : Tl} : t ∈ rowT k i ↔ ∃ j : Nat, j < i ∧ t = ⟨(k : Int), (j : Int)⟩ := by
  unfold rowT
  simp only [List.mem_map, List.mem_range]
  exact ⟨fun ⟨j, h, e⟩ => ⟨j, h, e.symm⟩, fun ⟨j, h, e⟩ => ⟨j, h, e.symm⟩⟩
theorem mem_allT {L : List Im} {tw th : Int} {t : Tl} : ∀ {K : Nat}, t ∈ allT L tw th K ↔ ∃ k j : Nat, k < K ∧ j < cntT L tw th k ∧ t = ⟨(k : Int), (j : Int)⟩
  | 0 => by
    unfold allT
    exact ⟨fun h => (by cases h), fun ⟨k, j, h, _⟩ => absurd h (Nat.not_lt_zero _)⟩
  | K + 1 => by
    unfold allT
    rw [List.mem_append, mem_allT (K := K), mem_rowT]
    constructor
    · rintro (⟨k, j, h1, h2, h3⟩ | ⟨j, h1, h2⟩)
      · exact ⟨k, j, by omega, h2, h3⟩
      · exact ⟨K, j, by omega, h1, h2⟩
    · rintro ⟨k, j, h1, h2, h3⟩
      by_cases e : k = K
      · subst e; exact .inr ⟨j, h2, h3⟩
      · exact .inl ⟨k, j, by omega, h2, h3⟩
abbrev tlR (L : List Im) (tw th : Int) (t : Tl) : R4 := gtile (stG L tw th t.level) t.i
abbrev tlP (L : List Im) (tw th : Int) (t : Tl) : List Int := tP L tw th t.level t.i
structure TileIn (L : List Im) (tw th : Int) (t : Tl) : Prop where
  pos : ∃ k : Nat, t.level = (k : Int) ∧ k < L.length
  isT : gis (stG L tw th t.level) t.i = true
  crop : CropOK (Lm L t.level.toNat).w (Lm L t.level.toNat).h (Lm L t.level.toNat).c (Lm L t.level.toNat).p (tlR L tw th t)
  eP : tlP L tw th t = cropL (Lm L t.level.toNat).w (Lm L t.level.toNat).c (Lm L t.level.toNat).p (tlR L tw th t) ((tlR L tw th t).y1 - (tlR L tw th t).y0).toNat
  eC : tC L tw th t.level t.i = (Lm L t.level.toNat).c
theorem tile_of_mem {L : List Im} {tw th : Int} (hs : storeC L tw th = 0) {t : Tl} (h : t ∈ allT L tw th L.length) : TileIn L tw th t := by
  obtain ⟨k, j, h1, h2, rfl⟩ := mem_allT.1 h
  have c1 := (cntT_bd L tw th k).1
  have hg : gis (stG L tw th (k : Int)) (j : Int) = true := gis_iff.2 ⟨by omega, by omega⟩
  exact ⟨⟨k, rfl, h1⟩, hg, crop_ok (tile_in hs hg), if_pos hg, if_pos hg⟩
structure PutI (L : List Im) (tw th : Int) (n : Nat) (O : Nat → List Int) : Prop where
  len : ∀ j, j < L.length → (O j).length = (Lm L j).p.length
  ag : ∀ m, m < n → ∀ q, Cov (Lm L (Atl (allT L tw th L.length) m).level.toNat).w (Lm L (Atl (allT L tw th L.length) m).level.toNat).c (tlR L tw th (Atl (allT L tw th L.length) m)) q → AgB (O (Atl (allT L tw th L.length) m).level.toNat) (Lm L (Atl (allT L tw th L.length) m).level.toNat).p q
def putO (L : List Im) (tw th : Int) (t : Tl) (O : Nat → List Int) : Nat → List Int := fun m => if m = t.level.toNat then pasteL (Lm L t.level.toNat).w (Lm L t.level.toNat).h (Lm L t.level.toNat).c (O t.level.toNat) ((tlR L tw th t).x1 - (tlR L tw th t).x0) ((tlR L tw th t).y1 - (tlR L tw th t).y0) (tC L tw th t.level t.i) (tlP L tw th t) (tlR L tw th t).x0 (tlR L tw th t).y0 else O m
theorem at_mem {A : List Tl} {n : Nat} (h : n < A.length) : Atl A n ∈ A := by
  show A.getD n Tl.z ∈ A
  rw [List.getD_eq_getElem?_getD, List.getElem?_eq_getElem h]
  exact List.getElem_mem h
theorem put_next {L : List Im} {tw th : Int} (hs : storeC L tw th = 0) {n : Nat} (hn : n < (allT L tw th L.length).length) {O : Nat → List Int} (h : PutI L tw th n O) :
    PutI L tw th (n + 1) (putO L tw th (Atl (allT L tw th L.length) n) O) ∧
    pasteC (Lm L (Atl (allT L tw th L.length) n).level.toNat).w (Lm L (Atl (allT L tw th L.length) n).level.toNat).h (Lm L (Atl (allT L tw th L.length) n).level.toNat).c (O (Atl (allT L tw th L.length) n).level.toNat).length ((tlR L tw th (Atl (allT L tw th L.length) n)).x1 - (tlR L tw th (Atl (allT L tw th L.length) n)).x0) ((tlR L tw th (Atl (allT L tw th L.length) n)).y1 - (tlR L tw th (Atl (allT L tw th L.length) n)).y0) (tC L tw th (Atl (allT L tw th L.length) n).level (Atl (allT L tw th L.length) n).i) (tlP L tw th (Atl (allT L tw th L.length) n)).length (tlR L tw th (Atl (allT L tw th L.length) n)).x0 (tlR L tw th (Atl (allT L tw th L.length) n)).y0 = 0 := by
  have hT := tile_of_mem hs (at_mem hn)
  obtain ⟨t, ht⟩ : ∃ t, Atl (allT L tw th L.length) n = t := ⟨_, rfl⟩
  rw [ht] at hT ⊢
  obtain ⟨⟨k, hk, hkl⟩, hg, hC, eP, eC⟩ := hT
  have ek : t.level.toNat = k := by omega
  have hl : (O t.level.toNat).length = (Lm L t.level.toNat).p.length := h.len _ (by omega)
  have P := put_ok hC hl
  unfold putO
  rw [eP, eC]
  refine ⟨⟨fun j hj => ?_, fun m hm q hq => ?_⟩, P.code⟩
  · by_cases e : j = t.level.toNat
    · rw [if_pos e, P.len, e]
    · rw [if_neg e]
      exact h.len j hj
  · by_cases e : m = n
    · subst e
      rw [ht] at hq ⊢
      rw [if_pos rfl]
      exact P.new q hq
    · have h2 := h.ag m (by omega) q hq
      by_cases e2 : (Atl (allT L tw th L.length) m).level.toNat = t.level.toNat
      · rw [e2] at h2 ⊢
        rw [if_pos rfl]
        exact P.keep q h2
      · rw [if_neg e2]
        exact h2
theorem put_end {L : List Im} {tw th : Int} (hs : storeC L tw th = 0) {O : Nat → List Int} (h : PutI L tw th (allT L tw th L.length).length O) {j : Nat} (hj : j < L.length) : O j = (Lm L j).p := by
  refine list_getD (h.len j hj) fun q hq => ?_
  rw [h.len j hj] at hq
  have hin : inL L (j : Int) = true := inL_iff.2 ⟨by omega, by omega⟩
  have hg := (grid_ok hs hin).1
  have hst := stG_in (tw := tw) (th := th) hin
  rw [Int.toNat_natCast] at hst
  obtain ⟨h1, _⟩ := storeC_ok hs
  have hci := check_inv ((imagesC_ok h1).2.2 j hj).1
  have hf := fits_inv hci.1
  obtain ⟨w, hw⟩ : ∃ w : Nat, (w : Int) = (Lm L j).w := ⟨(Lm L j).w.toNat, by omega⟩
  obtain ⟨c, hc⟩ : ∃ c : Nat, (c : Int) = (Lm L j).c := ⟨(Lm L j).c.toNat, by omega⟩
  obtain ⟨hh, hhh⟩ : ∃ hh : Nat, (hh : Int) = (Lm L j).h := ⟨(Lm L j).h.toNat, by omega⟩
  have hlen : (Lm L j).p.length = w * hh * c := by
    have := hci.2
    rw [← hw, ← hc, ← hhh] at this
    exact_mod_cast this
  have w0 : 0 < w := by omega
  have c0 : 0 < c := by omega
  obtain ⟨z, hz⟩ : ∃ z, q % c = z := ⟨_, rfl⟩
  obtain ⟨x, hx⟩ : ∃ x, (q / c) % w = x := ⟨_, rfl⟩
  obtain ⟨y, hy⟩ : ∃ y, q / c / w = y := ⟨_, rfl⟩
  have z1 : z < c := by rw [← hz]; exact Nat.mod_lt _ c0
  have x1 : x < w := by rw [← hx]; exact Nat.mod_lt _ w0
  have y1 : y < hh := by
    rw [← hy, Nat.div_lt_iff_lt_mul w0, Nat.div_lt_iff_lt_mul c0, Nat.mul_comm hh w]
    omega
  have hq2 : q = (y * w + x) * c + z := by
    have d1 := Nat.div_add_mod q c
    have d2 := Nat.div_add_mod (q / c) w
    rw [hz] at d1
    rw [hx, hy] at d2
    rw [Nat.mul_comm y w, d2, Nat.mul_comm (q / c) c]
    omega
  have hgin : gin (stG L tw th (j : Int)) (x : Int) (y : Int) = true := by
    simp only [gin, Bool.and_eq_true, decide_eq_true_eq]
    refine ⟨hg, (whole_has hg).2 ?_⟩
    rw [hst]
    dsimp only
    omega
  obtain ⟨g0, g1⟩ := gof_bd hgin
  obtain ⟨i, hi⟩ : ∃ i : Nat, gof (stG L tw th (j : Int)) (x : Int) (y : Int) = (i : Int) := ⟨(gof (stG L tw th (j : Int)) (x : Int) (y : Int)).toNat, by omega⟩
  have hic : i < cntT L tw th j := by
    have := (cntT_bd L tw th j).1
    omega
  have hmem : (⟨(j : Int), (i : Int)⟩ : Tl) ∈ allT L tw th L.length := mem_allT.2 ⟨j, i, hj, hic, rfl⟩
  have hT := tile_of_mem hs hmem
  obtain ⟨m, hm, hme⟩ := List.mem_iff_getElem.1 hmem
  have hAt : Atl (allT L tw th L.length) m = ⟨(j : Int), (i : Int)⟩ := by
    show (allT L tw th L.length).getD m Tl.z = _
    rw [List.getD_eq_getElem?_getD, List.getElem?_eq_getElem hm]
    exact hme
  have hhas : (gtile (stG L tw th (j : Int)) (i : Int)).has (x : Int) (y : Int) = true := by
    have hgi : gis (stG L tw th (j : Int)) (i : Int) = true := hT.isT
    have e := tilesL_gtile hgi
    rw [Int.toNat_natCast] at e
    rw [← e]
    have hir : i < rN (stG L tw th (j : Int)) * cN (stG L tw th (j : Int)) := by
      rw [gcount_eq hg] at g1
      omega
    exact (tile_of hg hir).2 ⟨hgin, hi⟩
  have hb : (gtile (stG L tw th (j : Int)) (i : Int)).x0 ≤ (x : Int) ∧ (x : Int) < (gtile (stG L tw th (j : Int)) (i : Int)).x1 ∧ (gtile (stG L tw th (j : Int)) (i : Int)).y0 ≤ (y : Int) ∧ (y : Int) < (gtile (stG L tw th (j : Int)) (i : Int)).y1 := by
    have hh2 := hhas
    simp only [R4.has, R4.empty, R4.right, inB, Bool.and_eq_true, Bool.not_eq_true', Bool.or_eq_false_iff, Bool.not_eq_false', decide_eq_true_eq, decide_eq_false_iff_not] at hh2
    omega
  have hcov : Cov (Lm L j).w (Lm L j).c (tlR L tw th ⟨(j : Int), (i : Int)⟩) q := cov_of hT.crop (x := (x : Int)) (y := (y : Int)) (z := (z : Int)) ⟨hb.1, hb.2.1⟩ ⟨hb.2.2.1, hb.2.2.2⟩ ⟨by omega, by show (z : Int) < (Lm L j).c; omega⟩ (by
    show (q : Int) = ((y : Int) * (Lm L j).w + (x : Int)) * (Lm L j).c + (z : Int)
    rw [← hw, ← hc, hq2]
    simp only [Int.natCast_add, Int.natCast_mul])
  have := h.ag m hm q (by rw [hAt]; exact hcov)
  rw [hAt] at this
  exact this
def manyL (L : List Im) (tw th : Int) : List Tl → Nat → Int
  | [], _ => 0
  | t :: l, j => (if t.level.toNat = j then ((tlP L tw th t).length : Int) else 0) + manyL L tw th l j
theorem many_app (L : List Im) (tw th : Int) (j : Nat) : ∀ l m : List Tl, manyL L tw th (l ++ m) j = manyL L tw th l j + manyL L tw th m j
  | [], m => by show manyL L tw th m j = 0 + _; omega
  | t :: l, m => by
    show _ + manyL L tw th (l ++ m) j = (_ + manyL L tw th l j) + _
    rw [many_app L tw th j l m]
    omega
theorem many_row {L : List Im} {tw th : Int} (hs : storeC L tw th = 0) {k : Nat} (hk : k < L.length) (j : Nat) : ∀ i, i ≤ cntT L tw th k → manyL L tw th (rowT k i) j = if k = j then areaI (stG L tw th (k : Int)) i * (Lm L k).c else 0
  | 0, _ => by
    have hg := (grid_ok hs (inL_iff.2 ⟨by omega, by omega⟩ : inL L (k : Int) = true)).1
    show (0 : Int) = _
    rw [area_0 hg, Int.zero_mul]
    split <;> rfl
  | i + 1, hi => by
    have hg := (grid_ok hs (inL_iff.2 ⟨by omega, by omega⟩ : inL L (k : Int) = true)).1
    have ih := many_row hs hk j i (by omega)
    have hmem : (⟨(k : Int), (i : Int)⟩ : Tl) ∈ allT L tw th L.length := mem_allT.2 ⟨k, i, hk, by omega, rfl⟩
    have hT := tile_of_mem hs hmem
    have hC : CropOK (Lm L k).w (Lm L k).h (Lm L k).c (Lm L k).p (gtile (stG L tw th (k : Int)) (i : Int)) := hT.crop
    have hA := (put_ok (m := (Lm L k).p) hC rfl).area
    have eP : tlP L tw th ⟨(k : Int), (i : Int)⟩ = cropL (Lm L k).w (Lm L k).c (Lm L k).p (gtile (stG L tw th (k : Int)) (i : Int)) ((gtile (stG L tw th (k : Int)) (i : Int)).y1 - (gtile (stG L tw th (k : Int)) (i : Int)).y0).toNat := hT.eP
    rw [rowT_succ, many_app, ih]
    show _ + ((if ((k : Int)).toNat = j then ((tlP L tw th ⟨(k : Int), (i : Int)⟩).length : Int) else 0) + 0) = _
    rw [Int.toNat_natCast, eP, hA]
    have hir : i < rN (stG L tw th (k : Int)) * cN (stG L tw th (k : Int)) := by
      have := (cntT_bd L tw th k).1
      rw [gcount_eq hg] at this
      omega
    rw [area_next hg hir, Int.add_mul]
    split
    · omega
    · rfl
theorem many_all {L : List Im} {tw th : Int} (hs : storeC L tw th = 0) (j : Nat) : ∀ K, K ≤ L.length → manyL L tw th (allT L tw th K) j = if j < K then ((Lm L j).p.length : Int) else 0
  | 0, _ => by
    rw [if_neg (Nat.not_lt_zero _)]
    rfl
  | K + 1, hK => by
    have ih := many_all hs j K (by omega)
    have hin : inL L (K : Int) = true := inL_iff.2 ⟨by omega, by omega⟩
    have hg := (grid_ok hs hin).1
    have hst := stG_in (tw := tw) (th := th) hin
    rw [Int.toNat_natCast] at hst
    obtain ⟨h1, _⟩ := storeC_ok hs
    have hci := check_inv ((imagesC_ok h1).2.2 K (by omega)).1
    have hcn : cntT L tw th K = rN (stG L tw th (K : Int)) * cN (stG L tw th (K : Int)) := by
      have := (cntT_bd L tw th K).1
      rw [gcount_eq hg] at this
      omega
    unfold allT
    rw [many_app, ih, many_row hs (by omega) j _ (Nat.le_refl _), hcn, area_end hg]
    have e0 : (stG L tw th (K : Int)).x0 = (Lm L K).w := by rw [hst]
    have e1 : (stG L tw th (K : Int)).y0 = (Lm L K).h := by rw [hst]
    rw [e0, e1]
    by_cases e : K = j
    · subst e
      rw [if_neg (Nat.lt_irrefl _), if_pos rfl, if_pos (Nat.lt_succ_self _), hci.2]
      omega
    · rw [if_neg e]
      by_cases h : j < K
      · rw [if_pos h, if_pos (by omega)]; omega
      · rw [if_neg h, if_neg (by omega)]; rfl
def leftV (L : List Im) (tw th : Int) (n j : Nat) : Int := ((Lm L j).p.length : Int) - manyL L tw th ((allT L tw th L.length).take n) j
theorem left_0 (L : List Im) (tw th : Int) (j : Nat) : leftV L tw th 0 j = (Lm L j).p.length := by
  unfold leftV
  rw [List.take_zero]
  show _ - (0 : Int) = _
  omega
theorem left_next (L : List Im) (tw th : Int) {n : Nat} (hn : n < (allT L tw th L.length).length) (j : Nat) : leftV L tw th (n + 1) j = if j = (Atl (allT L tw th L.length) n).level.toNat then leftV L tw th n j - ((tlP L tw th (Atl (allT L tw th L.length) n)).length : Int) else leftV L tw th n j := by
  unfold leftV
  have e : (allT L tw th L.length).take (n + 1) = (allT L tw th L.length).take n ++ [Atl (allT L tw th L.length) n] := by
    rw [List.take_add_one, List.getElem?_eq_getElem hn]
    show _ ++ [_] = _ ++ [(allT L tw th L.length).getD n Tl.z]
    rw [List.getD_eq_getElem?_getD, List.getElem?_eq_getElem hn]
    rfl
  rw [e, many_app]
  show _ - (_ + ((if (Atl (allT L tw th L.length) n).level.toNat = j then ((tlP L tw th (Atl (allT L tw th L.length) n)).length : Int) else 0) + 0)) = _
  by_cases h : j = (Atl (allT L tw th L.length) n).level.toNat
  · rw [if_pos h, if_pos h.symm]
    omega
  · rw [if_neg h, if_neg (fun k => h k.symm)]
    omega
theorem left_end {L : List Im} {tw th : Int} (hs : storeC L tw th = 0) {j : Nat} (hj : j < L.length) : leftV L tw th (allT L tw th L.length).length j = 0 := by
  unfold leftV
  rw [List.take_length, many_all hs j _ (Nat.le_refl _), if_pos hj]
  omega
theorem many_nn (L : List Im) (tw th : Int) (j : Nat) : ∀ l : List Tl, 0 ≤ manyL L tw th l j
  | [] => Int.le_refl _
  | t :: l => by
    have ih := many_nn L tw th j l
    show 0 ≤ (if t.level.toNat = j then ((tlP L tw th t).length : Int) else 0) + manyL L tw th l j
    split <;> omega
theorem left_bd {L : List Im} {tw th : Int} (hs : storeC L tw th = 0) {j : Nat} (hj : j < L.length) (n : Nat) : 0 ≤ leftV L tw th n j ∧ leftV L tw th n j ≤ (Lm L j).p.length := by
  have h1 := many_nn L tw th j ((allT L tw th L.length).take n)
  have h2 := many_nn L tw th j ((allT L tw th L.length).drop n)
  have h3 := many_app L tw th j ((allT L tw th L.length).take n) ((allT L tw th L.length).drop n)
  rw [List.take_append_drop, many_all hs j _ (Nat.le_refl _), if_pos hj] at h3
  unfold leftV
  omega
end Go.Proofs.Ytgbekbofeaoniaa
namespace Go.Proofs.Ytgbekbofeaoniaa
open Go Go.RowKit
abbrev zimA (L : List Im) (j : Nat) : AV := .agg [.int .i64 (Lm L j).w, .int .i64 (Lm L j).h, .int .i64 (Lm L j).c, .roi .u8 (List.replicate (Lm L j).p.length 0)]
def lensL (L : List Im) (i : Nat) : List Int := (List.range i).map fun (j : Nat) => ((Lm L j).p.length : Int)
theorem lensL_succ (L : List Im) (i : Nat) : lensL L (i + 1) = lensL L i ++ [((Lm L i).p.length : Int)] := by
  unfold lensL
  rw [List.range_succ, List.map_append]
  rfl
theorem lensL_len (L : List Im) (i : Nat) : (lensL L i).length = i := by
  unfold lensL
  simp
theorem few_at2 {L : List Im} (h : fewL L = true) {i : Nat} (hi : i < L.length) : (Lm L i).p.length ≤ 2000 := by
  unfold fewL at h
  rw [Bool.and_eq_true] at h
  exact of_decide_eq_true h.1 i hi
theorem few_len {L : List Im} (h : fewL L = true) : L.length ≤ 6 := by
  unfold fewL at h
  rw [Bool.and_eq_true] at h
  exact of_decide_eq_true h.2
abbrev outA (L : List Im) (O : Nat → List Int) (j : Nat) : AV := .agg [.int .i64 (Lm L j).w, .int .i64 (Lm L j).h, .int .i64 (Lm L j).c, .roi .u8 (O j)]
def leftL (L : List Im) (tw th : Int) (n : Nat) : List Int := (List.range L.length).map fun (j : Nat) => leftV L tw th n j
theorem leftL_len (L : List Im) (tw th : Int) (n : Nat) : (leftL L tw th n).length = L.length := by
  unfold leftL
  simp
theorem leftL_0 (L : List Im) (tw th : Int) : leftL L tw th 0 = lensL L L.length := by
  unfold leftL lensL
  exact List.map_congr_left fun j _ => left_0 L tw th j
theorem leftL_get (L : List Im) (tw th : Int) (n : Nat) {j : Nat} (hj : j < L.length) : (leftL L tw th n).getD j 0 = leftV L tw th n j := by
  unfold leftL
  simp [List.getD, hj]
theorem leftL_next (L : List Im) (tw th : Int) {n : Nat} (hn : n < (allT L tw th L.length).length) : leftL L tw th (n + 1) = (leftL L tw th n).set (Atl (allT L tw th L.length) n).level.toNat (leftV L tw th n (Atl (allT L tw th L.length) n).level.toNat - ((tlP L tw th (Atl (allT L tw th L.length) n)).length : Int)) := by
  refine List.ext_getElem? fun j => ?_
  rw [List.getElem?_set, leftL_len]
  by_cases hj : j < L.length
  · unfold leftL
    rw [List.getElem?_map, List.getElem?_map, List.getElem?_range hj]
    show some (leftV L tw th (n + 1) j) = _
    rw [left_next L tw th hn j]
    by_cases e : j = (Atl (allT L tw th L.length) n).level.toNat
    · rw [if_pos e, if_pos e.symm, if_pos (by rw [← e]; exact hj), e]
    · rw [if_neg e, if_neg (fun k => e k.symm)]
      rfl
  · have n1 : (leftL L tw th (n + 1))[j]? = none := List.getElem?_eq_none (by rw [leftL_len]; omega)
    have n2 : (leftL L tw th n)[j]? = none := List.getElem?_eq_none (by rw [leftL_len]; omega)
    rw [n1, n2]
    split
    · rename_i e
      split
      · rename_i e2; omega
      · rfl
    · rfl
theorem put_0 (L : List Im) (tw th : Int) : PutI L tw th 0 (fun j => List.replicate (Lm L j).p.length 0) := ⟨fun j _ => List.length_replicate .., fun m hm => absurd hm (Nat.not_lt_zero _)⟩
attribute [local irreducible] gis gtile stG storeC fewL gcount tP tC pasteL pasteC allT leftV putO
theorem sa_few (L : List Im) (s0 s1 : Int) (hL : LenOK L.length) (hfew : fewL L = false) (W : World) {cl : List Value} (hc : CRel noN W NoO [imsA L, .agg [.int .i64 s0, .int .i64 s1]] cl) :
    Calls Try.prog 5 cl.toArray W fun e W' => e = .returned (.bool true) ∧ Below W.heap.size W W' := by
  refine law_of (C := mkK 0 [(26, sIms L [LenOK L.length] (.bool (fewL L)))] noG []) (mkK_ok (pok_cons (few41_s L) pok_nil) noG_ok) rfl ⟨Try.func5, by kernel_rfl, by kernel_rfl, by kernel_rfl⟩ (by exact Nat.le_of_ble_eq_true rfl) ?_ hc
  (repeat' (first | (refine xI (fun hfk => ?_) (fun hfk => ?_) <;> ((try (first | replace hfk := oT hfk | replace hfk := oF hfk | simp only [oD, ne_eq, reduceCtorEq] at hfk)); (try exact oX))) | (refine And.intro ?ob ?_; (case ob => (exact oZ))) | exact True.intro | (show _ = _; first | exact oY | exact rfl) | exact oW | (apply And.intro)))
theorem sa_bad (L : List Im) (s0 s1 : Int) (hL : LenOK L.length) (hfew : fewL L = true) (h6 : L.length ≤ 6) (hs : storeC L s0 s1 ≠ 0) (W : World) {cl : List Value} (hc : CRel noN W NoO [imsA L, .agg [.int .i64 s0, .int .i64 s1]] cl) :
    Calls Try.prog 5 cl.toArray W fun e W' => e = .returned (.bool true) ∧ Below W.heap.size W W' := by
  refine law_of (C := mkK 0 [(26, sIms L [LenOK L.length] (.bool (fewL L))), (27, newStBad L), (28, sIms2 L (fun _ _ => [LenOK L.length]) fun tw th => .int .i64 (storeC L tw th)), (29, sN1 .nils), (30, sN (.bool true))] noG [])
    (mkK_ok (pok_cons (few41_s L) (pok_cons (newStBad_s L) (pok_cons (rcheck41_s L) (pok_cons allN_s (pok_cons alive41_s pok_nil))))) noG_ok) rfl ⟨Try.func5, by kernel_rfl, by kernel_rfl, by kernel_rfl⟩ (by exact Nat.le_of_ble_eq_true rfl) ?_ hc
  have ne : (true == decide (¬ storeC L s0 s1 = 0)) = true := by rw [decide_eq_true hs]; rfl
  (repeat' (first | (refine xI (fun hfk => ?_) (fun hfk => ?_) <;> ((try (first | replace hfk := oT hfk | replace hfk := oF hfk | simp only [oD, ne_eq, reduceCtorEq] at hfk)); (try exact oX))) | (refine And.intro ?ob ?_; (case ob => (exact oZ))) | exact True.intro | (show _ = _; first | exact oY | exact rfl) | exact oW | (apply And.intro)))
theorem sa_good (L : List Im) (s0 s1 : Int) (hL : LenOK L.length) (hfew : fewL L = true) (h6 : L.length ≤ 6) (hs : storeC L s0 s1 = 0) (W : World) {cl : List Value} (hc : CRel noN W NoO [imsA L, .agg [.int .i64 s0, .int .i64 s1]] cl) :
    Calls Try.prog 5 cl.toArray W fun e W' => e = .returned (.bool true) ∧ Below W.heap.size W W' := by
  refine law_of (C := mkJ 0 [(26, sIms L [LenOK L.length] (.bool (fewL L))), (28, sIms2 L (fun _ _ => [LenOK L.length]) fun tw th => .int .i64 (storeC L tw th)), (31, placeS41 L), (33, pasteS), (22, sameS), (30, sN (.bool true))]
      (glook [(27, fG (newStF L)), (29, fGv (allF L)), (32, fG (fetF L))]) [] [] [] [3, 11, 12, 17, 1000018, 21, 24])
    (mkJ_ok (pok_cons (few41_s L) (pok_cons (rcheck41_s L) (pok_cons (place41_s L) (pok_cons rpaste_s (pok_cons rsame_s (pok_cons alive41_s pok_nil))))))
      (gl_cons (newSt_g L) (gl_cons (gview (all_g L)) (gl_cons (fet_g L) gl_nil))) dl_nil mok_nil) rfl ⟨Try.func5, by kernel_rfl, by kernel_rfl, by kernel_rfl⟩ (by exact Nat.le_of_ble_eq_true rfl) ?_ hc
  have ef : (fun j => (fun j => (Lm L j).av) (0 + j)) = fun j => (Lm L j).av := funext fun j => by rw [Nat.zero_add]
  (repeat' (first | (refine xI (fun hfk => ?_) (fun hfk => ?_) <;> ((try (first | replace hfk := oT hfk | replace hfk := oF hfk | simp only [oD, ne_eq, reduceCtorEq] at hfk)); (try exact oX))) | (refine And.intro ?ob ?_; (case ob => (exact oZ))) | exact True.intro | (show _ = _; first | exact oY | exact rfl) | exact oW | (apply And.intro)))
  (refine ⟨[], ⟨by kernel_rfl⟩, ?_⟩)
  refine ⟨rfl, fun j hj => rfl, h6, hs, ?_⟩
  refine ⟨[(0, imsA L), (3, .ptr 0 0), (4, .fls), (5, .ptr 1 0), (6, .int .i64 0)], ⟨3, [(0, some (.cells 52 [.int .i64 s0, .int .i64 s1])), (1, some (stA2 L s0 s1 0)), (2, some (rowA L L.length))]⟩, [some 0, some 1, some 2], ?_, ?_⟩
  · (repeat' (first | (refine And.intro ?_ ?_) | exact True.intro | (show _ = _; with_reducible rfl) | exact Chk.mk (by kernel_rfl)))
    all_goals first | (intro j hj; rfl) | rfl
  (repeat' (first | (refine xI (fun hfk => ?_) (fun hfk => ?_) <;> ((try (first | replace hfk := oT hfk | replace hfk := oF hfk | simp only [oD, ne_eq, reduceCtorEq] at hfk)); (try exact oX))) | (refine And.intro ?ob ?_; (case ob => (exact oZ))) | exact True.intro | (show _ = _; first | exact oY | exact rfl) | exact oW | (apply And.intro)))
  refine ⟨Nat, fun i => [(0, imsA L), (4, .fls), (5, .ptr 0 0), (7, .sl 2 4 0 i), (8, .sl 3 1 0 i), (54, imsA L), (55, .int .i64 (L.length : Int)), (56, .int .i64 (i : Int))],
    fun i => ⟨4, [(0, some (.cells 126 [.sl 1 4 0 L.length, .int .i64 s0, .int .i64 s1, .int .i64 0])), (1, some (rowA L L.length)), (2, some (.recs 40 4 i (zimA L))), (3, some (.ints 3 .i64 (lensL L i)))]⟩,
    fun i => i ≤ L.length, fun i => L.length - i, ⟨0, [some 1, some 2, none, none], Nat.zero_le _, ?_⟩, fun i hi => ?_⟩
  · (repeat' (first | (refine And.intro ?_ ?_) | exact True.intro | (show _ = _; with_reducible rfl) | exact Chk.mk (by kernel_rfl)))
    all_goals first | rfl | (exact fun _ _ => rfl)
  have hi : i ≤ L.length := hi
  have ll := lensL_len L i
  dsimp only
  by_cases hlt : i < L.length
  · have hp : (Lm L i).p.length ≤ 2000 := few_at2 hfew hlt
    obtain ⟨w, hw⟩ : ∃ w, (Lm L i).w = w := ⟨_, rfl⟩
    obtain ⟨h, hh⟩ : ∃ h, (Lm L i).h = h := ⟨_, rfl⟩
    obtain ⟨c, hcc⟩ : ∃ c, (Lm L i).c = c := ⟨_, rfl⟩
    obtain ⟨p, hpp⟩ : ∃ p, (Lm L i).p = p := ⟨_, rfl⟩
    rw [hpp] at hp
    obtain ⟨m0, hm0⟩ : ∃ m0 : Nat, ((L.getD (i : Int).toNat Im.z).p.length : Int).toNat = m0 := ⟨_, rfl⟩
    have hm1 : (Lm L i).p.length = m0 := by
      rw [← hm0]
      rfl
    have eP : ∀ {F : Nat → AV}, F 0 = .agg [.int .i64 (Lm L i).w, .int .i64 (Lm L i).h, .int .i64 (Lm L i).c, .roi .u8 (List.take ((L.getD (i : Int).toNat Im.z).p.length : Int).toNat (List.drop 0 (List.replicate ((L.getD (i : Int).toNat Im.z).p.length : Int).toNat 0)))] → ∀ j, j < i + 1 → (if j < i then zimA L j else F (j - i)) = zimA L j := fun {F} hF j hj => by
      by_cases e : j < i
      · rw [if_pos e]
      · obtain rfl : j = i := by omega
        rw [if_neg e, Nat.sub_self, hF, hm0, List.drop_zero, List.take_of_length_le (by rw [List.length_replicate]; exact Nat.le_refl _)]
        show _ = AV.agg [.int .i64 (Lm L j).w, .int .i64 (Lm L j).h, .int .i64 (Lm L j).c, .roi .u8 (List.replicate (Lm L j).p.length 0)]
        rw [hm1]
    have hp2 : ((L.getD (i : Int).toNat Im.z).p.length : Int) ≤ 2000 := by
      have : (L.getD (i : Int).toNat Im.z).p = p := hpp
      rw [this]
      omega
    (repeat' (first | (refine xI (fun hfk => ?_) (fun hfk => ?_) <;> ((try (first | replace hfk := oT hfk | replace hfk := oF hfk | simp only [oD, ne_eq, reduceCtorEq] at hfk)); (try exact oX))) | (refine And.intro ?ob ?_; (case ob => (exact oZ))) | exact True.intro | (show _ = _; first | exact oY | exact rfl) | exact oW | (apply And.intro)))
    refine ⟨[(0, imsA L), (4, .fls), (5, .ptr 0 0), (7, .sl 2 4 0 (i + 1)), (8, .sl 3 1 0 i), (10, .ptr 4 0), (54, imsA L), (55, .int .i64 (L.length : Int)), (56, .int .i64 (i : Int))],
      ⟨5, [(0, some (.cells 126 [.sl 1 4 0 L.length, .int .i64 s0, .int .i64 s1, .int .i64 0])), (1, some (rowA L L.length)), (2, some (.recs 40 4 (i + 1) (zimA L))), (3, some (.ints 3 .i64 (lensL L i))), (4, some (.cells 40 [.int .i64 w, .int .i64 h, .int .i64 c, .roi .u8 p]))]⟩, [some 0, some 1, some 7, some 3, some 4], ?_, ?_⟩
    · (repeat' (first | (refine And.intro ?_ ?_) | exact True.intro | (show _ = _; with_reducible rfl) | exact Chk.mk (by kernel_rfl)))
      all_goals first | rfl | exact hw | exact hh | exact hcc | exact hpp | exact eP (F := fun j => chunkA _ _ (0 + j)) rfl | (exact fun _ _ => rfl) | skip
    (repeat' (first | (refine xI (fun hfk => ?_) (fun hfk => ?_) <;> ((try (first | replace hfk := oT hfk | replace hfk := oF hfk | simp only [oD, ne_eq, reduceCtorEq] at hfk)); (try exact oX))) | (refine And.intro ?ob ?_; (case ob => (exact oZ))) | exact True.intro | (show _ = _; first | exact oY | exact rfl) | exact oW | (apply And.intro)))
    have l1 : (lensL L (i + 1)).length = i + 1 := lensL_len L (i + 1)
    have hap : lensL L i ++ [(p.length : Int)] = lensL L (i + 1) := by rw [lensL_succ, hpp]
    refine ⟨[(0, imsA L), (4, .fls), (5, .ptr 0 0), (7, .sl 2 4 0 (i + 1)), (8, .sl 3 1 0 (i + 1)), (54, imsA L), (55, .int .i64 (L.length : Int)), (56, .int .i64 (i : Int))],
      ⟨4, [(0, some (.cells 126 [.sl 1 4 0 L.length, .int .i64 s0, .int .i64 s1, .int .i64 0])), (1, some (rowA L L.length)), (2, some (.recs 40 4 (i + 1) (zimA L))), (3, some (.ints 3 .i64 (lensL L (i + 1))))]⟩, [some 0, some 1, some 2, some 6], ?_, ?_⟩
    · (repeat' (first | (refine And.intro ?_ ?_) | exact True.intro | (show _ = _; with_reducible rfl) | exact Chk.mk (by kernel_rfl)))
      all_goals first | rfl | exact hap | (show (lensL L i).length + 1 = i + 1; rw [ll]) | (exact fun _ _ => rfl)
    (repeat' (first | (refine xI (fun hfk => ?_) (fun hfk => ?_) <;> ((try (first | replace hfk := oT hfk | replace hfk := oF hfk | simp only [oD, ne_eq, reduceCtorEq] at hfk)); (try exact oX))) | (refine And.intro ?ob ?_; (case ob => (exact oZ))) | exact True.intro | (show _ = _; first | exact oY | exact rfl) | exact oW | (apply And.intro)))
    refine ⟨i + 1, [some 0, some 1, some 2, some 3], hlt, ?mu, ?_⟩
    case mu => (show L.length - (i + 1) < L.length - i; omega)
    (repeat' (first | (refine And.intro ?_ ?_) | exact True.intro | (show _ = _; with_reducible rfl) | exact Chk.mk (by kernel_rfl)))
    all_goals first | rfl | (exact fun _ _ => rfl) | (show (_ : Int) = _; omega)
  · obtain rfl : i = L.length := by omega
    (repeat' (first | (refine xI (fun hfk => ?_) (fun hfk => ?_) <;> ((try (first | replace hfk := oT hfk | replace hfk := oF hfk | simp only [oD, ne_eq, reduceCtorEq] at hfk)); (try exact oX))) | (refine And.intro ?ob ?_; (case ob => (exact oZ))) | exact True.intro | (show _ = _; first | exact oY | exact rfl) | exact oW | (apply And.intro)))
    (refine ⟨[], [0, 1], ⟨by kernel_rfl⟩, ?_⟩)
    (repeat' (first | (refine xI (fun hfk => ?_) (fun hfk => ?_) <;> ((try (first | replace hfk := oT hfk | replace hfk := oF hfk | simp only [oD, ne_eq, reduceCtorEq] at hfk)); (try exact oX))) | (refine And.intro ?ob ?_; (case ob => (exact oZ))) | exact True.intro | (show _ = _; first | exact oY | (exact ef; done) | exact rfl) | exact oW | (apply And.intro)))
    obtain ⟨A, hA⟩ : ∃ A, allT L s0 s1 L.length = A := ⟨_, rfl⟩
    refine ⟨Nat × (Nat → List Int), fun g => [(0, imsA L), (4, .fls), (5, .ptr 0 0), (7, .sl 2 4 0 L.length), (8, .sl 3 1 0 L.length), (82, .sl 4 2 0 A.length), (83, .int .i64 (A.length : Int)), (84, .int .i64 (g.1 : Int))],
      fun g => ⟨5, [(0, some (.cells 126 [.sl 1 4 0 L.length, .int .i64 s0, .int .i64 s1, .int .i64 (g.1 : Int)])), (1, some (rowA L L.length)), (2, some (.recs 40 4 L.length (outA L g.2))), (3, some (.ints 3 .i64 (leftL L s0 s1 g.1))), (4, some (.recs 62 2 A.length (tlF A)))]⟩,
      fun g => g.1 ≤ A.length ∧ PutI L s0 s1 g.1 g.2, fun g => A.length - g.1, ⟨(0, fun j => List.replicate (Lm L j).p.length 0), [some 0, some 1, some 2, some 3, some 4], ⟨Nat.zero_le _, put_0 L s0 s1⟩, ?_⟩, fun g hg => ?_⟩
    · (repeat' (first | (refine And.intro ?_ ?_) | exact True.intro | (show _ = _; with_reducible rfl) | exact Chk.mk (by kernel_rfl)))
      all_goals first | rfl | exact congrArg List.length hA | exact congrArg (fun A => ((List.length A : Nat) : Int)) hA | exact (leftL_0 L s0 s1).symm | (exact fun j _ => congrArg (fun A => tlF A j) hA) | (exact fun _ _ => rfl)
    obtain ⟨n, O⟩ := g
    obtain ⟨n1, hO⟩ := hg
    have n1 : n ≤ A.length := n1
    have hO : PutI L s0 s1 n O := hO
    dsimp only
    have lA : A.length ≤ 6 * 1073741824 := by
      have := allT_len L s0 s1 L.length
      rw [hA] at this
      exact Nat.le_trans this (Nat.mul_le_mul_right _ h6)
    by_cases hlt2 : n < A.length
    · have hmA : Atl A n ∈ allT L s0 s1 L.length := by rw [hA]; exact at_mem hlt2
      have hnA : n < (allT L s0 s1 L.length).length := by rw [hA]; exact hlt2
      have hT := tile_of_mem hs hmA
      obtain ⟨hO', hpc⟩ := put_next hs hnA hO
      have hM := leftL_next L s0 s1 hnA
      clear hmA hnA
      rw [hA] at hO' hpc hM
      obtain ⟨O', hOe⟩ : ∃ O', putO L s0 s1 (Atl A n) O = O' := ⟨_, rfl⟩
      rw [hOe] at hO'
      obtain ⟨⟨k, hk, hkl⟩, hg, hC, eP, eC⟩ := hT
      have hO2 : ∀ m, O' m = if m = k then pasteL (Lm L k).w (Lm L k).h (Lm L k).c (O k) ((tlR L s0 s1 (Atl A n)).x1 - (tlR L s0 s1 (Atl A n)).x0) ((tlR L s0 s1 (Atl A n)).y1 - (tlR L s0 s1 (Atl A n)).y0) (tC L s0 s1 (Atl A n).level (Atl A n).i) (tlP L s0 s1 (Atl A n)) (tlR L s0 s1 (Atl A n)).x0 (tlR L s0 s1 (Atl A n)).y0 else O m := fun m => by
        rw [← hOe]
        unfold putO
        rw [hk, Int.toNat_natCast]
      have hOl := hO.len k hkl
      have lP := few_at2 hfew hkl
      have bA : (tlP L s0 s1 (Atl A n)).length ≤ 16777216 := by rw [eP]; exact hC.back.fit
      obtain ⟨ti, hti⟩ : ∃ ti, (Atl A n).i = ti := ⟨_, rfl⟩
      have eR : tlR L s0 s1 (Atl A n) = gtile (stG L s0 s1 (k : Int)) ti := by
        show gtile (stG L s0 s1 (Atl A n).level) (Atl A n).i = _
        rw [hk, hti]
      have ea : tlP L s0 s1 (Atl A n) = tP L s0 s1 (k : Int) ti := by
        show tP L s0 s1 (Atl A n).level (Atl A n).i = _
        rw [hk, hti]
      rw [eR, ea, hk, hti, Int.toNat_natCast] at hpc
      rw [ea, hk, Int.toNat_natCast] at hM
      rw [hk, hti] at hg
      rw [ea] at bA
      simp only [eR, ea, hk, hti] at hO2
      rw [hk, hti, Int.toNat_natCast] at eC
      rw [eC] at hpc
      simp only [eC] at hO2
      have hb := hC.b
      rw [eR] at hb
      have hfw := fits_inv hC.f
      rw [hk, Int.toNat_natCast] at hb hfw
      have lb := left_bd hs hkl n
      clear hC eP eR ea hOe
      obtain ⟨r, hr⟩ : ∃ r, gtile (stG L s0 s1 (k : Int)) ti = r := ⟨_, rfl⟩
      obtain ⟨a, ha⟩ : ∃ a, tP L s0 s1 (k : Int) ti = a := ⟨_, rfl⟩
      rw [hr, ha] at hpc
      rw [hr] at hb
      obtain ⟨b0, b1, b2, b3, b4, b5⟩ := hb
      obtain ⟨f0, f1, f2, f3, f4, f5⟩ := hfw
      rw [ha] at hM bA
      simp only [hr, ha] at hO2
      have hkA : (A.getD (0 + (n : Int).toNat) Tl.z).level = (k : Int) := by rw [Nat.zero_add]; exact hk
      have hiA : (A.getD (0 + (n : Int).toNat) Tl.z).i = ti := by rw [Nat.zero_add]; exact hti
      have hg' : gis (stG L s0 s1 (A.getD (0 + (n : Int).toNat) Tl.z).level) (A.getD (0 + (n : Int).toNat) Tl.z).i = true := by rw [hkA, hiA]; exact hg
      have hr' : gtile (stG L s0 s1 (A.getD (0 + (n : Int).toNat) Tl.z).level) (A.getD (0 + (n : Int).toNat) Tl.z).i = r := by rw [hkA, hiA]; exact hr
      (repeat' (first | (refine xI (fun hfk => ?_) (fun hfk => ?_) <;> ((try (first | replace hfk := oT hfk | replace hfk := oF hfk | simp only [oD, ne_eq, reduceCtorEq] at hfk)); (try exact oX))) | (refine And.intro ?ob ?_; (case ob => (exact oZ))) | exact True.intro | (show _ = _; first | exact oY | exact rfl) | exact oW | (apply And.intro)))
      refine ⟨[(0, imsA L), (4, .fls), (5, .ptr 0 0), (7, .sl 2 4 0 L.length), (8, .sl 3 1 0 L.length), (82, .sl 4 2 0 A.length), (83, .int .i64 (A.length : Int)), (84, .int .i64 (n : Int)), (12, .ptr 5 0), (13, .ptr 6 0), (14, .bool true)], ⟨7, [(0, some (.cells 126 [.sl 1 4 0 L.length, .int .i64 s0, .int .i64 s1, .int .i64 (n : Int)])), (1, some (rowA L L.length)), (2, some (.recs 40 4 L.length (outA L O))), (3, some (.ints 3 .i64 (leftL L s0 s1 n))), (4, some (.recs 62 2 A.length (tlF A))), (5, some (.cells 62 [.int .i64 (k : Int), .int .i64 ti])), (6, some (.cells 64 [.int .i64 r.x0, .int .i64 r.y0, .int .i64 r.x1, .int .i64 r.y1]))]⟩, [some 0, some 1, some 2, some 3, some 4, some 5, some 6], ?_, ?_⟩
      · (repeat' (first | (refine And.intro ?_ ?_) | exact True.intro | (show _ = _; with_reducible rfl) | exact Chk.mk (by kernel_rfl)))
        all_goals first | rfl | exact hkA | exact hiA | exact hg' | exact congrArg R4.x0 hr' | exact congrArg R4.y0 hr' | exact congrArg R4.x1 hr' | exact congrArg R4.y1 hr' | (exact fun _ _ => rfl) | exact ef
      (repeat' (first | (refine xI (fun hfk => ?_) (fun hfk => ?_) <;> ((try (first | replace hfk := oT hfk | replace hfk := oF hfk | simp only [oD, ne_eq, reduceCtorEq] at hfk)); (try exact oX))) | (refine And.intro ?ob ?_; (case ob => (exact oZ))) | exact True.intro | (show _ = _; first | exact oY | (exact ef; done) | exact rfl) | exact oW | (apply And.intro)))
      (refine ⟨[0, 1], ⟨by kernel_rfl⟩, ?_⟩)
      (repeat' (first | (refine xI (fun hfk => ?_) (fun hfk => ?_) <;> ((try (first | replace hfk := oT hfk | replace hfk := oF hfk | simp only [oD, ne_eq, reduceCtorEq] at hfk)); (try exact oX))) | (refine And.intro ?ob ?_; (case ob => (exact oZ))) | exact True.intro | (show _ = _; first | exact oY | (exact ef; done) | exact rfl) | exact oW | (apply And.intro)))
      refine ⟨[15], ?_⟩
      (repeat' (first | (refine xI (fun hfk => ?_) (fun hfk => ?_) <;> ((try (first | replace hfk := oT hfk | replace hfk := oF hfk | simp only [oD, ne_eq, reduceCtorEq] at hfk)); (try exact oX))) | (refine And.intro ?ob ?_; (case ob => (exact oZ))) | exact True.intro | (show _ = _; first | exact oY | exact rfl) | exact oW | (apply And.intro)))
      have hx : AV.agg [.int .i64 ((gtile (stG L s0 s1 (k : Int)) ti).x1 - (gtile (stG L s0 s1 (k : Int)) ti).x0), .int .i64 ((gtile (stG L s0 s1 (k : Int)) ti).y1 - (gtile (stG L s0 s1 (k : Int)) ti).y0), .int .i64 (tC L s0 s1 (k : Int) ti), .roi .u8 (List.take (tP L s0 s1 (k : Int) ti).length (List.drop 0 (tP L s0 s1 (k : Int) ti)))] = .agg [.int .i64 (r.x1 - r.x0), .int .i64 (r.y1 - r.y0), .int .i64 (Lm L k).c, .roi .u8 a] := by
        rw [hr, eC, ha, List.drop_zero, List.take_length]
      have iv : (if gis (stG L s0 s1 (k : Int)) ti = true then (0 : Int) else 11) = 0 := if_pos hg
      have ic : (if gis (stG L s0 s1 (k : Int)) ti = true then (n : Int) + 1 else (n : Int)) = (n : Int) + 1 := if_pos hg
      refine ⟨[(0, imsA L), (4, .fls), (5, .ptr 0 0), (7, .sl 2 4 0 L.length), (8, .sl 3 1 0 L.length), (82, .sl 4 2 0 A.length), (83, .int .i64 (A.length : Int)), (84, .int .i64 (n : Int)), (12, .ptr 5 0), (13, .ptr 6 0), (14, .bool true), (15, .rop (.agg [.int .i64 (r.x1 - r.x0), .int .i64 (r.y1 - r.y0), .int .i64 (Lm L k).c, .roi .u8 a])), (16, .int .i64 0)], ⟨7, [(0, some (.cells 126 [.sl 1 4 0 L.length, .int .i64 s0, .int .i64 s1, .int .i64 ((n : Int) + 1)])), (1, some (rowA L L.length)), (2, some (.recs 40 4 L.length (outA L O))), (3, some (.ints 3 .i64 (leftL L s0 s1 n))), (4, some (.recs 62 2 A.length (tlF A))), (5, some (.cells 62 [.int .i64 (k : Int), .int .i64 ti])), (6, some (.cells 64 [.int .i64 r.x0, .int .i64 r.y0, .int .i64 r.x1, .int .i64 r.y1]))]⟩, [some 0, some 1, some 2, some 3, some 4, some 5, some 6], ?_, ?_⟩
      · (repeat' (first | (refine And.intro ?_ ?_) | exact True.intro | (show _ = _; with_reducible rfl) | exact Chk.mk (by kernel_rfl)))
        all_goals first | rfl | exact hx | exact iv | exact ic | (exact fun _ _ => rfl)
      clear hx iv ic hg' hr' hkA hiA
      obtain ⟨N, hN⟩ : ∃ N, pasteL (Lm L k).w (Lm L k).h (Lm L k).c (O k) (r.x1 - r.x0) (r.y1 - r.y0) (Lm L k).c a r.x0 r.y0 = N := ⟨_, rfl⟩
      simp only [hN] at hO2
      have rx : rngI .i64 (r.x1 - r.x0) := rng64 (by omega) (by omega)
      have ry : rngI .i64 (r.y1 - r.y0) := rng64 (by omega) (by omega)
      (repeat' (first | (refine xI (fun hfk => ?_) (fun hfk => ?_) <;> ((try (first | replace hfk := oT hfk | replace hfk := oF hfk | simp only [oD, ne_eq, reduceCtorEq] at hfk)); (try exact oX))) | (refine And.intro ?ob ?_; (case ob => (exact oZ))) | exact True.intro | (show _ = _; first | exact oY | exact rfl) | exact oW | (apply And.intro)))
      have zk : 0 + (k : Int).toNat = k := by rw [Nat.zero_add, Int.toNat_natCast]
      have w1 : (Lm L (0 + (k : Int).toNat)).w = (Lm L k).w := by rw [zk]
      have w2 : (Lm L (0 + (k : Int).toNat)).h = (Lm L k).h := by rw [zk]
      have w3 : (Lm L (0 + (k : Int).toNat)).c = (Lm L k).c := by rw [zk]
      have w4 : pasteL (Lm L (0 + (k : Int).toNat)).w (Lm L (0 + (k : Int).toNat)).h (Lm L (0 + (k : Int).toNat)).c (O (0 + (k : Int).toNat)) (r.x1 - r.x0) (r.y1 - r.y0) (Lm L k).c a r.x0 r.y0 = N := by rw [zk]; exact hN
      have w5 : pasteC (Lm L (0 + (k : Int).toNat)).w (Lm L (0 + (k : Int).toNat)).h (Lm L (0 + (k : Int).toNat)).c (O (0 + (k : Int).toNat)).length (r.x1 - r.x0) (r.y1 - r.y0) (Lm L k).c a.length r.x0 r.y0 = 0 := by rw [zk]; exact hpc
      refine ⟨[(0, imsA L), (4, .fls), (5, .ptr 0 0), (7, .sl 2 4 0 L.length), (8, .sl 3 1 0 L.length), (82, .sl 4 2 0 A.length), (83, .int .i64 (A.length : Int)), (84, .int .i64 (n : Int)), (12, .ptr 5 0), (15, .rop (.agg [.int .i64 (r.x1 - r.x0), .int .i64 (r.y1 - r.y0), .int .i64 (Lm L k).c, .roi .u8 a])), (17, .ptr 6 0), (18, .int .i64 0)], ⟨7, [(0, some (.cells 126 [.sl 1 4 0 L.length, .int .i64 s0, .int .i64 s1, .int .i64 ((n : Int) + 1)])), (1, some (rowA L L.length)), (2, some (.recs 40 4 L.length (outA L O))), (3, some (.ints 3 .i64 (leftL L s0 s1 n))), (4, some (.recs 62 2 A.length (tlF A))), (5, some (.cells 62 [.int .i64 (k : Int), .int .i64 ti])), (6, some (.cells 40 [.int .i64 (Lm L k).w, .int .i64 (Lm L k).h, .int .i64 (Lm L k).c, .roi .u8 N]))]⟩, [some 0, some 1, some 2, some 3, some 4, some 5, some 7], ?_, ?_⟩
      · (repeat' (first | (refine And.intro ?_ ?_) | exact True.intro | (show _ = _; with_reducible rfl) | exact Chk.mk (by kernel_rfl)))
        all_goals first | rfl | exact w1 | exact w2 | exact w3 | exact w4 | exact w5 | (exact fun _ _ => rfl)
      clear w1 w2 w3 w4 w5
      (repeat' (first | (refine xI (fun hfk => ?_) (fun hfk => ?_) <;> ((try (first | replace hfk := oT hfk | replace hfk := oF hfk | simp only [oD, ne_eq, reduceCtorEq] at hfk)); (try exact oX))) | (refine And.intro ?ob ?_; (case ob => (exact oZ))) | exact True.intro | (show _ = _; first | exact oY | exact rfl) | exact oW | (apply And.intro)))
      have ho : ∀ m, (if m = 0 + (k : Int).toNat then AV.agg [.int .i64 (Lm L k).w, .int .i64 (Lm L k).h, .int .i64 (Lm L k).c, .roi .u8 N] else outA L O m) = outA L O' m := fun m => by
        rw [zk]
        have h2 := hO2 m
        by_cases e : m = k
        · rw [if_pos e] at h2 ⊢
          show _ = AV.agg [.int .i64 (Lm L m).w, .int .i64 (Lm L m).h, .int .i64 (Lm L m).c, .roi .u8 (O' m)]
          rw [h2, e]
        · rw [if_neg e] at h2 ⊢
          show _ = AV.agg [.int .i64 (Lm L m).w, .int .i64 (Lm L m).h, .int .i64 (Lm L m).c, .roi .u8 (O' m)]
          rw [h2]
      refine ⟨[(0, imsA L), (4, .fls), (5, .ptr 0 0), (7, .sl 2 4 0 L.length), (8, .sl 3 1 0 L.length), (82, .sl 4 2 0 A.length), (83, .int .i64 (A.length : Int)), (84, .int .i64 (n : Int)), (12, .ptr 5 0), (15, .rop (.agg [.int .i64 (r.x1 - r.x0), .int .i64 (r.y1 - r.y0), .int .i64 (Lm L k).c, .roi .u8 a]))], ⟨6, [(0, some (.cells 126 [.sl 1 4 0 L.length, .int .i64 s0, .int .i64 s1, .int .i64 ((n : Int) + 1)])), (1, some (rowA L L.length)), (2, some (.recs 40 4 L.length (outA L O'))), (3, some (.ints 3 .i64 (leftL L s0 s1 n))), (4, some (.recs 62 2 A.length (tlF A))), (5, some (.cells 62 [.int .i64 (k : Int), .int .i64 ti]))]⟩, [some 0, some 1, some 2, some 3, some 4, some 5], ?_, ?_⟩
      · (repeat' (first | (refine And.intro ?_ ?_) | exact True.intro | (show _ = _; with_reducible rfl) | exact Chk.mk (by kernel_rfl)))
        all_goals first | rfl | exact (fun j _ => ho j) | (exact fun _ _ => rfl)
      have ll := leftL_len L s0 s1 n
      have lg := leftL_get L s0 s1 n hkl
      have lgz : (leftL L s0 s1 n).getD (0 + (k : Int).toNat) 0 = leftV L s0 s1 n k := by rw [zk]; exact lg
      have lset : (leftL L s0 s1 n).set (0 + (k : Int).toNat) ((leftL L s0 s1 n).getD (0 + (k : Int).toNat) 0 - (a.length : Int)) = leftL L s0 s1 (n + 1) := by rw [lgz, zk]; exact hM.symm
      (repeat' (first | (refine xI (fun hfk => ?_) (fun hfk => ?_) <;> ((try (first | replace hfk := oT hfk | replace hfk := oF hfk | simp only [oD, ne_eq, reduceCtorEq] at hfk)); (try exact oX))) | (refine And.intro ?ob ?_; (case ob => (exact oZ))) | exact True.intro | (show _ = _; first | exact oY | exact rfl) | exact oW | (apply And.intro)))
      refine ⟨(n + 1, O'), [some 0, some 1, some 2, some 3, some 4], ⟨hlt2, hO'⟩, ?mu, ?_⟩
      case mu => (show A.length - (n + 1) < A.length - n; omega)
      (repeat' (first | (refine And.intro ?_ ?_) | exact True.intro | (show _ = _; with_reducible rfl) | exact Chk.mk (by kernel_rfl)))
      all_goals first | rfl | exact lset | (exact fun _ _ => rfl) | (show (_ : Int) = _; omega)
    · obtain rfl : n = A.length := by omega
      (repeat' (first | (refine xI (fun hfk => ?_) (fun hfk => ?_) <;> ((try (first | replace hfk := oT hfk | replace hfk := oF hfk | simp only [oD, ne_eq, reduceCtorEq] at hfk)); (try exact oX))) | (refine And.intro ?ob ?_; (case ob => (exact oZ))) | exact True.intro | (show _ = _; first | exact oY | exact rfl) | exact oW | (apply And.intro)))
      rw [← hA] at hO ⊢
      refine ⟨Nat, fun i => [(0, imsA L), (4, .fls), (7, .sl 0 4 0 L.length), (8, .sl 1 1 0 L.length), (19, .int .i64 (i : Int))],
        fun i => ⟨2, [(0, some (.recs 40 4 L.length (outA L O))), (1, some (.ints 3 .i64 (leftL L s0 s1 (allT L s0 s1 L.length).length)))]⟩,
        fun i => i ≤ L.length, fun i => L.length - i, ⟨0, [some 2, some 3], Nat.zero_le _, ?_⟩, fun i hi => ?_⟩
      · (repeat' (first | (refine And.intro ?_ ?_) | exact True.intro | (show _ = _; with_reducible rfl) | exact Chk.mk (by kernel_rfl)))
        all_goals first | rfl | (exact fun _ _ => rfl)
      have hi : i ≤ L.length := hi
      have ll := leftL_len L s0 s1 (allT L s0 s1 L.length).length
      dsimp only
      by_cases hlt3 : i < L.length
      · have ei := put_end hs hO hlt3
        have lg := leftL_get L s0 s1 (allT L s0 s1 L.length).length hlt3
        rw [left_end hs hlt3] at lg
        have zi : 0 + (i : Int).toNat = i := by rw [Nat.zero_add, Int.toNat_natCast]
        have lgz : (leftL L s0 s1 (allT L s0 s1 L.length).length).getD (0 + (i : Int).toNat) 0 = 0 := by rw [zi]; exact lg
        have ol : (O (0 + (i : Int).toNat)).length ≤ 1152921504606846975 := by
          rw [zi, ei]
          exact Nat.le_trans (few_at2 hfew hlt3) (by decide)
        have sm : sameM (Lm L (0 + (i : Int).toNat)).w (Lm L (0 + (i : Int).toNat)).h (Lm L (0 + (i : Int).toNat)).c (O (0 + (i : Int).toNat)) (L.getD (i : Int).toNat Im.z).w (L.getD (i : Int).toNat Im.z).h (L.getD (i : Int).toNat Im.z).c (L.getD (i : Int).toNat Im.z).p = true := by
          rw [zi]
          show sameM (Lm L i).w (Lm L i).h (Lm L i).c (O i) (Lm L i).w (Lm L i).h (Lm L i).c (Lm L i).p = true
          rw [ei]
          exact decide_eq_true ⟨rfl, rfl, rfl, rfl⟩
        (repeat' (first | (refine xI (fun hfk => ?_) (fun hfk => ?_) <;> ((try (first | replace hfk := oT hfk | replace hfk := oF hfk | simp only [oD, ne_eq, reduceCtorEq] at hfk)); (try exact oX))) | (refine And.intro ?ob ?_; (case ob => (exact oZ))) | exact True.intro | (show _ = _; first | exact oY | exact rfl) | exact oW | (apply And.intro)))
        refine ⟨i + 1, [some 0, some 1], hlt3, ?mu, ?_⟩
        case mu => (show L.length - (i + 1) < L.length - i; omega)
        (repeat' (first | (refine And.intro ?_ ?_) | exact True.intro | (show _ = _; with_reducible rfl) | exact Chk.mk (by kernel_rfl)))
        all_goals first | rfl | (exact fun _ _ => rfl) | (show (_ : Int) = _; omega)
      · obtain rfl : i = L.length := by omega
        (repeat' (first | (refine xI (fun hfk => ?_) (fun hfk => ?_) <;> ((try (first | replace hfk := oT hfk | replace hfk := oF hfk | simp only [oD, ne_eq, reduceCtorEq] at hfk)); (try exact oX))) | (refine And.intro ?ob ?_; (case ob => (exact oZ))) | exact True.intro | (show _ = _; first | exact oY | exact rfl) | exact oW | (apply And.intro)))
theorem walk_StoreAll' (L : List Im) (s0 s1 : Int) (W : World) {cl : List Value} (hc : CRel noN W NoO [imsA L, .agg [.int .i64 s0, .int .i64 s1]] cl) :
    Calls Try.prog 5 cl.toArray W fun e W' => e = .returned (.bool true) ∧ Below W.heap.size W W' := by
  have hL := lenOK_of hc
  cases hf : fewL L with
  | false => exact sa_few L s0 s1 hL hf W hc
  | true =>
    have h6 : L.length ≤ 6 := few_len hf
    by_cases hs : storeC L s0 s1 = 0
    · exact sa_good L s0 s1 hL hf h6 hs W hc
    · exact sa_bad L s0 s1 hL hf h6 hs W hc
end Go.Proofs.Ytgbekbofeaoniaa

