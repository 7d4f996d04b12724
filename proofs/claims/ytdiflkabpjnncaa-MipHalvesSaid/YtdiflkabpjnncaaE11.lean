
/- The engine, part 11: functions: sound. No condition. -/
import Derived.Test.YtdiflkabpjnncaaE10
namespace Go.Proofs.Ytdiflkabpjnncaa
open Go Go.RowKit
set_option linter.unusedVariables false
set_option linter.unusedSimpArgs false

section
variable {P : Program} {C : Ctx} {R : PN} {w : World} {F Ob : Nat → Prop} {W0 : World} {A : PN} {H H' : AH} {dz : List Deferred} {n : Nat} {O : Nat → Prop}

theorem lk_args : ∀ (l : List AV) (k t : Nat) (y : AV), lk (args0 k l) t = some y → k ≤ t ∧ l[t - k]? = some y
  | [], k, t, y, h => by simp [args0, lk] at h
  | x :: l, k, t, y, h => by
    unfold args0 at h
    rw [lk_cons] at h
    split at h
    · rename_i hkt
      subst hkt
      cases h
      simp
    · rename_i hkt
      obtain ⟨h1, h2⟩ := lk_args l (k + 1) t y h
      refine ⟨by omega, ?_⟩
      have : t - k = (t - (k + 1)) + 1 := by omega
      rw [this]
      simpa using h2

def rvRun (tmps : Array Value) : ResultVar → Sem Value
  | .tmp t => pure (tmps.getD t undef)
  | .cell a t => do loadVar t (← asAddr (tmps.getD a undef))
theorem results_eq (fn : Func) (tmps : Array Value) : results fn tmps = (do let vs ← fn.results.mapM (rvRun tmps); pure (if h : vs.size = 1 then vs[0] else .tuple vs)) := by
  have e : (fun x => match x with | .tmp t => pure (tmps.getD t undef) | .cell a t => do loadVar t (← asAddr (tmps.getD a undef)) : ResultVar → Sem Value) = rvRun tmps := by
    funext x; cases x <;> rfl
  unfold results
  rw [← e]
  rfl

theorem resV_ok (hT : TOK P C.T) {e : Env} {a : Act} (hH : HRel F Ob W0 R H w) (hE : ERel R w (Wr F R H) e a.tmps) : ∀ (rs : List ResultVar) (l : List AV), resV C.T e H rs = some l →
    ∃ cl : List Value, (rs.mapM (rvRun a.tmps)).run P w = .ok cl w ∧ CRel R w (Wr F R H) l cl
  | [], l, h => by simp [resV] at h; subst h; exact ⟨[], by simp, rfl, by simp⟩
  | .tmp t :: rs, l, h => by
    unfold resV at h
    split at h
    · rename_i v r hv hr
      simp at h
      subst h
      obtain ⟨cl, h1, h2⟩ := resV_ok hT hH hE rs r hr
      refine ⟨a.tmps.getD t undef :: cl, by simp only [List.mapM_cons, rvRun, Sem.run_bind, Sem.run_pure, Result.andThen_ok, h1], by simp [h2.1], fun j x u hx hu => ?_⟩
      cases j with
      | zero => simp at hx hu; subst hx; subst hu; have := (hE t v hv).2; simpa using this
      | succ j => exact h2.2 j x u (by simpa using hx) (by simpa using hu)
    · cases h
  | .cell ad ty :: rs, l, h => by
    unfold resV at h
    split at h
    · rename_i p r hp hr
      split at h
      · rename_i v hv
        simp at h
        subst h
        obtain ⟨cl, h1, h2⟩ := resV_ok hT hH hE rs r hr
        obtain ⟨cv, h3, h4⟩ := aload_ok hT hv (by simp) hH (hE ad p hp).2
        have h5 : (rvRun a.tmps (.cell ad ty)).run P w = .ok cv w := by
          show (do loadVar ty (← asAddr (a.tmps.getD ad undef)) : Sem Value).run P w = _
          generalize a.tmps.getD ad undef = u at h3 ⊢
          rw [Sem.run_bind]
          unfold Instr.loadAt at h3
          rw [Sem.run_bind] at h3
          cases u <;> first
            | (simp [Instr.sureAddr, stuck, Result.andThen] at h3; done)
            | skip
          rename_i p
          cases p with
          | none => simp [Instr.sureAddr, stuck, Result.andThen] at h3
          | some ad =>
            simp only [Instr.sureAddr, Sem.run_pure, Result.andThen_ok] at h3
            simp only [asAddr, Sem.run_bind, Sem.run_pure, Result.andThen_ok]
            exact h3
        refine ⟨cv :: cl, by rw [List.mapM_cons, Sem.run_bind, h5]; simp only [Result.andThen_ok, Sem.run_bind, h1, Sem.run_pure], by simp [h2.1], fun j x u hx hu => ?_⟩
        cases j with
        | zero => simp at hx hu; subst hx; subst hu; exact h4
        | succ j => exact h2.2 j x u (by simpa using hx) (by simpa using hu)
      · cases h
    · cases h

theorem resA_ok (hT : TOK P C.T) {fn : Func} {e : Env} {a : Act} {K : AV → AH → Prop} (hH : HRel F Ob W0 R H w) (hE : ERel R w (Wr F R H) e a.tmps) (h : resA C.T fn e H K) :
    ∃ v cv, K v H ∧ (results fn a.tmps).run P w = .ok cv w ∧ Rep R w (Wr F R H) v cv := by
  unfold resA at h
  have key : ∀ l, resV C.T e H fn.results.toList = some l → ∃ cl : List Value, (fn.results.mapM (rvRun a.tmps)).run P w = .ok cl.toArray w ∧ CRel R w (Wr F R H) l cl := by
    intro l hl
    obtain ⟨cl, h1, h2⟩ := resV_ok hT hH hE _ l hl
    refine ⟨cl, ?_, h2⟩
    rw [Array.mapM_eq_mapM_toList]
    simp only [Sem.run_map]
    rw [h1]
    rfl
  split at h
  · rename_i v hv
    obtain ⟨cl, h1, h2⟩ := key _ hv
    obtain ⟨c, rfl⟩ : ∃ c, cl = [c] := by have := h2.1; match cl, this with | [c], _ => exact ⟨c, rfl⟩
    exact ⟨v, c, h, by rw [results_eq, Sem.run_bind, h1]; simp, h2.2 0 v c rfl rfl⟩
  · rename_i l hl hv
    obtain ⟨cl, h1, h2⟩ := key _ hv
    refine ⟨.tup l, .tuple cl.toArray, h, ?_, .tup l cl h2.1 h2.2⟩
    rw [results_eq, Sem.run_bind, h1]
    have : ¬ cl.length = 1 := fun hs => by
      have h3 := h2.1
      rw [hs] at h3
      match l, h3 with | [x], _ => exact hl x rfl
    simp [this]
  · exact h.elim

theorem fn_sound (hC : COK P C) (hp : ∀ (i : Nat) (x : Option Nat), A[i]? = some x → i < C.p) (hmo : P.follows .mixedOrders = true) {g : FuncId} {fn : Func} (hf : P.funcs[g]? = some fn) {body : Code} (hb : fn.body = some body) (hd : dstB fn.ntmps body = true) {l : List AV} (hl : l.length ≤ fn.ntmps)
    {K : AV → AH → Prop} (h : vcFn C fn l H K) {cl : List Value} (hA : ∀ (i : Nat) (x : Option Nat), A[i]? = some x → R[i]? = some x) (hH : HRel F Ob W0 R H w) (hc : CRel R w (Wr F R H) l cl) :
    Calls P g cl.toArray w fun en w' => ∃ R' v H' cv, K v H' ∧ en = .returned cv ∧ (∀ (i : Nat) (x : Option Nat), A[i]? = some x → R'[i]? = some x) ∧ HRel F Ob W0 R' H' w' ∧ Rep R' w' (Wr F R' H') v cv := by
  unfold vcFn at h
  rw [hb] at h
  simp only at h
  have post : ∀ e H a w, resA C.T fn e H K → St F Ob W0 A [] fn.ntmps e H a w → a.defers = [] ∧ ∃ v, (results fn a.tmps).run P w = .ok v w ∧ ∃ R' v' H' cv, K v' H' ∧ Ending.returned v = .returned cv ∧ (∀ (i : Nat) (x : Option Nat), A[i]? = some x → R'[i]? = some x) ∧ HRel F Ob W0 R' H' w ∧ Rep R' w (Wr F R' H') v' cv := by
    rintro e H a w hr ⟨R, hA, g1, g2, g3, g4⟩
    obtain ⟨v, cv, hk, hrun, hrep⟩ := resA_ok hC.T g1 g2 hr
    exact ⟨g3, cv, hrun, R, v, H, cv, hk, rfl, hA, g1, hrep⟩
  refine calls_of_wp hf hb (vc_sound (F := F) (Ob := Ob) (W0 := W0) hC hp hmo body ⟨fun e H => resA C.T fn e H K, fun _ _ _ => False, fun e H => resA C.T fn e H K⟩ _ (fun e H a w hr hS => post e H a w hr hS) (fun i e H a w hr hS => False.elim hr) (fun e H a w hr hS => post e H a w hr hS) hd _ _ _ _ h (.mk R hA hH ?_ rfl ?_))
  · intro t y hy
    obtain ⟨_, h2⟩ := lk_args l 0 t y hy
    simp only [Nat.sub_zero] at h2
    obtain ⟨v, hv, hr⟩ := hc.get h2
    have hlt : t < cl.length := (List.getElem?_eq_some_iff.1 hv).1
    refine ⟨by simp; omega, ?_⟩
    have e : (cl.toArray ++ Array.replicate (fn.ntmps - cl.toArray.size) undef).getD t undef = v := by
      simp [Array.getD_eq_getD_getElem?, Array.getElem?_append, hlt]
      simpa [hlt] using hv
    rw [e]
    exact hr
  · have := hc.1
    simp
    omega

theorem HRel.start {F : Nat → Prop} (hF : FBd F w) : HRel F NoO w noN ⟨0, []⟩ w :=
  ⟨fun _ _ => rfl, Ext.refl _ _, ⟨fun b hb => ⟨hF.1 b hb, fun k => k⟩, hF.2.mono fun b k => k.elim id False.elim⟩, fun b ⟨i, e, h, _⟩ => by simp [AH.get, geth] at h, fun i e h => by simp [AH.get, geth] at h, fun i j e e' b h => by simp [AH.get, geth] at h⟩

theorem viewR_rep (hH : HRel F Ob W0 R H w) {x : AV} {v : Value} (hx : Rep R w (Wr F R H) x v) {obs : List Prop} {r : AV} (h : viewR H x = some (obs, r)) (ho : ∀ p ∈ obs, p) : Rep noN w F r v := by
  unfold viewR at h
  split at h
  · obtain ⟨vs, rfl, hc⟩ := rep_tup hx
    split at h
    · rename_i p r' h1
      simp only [Option.some.injEq, Prod.mk.injEq] at h
      obtain ⟨rfl, rfl⟩ := h
      have := viewAs_rep hH hc h1 ho
      exact .tup _ vs this.1 this.2
    · cases h
  · exact view1_rep hH hx h ho

/-- A function answers as s says. -/
def SOK (P : Program) (g : FuncId) (s : PSpec) : Prop := callable P g ∧ ∀ l obs v, s l = some (obs, v) → (∀ p ∈ obs, p) → ∀ (w : World) (O : Nat → Prop) (cl : List Value),
  FBd O w → CRel noN w O l cl → Calls P g cl.toArray w fun en w' => ∃ cv, en = .returned cv ∧ Ext (fun _ => False) w w' ∧ Rep noN w' O v cv

/-- What is to be known of a function's form. -/
structure FnOK (P : Program) (g : FuncId) (fn : Func) : Prop where
  f : P.funcs[g]? = some fn
  nm : (fn.name == "runtime.NumGoroutine") = false
  b : fn.body.isNone = false
  d : (match fn.body with | some c => dstB fn.ntmps c | none => false) = true

/-- What is to be shown of a function: from its conditions to its calls. -/
def Snd (P : Program) (p : Nat) (g : FuncId) (l : List AV) (H : AH) (K : AV → AH → Prop) : Prop := ∀ (F Ob : Nat → Prop) (W0 : World) (A R : PN) (w : World) (cl : List Value),
  (∀ (i : Nat) (x : Option Nat), A[i]? = some x → i < p) → (∀ (i : Nat) (x : Option Nat), A[i]? = some x → R[i]? = some x) → HRel F Ob W0 R H w → CRel R w (Wr F R H) l cl →
  Calls P g cl.toArray w fun en w' => ∃ R' v H' cv, K v H' ∧ en = .returned cv ∧ (∀ (i : Nat) (x : Option Nat), A[i]? = some x → R'[i]? = some x) ∧ HRel F Ob W0 R' H' w' ∧ Rep R' w' (Wr F R' H') v cv
theorem snd_of (hC : COK P C) (hmo : P.follows .mixedOrders = true) {g : FuncId} {fn : Func} (hf : FnOK P g fn) {l : List AV} {K : AV → AH → Prop} (hl : l.length ≤ fn.ntmps) (h : vcFn C fn l H K) : Snd P C.p g l H K := by
  intro F Ob W0 A R w cl hp hA hH hc
  have hd := hf.d
  cases hb : fn.body with
  | none => have := hf.b; rw [hb] at this; cases this
  | some body =>
    rw [hb] at hd
    exact fn_sound hC hp hmo hf.f hb hd hl h hA hH hc
theorem sok_snd {g : FuncId} {fn : Func} (hf : FnOK P g fn) {s : PSpec} (h : ∀ l obs v, s l = some (obs, v) → (∀ p ∈ obs, p) → Snd P 0 g l ⟨0, []⟩ (Ret v)) : SOK P g s := by
  refine ⟨⟨fn, hf.f, hf.nm, hf.b⟩, fun l obs v hs ho w O cl hO hc => ?_⟩
  have hst := HRel.start hO
  have wr0 : ∀ b, Wr O noN ⟨0, []⟩ b → O b := fun b hb => hb.elim id fun ⟨i, e, h, _⟩ => by simp [AH.get, geth] at h
  refine (h l obs v hs ho O NoO w noN noN w cl (fun i x h => by cases h) (fun _ _ k => k) hst ⟨hc.1, fun j x v hx hv => (hc.2 j x v hx hv).mono (fun _ _ k => k) (Ext.refl O _) fun b _ k => wr0 b k⟩).mono fun en w' ⟨R', v', H', cv, hk, he, _, hH, hr⟩ => ?_
  refine ⟨cv, he, hH.ext.weaken (fun _ _ k => k), ?_⟩
  unfold Ret at hk
  split at hk
  · rename_i obs' r hv
    obtain ⟨k1, k2⟩ := obl_inv hk
    have := mat_rep (σ := []) k2 (viewR_rep hH hr hv k1)
    have e : reN [] noN = noN := by simp [reN, noN]
    rw [e] at this
    exact this
  · exact hk.elim
theorem sok_of (hC : COK P C) (hp : C.p = 0) (hmo : P.follows .mixedOrders = true) {g : FuncId} {fn : Func} (hf : FnOK P g fn) {s : PSpec}
    (h : ∀ l obs v, s l = some (obs, v) → (∀ p ∈ obs, p) → l.length ≤ fn.ntmps ∧ vcFn C fn l ⟨0, []⟩ (Ret v)) : SOK P g s :=
  sok_snd hf fun l obs v hs ho => by
    obtain ⟨h1, h2⟩ := h l obs v hs ho
    have := snd_of hC hmo hf h1 h2
    rwa [hp] at this

def slook : List (FuncId × PSpec) → FuncId → Option PSpec
  | [], _ => none
  | (g, s) :: r, f => bif Nat.beq g f then some s else slook r f

theorem pok_nil : POK P (slook []) := fun g s h => by cases h
theorem pok_cons {g : FuncId} {s : PSpec} {r : List (FuncId × PSpec)} (h : SOK P g s) (k : POK P (slook r)) : POK P (slook ((g, s) :: r)) := fun f t ht => by
  unfold slook at ht
  cases hb : Nat.beq g f
  · rw [hb] at ht; exact k f t ht
  · rw [hb] at ht
    cases ht
    have := beq_iff.1 hb
    subst this
    exact h

theorem tok_of {l : List (Nat × TI)} (h : l.map (fun p => probe P p.1) = l.map (fun p => some p.2)) : TOK P (tlook l) := by
  induction l with
  | nil => intro t i h; cases h
  | cons p r ih =>
    obtain ⟨s, v⟩ := p
    simp only [List.map_cons, List.cons.injEq] at h
    intro t i ht
    unfold tlook at ht
    cases hb : Nat.beq s t
    · rw [hb] at ht; exact ih h.2 t i ht
    · rw [hb] at ht
      cases ht
      have := beq_iff.1 hb
      subst this
      exact h.1
end
end Go.Proofs.Ytdiflkabpjnncaa
