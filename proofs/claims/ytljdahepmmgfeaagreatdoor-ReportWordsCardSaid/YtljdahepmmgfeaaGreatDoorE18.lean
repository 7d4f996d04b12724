
/- The engine, part 18: functions that hold a range over a function: their conditions, sound. No condition. -/
import Derived.Test.YtljdahepmmgfeaaGreatDoorE17
namespace Go.Proofs.YtljdahepmmgfeaaGreatDoor
open Go Go.RowKit
set_option linter.unusedVariables false
set_option linter.unusedSimpArgs false

/-- The entries of these names are the same. -/
def sameE : List Nat → AH → AH → Prop
  | [], _, _ => True
  | i :: l, H, H' => H'.get i = H.get i ∧ sameE l H H'
/-- How many rounds an iterator has, and what each is handed: of the function's captured values, and what they lead to. -/
abbrev RSpec : Type := List AV → AH → Option (List Prop × Nat × (Nat → List AV))
def KWof (cap : List AV) (H : AH) (R R' : PN) (O' : Nat → Prop) (W : World) : Prop :=
  (∀ (i : Nat) (x : Option Nat), R[i]? = some x → R'[i]? = some x) ∧ ∃ (F' Ob' : Nat → Prop) (W0' : World) (H' : AH), HRel F' Ob' W0' R' H' W ∧ O' = Wr F' R' H' ∧ sameE (nmsL cap) H H'
def RSOK (P : Program) (gf : FuncId) (rs : RSpec) : Prop := callable P gf ∧ ∀ cap H obs N items, rs cap H = some (obs, N, items) → (∀ p ∈ obs, p) → ∀ (F Ob : Nat → Prop) (W0 : World) (R : PN) (w : World) (lb : List Value), HRel F Ob W0 R H w → CRel R w (Wr F R H) cap lb →
  IterOK P gf lb.toArray N items (KWof cap H R)

def putl : List Tmp → List AV → Env → Env
  | t :: l, x :: xs, e => putl l xs ((t, x) :: e)
  | _, _, e => e
def atP (C : Ctx) (q : Nat) : Ctx := ⟨q, C.T, C.S, C.G, C.xs, C.X, C.cut, C.XD, C.XN, C.DX⟩
noncomputable def rangeVC (C : Ctx) (RT : FuncId → Option RSpec) (g : Operand) (ps : List Tmp) (assign body : Code) (e : Env) (H : AH) (K : KK) : Prop :=
  ∃ (E : Env) (H0 : AH) (σ : Names), Le C.p σ e H E H0 ∧
    match evA E g with
    | some (.fn gf 0 cap) => (match RT gf with
      | some rs => (match rs cap H0 with
        | some (obs, N, items) => obl obs ((∀ k, (items k).length = ps.length) ∧ ∃ (γ : Type) (A : Nat → γ → AH) (φ : Nat → γ → Prop),
            (∃ g0 σ, φ 0 g0 ∧ Le H0.nx σ [] H0 [] (A 0 g0)) ∧ (∀ k g, φ k g → sameE (nmsL cap) H0 (A k g)) ∧
            (∀ k, k < N → ∀ g, φ k g → vc (atP C H0.nx) assign (putl ps (items k) E) (A k g)
              ⟨fun e1 H1 => vc (atP C H0.nx) body e1 H1 ⟨fun _ H' => ∃ g' σ, φ (k + 1) g' ∧ Le H0.nx σ [] H' [] (A (k + 1) g'), fun i _ H' => K.ext i E H', fun _ H' => K.ret E H'⟩, fun _ _ _ => False, fun _ _ => False⟩) ∧
            (∀ g, φ N g → K.nor E (A N g)))
        | none => False)
      | none => False)
    | _ => False

noncomputable def vcR (C : Ctx) (RT : FuncId → Option RSpec) (c : Code) : Env → AH → KK → Prop :=
  Code.rec (motive := fun _ => Env → AH → KK → Prop)
    (fun e H K => K.nor e H)
    (fun id ops draw e H K => vcRegion C ops.toList draw e H (cutK C id K.nor))
    (fun _ _ va vb e H K => va e H ⟨fun e' H' => vb e' H' K, K.ext, K.ret⟩)
    (fun c _ _ vx vy e H K => match evA e c with
      | some .tru => vx e H K
      | some .fls => vy e H K
      | some (.bool b) => (b = true → vx e H K) ∧ (b = false → vy e H K)
      | _ => False)
    (fun id _ vb e H K => vb e H ⟨K.nor, fun i e' H' => bif Nat.beq i id then K.nor e' H' else K.ext i e' H', K.ret⟩)
    (fun _ vb e H K => LoopVC C.p e H fun e' H' K' => vb e' H' ⟨K', K.ext, K.ret⟩)
    (fun g ps assign body _ _ e H K => rangeVC C RT g ps.toList assign body e H K)
    (fun id e H K => K.ext id e H)
    (fun _ _ _ _ _ => False)
    (fun _ _ _ _ => False)
    (fun _ _ _ _ => False)
    (fun e H K => K.ret e H)
    (fun _ _ _ _ => False) c
noncomputable def vcFnR (C : Ctx) (RT : FuncId → Option RSpec) (fn : Func) (args : List AV) (H : AH) (K : AV → AH → Prop) : Prop :=
  match fn.body with
  | some c => vcR C RT c (args0 0 args) H ⟨fun e H => resA C.T fn e H K, fun _ _ _ => False, fun e H => resA C.T fn e H K⟩
  | none => False
def rgB (n : Nat) : Code → Bool
  | .rangeFunc _ ps assign body => ps.toList.all (fun t => Nat.blt t n) && dstB n assign && dstB n body && flatC assign && flatC body
  | .seq a b | .cond _ a b => rgB n a && rgB n b
  | .block _ c | .loop c => rgB n c
  | _ => true

section
variable {P : Program} {C : Ctx} {RT : FuncId → Option RSpec} {R : PN} {w : World} {F Ob : Nat → Prop} {W0 : World} {A : PN} {H H' : AH} {dz : List Deferred} {n : Nat} {O : Nat → Prop} {σ : Names}

theorem erel_params : ∀ (l : List Tmp) (xs : List AV) (vs : List Value) (e : Env) (tmps : Array Value), ERel R w O e tmps → CRel R w O xs vs → (∀ t ∈ l, t < tmps.size) →
    ERel R w O (putl l xs e) ((l.zip vs).foldl (fun t p => t.setIfInBounds p.1 p.2) tmps)
  | [], xs, vs, e, tmps, h, _, _ => by cases xs <;> simpa [putl] using h
  | t :: l, [], vs, e, tmps, h, hc, _ => by
    have := hc.1
    cases vs with
    | nil => simpa [putl] using h
    | cons v vs => simp at this
  | t :: l, x :: xs, vs, e, tmps, h, hc, ht => by
    cases vs with
    | nil => have := hc.1; simp at this
    | cons v vs =>
      simp only [putl, List.zip_cons_cons, List.foldl_cons]
      refine erel_params l xs vs _ _ (fun s y hy => ?_) ⟨by have := hc.1; simpa using this, fun j a b ha hb => hc.2 (j + 1) a b (by simpa using ha) (by simpa using hb)⟩ (fun s hs => by rw [Array.size_setIfInBounds]; exact ht s (by simp [hs]))
      rw [lk_cons] at hy
      have hlt := ht t (by simp)
      split at hy
      · rename_i e1
        subst e1
        cases hy
        refine ⟨by rw [Array.size_setIfInBounds]; exact hlt, ?_⟩
        have : (tmps.setIfInBounds t v).getD t undef = v := by simp [Array.getD_eq_getD_getElem?, hlt]
        rw [this]
        exact hc.2 0 x v rfl rfl
      · rename_i e1
        obtain ⟨k1, k2⟩ := h s y hy
        refine ⟨by rw [Array.size_setIfInBounds]; exact k1, ?_⟩
        have : (tmps.setIfInBounds t v).getD s undef = tmps.getD s undef := by
          simp only [Array.getD_eq_getD_getElem?]
          rw [Array.getElem?_setIfInBounds_ne e1]
        rw [this]
        exact k2
theorem fold_size : ∀ (l : List (Tmp × Value)) (tmps : Array Value), (l.foldl (fun t p => t.setIfInBounds p.1 p.2) tmps).size = tmps.size
  | [], _ => rfl
  | p :: l, tmps => by rw [List.foldl_cons, fold_size l, Array.size_setIfInBounds]

def mark (D : Nat) : Deferred := { target := .collected D, args := #[] }
/-- Calls that are put off: marks of loops that are over. -/
def Marks (W0 W1 : World) (Ob' : Nat → Prop) (dz : List Deferred) : Prop := ∃ Ds : List Nat, dz = Ds.map mark ∧ Ds.Nodup ∧ ∀ D ∈ Ds, W0.heap.size ≤ D ∧ W1.heap[D]? = some (.deferred (some [])) ∧ ¬ Ob' D
inductive StB (F Ob : Nat → Prop) (W0 : World) (A : PN) (n : Nat) (e : Env) (H : AH) (a : Act) (w : World) : Prop
  | mk (Ob' : Nat → Prop) (W1 : World) (dz : List Deferred) (hm : Marks W0 W1 Ob' dz) (hx : Ext Ob W0 W1) (ho : ∀ b, Ob' b → Ob b ∨ W0.heap.size ≤ b) (hf : FB F Ob W0) (hs : St F Ob' W1 A dz n e H a w) : StB F Ob W0 A n e H a w

theorem toBase {Ob' : Nat → Prop} {W1 : World} (hx : Ext Ob W0 W1) (ho : ∀ b, Ob' b → Ob b ∨ W0.heap.size ≤ b) (hf : FB F Ob W0) (k : HRel F Ob' W1 R H w) : HRel F Ob W0 R H w :=
  ⟨k.len, hx.trans k.ext (fun x h1 h2 => (ho x h2).resolve_right (Nat.not_le.2 h1)), hf, fun b hb => (k.own b hb).elim (ho b) (fun g => .inr (Nat.le_trans hx.size g)), k.ent, k.dis⟩
theorem Le.soundB {p : Nat} (hp : ∀ (i : Nat) (x : Option Nat), A[i]? = some x → i < p) {e e' : Env} {a : Act} (h : Le p σ e H e' H') (hS : StB F Ob W0 A n e H a w) : StB F Ob W0 A n e' H' a w := by
  obtain ⟨Ob', W1, dz, hm, hx, ho, hf, hS⟩ := hS
  exact .mk Ob' W1 dz hm hx ho hf (h.sound hp hS)
theorem cok_at (hC : COK P C) (q : Nat) : COK P (atP C q) := ⟨hC.T, hC.S, hC.G, hC.D, ⟨hC.Y.congr, hC.Y.out⟩⟩

theorem range_sound (hC : COK P C) (hRT : ∀ g rs, RT g = some rs → RSOK P g rs) (hp : ∀ (i : Nat) (x : Option Nat), A[i]? = some x → i < C.p) (hmo : P.follows .mixedOrders = true) {g : Operand} {ps : Array Tmp} {assign body : Code} {K : KK} {Q : Exit → Act → World → Prop}
    (h1 : ∀ e H a w, K.nor e H → StB F Ob W0 A n e H a w → Q .normal a w) (h2 : ∀ i e H a w, K.ext i e H → StB F Ob W0 A n e H a w → Q (.exit i) a w) (h3 : ∀ e H a w, K.ret e H → StB F Ob W0 A n e H a w → Q .ret a w)
    (hr : rgB n (.rangeFunc g ps assign body) = true) {e : Env} {a : Act} (h : rangeVC C RT g ps.toList assign body e H K) (hS : StB F Ob W0 A n e H a w) : (Code.rangeFunc g ps assign body).wp P Q a w := by
  obtain ⟨Ob', W1, dz, hm, hx, ho, hf, hS⟩ := hS
  obtain ⟨E, H0, σ, hle, h⟩ := h
  obtain ⟨R0, hA, g1, g2, g3, g4⟩ := hle.sound hp hS
  clear hS hle
  simp only [rgB, Bool.and_eq_true] at hr
  obtain ⟨⟨⟨⟨r1, r2⟩, r3⟩, r4⟩, r5⟩ := hr
  split at h
  rotate_left
  · exact h.elim
  rename_i gf cap hg
  split at h
  rotate_left
  · exact h.elim
  rename_i rs hrs
  split at h
  rotate_left
  · exact h.elim
  rename_i obs N items hit
  obtain ⟨hob, hlen, γ, AA, φ, ⟨g0, σ0, hφ0, hle0⟩, hsame, hround, hend⟩ := obl_inv h
  obtain ⟨hcall, hrs'⟩ := hRT gf rs hrs
  have hrep := evA_rep g2 hg
  generalize hv : a.eval g = v at hrep
  obtain ⟨vs, rfl, hc⟩ : ∃ vs : List Value, v = .func (.func gf) #[] vs.toArray ∧ CRel R0 w (Wr F R0 H0) cap vs := by
    cases hrep with
    | fn _ _ _ vs hl hvs => exact ⟨vs, rfl, hl, hvs⟩
  have hiter := hrs' cap H0 obs N items hit hob F Ob' W1 R0 w vs g1 hc
  have hp' : ∀ (i : Nat) (x : Option Nat), R0[i]? = some x → i < H0.nx := fun i x hi => by
    rcases Nat.lt_or_ge i H0.nx with k | k
    · exact k
    · rw [g1.len i k] at hi; cases hi
  have base : ∀ {R' : PN} {H' : AH} {W : World}, HRel F (Own R0 H0) w R' H' W → HRel F Ob W0 R' H' W := fun k => toBase hx ho hf (g1.back k)
  -- the state behind the loop
  have behind : ∀ {D : Nat} {R' : PN} {H' : AH} {W : World}, w.heap.size ≤ D → (∀ (i : Nat) (x : Option Nat), R0[i]? = some x → R'[i]? = some x) → HRel F (Own R0 H0) w R' H' W → W.heap[D]? = some (.deferred (some [])) →
      StB F Ob W0 A n E H' { a with defers := { target := .collected D, args := #[] } :: a.defers } W := by
    intro D R' H' W hD hRR hH hdef
    refine .mk (Own R' H') W (mark D :: dz) ?_ (base hH).ext (base hH).own hf (.mk R' (fun i x hi => hRR i x (hA i x hi)) (base hH).rebase (g2.later g1 hH hRR) (by rw [← g3]; rfl) g4)
    obtain ⟨Ds, rfl, hnd, hDs⟩ := hm
    refine ⟨D :: Ds, rfl, List.nodup_cons.2 ⟨fun hmem => ?_, hnd⟩, fun D' hD' => ?_⟩
    · have k1 := (Array.getElem?_eq_some_iff.1 (hDs D hmem).2.1).1
      have k2 := g1.ext.size
      omega
    · rcases List.mem_cons.1 hD' with rfl | hD'
      · refine ⟨Nat.le_trans (Nat.le_trans hx.size g1.ext.size) hD, hdef, fun k => hH.own_nc k ⟨_, hdef, rfl⟩⟩
      · obtain ⟨k1, k2, k3⟩ := hDs D' hD'
        have k4 : W.heap[D']? = some (.deferred (some [])) := ((g1.back hH).ext.blk D' (Array.getElem?_eq_some_iff.1 k2).1 k3).trans k2
        exact ⟨k1, k4, fun k => hH.own_nc k ⟨_, k4, rfl⟩⟩
  refine wp_rangeIx (lb := vs.toArray) (N := N) hv (enters_callable hcall) hiter (fun k => by have := hlen k; simp at this; exact this)
    (fun k R' O' W => ∃ g, φ k g ∧ (∀ (i : Nat) (x : Option Nat), R0[i]? = some x → R'[i]? = some x) ∧ HRel F (Own R0 H0) w R' (AA k g) W ∧ O' = Wr F R' (AA k g))
    (fun c W => ∃ R' H', (∀ (i : Nat) (x : Option Nat), R0[i]? = some x → R'[i]? = some x) ∧ HRel F (Own R0 H0) w R' H' W ∧ (match c with | .ret => K.ret E H' | .exit i => K.ext i E H' | _ => False))
    (fun k R' O' W W' ⟨g, q1, q2, q3, q4⟩ hx => ⟨g, q1, q2, q3.monoN hx, q4⟩) (fun c W W' ⟨R', H', q1, q2, q3⟩ hx => ⟨R', H', q1, q2.monoN hx, q3⟩)
    (fun k R' O' W ⟨g, q1, q2, q3, q4⟩ => ⟨q2, F, Own R0 H0, w, AA k g, q3, q4, hsame k g q1⟩) ?_ ?_ ?_ ?_
  · obtain ⟨R', q1, q2, _, _, _⟩ := Le.sound (A := R0) hp' hle0 (St.mk (F := F) (Ob := Own R0 H0) (W0 := w) (dz := dz) (n := n) (a := a) R0 (fun _ _ k => k) g1.rebase (fun t v k => by cases k) g3 g4)
    exact ⟨R', _, g0, hφ0, q1, q2, rfl⟩
  · intro l k R' O' W args K' hk ⟨gg, hφ, hRR, hH, hO⟩ hitk hl hK
    subst hO
    have hEW := g2.later g1 hH hRR
    have hzip : (ps.zip args.toArray).foldl (fun t (p, v) => t.setIfInBounds p v) a.tmps = (ps.toList.zip args).foldl (fun t p => t.setIfInBounds p.1 p.2) a.tmps := by
      obtain ⟨ps⟩ := ps
      simp [List.zip_toArray]
    rw [hzip]
    have hS1 : St F (Own R' (AA k gg)) W R0 [] n (putl ps.toList (items k) E) (AA k gg) { tmps := (ps.toList.zip args).foldl (fun t p => t.setIfInBounds p.1 p.2) a.tmps, defers := [] } W :=
      .mk R' hRR hH.rebase (erel_params _ _ _ _ _ hEW hitk (fun t ht => by rw [g4]; exact Nat.le_of_ble_eq_true (List.all_eq_true.1 r1 t ht))) rfl (by rw [fold_size]; exact g4)
    refine vc_fl (C := atP C H0.nx) (lo := some l) (d := 0) (cok_at hC _) hp' hmo assign ⟨fun e1 H1 => vc (atP C H0.nx) body e1 H1 ⟨fun _ H' => ∃ g' σ, φ (k + 1) g' ∧ Le H0.nx σ [] H' [] (AA (k + 1) g'), fun i _ H' => K.ext i E H', fun _ H' => K.ret E H'⟩, fun _ _ _ => False, fun _ _ => False⟩ (Exit.then K' (fun _ _ _ => False)) (fun _ _ k => k) ?_ (fun i e H a w k _ => k.elim) (fun e H a w k _ => k.elim) r2 r4 _ _ _ _ (hround k hk gg hφ) hS1
    intro e1 H1 a1 w1 hv1 hS2
    obtain ⟨R1, hA1, k1, k2, k3, k4⟩ := hS2
    refine hK a1 w1 (hH.keeps k1) fun w2 hx2 => ?_
    have b2 : HRel F (Own R0 H0) w R1 H1 w2 := (hH.back k1).monoN hx2
    refine vc_fl (C := atP C H0.nx) (lo := some l) (d := 0) (cok_at hC _) hp' hmo body ⟨fun _ H' => ∃ g' σ, φ (k + 1) g' ∧ Le H0.nx σ [] H' [] (AA (k + 1) g'), fun i _ H' => K.ext i E H', fun _ H' => K.ret E H'⟩ _ (fun _ _ k => k) ?_ ?_ ?_ r3 r5 _ _ _ _ hv1 (.mk R1 hA1 b2.rebase (k2.monoN (hx2.weaken fun _ _ k => k.2)) k3 k4)
    · intro e3 H3 a3 w3 ⟨g', σ', hφ', hle'⟩ hS3
      obtain ⟨R3, hA3, m1, m2, m3, m4⟩ := hS3
      obtain ⟨R4, q1, q2, _, _, _⟩ := Le.sound (A := R0) hp' hle' (St.mk (a := a3) R3 hA3 m1 (fun t v k => by cases k) m3 m4)
      exact ⟨b2.keeps m1, R4, _, g', hφ', q1, b2.back q2, rfl⟩
    · intro i e3 H3 a3 w3 hk3 hS3
      obtain ⟨R3, hA3, m1, m2, m3, m4⟩ := hS3
      exact ⟨b2.keeps m1, R3, H3, hA3, b2.back m1, hk3⟩
    · intro e3 H3 a3 w3 hk3 hS3
      obtain ⟨R3, hA3, m1, m2, m3, m4⟩ := hS3
      exact ⟨b2.keeps m1, R3, H3, hA3, b2.back m1, hk3⟩
  · intro D R' O' W hD ⟨gg, hφ, hRR, hH, _⟩ hdef
    exact h1 _ _ _ _ (hend gg hφ) (behind hD hRR hH hdef)
  · intro D c W hD ⟨R', H', hRR, hH, hk⟩ hdef
    cases c with
    | ret => exact wp_ret (h3 _ _ _ _ hk (behind hD hRR hH hdef))
    | exit i => exact wp_exit (h2 _ _ _ _ _ hk (behind hD hRR hH hdef))
    | _ => exact hk.elim

theorem vcR_sound (hC : COK P C) (hRT : ∀ g rs, RT g = some rs → RSOK P g rs) (hp : ∀ (i : Nat) (x : Option Nat), A[i]? = some x → i < C.p) (hmo : P.follows .mixedOrders = true) : ∀ (c : Code) (K : KK) (Q : Exit → Act → World → Prop),
    (∀ e H a w, K.nor e H → StB F Ob W0 A n e H a w → Q .normal a w) → (∀ i e H a w, K.ext i e H → StB F Ob W0 A n e H a w → Q (.exit i) a w) → (∀ e H a w, K.ret e H → StB F Ob W0 A n e H a w → Q .ret a w) →
    dstB n c = true → rgB n c = true → ∀ (e : Env) (H : AH) (a : Act) (w : World), vcR C RT c e H K → StB F Ob W0 A n e H a w → c.wp P Q a w := by
  intro c
  induction c with
  | skip => intro K Q h1 h2 h3 hd hr e H a w h hS; exact wp_skip (h1 _ _ _ _ h hS)
  | region id ops draw =>
    intro K Q h1 h2 h3 hd hr e H a w h hS
    obtain ⟨Ob', W1, dz, hm, hx, ho, hf, hS⟩ := hS
    obtain ⟨ops⟩ := ops
    have hd' : dstsIn n ops := fun o ho t ht => by
      have hd := List.all_eq_true.1 (show ops.all (fun o => match o.dst with | some t => Nat.blt t n | none => true) = true from hd) o ho
      rw [ht] at hd
      exact Nat.le_of_ble_eq_true hd
    have h1' : ∀ e H a w, cutK C id K.nor e H → St F Ob' W1 A dz n e H a w → Q .normal a w := by
      intro e H a w hk hS
      unfold cutK at hk
      split at hk
      · obtain ⟨e', H', σ, hle, hk⟩ := hk
        exact h1 e' H' a w hk (.mk Ob' W1 dz hm hx ho hf (hle.sound hp hS))
      · split at hk
        · obtain ⟨ts, hk⟩ := hk
          obtain ⟨e1, H1, ⟨e', H', σ, hle, hk⟩, hS⟩ := frzGo_sound ts hk hS
          exact h1 e' H' a w hk (.mk Ob' W1 dz hm hx ho hf (hle.sound hp hS))
        · exact h1 e H a w hk (.mk Ob' W1 dz hm hx ho hf hS)
    cases draw with
    | false => exact wp_region_list (vcOps_sound hC h1' ops e H a w hd' h hS)
    | true => exact wp_region_any hmo (vcDraw_sound hC hmo h1' hd' h hS)
  | seq x y ihx ihy =>
    intro K Q h1 h2 h3 hd hr e H a w h hS
    have hd' := Bool.and_eq_true_iff.1 hd
    have hr' := Bool.and_eq_true_iff.1 hr
    refine wp_seq (ihx ⟨fun e' H' => vcR C RT y e' H' K, K.ext, K.ret⟩ (Exit.then (y.wp P Q) Q) (fun e' H' a' w' h' hS' => ?_) (fun i e' H' a' w' h' hS' => h2 i e' H' a' w' h' hS') (fun e' H' a' w' h' hS' => h3 e' H' a' w' h' hS') hd'.1 hr'.1 e H a w h hS)
    exact ihy K Q h1 h2 h3 hd'.2 hr'.2 e' H' a' w' h' hS'
  | cond b x y ihx ihy =>
    intro K Q h1 h2 h3 hd hr e H a w h hS
    have hd' := Bool.and_eq_true_iff.1 hd
    have hr' := Bool.and_eq_true_iff.1 hr
    have hS0 := hS
    obtain ⟨Ob', W1, dz, hm, hx, ho, hf, R, hA, g1, g2, g3, g4⟩ := hS
    have h : (match evA e b with | some .tru => vcR C RT x e H K | some .fls => vcR C RT y e H K | some (.bool t) => (t = true → vcR C RT x e H K) ∧ (t = false → vcR C RT y e H K) | _ => False) := h
    split at h
    · rename_i hb
      have hr := evA_rep g2 hb
      generalize hv : a.eval b = v at hr
      cases hr
      exact wp_cond_true hv (ihx K Q h1 h2 h3 hd'.1 hr'.1 e H a w h hS0)
    · rename_i hb
      have hr := evA_rep g2 hb
      generalize hv : a.eval b = v at hr
      cases hr
      exact wp_cond_false hv (ihy K Q h1 h2 h3 hd'.2 hr'.2 e H a w h hS0)
    · rename_i t hb
      have hr := evA_rep g2 hb
      generalize hv : a.eval b = v at hr
      cases hr
      exact wp_cond_split hv (fun ht => ihx K Q h1 h2 h3 hd'.1 hr'.1 e H a w (h.1 ht) hS0) (fun ht => ihy K Q h1 h2 h3 hd'.2 hr'.2 e H a w (h.2 ht) hS0)
    · exact h.elim
  | block id x ih =>
    intro K Q h1 h2 h3 hd hr e H a w h hS
    refine wp_block (ih ⟨K.nor, fun i e' H' => bif Nat.beq i id then K.nor e' H' else K.ext i e' H', K.ret⟩ (Exit.inBlock id Q) (fun e' H' a' w' h' hS' => h1 e' H' a' w' h' hS') (fun i e' H' a' w' h' hS' => ?_) (fun e' H' a' w' h' hS' => h3 e' H' a' w' h' hS') hd hr e H a w h hS)
    simp only at h'
    simp only [Exit.inBlock]
    cases hb : Nat.beq i id
    · rw [hb] at h'
      have : ¬ i = id := fun e => by rw [beq_iff.2 e] at hb; cases hb
      rw [if_neg this]
      exact h2 i e' H' a' w' h' hS'
    · rw [hb] at h'
      rw [if_pos (beq_iff.1 hb)]
      exact h1 e' H' a' w' h' hS'
  | exit id => intro K Q h1 h2 h3 hd hr e H a w h hS; exact wp_exit (h2 _ _ _ _ _ h hS)
  | ret => intro K Q h1 h2 h3 hd hr e H a w h hS; exact wp_ret (h3 _ _ _ _ h hS)
  | rangeFunc g ps assign body _ _ => intro K Q h1 h2 h3 hd hr e H a w h hS; exact range_sound hC hRT hp hmo h1 h2 h3 hr h hS
  | loop x ih =>
    intro K Q h1 h2 h3 hd hr e H a w h hS
    obtain ⟨γ, E, AA, φ, μ, ⟨g, σ, hg, hle⟩, hround⟩ := h
    refine wp_loop_ghost (fun k a w => ∃ g, φ g ∧ μ g = k ∧ StB F Ob W0 A n (E g) (AA g) a w) (μ g) ⟨g, hg, rfl, Le.soundB hp hle hS⟩ ?_
    rintro k a w ⟨g, hg, rfl, hS⟩
    refine ih ⟨fun e' H' => ∃ g' σ, φ g' ∧ μ g' < μ g ∧ Le C.p σ e' H' (E g') (AA g'), K.ext, K.ret⟩ (Exit.then (fun a' w' => ∃ n', n' < μ g ∧ ∃ g, φ g ∧ μ g = n' ∧ StB F Ob W0 A n (E g) (AA g) a' w') Q) (fun e' H' a' w' h' hS' => ?_) (fun i e' H' a' w' h' hS' => h2 i e' H' a' w' h' hS') (fun e' H' a' w' h' hS' => h3 e' H' a' w' h' hS') hd hr (E g) (AA g) a w (hround g hg) hS
    obtain ⟨g', σ', hg', hlt, hle'⟩ := h'
    exact ⟨μ g', hlt, g', hg', rfl, Le.soundB hp hle' hS'⟩
  | _ => intro K Q h1 h2 h3 hd hr e H a w h hS; exact h.elim

theorem leaves {fn : Func} {tmps : Array Value} {RR : Ending → World → Prop} {e : Env} (post : ∀ w', HRel F Ob W0 R H w' → ERel R w' (Wr F R H) e tmps → ∃ v, (results fn tmps).run P w' = .ok v w' ∧ RR (.returned v) w') :
    ∀ (Ds : List Nat) (w : World), Ds.Nodup → (∀ D ∈ Ds, W0.heap.size ≤ D ∧ w.heap[D]? = some (.deferred (some []))) → HRel F Ob W0 R H w → ERel R w (Wr F R H) e tmps → LeavesInM Fence.wide 1 P fn tmps RR (Ds.map mark) .returning w
  | [], w, _, _, hH, hE => post w hH hE
  | D :: Ds, w, hnd, hD, hH, hE => by
    obtain ⟨k1, k2⟩ := hD D (by simp)
    have hx := ext_put (o' := .deferred none) k2 rfl
    refine ⟨by simp, .inl ⟨D, _, rfl, run_takeDeferred k2, leaves post Ds _ (List.nodup_cons.1 hnd).2 (fun D' hD' => ?_) (hH.monoN (hx.weaken fun b _ k => ⟨by omega, k.2⟩)) (hE.monoN (hx.weaken fun b _ k => k.2))⟩⟩
    obtain ⟨q1, q2⟩ := hD D' (by simp [hD'])
    exact ⟨q1, (World.putObj_heap_other (fun e => (List.nodup_cons.1 hnd).1 (by rw [← e]; exact hD'))).trans q2⟩

theorem snd_ofR (hC : COK P C) (hRT : ∀ g rs, RT g = some rs → RSOK P g rs) (hmo : P.follows .mixedOrders = true) {g : FuncId} {fn : Func} (hf : FnOK P g fn) (hr : (match fn.body with | some c => rgB fn.ntmps c | none => false) = true) {l : List AV} {K : AV → AH → Prop} (hl : l.length ≤ fn.ntmps) (h : vcFnR C RT fn l H K) : Snd P C.p g l H K := by
  intro F Ob W0 A R w cl hp hA hH hc
  have hd := hf.d
  cases hb : fn.body with
  | none => have := hf.b; rw [hb] at this; cases this
  | some body =>
    rw [hb] at hd hr
    unfold vcFnR at h
    rw [hb] at h
    simp only at h hd hr
    have post : ∀ e H a w, resA C.T fn e H K → StB F Ob W0 A fn.ntmps e H a w → LeavesInM Fence.wide 1 P fn a.tmps (fun en w' => ∃ R' v H' cv, K v H' ∧ en = .returned cv ∧ (∀ (i : Nat) (x : Option Nat), A[i]? = some x → R'[i]? = some x) ∧ HRel F Ob W0 R' H' w' ∧ Rep R' w' (Wr F R' H') v cv) a.defers .returning w := by
      rintro e H a w hr ⟨Ob', W1, dz, hm, hx, ho, hf, R, hA, g1, g2, g3, g4⟩
      obtain ⟨Ds, rfl, hnd, hDs⟩ := hm
      rw [g3]
      refine leaves (F := F) (Ob := Ob) (W0 := W0) (R := R) (H := H) (e := e) (fun w' k1 k2 => ?_) Ds w hnd (fun D hD => ?_) (toBase hx ho hf g1) g2
      · obtain ⟨v, cv, hk, hrun, hrep⟩ := resA_ok hC.T k1 k2 hr
        exact ⟨cv, hrun, R, v, H, cv, hk, rfl, hA, k1, hrep⟩
      · obtain ⟨q1, q2, q3⟩ := hDs D hD
        exact ⟨q1, (g1.ext.blk D (Array.getElem?_eq_some_iff.1 q2).1 q3).trans q2⟩
    refine (callsIn_wide (n := 1)).1 (callsIn_of_wp_marks hf.f hb trivial (wpIn_wide.2 (vcR_sound (F := F) (Ob := Ob) (W0 := W0) (A := A) (n := fn.ntmps) hC hRT hp hmo body ⟨fun e H => resA C.T fn e H K, fun _ _ _ => False, fun e H => resA C.T fn e H K⟩ _ (fun e H a w hr hS => post e H a w hr hS) (fun i e H a w hr hS => False.elim hr) (fun e H a w hr hS => post e H a w hr hS) hd hr _ _ _ _ h (.mk Ob W0 [] ⟨[], rfl, List.nodup_nil, by simp⟩ (Ext.refl _ _) (fun b k => .inl k) hH.fb (.mk R hA hH ?_ rfl ?_)))) rfl)
    · intro t y hy
      obtain ⟨_, h2⟩ := lk_args l 0 t y hy
      simp only [Nat.sub_zero] at h2
      obtain ⟨v, hv, hr⟩ := hc.get h2
      have hlt : t < cl.length := (List.getElem?_eq_some_iff.1 hv).1
      refine ⟨by simp; omega, ?_⟩
      have e : (cl.toArray ++ Array.replicate (fn.ntmps - cl.toArray.size) undef).getD t undef = v := by
        simp [Array.getD_eq_getD_getElem?, Array.getElem?_append, hlt]
        simpa [hlt] using hv
      rw [e]
      exact hr
    · have := hc.1
      simp
      omega
end
end Go.Proofs.YtljdahepmmgfeaaGreatDoor
