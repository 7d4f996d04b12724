
/- The engine, part 17: ranges over functions: an iterator's contract, rounds, functions that hold such a range. No condition. -/
import Derived.Test.YtdiflkabpjnncaaE16
import Derived.RangeFuncNested
import Derived.RangeFuncBound
import Derived.OwnWalkIn
namespace Go.Proofs.Ytdiflkabpjnncaa
open Go Go.RowKit
set_option linter.unusedVariables false
set_option linter.unusedSimpArgs false

/-! ### What was walked in an activation's frame is walked in a round's -/
def Fl (l : Option Nat) : Fence := { fn := fun _ => True, depth := none, alive := false, round := l }
def plainO (o : Oper) : Bool := match o.op with | .defer _ => false | _ => true
section
variable {P : Program} {Q : Exit → Act → World → Prop} {lo : Option Nat} {d : Nat}

theorem calls_fl {f : FuncId} {args : Array Value} {w : World} {R : Ending → World → Prop} (h : Calls P f args w R) : CallsIn (Fl lo) d P f args w R := (callsIn_wide (n := d)).2 h
theorem rows_fl {row : String} {args : Array Value} {w : World} {R : Value → World → Prop} (h : Rows P row args w R) : RowsIn (Fl lo) d P row args w R :=
  fun c cs _ => let ⟨v, w', r, s⟩ := h c cs; ⟨v, w', r, stepsIn_wide.2 s⟩
theorem op_fl {o : Oper} {a : Act} {w : World} {K : Act → World → Prop} (hp : plainO o = true) (h : o.wp P a w K Q) : o.wpIn (Fl lo) d P a w K Q := by
  refine ⟨fun _ _ => trivial, ?_⟩
  rw [Oper.semAt_plain (Fl lo) _ _ (fun c hc => by simp [plainO, hc] at hp)]
  unfold Oper.wp at h
  generalize (execOp a.eval o).run P w = r at h ⊢
  cases r with
  | ok x w' =>
    cases x <;> first
      | exact h
      | exact ⟨fun k => (by cases k), calls_fl h⟩
      | exact ⟨fun k => (by cases k), rows_fl h⟩
      | exact False.elim h
  | halt x w' => cases x <;> exact h
theorem opi_fl {ops : Array Oper} (hp : ∀ (i : Nat) (o : Oper), ops[i]? = some o → plainO o = true) (hQ : ∀ a w, ¬ Q .outgrown a w) {i : Nat} {K K' : Act → World → Prop} {a : Act} {w : World} (h : wpOp P ops Q i K a w) (hK : ∀ a w, K a w → K' a w) :
    wpOpIn (Fl lo) d P ops Q i K' a w := by
  unfold wpOp at h
  unfold wpOpIn
  cases ho : ops[i]? with
  | none => rw [ho] at h; exact hK _ _ h
  | some o =>
    rw [ho] at h
    simp only at h ⊢
    cases hw : Region.wanted o (yielded ops a.tmps) with
    | true =>
      rw [hw] at h
      simp only [if_true] at h ⊢
      rcases h with h | ⟨_, a', w', h⟩
      · exact Oper.wpIn_mono hK (op_fl (hp _ _ ho) h)
      · exact absurd h (hQ _ _)
    | false =>
      rw [hw] at h
      simp only [Bool.false_eq_true, if_false] at h ⊢
      exact ⟨fun _ _ => trivial, hK _ _ h⟩
theorem any_fl {md : Region.Mode} {ops : Array Oper} (hp : ∀ (i : Nat) (o : Oper), ops[i]? = some o → plainO o = true) (hQ : ∀ a w, ¬ Q .outgrown a w) : ∀ (fuel : Nat) (listed : Array Bool) (a : Act) (w : World), wpAny P md ops Q fuel listed a w → wpAnyIn (Fl lo) d P md ops Q fuel listed a w
  | 0, _, _, _, h => h
  | fuel + 1, _, _, _, h => ⟨h.1, fun i hi => opi_fl hp hQ (h.2 i hi) fun a w k => any_fl hp hQ fuel _ a w k⟩
theorem list_fl {ops : Array Oper} (hQ : ∀ a w, ¬ Q .outgrown a w) : ∀ (l : List Oper) (a : Act) (w : World), (∀ o ∈ l, plainO o = true) → wpList P ops Q l a w → wpListIn (Fl lo) d P ops Q l a w
  | [], _, _, _, h => h
  | o :: l, a, w, hp, h => by
    unfold wpList at h
    unfold wpListIn
    cases hw : Region.wanted o (yielded ops a.tmps) with
    | true =>
      rw [hw] at h
      simp only [if_true] at h ⊢
      rcases h with h | ⟨_, a', w', h⟩
      · exact Oper.wpIn_mono (fun a w k => list_fl hQ l a w (fun o ho => hp o (by simp [ho])) k) (op_fl (hp o (by simp)) h)
      · exact absurd h (hQ _ _)
    | false =>
      rw [hw] at h
      simp only [Bool.false_eq_true, if_false] at h ⊢
      exact ⟨fun _ _ => trivial, list_fl hQ l _ _ (fun o ho => hp o (by simp [ho])) h⟩
end

theorem enters_callable {P : Program} {g : FuncId} (h : callable P g) (args : Array Value) (w : World) : (callFunc g args).run P w = .ok (.enter g args) w := by
  obtain ⟨fn, h1, h2, h3⟩ := h
  have h2' : ¬ fn.name = "runtime.NumGoroutine" := by simpa using h2
  have h3' : ¬ fn.body = none := fun e => by simp [e] at h3
  simp [callFunc, h1, h2', h3']

/-- Code of a round: no loops in it. -/
def flatC : Code → Bool
  | .skip => true
  | .region _ ops _ => ops.toList.all plainO
  | .seq a b | .cond _ a b => flatC a && flatC b
  | .block _ c => flatC c
  | .exit _ => true
  | .ret => true
  | _ => false

section
variable {P : Program} {C : Ctx} {R : PN} {w : World} {F Ob : Nat → Prop} {W0 : World} {A : PN} {H H' : AH} {dz : List Deferred} {n : Nat} {O : Nat → Prop} {σ : Names} {lo : Option Nat} {d : Nat}

theorem vc_fl (hC : COK P C) (hp : ∀ (i : Nat) (x : Option Nat), A[i]? = some x → i < C.p) (hmo : P.follows .mixedOrders = true) : ∀ (c : Code) (K : KK) (Q : Exit → Act → World → Prop), (∀ a w, ¬ Q .outgrown a w) →
    (∀ e H a w, K.nor e H → St F Ob W0 A dz n e H a w → Q .normal a w) → (∀ i e H a w, K.ext i e H → St F Ob W0 A dz n e H a w → Q (.exit i) a w) → (∀ e H a w, K.ret e H → St F Ob W0 A dz n e H a w → Q .ret a w) →
    dstB n c = true → flatC c = true → ∀ (e : Env) (H : AH) (a : Act) (w : World), vc C c e H K → St F Ob W0 A dz n e H a w → c.wpIn (Fl lo) d P Q a w := by
  intro c
  induction c with
  | skip => intro K Q hQ h1 h2 h3 hd hf e H a w h hS; exact wpIn_skip (h1 _ _ _ _ h hS)
  | region id ops draw =>
    intro K Q hQ h1 h2 h3 hd hf e H a w h hS
    obtain ⟨ops⟩ := ops
    have hf1 : ∀ o ∈ ops, plainO o = true := fun o ho => List.all_eq_true.1 (show ops.all plainO = true from hf) o ho
    have hd' : dstsIn n ops := fun o ho t ht => by
      have hd := List.all_eq_true.1 (show ops.all (fun o => match o.dst with | some t => Nat.blt t n | none => true) = true from hd) o ho
      rw [ht] at hd
      exact Nat.le_of_ble_eq_true hd
    have h1' : ∀ e H a w, cutK C id K.nor e H → St F Ob W0 A dz n e H a w → Q .normal a w := by
      intro e H a w hk hS
      unfold cutK at hk
      split at hk
      · obtain ⟨e', H', σ, hle, hk⟩ := hk
        exact h1 e' H' a w hk (hle.sound hp hS)
      · split at hk
        · obtain ⟨ts, hk⟩ := hk
          obtain ⟨e1, H1, ⟨e', H', σ, hle, hk⟩, hS⟩ := frzGo_sound ts hk hS
          exact h1 e' H' a w hk (hle.sound hp hS)
        · exact h1 e H a w hk hS
    cases draw with
    | false => exact wpIn_region_list (list_fl hQ _ _ _ hf1 (vcOps_sound hC h1' ops e H a w hd' h hS))
    | true => exact wpIn_region_any hmo (any_fl (fun i o ho => hf1 o (by simp at ho; exact List.mem_of_getElem? ho)) hQ _ _ _ _ (vcDraw_sound hC hmo h1' hd' h hS))
  | seq x y ihx ihy =>
    intro K Q hQ h1 h2 h3 hd hf e H a w h hS
    have hd' := Bool.and_eq_true_iff.1 hd
    have hf' := Bool.and_eq_true_iff.1 hf
    refine wpIn_seq (ihx ⟨fun e' H' => vc C y e' H' K, K.ext, K.ret⟩ (Exit.then (y.wpIn (Fl lo) d P Q) Q) (fun a w k => hQ a w k) (fun e' H' a' w' h' hS' => ?_) (fun i e' H' a' w' h' hS' => h2 i e' H' a' w' h' hS') (fun e' H' a' w' h' hS' => h3 e' H' a' w' h' hS') hd'.1 hf'.1 e H a w h hS)
    exact ihy K Q hQ h1 h2 h3 hd'.2 hf'.2 e' H' a' w' h' hS'
  | cond b x y ihx ihy =>
    intro K Q hQ h1 h2 h3 hd hf e H a w h hS
    have hd' := Bool.and_eq_true_iff.1 hd
    have hf' := Bool.and_eq_true_iff.1 hf
    have hS0 := hS
    obtain ⟨R, hA, g1, g2, g3, g4⟩ := hS
    have h : (match evA e b with | some .tru => vc C x e H K | some .fls => vc C y e H K | some (.bool t) => (t = true → vc C x e H K) ∧ (t = false → vc C y e H K) | _ => False) := h
    split at h
    · rename_i hb
      have hr := evA_rep g2 hb
      generalize hv : a.eval b = v at hr
      cases hr
      exact wpIn_cond_true hv (ihx K Q hQ h1 h2 h3 hd'.1 hf'.1 e H a w h hS0)
    · rename_i hb
      have hr := evA_rep g2 hb
      generalize hv : a.eval b = v at hr
      cases hr
      exact wpIn_cond_false hv (ihy K Q hQ h1 h2 h3 hd'.2 hf'.2 e H a w h hS0)
    · rename_i t hb
      have hr := evA_rep g2 hb
      generalize hv : a.eval b = v at hr
      cases hr
      exact wpIn_cond_split hv (fun ht => ihx K Q hQ h1 h2 h3 hd'.1 hf'.1 e H a w (h.1 ht) hS0) (fun ht => ihy K Q hQ h1 h2 h3 hd'.2 hf'.2 e H a w (h.2 ht) hS0)
    · exact h.elim
  | block id x ih =>
    intro K Q hQ h1 h2 h3 hd hf e H a w h hS
    refine wpIn_block (ih ⟨K.nor, fun i e' H' => bif Nat.beq i id then K.nor e' H' else K.ext i e' H', K.ret⟩ (Exit.inBlock id Q) (fun a w k => hQ a w k) (fun e' H' a' w' h' hS' => h1 e' H' a' w' h' hS') (fun i e' H' a' w' h' hS' => ?_) (fun e' H' a' w' h' hS' => h3 e' H' a' w' h' hS') hd hf e H a w h hS)
    simp only at h'
    simp only [Exit.inBlock]
    cases hb : Nat.beq i id
    · rw [hb] at h'
      have : ¬ i = id := fun e => by rw [beq_iff.2 e] at hb; cases hb
      rw [if_neg this]
      exact h2 i e' H' a' w' h' hS'
    · rw [hb] at h'
      rw [if_pos (beq_iff.1 hb)]
      exact h1 e' H' a' w' h' hS'
  | exit id => intro K Q hQ h1 h2 h3 hd hf e H a w h hS; exact wpIn_exit (h2 _ _ _ _ _ h hS)
  | ret => intro K Q hQ h1 h2 h3 hd hf e H a w h hS; exact wpIn_ret (h3 _ _ _ _ h hS)
  | _ => intro K Q hQ h1 h2 h3 hd hf; exact absurd hf (by simp [flatC])

/-! ### Blocks that hold no cells -/
def NC (w : World) (b : Nat) : Prop := ∃ o, w.heap[b]? = some o ∧ o.isCells = false
theorem NC.no_cells {w : World} {b : Nat} (h : NC w b) {cs : Array Value} {t : TypeId} {fr : Nat × Nat} (k : w.heap[b]? = some (.cells cs t fr)) : False := by
  obtain ⟨o, h1, h2⟩ := h
  rw [k] at h1
  cases h1
  cases h2
theorem cell_is {w : World} {b o : Nat} {v : Value} (h : w.cell? ⟨b, o, none⟩ = some v) : ¬ NC w b := by
  rintro ⟨x, h1, h2⟩
  unfold World.cell? at h
  simp only at h
  rw [h1] at h
  cases x <;> first | (cases h2; done) | cases h
theorem Rep.monoN {w' : World} {a : AV} {v : Value} (h : Rep R w O a v) (hx : Ext (NC w) w w') : Rep R w' O a v := by
  induction h with
  | int k n => exact .int k n
  | bool b => exact .bool b
  | tru => exact .tru
  | fls => exact .fls
  | str s => exact .str s
  | nilp => exact .nilp
  | ptr i o b h => exact .ptr i o b h
  | nils => exact .nils
  | slnil i sz o h => exact .slnil i sz o h
  | sl i sz o n b c off s h hn hc ho hs hl => exact .sl i sz o n b c off s h hn hc ho (hx.shp _ _ hs) hl
  | eptr i sz j f b h => exact .eptr i sz j f b h
  | ronil sz get => exact .ronil sz get
  | roz sz get a c hc => exact .roz sz get a c hc
  | ro sz n get b off c vals hn hc hOb hb hcell hsz hv ih =>
    refine .ro sz n get b off c vals hn hc hOb (Nat.lt_of_lt_of_le hb hx.size) (fun j hj f hf => ?_) hsz (fun j hj => ih j hj hx)
    have h1 := hcell j hj f hf
    have h2 : f < (vals j).cells.size := by rw [hsz j hj]; exact hf
    rw [Array.getElem?_eq_getElem h2] at h1 ⊢
    exact (cell_of_block (hx.blk b hb (cell_is h1))).trans h1
  | roinil k => exact .roinil k
  | roiz k a c hc => exact .roiz k a c hc
  | roi k l b off c hn hc hOb hb hcell =>
    exact .roi k l b off c hn hc hOb (Nat.lt_of_lt_of_le hb hx.size) (fun j x hj => (cell_of_block (hx.blk b hb (cell_is (hcell j x hj)))).trans (hcell j x hj))
  | rop x b off v hOb hb hcell hv ih =>
    refine .rop x b off v hOb (Nat.lt_of_lt_of_le hb hx.size) (fun f hf => ?_) (ih hx)
    have h1 := hcell f hf
    rw [Array.getElem?_eq_getElem hf] at h1 ⊢
    exact (cell_of_block (hx.blk b hb (cell_is h1))).trans h1
  | agg l vs hl h ih => exact .agg l vs hl (fun j x v hj hv => ih j x v hj hv hx)
  | tup l vs hl h ih => exact .tup l vs hl (fun j x v hj hv => ih j x v hj hv hx)
  | fn f k l vs hl h ih => exact .fn f k l vs hl (fun j x v hj hv => ih j x v hj hv hx)
  | ifc t l vs hl h ih => exact .ifc t l vs hl (fun j x v hj hv => ih j x v hj hv hx)
  | nilfn => exact .nilfn
  | val v => exact .val v
  | any v => exact .any v
theorem ERel.monoN {w' : World} {e : Env} {tmps : Array Value} (h : ERel R w O e tmps) (hx : Ext (NC w) w w') : ERel R w' O e tmps := fun t v ht => ⟨(h t v ht).1, (h t v ht).2.monoN hx⟩
theorem holds_monoN {w' : World} {b : Option Nat} {x : Ent} (h : x.holds R w O b) (hx : Ext (NC w) w w') : x.holds R w' O b := by
  cases b with
  | none => cases x <;> exact h
  | some b =>
    have hlt : b < w.heap.size := Ent.lt h
    have same : ∀ {cs : Array Value} {t : TypeId} {fr : Nat × Nat}, w.heap[b]? = some (.cells cs t fr) → w'.heap[b]? = some (.cells cs t fr) := fun h1 => (hx.blk b hlt (fun k => k.no_cells h1)).trans h1
    cases x with
    | cells t l => obtain ⟨vs, fr, h1, h2, h3, h4⟩ := h; exact ⟨vs, fr, same h1, h2, h3, fun j x v hj hv => ⟨(h4 j x v hj hv).1, (h4 j x v hj hv).2.monoN hx⟩⟩
    | ints e k l => obtain ⟨vs, fr, h1, h2, h3, h4⟩ := h; exact ⟨vs, fr, same h1, h2, h3, h4⟩
    | recs e sz n get => obtain ⟨vs, fr, vals, h1, h2, h3, h4, h5⟩ := h; exact ⟨vs, fr, vals, same h1, h2, h3, fun j hj => ⟨(h4 j hj).1, (h4 j hj).2.monoN hx⟩, h5⟩
    | recs1 e sz n get f y => obtain ⟨vs, fr, vals, h1, h2, h3, ⟨h4, h5⟩, h6, h7, v, h8, h9⟩ := h; exact ⟨vs, fr, vals, same h1, h2, h3, ⟨fun j hj => ⟨(h4 j hj).1, (h4 j hj).2.monoN hx⟩, h5⟩, h6, h7, v, h8, h9.monoN hx⟩
/-- Blocks that hold no cells and lie beyond the beginning may turn. -/
theorem HRel.monoN {w' : World} (h : HRel F Ob W0 R H w) (hx : Ext (fun b => W0.heap.size ≤ b ∧ NC w b) w w') : HRel F Ob W0 R H w' :=
  ⟨h.len, h.ext.trans hx (fun x h1 h2 => absurd h1 (Nat.not_lt.2 h2.1)), h.fb, h.own, fun i e hi => by
    obtain ⟨b, h1, h2⟩ := h.ent i e hi
    exact ⟨b, h1, holds_monoN h2 (hx.weaken fun _ _ k => k.2)⟩, h.dis⟩
theorem HRel.own_nc (h : HRel F Ob W0 R H w) {b : Nat} (hb : Own R H b) : ¬ NC w b := by
  obtain ⟨i, e, hi, hR⟩ := hb
  obtain ⟨b', h1, h2⟩ := h.ent i e hi
  rw [hR] at h1
  cases h1
  intro hn
  cases e with
  | cells t l => obtain ⟨vs, fr, h1, _⟩ := h2; exact hn.no_cells h1
  | ints e k l => obtain ⟨vs, fr, h1, _⟩ := h2; exact hn.no_cells h1
  | recs e sz n get => obtain ⟨vs, fr, vals, h1, _⟩ := h2; exact hn.no_cells h1
  | recs1 e sz n get f y => obtain ⟨vs, fr, vals, h1, _⟩ := h2; exact hn.no_cells h1
/-- From here on. -/
theorem HRel.rebase (h : HRel F Ob W0 R H w) : HRel F (Own R H) w R H w :=
  ⟨h.len, Ext.refl _ _, h.fbOf (fun b hb => ⟨Nat.lt_of_lt_of_le (h.fb.1 b hb).1 h.ext.size, fun ho => (h.own b ho).elim (h.fb.1 b hb).2 (fun k => absurd (h.fb.1 b hb).1 (Nat.not_lt.2 k))⟩) (fun b hb => hb), fun b hb => .inl hb, h.ent, h.dis⟩
theorem HRel.back {R' : PN} {w' : World} (h : HRel F Ob W0 R H w) (k : HRel F (Own R H) w R' H' w') : HRel F Ob W0 R' H' w' :=
  ⟨k.len, h.ext.trans k.ext (fun x hx ho => (h.own x ho).resolve_right (Nat.not_le.2 hx)), h.fb, fun b hb => (k.own b hb).elim (h.own b) (fun g => .inr (Nat.le_trans h.ext.size g)), k.ent, k.dis⟩
theorem HRel.keeps {R' : PN} {w' : World} (h : HRel F Ob W0 R H w) (k : HRel F (Own R H) w R' H' w') : KeepsOthers w w' :=
  ⟨k.ext.size, fun b o hb ho => (k.ext.blk b (Array.getElem?_eq_some_iff.1 hb).1 (fun hw => h.own_nc hw ⟨o, hb, ho⟩)).trans hb⟩
/-- What is read with the names of the beginning is so later. -/
theorem ERel.later {R' : PN} {w' : World} {e : Env} {tmps : Array Value} (hE : ERel R w (Wr F R H) e tmps) (h : HRel F Ob W0 R H w) (k : HRel F (Own R H) w R' H' w') (hR : ∀ (i : Nat) (x : Option Nat), R[i]? = some x → R'[i]? = some x) : ERel R' w' (Wr F R' H') e tmps :=
  hE.mono hR (k.ext.weaken fun b _ hb => .inr hb) fun b hb hw => hw.elim .inl fun ho => (k.own b ho).elim .inr fun g => absurd hb (Nat.not_lt.2 g)

theorem ext_put {l : Nat} {o o' : Obj} (h : w.heap[l]? = some o) (ho : o.isCells = false) : Ext (fun b => b = l ∧ NC w b) w (w.putObj l o') :=
  ⟨rfl, rfl, rfl, by simp, fun b hb hn => World.putObj_heap_other (fun e => hn ⟨e, by subst e; exact ⟨o, h, ho⟩⟩), fun b s hs => by
    by_cases e : b = l
    · subst e
      exfalso
      unfold World.shape? at hs
      rw [h] at hs
      cases o <;> first | (cases ho; done) | cases hs
    · unfold World.shape? at hs ⊢
      rw [World.putObj_heap_other e]; exact hs⟩

/-! ### Iterators -/
/-- What is yielded, round by round; KW: what an iterator wants of the world in which it reads. -/
def IterOK (P : Program) (gf : FuncId) (lb : Array Value) (N : Nat) (items : Nat → List AV) (KW : PN → (Nat → Prop) → World → Prop) : Prop :=
  ∀ (d l : Nat) (J : Nat → PN → (Nat → Prop) → World → Prop) (Jx : World → Prop) (W : World), (∀ k R O w w', J k R O w → Ext NoO w w' → J k R O w') → (∀ w w', Jx w → Ext NoO w w' → Jx w') → (∀ k R O w, J k R O w → KW R O w) →
    (∀ k R O W1 (args : List Value), k < N → J k R O W1 → CRel R W1 O (items k) args → YieldAt Fence.wide d P l args.toArray W1 fun e W' => (e = .returned (.bool true) ∧ ∃ R' O', J (k + 1) R' O' W') ∨ (e = .returned (.bool false) ∧ Jx W')) →
    (∃ R O, J 0 R O W) → CallsIn Fence.wide (d + 1) P gf (#[.func (.yield l) #[] #[]] ++ lb) W fun e W' => (∃ v, e = .returned v) ∧ ((∃ R O, J N R O W') ∨ Jx W')

def bodyPostI (I : Nat → PN → (Nat → Prop) → World → Prop) (Ix : Code → World → Prop) (k : Nat) (W : World) : Exit → Act → World → Prop
  | .normal, _, W' => KeepsOthers W W' ∧ ∃ R O, I (k + 1) R O W'
  | .ret, _, W' => KeepsOthers W W' ∧ Ix .ret W'
  | .exit id, _, W' => KeepsOthers W W' ∧ Ix (.exit id) W'
  | _, _, _ => False

theorem wp_rangeIx {g : Operand} {ps : Array Tmp} {assign body : Code} {Q : Exit → Act → World → Prop} {a : Act} {w : World} {gf : FuncId} {lb : Array Value} {N : Nat} {items : Nat → List AV} {KW : PN → (Nat → Prop) → World → Prop}
    (hg : a.eval g = .func (.func gf) #[] lb) (eg : ∀ args w, (callFunc gf args).run P w = .ok (.enter gf args) w) (hit : IterOK P gf lb N items KW) (hps : ∀ k, (items k).length = ps.size)
    (I : Nat → PN → (Nat → Prop) → World → Prop) (Ix : Code → World → Prop) (hI : ∀ k R O W W', I k R O W → Ext (fun b => w.heap.size ≤ b ∧ NC W b) W W' → I k R O W') (hIx : ∀ c W W', Ix c W → Ext (fun b => w.heap.size ≤ b ∧ NC W b) W W' → Ix c W')
    (hKW : ∀ k R O W, I k R O W → KW R O W) (h0 : ∃ R O, I 0 R O w)
    (hround : ∀ (l k : Nat) (R : PN) (O : Nat → Prop) (W : World) (args : List Value) (K : Act → World → Prop), k < N → I k R O W → CRel R W O (items k) args → w.heap.size ≤ l →
      (∀ a₁ w₁, KeepsOthers W w₁ → (∀ w₂, Ext (fun b => w.heap.size ≤ b ∧ NC w₁ b) w₁ w₂ → body.wpIn (Fl (some l)) 0 P (bodyPostI I Ix k w₂) a₁ w₂) → K a₁ w₁) →
      assign.wpIn (Fl (some l)) 0 P (Exit.then K (fun _ _ _ => False)) { tmps := (ps.zip args.toArray).foldl (fun t (p, v) => t.setIfInBounds p v) a.tmps, defers := [] } W)
    (hdone : ∀ (D : Nat) (R : PN) (O : Nat → Prop) (W : World), w.heap.size ≤ D → I N R O W → W.heap[D]? = some (.deferred (some [])) → Q .normal { a with defers := { target := .collected D, args := #[] } :: a.defers } W)
    (hstop : ∀ (D : Nat) (c : Code) (W : World), w.heap.size ≤ D → Ix c W → W.heap[D]? = some (.deferred (some [])) → c.wp P Q { a with defers := { target := .collected D, args := #[] } :: a.defers } W) :
    (Code.rangeFunc g ps assign body).wp P Q a w := by
  refine (wpIn_wide (n := 2)).1 (wpIn_rangeFunc ?_)
  intro fn hfn
  obtain ⟨rec, hrec⟩ : ∃ rec : LoopState → Option Code → Loop, rec = fun st pe => { state := st, pending := pe, fn, tmps := a.tmps, params := ps, assign, body, defers := w.heap.size } := ⟨_, rfl⟩
  obtain ⟨W1, hW1⟩ : ∃ W1, (w.alloc (.deferred (some []))).alloc (.loop (rec .ready none)) = W1 := ⟨_, rfl⟩
  have hL1 : W1.heap[w.heap.size + 1]? = some (.loop (rec .ready none)) := by
    rw [← hW1]; have := World.alloc_heap_new (w.alloc (.deferred (some []))) (.loop (rec .ready none)); rwa [World.size_alloc] at this
  have hK1 : W1.heap[w.heap.size]? = some (.deferred (some [])) := by
    rw [← hW1]; exact (Below.heap_alloc _ _ _ (by simp)).trans (World.alloc_heap_new w _)
  obtain ⟨R0, O0, h0⟩ := h0
  have hI1 : I 0 R0 O0 W1 := by
    rw [← hW1]
    exact hI 0 _ _ _ _ (hI 0 _ _ _ _ h0 ((Ext.alloc (fun _ => False) _ _).weaken fun _ _ k => k.elim)) ((Ext.alloc (fun _ => False) _ _).weaken fun _ _ k => k.elim)
  refine ⟨w.heap.size + 1, [{ target := .collected w.heap.size, args := #[] }], W1, { target := .fn (.func gf) lb, args := #[.func (.yield (w.heap.size + 1)) #[] #[]] }, W1, gf,
    #[.func (.yield (w.heap.size + 1)) #[] #[]] ++ lb, W1, ?_, ?_, ?_, ?_, fun _ => by omega, ?_⟩
  · rw [← hW1, hrec]; exact run_enterLoop_outer _ _ _ _ _
  · simp only [resolve, hg]
    simp [go_sem]
  · intro f' hf'; trivial
  · simp [invoke, go_sem, eg]
  have quiet : ∀ {A B : World}, Ext NoO A B → Ext (fun b => w.heap.size ≤ b ∧ NC A b) A B := fun h => h.weaken fun _ _ k => k.elim
  have putL : ∀ {W : World} {o : Obj} (o' : Obj), W.heap[w.heap.size + 1]? = some o → o.isCells = false → Ext (fun b => w.heap.size ≤ b ∧ NC W b) W (W.putObj (w.heap.size + 1) o') := fun o' h ho => (ext_put h ho).weaken fun b _ k => ⟨by omega, k.2⟩
  refine (hit 0 (w.heap.size + 1)
    (fun k R O W => I k R O W ∧ W.heap[w.heap.size + 1]? = some (.loop (rec .ready none)) ∧ W.heap[w.heap.size]? = some (.deferred (some [])))
    (fun W => ∃ c, Ix c W ∧ W.heap[w.heap.size + 1]? = some (.loop (rec .done (some c))) ∧ W.heap[w.heap.size]? = some (.deferred (some [])))
    W1 (fun k R O A B h hx => ⟨hI k _ _ _ _ h.1 (quiet hx), (hx.blk _ (Array.getElem?_eq_some_iff.1 h.2.1).1 (fun k => k)).trans h.2.1, (hx.blk _ (Array.getElem?_eq_some_iff.1 h.2.2).1 (fun k => k)).trans h.2.2⟩)
    (fun A B ⟨c, h1, h2, h3⟩ hx => ⟨c, hIx c _ _ h1 (quiet hx), (hx.blk _ (Array.getElem?_eq_some_iff.1 h2).1 (fun k => k)).trans h2, (hx.blk _ (Array.getElem?_eq_some_iff.1 h3).1 (fun k => k)).trans h3⟩)
    (fun k R O A h => hKW k R O A h.1) ?_ ⟨R0, O0, hI1, hL1, hK1⟩).mono ?_
  · rintro k R O W args hlt ⟨hi, hl, hk⟩ hargs
    have hy := run_yield (P := P) (args := args.toArray) hl (by rw [hrec]; have := hps k; have := hargs.1; simp; omega)
    rw [hrec] at hy
    refine ⟨fn, _, assign, body, hy, roundIn_of_wpIn (F := Fence.wide) hfn (hround (w.heap.size + 1) k R O W args _ hlt hi hargs (by omega) ?_)⟩
    clear hy
    intro a₁ w₁ hkp hbody
    have hl1 := hkp.same _ _ hl rfl
    have hk1 := hkp.same _ _ hk rfl
    refine ⟨_, run_beginRound hl1 (by rw [hrec]), ?_⟩
    have hl2 : (w₁.putObj (w.heap.size + 1) (.loop { rec .ready none with state := .busy })).heap[w.heap.size + 1]? = some (.loop { rec .ready none with state := .busy }) := World.putObj_heap_same (Array.getElem?_eq_some_iff.1 hl1).1
    have hk2 : (w₁.putObj (w.heap.size + 1) (.loop { rec .ready none with state := .busy })).heap[w.heap.size]? = some (.deferred (some [])) := (World.putObj_heap_other (by omega)).trans hk1
    refine wpIn_mono (hbody _ (putL _ hl1 rfl)) ?_
    have fin : ∀ (jump : Option Code) (W3 : World), KeepsOthers (w₁.putObj (w.heap.size + 1) (.loop { rec .ready none with state := .busy })) W3 →
        (Instr.endRound (w.heap.size + 1) jump).run P W3 = .ok (.bool jump.isNone) (W3.putObj (w.heap.size + 1) (.loop (rec (if jump.isNone then .ready else .done) jump))) ∧
        Ext (fun b => w.heap.size ≤ b ∧ NC W3 b) W3 (W3.putObj (w.heap.size + 1) (.loop (rec (if jump.isNone then .ready else .done) jump))) ∧
        (W3.putObj (w.heap.size + 1) (.loop (rec (if jump.isNone then .ready else .done) jump))).heap[w.heap.size + 1]? = some (.loop (rec (if jump.isNone then .ready else .done) jump)) ∧
        (W3.putObj (w.heap.size + 1) (.loop (rec (if jump.isNone then .ready else .done) jump))).heap[w.heap.size]? = some (.deferred (some [])) := fun jump W3 hk3 => by
      have hl3 := hk3.same _ _ hl2 rfl
      have := run_endRound (P := P) jump hl3
      rw [hrec] at this ⊢
      exact ⟨this, putL _ hl3 rfl, World.putObj_heap_same (Array.getElem?_eq_some_iff.1 hl3).1, (World.putObj_heap_other (by omega)).trans (hk3.same _ _ hk2 rfl)⟩
    rintro e a3 W3 hp
    cases e with
    | normal =>
      obtain ⟨hk3, R3, O3, hi3⟩ := hp
      obtain ⟨hr, hx, hl4, hk4⟩ := fin none W3 hk3
      exact ⟨_, _, hr, .inl ⟨rfl, R3, O3, hI _ _ _ _ _ hi3 hx, hl4, hk4⟩⟩
    | ret =>
      obtain ⟨hk3, hi3⟩ := hp
      obtain ⟨hr, hx, hl4, hk4⟩ := fin (some .ret) W3 hk3
      exact ⟨_, _, hr, .inr ⟨rfl, .ret, hIx _ _ _ hi3 hx, hl4, hk4⟩⟩
    | exit id =>
      obtain ⟨hk3, hi3⟩ := hp
      obtain ⟨hr, hx, hl4, hk4⟩ := fin (some (.exit id)) W3 hk3
      exact ⟨_, _, hr, .inr ⟨rfl, .exit id, hIx _ _ _ hi3 hx, hl4, hk4⟩⟩
    | goto t => exact False.elim hp
    | panic ch => exact False.elim hp
    | outgrown => exact False.elim hp
  · rintro e W2 ⟨⟨v, rfl⟩, (⟨R, O, hi, hl, hk⟩ | ⟨c, hi, hl, hk⟩)⟩
    · have h1 := run_endLoop (P := P) hl (by rw [hrec]; simp)
      rw [hrec] at h1
      exact ⟨none, _, h1, hdone _ R O _ (Nat.le_refl _) (hI _ _ _ _ _ hi (putL _ hl rfl)) ((World.putObj_heap_other (by omega)).trans hk)⟩
    · have h1 := run_endLoop (P := P) hl (by rw [hrec]; simp)
      rw [hrec] at h1
      exact ⟨some c, _, h1, wpIn_wide.2 (hstop _ c _ (Nat.le_refl _) (hIx _ _ _ hi (putL _ hl rfl)) ((World.putObj_heap_other (by omega)).trans hk))⟩
end
end Go.Proofs.Ytdiflkabpjnncaa
