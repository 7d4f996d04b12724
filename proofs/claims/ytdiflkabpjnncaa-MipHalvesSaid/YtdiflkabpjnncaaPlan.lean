
/- A region whose order is drawn, taken operation by operation in the order of the text: what is shown of each operation is shown in every world that meets a condition S, so that no order need be gone through. Conditions: no select among the operations; each slot is written once, and read only behind that write or ahead of it by the region's own edges (all checked by evaluation). -/
import Derived.OrdersHeld
import Derived.Tactics
namespace Go.Proofs.Ytdiflkabpjnncaa
open Go
set_option linter.unusedVariables false
set_option linter.unusedSimpArgs false
section
variable {P : Program} {ops : Array Oper} {Q : Exit → Act → World → Prop} {S : World → Prop}

/-- No way out. -/
def NoWay : Exit → Act → World → Prop := fun _ _ _ => False
theorem noWay_out : ¬ LetsOut NoWay := fun ⟨_, _, h⟩ => h

theorem put_defers_eq (a : Act) (x : Option Tmp) (v : Value) : (a.put x v).defers = a.defers := by cases x <;> rfl
theorem put_size (a : Act) (x : Option Tmp) (v : Value) : (a.put x v).tmps.size = a.tmps.size := by cases x <;> simp [Act.put]
theorem cons_ne_self {α : Type} (d : α) (l : List α) : d :: l ≠ l := fun h => by
  have := congrArg List.length h
  simp at this
theorem put_same {a a' : Act} {x : Option Tmp} {u v : Value} (h : a.put x u = a.put x v) (hs : a'.tmps.size = a.tmps.size) : a'.put x u = a'.put x v := by
  cases x with
  | none => rfl
  | some d =>
    simp only [Act.put] at h ⊢
    have ht : a.tmps.setIfInBounds d u = a.tmps.setIfInBounds d v := congrArg Act.tmps h
    by_cases hd : d < a.tmps.size
    · have := congrArg (fun t : Array Value => t[d]?) ht
      simp [hd] at this
      rw [this]
    · have e1 : ∀ z : Value, a'.tmps.setIfInBounds d z = a'.tmps := fun z => Array.setIfInBounds_eq_of_size_le (by rw [hs]; exact Nat.le_of_not_lt hd)
      rw [e1, e1]

/-- In state a, in every world that meets S, operation o leads to state b, and S holds again. -/
def StepOK (P : Program) (ops : Array Oper) (S : World → Prop) (o : Oper) (a b : Act) : Prop :=
  b.defers = a.defers ∧ ∀ w, S w → if Region.wanted o (yielded ops a.tmps) = true then o.wp P a w (fun a' w' => a' = b ∧ S w') NoWay else b = a.put o.dst undef

def Plan (P : Program) (ops : Array Oper) (S : World → Prop) : List Oper → Act → (Act → Prop) → Prop
  | [], a, R => R a
  | o :: l, a, R => ∃ b, StepOK P ops S o a b ∧ Plan P ops S l b R

theorem plan_nil {a : Act} {R : Act → Prop} (h : R a) : Plan P ops S [] a R := h
theorem plan_yes {o : Oper} {l : List Oper} {a b : Act} {R : Act → Prop} (hw : Region.wanted o (yielded ops a.tmps) = true)
    (hs : ∀ w, S w → ∀ K : Act → World → Prop, (∀ w', S w' → K b w') → o.wp P a w K NoWay) (hd : b.defers = a.defers) (h : Plan P ops S l b R) : Plan P ops S (o :: l) a R :=
  ⟨b, ⟨hd, fun w hS => by rw [if_pos hw]; exact hs w hS _ fun w' hS' => ⟨rfl, hS'⟩⟩, h⟩
theorem plan_plain {o : Oper} {l : List Oper} {a b : Act} {R : Act → Prop} (hg : o.guard = none)
    (hs : ∀ w, S w → ∀ K : Act → World → Prop, (∀ w', S w' → K b w') → o.wp P a w K NoWay) (hd : b.defers = a.defers) (h : Plan P ops S l b R) : Plan P ops S (o :: l) a R :=
  plan_yes (by simp [Region.wanted, hg]) hs hd h
theorem plan_no {o : Oper} {l : List Oper} {a : Act} {R : Act → Prop} (hw : Region.wanted o (yielded ops a.tmps) = false)
    (h : Plan P ops S l (a.put o.dst undef) R) : Plan P ops S (o :: l) a R :=
  ⟨_, ⟨put_defers_eq _ _ _, fun w hS => by rw [if_neg (by simp [hw])]⟩, h⟩

theorem StepOK.val {o : Oper} {a b : Act} {w : World} (h : StepOK P ops S o a b) (hS : S w) : ∃ v, b = a.put o.dst v := by
  obtain ⟨hd, h⟩ := h
  have h := h w hS
  split at h
  · unfold Oper.wp at h
    generalize (execOp a.eval o).run P w = r at h
    cases r with
    | ok n w' =>
      cases n with
      | value v => exact ⟨v, h.1.symm⟩
      | skip => exact ⟨undef, h.1.symm⟩
      | defer d =>
        have h1 := congrArg Act.defers h.1
        rw [put_defers_eq, hd] at h1
        exact absurd h1 (cons_ne_self _ _)
      | enter f args =>
        obtain ⟨e, w'', fr, hR, _⟩ := h []
        cases e with
        | returned v => exact ⟨v, hR.1.symm⟩
        | panicked c => exact (hR : False).elim
        | outgrown => exact absurd hR noWay_out
      | row row args =>
        obtain ⟨v, w'', hR, _⟩ := h default []
        exact ⟨v, hR.1.symm⟩
      | _ => exact (h : False).elim
    | halt x w' => cases x <;> exact (h : False).elim
  · exact ⟨undef, h⟩

theorem StepOK.wpOp {i : Nat} {o : Oper} {a b a' : Act} {v : Value} {w : World} {K : Act → World → Prop} (hi : ops[i]? = some o) (hsel : ∀ cs b, o.op ≠ .select cs b)
    (h : StepOK P ops S o a b) (hb : b = a.put o.dst v) (hS : S w) (he : ∀ x ∈ o.op.operands, a'.eval x = a.eval x)
    (hw : Region.wanted o (yielded ops a'.tmps) = Region.wanted o (yielded ops a.tmps)) (hs : a'.tmps.size = a.tmps.size)
    (hK : ∀ w', S w' → K (a'.put o.dst v) w') : wpOp P ops Q i K a' w := by
  obtain ⟨hd, h⟩ := h
  have h := h w hS
  have key : ∀ u w', (a.put o.dst u = b ∧ S w') → K (a'.put o.dst u) w' := fun u w' ⟨h1, h2⟩ => by
    rw [hb] at h1
    rw [put_same h1 hs]
    exact hK _ h2
  unfold Go.wpOp
  simp only [hi, hw]
  split at h
  · rename_i hw1
    simp only [hw1, if_true]
    refine .inl ?_
    unfold Oper.wp at h ⊢
    rw [execOp_congr o hsel he]
    generalize (execOp a.eval o).run P w = r at h ⊢
    cases r with
    | ok n w' =>
      cases n with
      | value u => exact key u w' h
      | skip => exact key undef w' h
      | defer d =>
        have h1 := congrArg Act.defers h.1
        rw [put_defers_eq, hd] at h1
        exact absurd h1 (cons_ne_self _ _)
      | enter f args =>
        refine Calls.mono h fun e w'' he => ?_
        cases e with
        | returned u => exact key u w'' he
        | panicked c => exact (he : False).elim
        | outgrown => exact absurd he noWay_out
      | row row args => exact Rows.mono h fun u w'' he => key u w'' he
      | _ => exact (h : False).elim
    | halt x w' => cases x <;> exact (h : False).elim
  · rename_i hw1
    simp only [hw1, Bool.false_eq_true, if_false]
    have e : a.put o.dst undef = a.put o.dst v := by rw [← hb, h]
    rw [put_same e hs]
    exact hK w hS

/-! ### The states -/
def dstOf (ops : Array Oper) (j : Nat) : Option Tmp := (ops[j]?).bind (·.dst)
theorem dstOf_of {j : Nat} {o : Oper} (h : ops[j]? = some o) : dstOf ops j = o.dst := by simp [dstOf, h]

structure Ag (ops : Array Oper) (vs : Nat → Value) (a0 : Act) (L : Nat → Bool) (a : Act) : Prop where
  size : a.tmps.size = a0.tmps.size
  defers : a.defers = a0.defers
  old : ∀ t, (∀ j, L j = true → dstOf ops j ≠ some t) → a.tmps[t]? = a0.tmps[t]?
  new : ∀ j t, L j = true → dstOf ops j = some t → t < a0.tmps.size → a.tmps[t]? = some (vs j)

def Distinct (ops : Array Oper) : Prop := ∀ i j t, dstOf ops i = some t → dstOf ops j = some t → i = j

theorem Ag.start {vs : Nat → Value} {a0 : Act} {L : Nat → Bool} (hL : ∀ j, L j = false) : Ag ops vs a0 L a0 :=
  ⟨rfl, rfl, fun _ _ => rfl, fun j t h => by simp [hL] at h⟩

theorem Ag.step {vs : Nat → Value} {a0 a : Act} {L L' : Nat → Bool} {i : Nat} (h : Ag ops vs a0 L a) (hD : Distinct ops) (hi : L i = false)
    (hL : ∀ j, L' j = (L j || j == i)) : Ag ops vs a0 L' (a.put (dstOf ops i) (vs i)) := by
  have hne : ∀ t, dstOf ops i ≠ some t → (a.put (dstOf ops i) (vs i)).tmps[t]? = a.tmps[t]? := fun t ht => by
    cases hd : dstOf ops i with
    | none => rfl
    | some d =>
      have : d ≠ t := fun e => ht (by rw [hd, e])
      simp [Act.put, Array.getElem?_setIfInBounds_ne this]
  refine ⟨by rw [put_size]; exact h.size, by rw [put_defers_eq]; exact h.defers, fun t ht => ?_, fun j t hj hjt hlt => ?_⟩
  · rw [hne t (ht i (by simp [hL]))]
    exact h.old t fun j hj => ht j (by simp [hL, hj])
  · by_cases hji : j = i
    · subst hji
      rw [hjt]
      simp [Act.put, h.size, hlt]
    · have hj' : L j = true := by rw [hL] at hj; simpa [hji] using hj
      rw [hne t (fun e => hji (hD j i t hjt e))]
      exact h.new j t hj' hjt hlt

theorem Ag.same {vs : Nat → Value} {a0 a a' : Act} {L L' : Nat → Bool} (h : Ag ops vs a0 L a) (h' : Ag ops vs a0 L' a') (t : Nat)
    (hL : ∀ j, dstOf ops j = some t → L j = L' j) : a.tmps[t]? = a'.tmps[t]? := by
  by_cases hex : ∃ j, L j = true ∧ dstOf ops j = some t
  · obtain ⟨j, hj, hjt⟩ := hex
    rcases Nat.lt_or_ge t a0.tmps.size with hlt | hge
    · rw [h.new j t hj hjt hlt, h'.new j t (by rw [← hL j hjt]; exact hj) hjt hlt]
    · rw [Array.getElem?_eq_none (by rw [h.size]; exact hge), Array.getElem?_eq_none (by rw [h'.size]; exact hge)]
  · rw [h.old t fun j hj e => hex ⟨j, hj, e⟩, h'.old t fun j hj e => hex ⟨j, by rw [hL j e]; exact hj, e⟩]

theorem Ag.ext {vs : Nat → Value} {a0 a a' : Act} {L L' : Nat → Bool} (h : Ag ops vs a0 L a) (h' : Ag ops vs a0 L' a') (hL : ∀ j, j < ops.size → L j = L' j) : a = a' := by
  have ht : a.tmps = a'.tmps := Array.ext_getElem? fun t => h.same h' t fun j hj => hL j (by
    rcases Nat.lt_or_ge j ops.size with hlt | hge
    · exact hlt
    · simp [dstOf, Array.getElem?_eq_none hge] at hj)
  have hd : a.defers = a'.defers := h.defers.trans h'.defers.symm
  cases a; cases a'
  simp only at ht hd
  subst ht; subst hd
  rfl

/-! ### The checks -/
def hasEdge (ops : Array Oper) (i j : Nat) : Bool := match ops[i]? with | some o => o.after.any fun e => Region.binds .any e && e.on == j | none => false

def planOK (ops : Array Oper) : Bool :=
  Region.noSelect ops &&
  (List.range ops.size).all fun i => match ops[i]? with
    | none => true
    | some o => (o.after.all fun e => !Region.binds .any e || decide (e.on < i)) &&
      (List.range ops.size).all fun j => match dstOf ops j with
        | none => true
        | some t => (i == j || dstOf ops i != some t) && (!(o.looksAt ops).contains t || i == j || hasEdge ops i j || hasEdge ops j i)

def tailOK (ops : Array Oper) (m : Nat) : Bool := (List.range ops.size).all fun i => decide (i < m) || (List.range i).all fun j => hasEdge ops i j

structure Sound (ops : Array Oper) : Prop where
  sel : ∀ (j : Nat) (o : Oper) cs b, ops[j]? = some o → o.op ≠ .select cs b
  back : ∀ i o, ops[i]? = some o → ∀ e ∈ o.after, Region.binds .any e = true → e.on < i
  dist : Distinct ops
  look : ∀ i o j t, ops[i]? = some o → dstOf ops j = some t → t ∈ o.looksAt ops → i = j ∨ hasEdge ops i j = true ∨ hasEdge ops j i = true

theorem lt_of_get {i : Nat} {o : Oper} (h : ops[i]? = some o) : i < ops.size := (Array.getElem?_eq_some_iff.1 h).1
theorem lt_of_dst {i : Nat} {t : Tmp} (h : dstOf ops i = some t) : i < ops.size := by
  rcases Nat.lt_or_ge i ops.size with hlt | hge
  · exact hlt
  · simp [dstOf, Array.getElem?_eq_none hge] at h

theorem sound_of (h : planOK ops = true) : Sound ops := by
  unfold planOK at h
  simp only [Bool.and_eq_true, List.all_eq_true, List.mem_range] at h
  obtain ⟨hs, h⟩ := h
  have h' : ∀ i o, ops[i]? = some o → (∀ e ∈ o.after, Region.binds .any e = true → e.on < i) ∧
      ∀ j t, dstOf ops j = some t → (i = j ∨ dstOf ops i ≠ some t) ∧ (t ∈ o.looksAt ops → i = j ∨ hasEdge ops i j = true ∨ hasEdge ops j i = true) := by
    intro i o ho
    have h1 := h i (lt_of_get ho)
    rw [ho] at h1
    simp only [Bool.and_eq_true, List.all_eq_true, List.mem_range, Array.all_eq_true_iff_forall_mem] at h1
    refine ⟨fun e he hb => ?_, fun j t hj => ?_⟩
    · have h2 := h1.1 e he
      simpa [hb] using h2
    · have h2 := h1.2 j (lt_of_dst hj)
      rw [hj] at h2
      simp only [Bool.and_eq_true, Bool.or_eq_true, beq_iff_eq, bne_iff_ne, ne_eq, Bool.not_eq_true', List.contains_eq_mem, decide_eq_false_iff_not] at h2
      refine ⟨h2.1, fun ht => ?_⟩
      rcases h2.2 with ((h3 | h3) | h3) | h3
      · exact absurd ht h3
      · exact .inl h3
      · exact .inr (.inl h3)
      · exact .inr (.inr h3)
  refine ⟨fun j o cs b ho => Region.noSelect_spec hs j o cs b ho, fun i o ho => (h' i o ho).1, fun i j t hi hj => ?_, fun i o j t ho hj ht => ((h' i o ho).2 j t hj).2 ht⟩
  cases ho : ops[i]? with
  | none => simp [dstOf, ho] at hi
  | some o => exact ((h' i o ho).2 j t hj).1.resolve_right fun hne => hne hi

theorem edge_spec {i j : Nat} (h : hasEdge ops i j = true) : ∃ o, ops[i]? = some o ∧ ∃ e ∈ o.after, Region.binds .any e = true ∧ e.on = j := by
  unfold hasEdge at h
  split at h
  · rename_i o ho
    obtain ⟨e, he, hb⟩ := Array.any_eq_true'.1 h
    simp only [Bool.and_eq_true, beq_iff_eq] at hb
    exact ⟨o, ho, e, he, hb.1, hb.2⟩
  · cases h

/-! ### The walk through whatever order -/
theorem Plan.acts {w : World} (hS : S w) : ∀ (l : List Oper) (a : Act) (R : Act → Prop), Plan P ops S l a R →
    ∃ (B : Nat → Act) (vs : Nat → Value), B 0 = a ∧ (∀ i o, l[i]? = some o → StepOK P ops S o (B i) (B (i + 1)) ∧ B (i + 1) = (B i).put o.dst (vs i)) ∧ R (B l.length)
  | [], a, R, h => ⟨fun _ => a, fun _ => undef, rfl, fun i o hi => by simp at hi, h⟩
  | o :: l, a, R, ⟨b, hs, hp⟩ => by
    obtain ⟨B, vs, h0, hst, hR⟩ := Plan.acts hS l b R hp
    obtain ⟨v, hv⟩ := hs.val hS
    refine ⟨fun | 0 => a | i + 1 => B i, fun | 0 => v | i + 1 => vs i, rfl, fun i o' hi => ?_, hR⟩
    cases i with
    | zero =>
      simp only [List.getElem?_cons_zero, Option.some.injEq] at hi
      subst hi
      simp only [h0]
      exact ⟨hs, hv⟩
    | succ i => exact hst i o' (by simpa using hi)

def unl (n : Nat) (listed : Array Bool) : Nat := (List.range n).countP fun j => !listed.getD j false

theorem countP_lt {p q : Nat → Bool} {i : Nat} (hle : ∀ j, q j = true → p j = true) (hp : p i = true) (hq : q i = false) : ∀ l : List Nat, i ∈ l → l.countP q < l.countP p
  | [], h => by simp at h
  | x :: l, h => by
    have hmono : l.countP q ≤ l.countP p := List.countP_mono_left fun j _ => hle j
    simp only [List.countP_cons]
    by_cases hx : x = i
    · subst hx
      simp [hp, hq]
      omega
    · have := countP_lt hle hp hq l ((List.mem_cons.1 h).resolve_left (Ne.symm hx))
      cases hqx : q x
      · cases hpx : p x <;> simp <;> omega
      · simp [hle x hqx]; omega

theorem getD_set_self {listed : Array Bool} {i : Nat} (h : i < listed.size) : (listed.setIfInBounds i true).getD i false = true := by simp [h]

theorem getD_set (listed : Array Bool) (i : Nat) (h : i < listed.size) (j : Nat) : (listed.setIfInBounds i true).getD j false = (listed.getD j false || j == i) := by
  by_cases hj : j = i
  · subst hj; simp [h]
  · rw [getD_set_ne false (Ne.symm hj)]; simp [hj]

theorem getD_tf {listed : Array Bool} {j : Nat} (h : j < listed.size) : listed.getD j true = listed.getD j false := by simp [h]

theorem tail_any (hs : Sound ops) {m : Nat} (ht : ∀ i, m ≤ i → i < ops.size → ∀ j, j < i → hasEdge ops i j = true) :
    ∀ (d k fuel : Nat) (listed : Array Bool) (a : Act) (w : World), ops.size - k = d → k ≤ ops.size → m ≤ k → d ≤ fuel → listed.size = ops.size → (∀ j, j < ops.size → (listed.getD j false = true ↔ j < k)) →
      wpOps P ops Q (List.range' k d) a w → wpAny P .any ops Q fuel listed a w
  | 0, k, fuel, listed, a, w, hd, hkn, hmk, hf, hsz, hL, h => by
    have hr : Region.ready .any ops listed = [] := by
      refine List.eq_nil_iff_forall_not_mem.2 fun i hi => ?_
      obtain ⟨h0, o, ho, _⟩ := mem_ready.1 hi
      have hlt := lt_of_get ho
      rw [getD_tf (by omega), (hL i hlt).2 (by omega)] at h0
      cases h0
    cases fuel with
    | zero => exact ⟨hr, h⟩
    | succ f => exact ⟨fun _ => h, fun i hi => by rw [hr] at hi; cases hi⟩
  | d + 1, k, fuel, listed, a, w, hd, hkn, hmk, hf, hsz, hL, h => by
    have hk : k < ops.size := by omega
    obtain ⟨f, rfl⟩ : ∃ f, fuel = f + 1 := ⟨fuel - 1, by omega⟩
    have hin : k ∈ Region.ready .any ops listed := mem_ready.2 ⟨by
        rw [getD_tf (by omega)]
        cases hb : listed.getD k false
        · rfl
        · exact absurd ((hL k hk).1 hb) (by omega), ops[k], by simp [hk], fun e he hb => (hL _ (by
          have := hs.back k ops[k] (by simp [hk]) e he hb
          omega)).2 (hs.back k ops[k] (by simp [hk]) e he hb)⟩
    refine ⟨fun hnil => (by rw [hnil] at hin; cases hin), fun i hi => ?_⟩
    obtain ⟨h0, o, ho, hall⟩ := mem_ready.1 hi
    have hlt := lt_of_get ho
    have hik : i = k := by
      have hge : ¬ i < k := fun hlt' => by
        rw [getD_tf (by omega), (hL i hlt).2 hlt'] at h0
        cases h0
      rcases Nat.lt_or_ge k i with hgt | hle
      · obtain ⟨o', ho', e, he, hb, hon⟩ := edge_spec (ht i (by omega) hlt k hgt)
        rw [ho] at ho'
        obtain rfl := Option.some.inj ho'
        have := hall e he hb
        rw [hon] at this
        exact absurd ((hL k hk).1 this) (by omega)
      · omega
    subst hik
    rw [List.range'_succ, wpOps_cons] at h
    refine wpOp_mono (fun a' w' h' => tail_any hs ht d (i + 1) f _ a' w' (by omega) (by omega) (by omega) (by omega) (by simp [hsz]) (fun j hj => ?_) h') h
    rw [getD_set _ _ (by omega)]
    simp only [Bool.or_eq_true, hL j hj, beq_iff_eq]
    omega

theorem plan_any (hs : Sound ops) {m : Nat} (hm : m ≤ ops.size) (ht : ∀ i, m ≤ i → i < ops.size → ∀ j, j < i → hasEdge ops i j = true) {B : Nat → Act} {vs : Nat → Value}
    (hB : ∀ i o, i < m → ops[i]? = some o → StepOK P ops S o (B i) (B (i + 1)) ∧ B (i + 1) = (B i).put o.dst (vs i))
    (hfin : ∀ w, S w → wpOps P ops Q (List.range' m (ops.size - m)) (B m) w) :
    ∀ (fuel : Nat) (listed : Array Bool) (a : Act) (w : World), listed.size = ops.size → Ag ops vs (B 0) (fun j => listed.getD j false) a →
      (∀ j o, listed.getD j false = true → ops[j]? = some o → ∀ e ∈ o.after, Region.binds .any e = true → listed.getD e.on false = true) →
      (∀ j, m ≤ j → listed.getD j false = false) → S w → unl ops.size listed ≤ fuel → wpAny P .any ops Q fuel listed a w := by
  have hpre : ∀ i, i ≤ m → Ag ops vs (B 0) (fun j => decide (j < i)) (B i) := by
    intro i
    induction i with
    | zero => exact fun _ => Ag.start (by simp)
    | succ i ih =>
      intro hi
      have hlt : i < ops.size := by omega
      obtain ⟨_, h2⟩ := hB i ops[i] (by omega) (by simp [hlt])
      rw [h2, ← dstOf_of (ops := ops) (j := i) (by simp [hlt])]
      refine (ih (by omega)).step hs.dist (by simp) fun j => ?_
      rw [Bool.eq_iff_iff]
      simp
      omega
  intro fuel
  induction fuel with
  | zero =>
    intro listed a w hsz hA hcl hun hS hf
    have hall : ∀ j, j < ops.size → listed.getD j false = true := fun j hj => by
      have h0 : unl ops.size listed = 0 := by omega
      unfold unl at h0
      rw [List.countP_eq_zero] at h0
      have := h0 j (List.mem_range.2 hj)
      simpa using this
    have hmn : m = ops.size := by
      rcases Nat.lt_or_ge m ops.size with hlt | hge
      · have h1 := hall m hlt
        rw [hun m (Nat.le_refl _)] at h1
        cases h1
      · omega
    have e : a = B m := hA.ext (hpre m (Nat.le_refl _)) fun j hj => by rw [hall j hj]; simp; omega
    subst e
    exact tail_any hs ht (ops.size - m) m 0 listed _ w rfl hm (Nat.le_refl _) (by omega) hsz (fun j hj => by simp [hall j hj]; omega) (hfin w hS)
  | succ fuel ih =>
    intro listed a w hsz hA hcl hun hS hf
    by_cases hall : ∀ j, j < m → listed.getD j false = true
    · have hLm : ∀ j, listed.getD j false = decide (j < m) := fun j => by
        rcases Nat.lt_or_ge j m with hlt | hge
        · rw [hall j hlt]; simp [hlt]
        · rw [hun j hge]; simp; omega
      have e : a = B m := hA.ext (hpre m (Nat.le_refl _)) fun j hj => hLm j
      subst e
      have hcnt : ops.size - m ≤ fuel + 1 := by
        refine Nat.le_trans ?_ hf
        unfold unl
        have e1 : (List.range ops.size).countP (fun j => !listed.getD j false) = (List.range ops.size).countP (fun j => decide (m ≤ j)) := by
          refine List.countP_congr fun j _ => ?_
          rw [hLm]
          simp
        rw [e1]
        have e2 : ∀ n, n - m ≤ (List.range n).countP (fun j => decide (m ≤ j)) := by
          intro n
          induction n with
          | zero => simp
          | succ n ihn =>
            rw [List.range_succ, List.countP_append]
            by_cases hn : m ≤ n
            · simp [hn]; omega
            · omega
        exact e2 _
      exact tail_any hs ht (ops.size - m) m (fuel + 1) listed _ w rfl hm (Nat.le_refl _) hcnt hsz (fun j hj => by rw [hLm]; simp) (hfin w hS)
    · have hmin : ∃ j, j < m ∧ listed.getD j false = false ∧ ∀ i, i < j → listed.getD i false = true := by
        have : ∀ n, n ≤ m → (∀ i, i < n → listed.getD i false = true) ∨ ∃ j, j < n ∧ listed.getD j false = false ∧ ∀ i, i < j → listed.getD i false = true := by
          intro n
          induction n with
          | zero => exact fun _ => .inl fun i hi => by omega
          | succ n ihn =>
            intro hn
            rcases ihn (by omega) with h1 | ⟨j, h1, h2, h3⟩
            · cases hb : listed.getD n false
              · exact .inr ⟨n, by omega, hb, h1⟩
              · refine .inl fun i hi => ?_
                rcases Nat.lt_or_ge i n with h4 | h4
                · exact h1 i h4
                · obtain rfl : i = n := by omega
                  exact hb
            · exact .inr ⟨j, by omega, h2, h3⟩
        rcases this m (Nat.le_refl _) with h1 | ⟨j, h1, h2, h3⟩
        · exact absurd h1 hall
        · exact ⟨j, h1, h2, h3⟩
      obtain ⟨j0, hj0, hj1, hj2⟩ := hmin
      have hlt0 : j0 < ops.size := by omega
      have hin : j0 ∈ Region.ready .any ops listed := mem_ready.2 ⟨by rw [getD_tf (by omega)]; exact hj1, ops[j0], by simp [hlt0], fun e he hb => hj2 _ (hs.back j0 ops[j0] (by simp [hlt0]) e he hb)⟩
      refine ⟨fun hnil => (by rw [hnil] at hin; cases hin), fun i hi => ?_⟩
      obtain ⟨h0, o, ho, hdeps⟩ := mem_ready.1 hi
      have hlt := lt_of_get ho
      rw [getD_tf (by omega)] at h0
      have him : i < m := by
        rcases Nat.lt_or_ge i m with h1 | h1
        · exact h1
        · obtain ⟨o', ho', e, he, hb, hon⟩ := edge_spec (ht i h1 hlt j0 (by omega))
          rw [ho] at ho'
          obtain rfl := Option.some.inj ho'
          have := hdeps e he hb
          rw [hon, hj1] at this
          cases this
      obtain ⟨hstep, hput⟩ := hB i o him ho
      have hAi := hpre i (by omega)
      have hlook : ∀ t, t ∈ o.looksAt ops → a.tmps[t]? = (B i).tmps[t]? := fun t htl => hA.same hAi t fun j hj => by
        rcases hs.look i o j t ho hj htl with rfl | he | he
        · rw [h0]; simp
        · obtain ⟨o', ho', e, he, hb, hon⟩ := edge_spec he
          rw [ho] at ho'
          obtain rfl := Option.some.inj ho'
          have h1 := hdeps e he hb
          have h2 := hs.back i o ho e he hb
          rw [hon] at h1 h2
          rw [h1]; simp [h2]
        · obtain ⟨o', ho', e, he, hb, hon⟩ := edge_spec he
          have h2 := hs.back j o' ho' e he hb
          rw [hon] at h2
          cases hlj : listed.getD j false
          · simp; omega
          · have := hcl j o' hlj ho' e he hb
            rw [hon, h0] at this
            cases this
      have hev : ∀ x ∈ o.op.operands, a.eval x = (B i).eval x := fun x hx => by
        cases x with
        | tmp t =>
          have := hlook t (List.mem_append_left _ (List.mem_filterMap.2 ⟨.tmp t, by simpa using hx, rfl⟩))
          simp only [Act.eval, Array.getD_eq_getD_getElem?, this]
        | _ => rfl
      have hwt : Region.wanted o (yielded ops a.tmps) = Region.wanted o (yielded ops (B i).tmps) := by
        unfold Region.wanted
        cases hg : o.guard with
        | none => rfl
        | some gw =>
          obtain ⟨g, want⟩ := gw
          have hy : yielded ops a.tmps g = yielded ops (B i).tmps g := by
            unfold yielded
            cases hgt : (ops[g]?).bind (·.dst) with
            | none => rfl
            | some t =>
              have := hlook t (List.mem_append_right _ (by simp [hg, hgt]))
              simp only [Option.bind_some, this]
          simp only [hy]
      refine hstep.wpOp ho (fun cs b => hs.sel i o cs b ho) hput hS hev hwt (hA.size.trans hAi.size.symm) fun w' hS' => ?_
      refine ih _ _ w' (by simp [hsz]) ?_ ?_ ?_ hS' ?_
      · rw [← dstOf_of (ops := ops) (j := i) ho]
        exact hA.step hs.dist h0 fun j => getD_set listed i (by omega) j
      · intro j o' hj ho' e he hb
        by_cases hji : j = i
        · subst hji
          rw [ho] at ho'
          obtain rfl := Option.some.inj ho'
          exact getD_set_true (hdeps e he hb)
        · rw [getD_set_ne false (Ne.symm hji)] at hj
          exact getD_set_true (hcl j o' hj ho' e he hb)
      · intro j hj
        rw [getD_set_ne false (by omega)]
        exact hun j hj
      · have : unl ops.size (listed.setIfInBounds i true) < unl ops.size listed := by
          unfold unl
          refine countP_lt (i := i) (fun j hj => ?_) (by simp [h0]) (by rw [getD_set _ _ (by omega)]; simp) _ (List.mem_range.2 hlt)
          rw [getD_set _ _ (by omega)] at hj
          simp at hj ⊢
          exact hj.1
        omega

/-- The region: m operations by the plan, the others behind them in the text's order. -/
theorem wp_region_plan {l : List Oper} {id : Nat} {a : Act} {w : World} (m : Nat) (S : World → Prop) (hm : P.follows .mixedOrders = true) (hok : planOK l.toArray = true) (hml : (decide (m ≤ l.length) && tailOK l.toArray m) = true)
    (hS : S w.drew) (h : Plan P l.toArray S (l.take m) a (fun b => ∀ w', S w' → wpList P l.toArray Q (l.drop m) b w')) : (Code.region id l.toArray true).wp P Q a w := by
  have hs := sound_of hok
  simp only [Bool.and_eq_true, decide_eq_true_eq] at hml
  obtain ⟨hml, htl⟩ := hml
  have ht : ∀ i, m ≤ i → i < l.toArray.size → ∀ j, j < i → hasEdge l.toArray i j = true := fun i hi hlt j hj => by
    unfold tailOK at htl
    simp only [List.all_eq_true, List.mem_range, Bool.or_eq_true, decide_eq_true_eq] at htl
    rcases htl i hlt with h1 | h1
    · omega
    · exact h1 j hj
  obtain ⟨B, vs, h0, hst, hR⟩ := Plan.acts hS _ _ _ h
  have hlen : (l.take m).length = m := by simp; omega
  rw [hlen] at hR
  refine wp_region_any hm (plan_any (S := S) hs (by simpa using hml) ht (B := B) (vs := vs) (fun i o hi ho => hst i o ?_) (fun w' hS' => ?_) _ _ _ _ (by simp) ?_ ?_ ?_ hS ?_)
  · rw [List.getElem?_take_of_lt hi]
    simpa using ho
  · have h1 := hR w' hS'
    have e : l.toArray.size - m = (l.drop m).length := by simp
    rw [e, wpOps_eq_wpList (P := P) (ops := l.toArray) (Q := Q) (l.drop m) m (fun j => by simp)]
    exact h1
  · rw [h0]
    refine Ag.start fun j => ?_
    simp [Array.getD_eq_getD_getElem?, Array.getElem?_replicate]
    split <;> rfl
  · intro j o hj
    exfalso
    simp [Array.getD_eq_getD_getElem?, Array.getElem?_replicate] at hj
    split at hj <;> simp at hj
  · intro j _
    simp [Array.getD_eq_getD_getElem?, Array.getElem?_replicate]
    split <;> rfl
  · unfold unl
    refine Nat.le_trans List.countP_le_length (by simp)
end
end Go.Proofs.Ytdiflkabpjnncaa
