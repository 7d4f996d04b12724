
/- The engine, part 8: regions, in the text's order and in whatever order: sound. No condition. -/
import Derived.Test.YtdiflkabpjnncaaE7
import Derived.Test.YtdiflkabpjnncaaE4
namespace Go.Proofs.Ytdiflkabpjnncaa
open Go Go.RowKit
set_option linter.unusedVariables false
set_option linter.unusedSimpArgs false

section plan
variable {P : Program} {ops : Array Oper} {Q : Exit → Act → World → Prop}
/-- Operation i comes behind operation j, straight or by way of others. -/
def Must (ops : Array Oper) (i j : Nat) : Prop := ∀ o, ops[i]? = some o → ∀ L : Nat → Bool, (∀ e ∈ o.after, Region.binds .any e = true → L e.on = true) →
  (∀ j o, L j = true → ops[j]? = some o → ∀ e ∈ o.after, Region.binds .any e = true → L e.on = true) → L j = true
theorem tail_anyM (hs : Sound ops) {m : Nat} (ht : ∀ i, m ≤ i → i < ops.size → ∀ j, j < i → Must ops i j) :
    ∀ (d k fuel : Nat) (listed : Array Bool) (a : Act) (w : World), ops.size - k = d → k ≤ ops.size → m ≤ k → d ≤ fuel → listed.size = ops.size → (∀ j, j < ops.size → (listed.getD j false = true ↔ j < k)) →
      wpOps P ops Q (List.range' k d) a w → wpAny P .any ops Q fuel listed a w
  | 0, k, fuel, listed, a, w, hd, hkn, hmk, hf, hsz, hL, h => by
    have hr : Region.ready .any ops listed = [] := by
      refine List.eq_nil_iff_forall_not_mem.2 fun i hi => ?_
      obtain ⟨h0, o, ho, _⟩ := mem_ready.1 hi
      have hlt := lt_of_get ho
      rw [getD_tf (by omega), (hL i hlt).2 (by omega)] at h0
      cases h0
    cases fuel with
    | zero => exact ⟨hr, h⟩
    | succ f => exact ⟨fun _ => h, fun i hi => by rw [hr] at hi; cases hi⟩
  | d + 1, k, fuel, listed, a, w, hd, hkn, hmk, hf, hsz, hL, h => by
    have hk : k < ops.size := by omega
    obtain ⟨f, rfl⟩ : ∃ f, fuel = f + 1 := ⟨fuel - 1, by omega⟩
    have hin : k ∈ Region.ready .any ops listed := mem_ready.2 ⟨by
        rw [getD_tf (by omega)]
        cases hb : listed.getD k false
        · rfl
        · exact absurd ((hL k hk).1 hb) (by omega), ops[k], by simp [hk], fun e he hb => (hL _ (by
          have := hs.back k ops[k] (by simp [hk]) e he hb
          omega)).2 (hs.back k ops[k] (by simp [hk]) e he hb)⟩
    refine ⟨fun hnil => (by rw [hnil] at hin; cases hin), fun i hi => ?_⟩
    obtain ⟨h0, o, ho, hall⟩ := mem_ready.1 hi
    have hlt := lt_of_get ho
    have hik : i = k := by
      have hge : ¬ i < k := fun hlt' => by
        rw [getD_tf (by omega), (hL i hlt).2 hlt'] at h0
        cases h0
      rcases Nat.lt_or_ge k i with hgt | hle
      · have := ht i (by omega) hlt k hgt o ho (fun j => listed.getD j false) hall (fun j o' hj ho' e he hb => by
          have hj1 := lt_of_get ho'
          have hj2 := (hL j hj1).1 hj
          have := hs.back j o' ho' e he hb
          exact (hL e.on (by omega)).2 (by omega))
        exact absurd ((hL k hk).1 this) (by omega)
      · omega
    subst hik
    rw [List.range'_succ, wpOps_cons] at h
    refine wpOp_mono (fun a' w' h' => tail_anyM hs ht d (i + 1) f _ a' w' (by omega) (by omega) (by omega) (by omega) (by simp [hsz]) (fun j hj => ?_) h') h
    rw [getD_set _ _ (by omega)]
    simp only [Bool.or_eq_true, hL j hj, beq_iff_eq]
    omega

/-- A region in whatever order: what holds of what has been done, J, is handed on by each operation whose forerunners have been done. -/
theorem plan_J (hs : Sound ops) {m : Nat} (hm : m ≤ ops.size) (ht : ∀ i, m ≤ i → i < ops.size → ∀ j, j < i → Must ops i j) {J : (Nat → Bool) → Act → World → Prop}
    (hstep : ∀ (i : Nat) (o : Oper) (L : Nat → Bool) (a : Act) (w : World), i < m → ops[i]? = some o → L i = false → (∀ e ∈ o.after, Region.binds .any e = true → L e.on = true) →
      (∀ j o, L j = true → ops[j]? = some o → ∀ e ∈ o.after, Region.binds .any e = true → L e.on = true) → (∀ j, m ≤ j → L j = false) → J L a w → wpOp P ops Q i (fun a' w' => J (fun j => L j || j == i) a' w') a w)
    (hfin : ∀ (L : Nat → Bool) (a : Act) (w : World), (∀ j, L j = decide (j < m)) → J L a w → wpOps P ops Q (List.range' m (ops.size - m)) a w) :
    ∀ (fuel : Nat) (listed : Array Bool) (a : Act) (w : World), listed.size = ops.size → J (fun j => listed.getD j false) a w →
      (∀ j o, listed.getD j false = true → ops[j]? = some o → ∀ e ∈ o.after, Region.binds .any e = true → listed.getD e.on false = true) →
      (∀ j, m ≤ j → listed.getD j false = false) → unl ops.size listed ≤ fuel → wpAny P .any ops Q fuel listed a w := by
  intro fuel
  induction fuel with
  | zero =>
    intro listed a w hsz hA hcl hun hf
    have hall : ∀ j, j < ops.size → listed.getD j false = true := fun j hj => by
      have h0 : unl ops.size listed = 0 := by omega
      unfold unl at h0
      rw [List.countP_eq_zero] at h0
      have := h0 j (List.mem_range.2 hj)
      simpa using this
    have hmn : m = ops.size := by
      rcases Nat.lt_or_ge m ops.size with hlt | hge
      · have h1 := hall m hlt
        rw [hun m (Nat.le_refl _)] at h1
        cases h1
      · omega
    refine tail_anyM hs ht (ops.size - m) m 0 listed _ w rfl hm (Nat.le_refl _) (by omega) hsz (fun j hj => by simp [hall j hj]; omega) (hfin _ a w (fun j => ?_) hA)
    rcases Nat.lt_or_ge j m with hlt | hge
    · rw [hall j (by omega)]; simp [hlt]
    · rw [hun j hge]; simp; omega
  | succ fuel ih =>
    intro listed a w hsz hA hcl hun hf
    by_cases hall : ∀ j, j < m → listed.getD j false = true
    · have hLm : ∀ j, listed.getD j false = decide (j < m) := fun j => by
        rcases Nat.lt_or_ge j m with hlt | hge
        · rw [hall j hlt]; simp [hlt]
        · rw [hun j hge]; simp; omega
      have hcnt : ops.size - m ≤ fuel + 1 := by
        refine Nat.le_trans ?_ hf
        unfold unl
        have e1 : (List.range ops.size).countP (fun j => !listed.getD j false) = (List.range ops.size).countP (fun j => decide (m ≤ j)) := by
          refine List.countP_congr fun j _ => ?_
          rw [hLm]
          simp
        rw [e1]
        have e2 : ∀ n, n - m ≤ (List.range n).countP (fun j => decide (m ≤ j)) := by
          intro n
          induction n with
          | zero => simp
          | succ n ihn =>
            rw [List.range_succ, List.countP_append]
            by_cases hn : m ≤ n
            · simp [hn]; omega
            · omega
        exact e2 _
      exact tail_anyM hs ht (ops.size - m) m (fuel + 1) listed _ w rfl hm (Nat.le_refl _) hcnt hsz (fun j hj => by rw [hLm]; simp) (hfin _ a w hLm hA)
    · have hmin : ∃ j, j < m ∧ listed.getD j false = false ∧ ∀ i, i < j → listed.getD i false = true := by
        have : ∀ n, n ≤ m → (∀ i, i < n → listed.getD i false = true) ∨ ∃ j, j < n ∧ listed.getD j false = false ∧ ∀ i, i < j → listed.getD i false = true := by
          intro n
          induction n with
          | zero => exact fun _ => .inl fun i hi => by omega
          | succ n ihn =>
            intro hn
            rcases ihn (by omega) with h1 | ⟨j, h1, h2, h3⟩
            · cases hb : listed.getD n false
              · exact .inr ⟨n, by omega, hb, h1⟩
              · refine .inl fun i hi => ?_
                rcases Nat.lt_or_ge i n with h4 | h4
                · exact h1 i h4
                · obtain rfl : i = n := by omega
                  exact hb
            · exact .inr ⟨j, by omega, h2, h3⟩
        rcases this m (Nat.le_refl _) with h1 | ⟨j, h1, h2, h3⟩
        · exact absurd h1 hall
        · exact ⟨j, h1, h2, h3⟩
      obtain ⟨j0, hj0, hj1, hj2⟩ := hmin
      have hlt0 : j0 < ops.size := by omega
      have hin : j0 ∈ Region.ready .any ops listed := mem_ready.2 ⟨by rw [getD_tf (by omega)]; exact hj1, ops[j0], by simp [hlt0], fun e he hb => hj2 _ (hs.back j0 ops[j0] (by simp [hlt0]) e he hb)⟩
      refine ⟨fun hnil => (by rw [hnil] at hin; cases hin), fun i hi => ?_⟩
      obtain ⟨h0, o, ho, hdeps⟩ := mem_ready.1 hi
      have hlt := lt_of_get ho
      rw [getD_tf (by omega)] at h0
      have him : i < m := by
        rcases Nat.lt_or_ge i m with h1 | h1
        · exact h1
        · have := ht i h1 hlt j0 (by omega) o ho (fun j => listed.getD j false) hdeps hcl
          rw [hj1] at this
          cases this
      refine wpOp_mono (fun a' w' hJ => ?_) (hstep i o _ a w him ho h0 hdeps hcl hun hA)
      refine ih _ _ w' (by simp [hsz]) ?_ ?_ ?_ ?_
      · have e : (fun j => (listed.setIfInBounds i true).getD j false) = fun j => listed.getD j false || j == i := funext fun j => getD_set listed i (by omega) j
        rw [e]
        exact hJ
      · intro j o' hj ho' e he hb
        by_cases hji : j = i
        · subst hji
          rw [ho] at ho'
          obtain rfl := Option.some.inj ho'
          exact getD_set_true (hdeps e he hb)
        · rw [getD_set_ne false (Ne.symm hji)] at hj
          exact getD_set_true (hcl j o' hj ho' e he hb)
      · intro j hj
        rw [getD_set_ne false (by omega)]
        exact hun j hj
      · have : unl ops.size (listed.setIfInBounds i true) < unl ops.size listed := by
          unfold unl
          refine countP_lt (i := i) (fun j hj => ?_) (by simp [h0]) (by rw [getD_set _ _ (by omega)]; simp) _ (List.mem_range.2 hlt)
          rw [getD_set _ _ (by omega)] at hj
          simp at hj ⊢
          exact hj.1
        omega

theorem depsO_spec {l : List Oper} {L : Nat → Bool} {i : Nat} {o : Oper} (ho : l[i]? = some o) (hd : ∀ e ∈ o.after, Region.binds .any e = true → L e.on = true) : ∀ x ∈ depsO l i, L x = true := by
  intro x hx
  unfold depsO at hx
  rw [ho] at hx
  simp only [List.mem_map, List.mem_filter] at hx
  obtain ⟨e, ⟨he, hb⟩, rfl⟩ := hx
  exact hd e (by simpa using he) hb
theorem ancGo_spec {l : List Oper} {L : Nat → Bool} (hcl : ∀ j o, L j = true → l[j]? = some o → ∀ e ∈ o.after, Region.binds .any e = true → L e.on = true) :
    ∀ (t : Nat) (s : List Nat), (∀ x ∈ s, L x = true) → ∀ x ∈ ancGo l t s, L x = true
  | 0, s, hs => hs
  | t + 1, s, hs => by
    unfold ancGo
    refine ancGo_spec hcl t _ fun x hx => ?_
    cases hb : s.any (Nat.beq t)
    · rw [hb] at hx; exact hs x hx
    · rw [hb, cond_true, List.mem_append] at hx
      rcases hx with hx | hx
      · have ht : L t = true := by
          rw [List.any_eq_true] at hb
          obtain ⟨y, hy, hty⟩ := hb
          rw [Nat.eq_of_beq_eq_true hty]
          exact hs y hy
        cases ho : l[t]? with
        | none => unfold depsO at hx; rw [ho] at hx; cases hx
        | some o => exact depsO_spec ho (hcl t o ht ho) x hx
      · exact hs x hx
theorem must_of {l : List Oper} {i j : Nat} (h : (ancGo l i (depsO l i)).any (Nat.beq j) = true) : Must l.toArray i j := by
  intro o ho L hd hcl
  rw [List.any_eq_true] at h
  obtain ⟨y, hy, hjy⟩ := h
  rw [Nat.eq_of_beq_eq_true hjy]
  exact ancGo_spec (fun j o hj ho => hcl j o hj (by simpa using ho)) i _ (depsO_spec (by simpa using ho) hd) y hy

/-- A region in whatever order. -/
abbrev RegAny (P : Program) (Q : Exit → Act → World → Prop) (l : List Oper) (a : Act) (w : World) : Prop := wpAny P .any l.toArray Q l.toArray.size (Array.replicate l.toArray.size false) a { w with drawn := w.drawn + 1 }
theorem wp_region_J {l : List Oper} {a : Act} {w : World} {m : Nat} (hmo : P.follows .mixedOrders = true) (hok : planOK l.toArray = true) (hml : m ≤ l.length) (htl : tailT l m = true) {J : (Nat → Bool) → Act → World → Prop}
    (h0 : J (fun _ => false) a w.drew)
    (hstep : ∀ (i : Nat) (o : Oper) (L : Nat → Bool) (a : Act) (w : World), i < m → l[i]? = some o → L i = false → (∀ e ∈ o.after, Region.binds .any e = true → L e.on = true) →
      (∀ j o, L j = true → l[j]? = some o → ∀ e ∈ o.after, Region.binds .any e = true → L e.on = true) → (∀ j, m ≤ j → L j = false) → J L a w → wpOp P l.toArray Q i (fun a' w' => J (fun j => L j || j == i) a' w') a w)
    (hfin : ∀ (L : Nat → Bool) (a : Act) (w : World), (∀ j, L j = decide (j < m)) → J L a w → wpList P l.toArray Q (l.drop m) a w) : RegAny P Q l a w := by
  have hs := sound_of hok
  have ht : ∀ i, m ≤ i → i < l.toArray.size → ∀ j, j < i → Must l.toArray i j := fun i hi hlt j hj => by
    unfold tailT at htl
    simp only [List.all_eq_true, List.mem_range, Bool.or_eq_true] at htl
    rcases htl i (by simpa using hlt) with h1 | h1
    · have := Nat.le_of_ble_eq_true h1; omega
    · exact must_of (h1 j hj)
  refine plan_J hs (by simpa using hml) ht (J := J) (fun i o L a w hi ho h1 h2 h3 h4 h5 => hstep i o L a w hi (by simpa using ho) h1 h2 (fun j o hj ho' => h3 j o hj (by simpa using ho')) h4 h5) (fun L a' w' hL hJ => ?_) _ _ _ _ (by simp) ?_ ?_ ?_ ?_
  · have e : l.toArray.size - m = (l.drop m).length := by simp
    rw [e, wpOps_eq_wpList (P := P) (ops := l.toArray) (Q := Q) (l.drop m) m (fun j => by simp)]
    exact hfin L a' w' hL hJ
  · have : (fun j => (Array.replicate l.toArray.size false).getD j false) = fun _ => false := funext fun j => by
      simp [Array.getD_eq_getD_getElem?, Array.getElem?_replicate]
      split <;> rfl
    rw [this]
    exact h0
  · intro j o hj
    exfalso
    simp [Array.getD_eq_getD_getElem?, Array.getElem?_replicate] at hj
    split at hj <;> simp at hj
  · intro j _
    simp [Array.getD_eq_getD_getElem?, Array.getElem?_replicate]
    split <;> rfl
  · unfold unl
    refine Nat.le_trans List.countP_le_length (by simp)
end plan

section
variable {P : Program} {C : Ctx} {R : PN} {w : World} {F Ob : Nat → Prop} {W0 : World} {A : PN} {H : AH} {dz : List Deferred} {n : Nat}

theorem upon_noway {o : Oper} {a : Act} {K K' : Act → World → Prop} {Q : Exit → Act → World → Prop} (h : o.wp P a w K NoWay) (hK : ∀ a' w', K a' w' → K' a' w') : o.wp P a w K' Q := by
  unfold Oper.wp at h ⊢
  generalize (execOp a.eval o).run P w = r at h ⊢
  cases r with
  | ok nx w' =>
    cases nx with
    | value v => exact hK _ _ h
    | skip => exact hK _ _ h
    | defer d => exact hK _ _ h
    | enter f args =>
      refine Calls.mono h fun e w'' he => ?_
      cases e with
      | returned v => exact hK _ _ he
      | panicked c => exact (he : False).elim
      | outgrown => exact absurd he NoWay_out
    | row row args => exact Rows.mono h fun v w'' he => hK _ _ he
    | _ => exact (h : False).elim
  | halt x w' => cases x <;> exact (h : False).elim

/-- The operations that make or turn memory do what part 4 says. -/
def GOK (P : Program) (C : Ctx) : Prop := ∀ (o : Oper) (a : Act) (e : Env) (F Ob : Nat → Prop) (W0 : World) (R : PN) (H : AH) (w : World) (K : AV → AH → Prop),
  (aopG C o.op e H K ∨ C.X o.op e H K) → HRel F Ob W0 R H w → ERel R w (Wr F R H) e a.tmps →
    o.wp P a w (fun a' w' => ∃ R' v H' cv, K v H' ∧ a' = a.put o.dst cv ∧ (∀ i, i < H.nx → R'[i]? = R[i]?) ∧ HRel F Ob W0 R' H' w' ∧ ERel R' w' (Wr F R' H') e a.tmps ∧ Rep R' w' (Wr F R' H') v cv) NoWay

/-- The calls that may stand in a region of no fixed order are such as the table of general calls tells. -/
structure CopyOK (C : Ctx) : Prop where
  congr : ∀ (o : Op) (e e' : Env) (H : AH), (∀ x ∈ o.operands.toList, evA e x = evA e' x) → C.DX o e H = C.DX o e' H
  out : ∀ (o : Op) (e : Env) (H : AH) (obs : List Prop) (v : AV) (δ : List (Nat × Option Ent)) (nx : Nat) (K : AV → AH → Prop),
    C.DX o e H = some (obs, v, δ, nx) → (∀ p ∈ obs, p) → K v ⟨nx, δ ++ H.es⟩ → C.X o e H K
def DOK (C : Ctx) : Prop := ∀ (g : FuncId) (l : List AV) (H : AH) (obs : List Prop) (v : AV) (δ : List (Nat × Option Ent)) (nx : Nat) (K : AV → AH → Prop),
  C.XD g l H = some (obs, v, δ, nx) → (∀ p ∈ obs, p) → K v ⟨nx, δ ++ H.es⟩ → ∃ s, C.G g = some s ∧ s l H K
structure COK (P : Program) (C : Ctx) : Prop where
  T : TOK P C.T
  S : POK P C.S
  G : GOK P C
  D : DOK C
  Y : CopyOK C

inductive St (F Ob : Nat → Prop) (W0 : World) (A : PN) (dz : List Deferred) (n : Nat) (e : Env) (H : AH) (a : Act) (w : World) : Prop
  | mk (R : PN) (hA : ∀ (i : Nat) (x : Option Nat), A[i]? = some x → R[i]? = some x) (h : HRel F Ob W0 R H w) (he : ERel R w (Wr F R H) e a.tmps) (hd : a.defers = dz) (hn : a.tmps.size = n) : St F Ob W0 A dz n e H a w

theorem HRel.wr_quiet {w' : World} : Wr F R H = Wr F R H := rfl

theorem ERel.mono {e : Env} {tmps : Array Value} {O O' : Nat → Prop} {R' : PN} {w' : World} (h : ERel R w O e tmps) (hR : ∀ (i : Nat) (x : Option Nat), R[i]? = some x → R'[i]? = some x) (hx : Ext O w w') (hO : ∀ b, b < w.heap.size → O' b → O b) : ERel R' w' O' e tmps :=
  fun t v ht => ⟨(h t v ht).1, (h t v ht).2.mono hR hx hO⟩

theorem put_getD (a : Act) (d : Option Tmp) (v : Value) (t : Nat) : (a.put d v).tmps.getD t undef = if d = some t ∧ t < a.tmps.size then v else a.tmps.getD t undef := by
  cases d with
  | none => simp [Act.put]
  | some d =>
    simp only [Act.put, Array.getD_eq_getD_getElem?, Array.getElem?_setIfInBounds, Option.some.injEq]
    by_cases h : d = t
    · subst h
      by_cases h2 : d < a.tmps.size
      · simp [h2]
      · simp [h2]
    · simp [h]

theorem ERel.put {e : Env} {a : Act} {O : Nat → Prop} (h : ERel R w O e a.tmps) {d : Option Tmp} (hd : ∀ t, d = some t → t < a.tmps.size) {x : AV} {v : Value} (hv : Rep R w O x v) : ERel R w O (pute d x e) (a.put d v).tmps := by
  cases d with
  | none => exact h
  | some d =>
    intro t y hy
    have hs := put_size a (some d) v
    rw [hs, put_getD]
    unfold pute lk at hy
    by_cases ht : d = t
    · subst ht
      have : Nat.beq d d = true := beq_iff.2 rfl
      simp only [this, cond_true, Option.some.injEq] at hy
      subst hy
      exact ⟨hd d rfl, by rw [if_pos ⟨rfl, hd d rfl⟩]; exact hv⟩
    · have : Nat.beq d t = false := by cases hb : Nat.beq d t with | false => rfl | true => exact absurd (beq_iff.1 hb) ht
      simp only [this, cond_false] at hy
      obtain ⟨h1, h2⟩ := h t y hy
      exact ⟨h1, by rw [if_neg (by simp [ht])]; exact h2⟩

/-- The way that a guard decides, and the frame behind. -/
inductive Gd (all : List Oper) (o : Oper) (e : Env) : Env → Bool → Prop
  | none (h : o.guard = none) : Gd all o e e true
  | tru (j : Nat) (want : Bool) (g : Nat) (h : o.guard = some (j, want)) (hg : slotOf all j = some g) (hl : lk e g = some .tru) : Gd all o e e want
  | fls (j : Nat) (want : Bool) (g : Nat) (h : o.guard = some (j, want)) (hg : slotOf all j = some g) (hl : lk e g = some .fls) : Gd all o e e (!want)
  | ft (j : Nat) (want : Bool) (g : Nat) (b : Bool) (h : o.guard = some (j, want)) (hg : slotOf all j = some g) (hl : lk e g = some (.bool b)) (hb : b = true) : Gd all o e ((g, .tru) :: e) want
  | und (j : Nat) (want : Bool) (g : Nat) (h : o.guard = some (j, want)) (hg : slotOf all j = some g) (hl : lk e g = some (.tup [])) : Gd all o e e false
  | ff (j : Nat) (want : Bool) (g : Nat) (b : Bool) (h : o.guard = some (j, want)) (hg : slotOf all j = some g) (hl : lk e g = some (.bool b)) (hb : b = false) : Gd all o e ((g, .fls) :: e) (!want)

/-- What stands for x stands for y. -/
def Fits (x y : AV) : Prop := ∀ (R : PN) (w : World) (O : Nat → Prop) (v : Value), Rep R w O x v → Rep R w O y v
theorem Fits.refl (x : AV) : Fits x x := fun _ _ _ _ h => h

theorem lk_cons (s : Nat) (v : AV) (e : Env) (t : Nat) : lk ((s, v) :: e) t = if s = t then some v else lk e t := by
  show (bif Nat.beq s t then some v else lk e t) = _
  by_cases h : s = t
  · subst h
    rw [beq_iff.2 rfl, if_pos rfl]; rfl
  · have : Nat.beq s t = false := by cases hb : Nat.beq s t with | false => rfl | true => exact absurd (beq_iff.1 hb) h
    rw [this, if_neg h]; rfl

theorem Gd.fits {all : List Oper} {o : Oper} {e e' : Env} {b : Bool} (h : Gd all o e e' b) {t : Nat} {y : AV} (hy : lk e' t = some y) : ∃ x, lk e t = some x ∧ Fits x y := by
  cases h with
  | none h => exact ⟨y, hy, .refl _⟩
  | tru j want g h hg hl => exact ⟨y, hy, .refl _⟩
  | fls j want g h hg hl => exact ⟨y, hy, .refl _⟩
  | und j want g h hg hl => exact ⟨y, hy, .refl _⟩
  | ft j want g c h hg hl hb =>
    rw [lk_cons] at hy
    split at hy
    · rename_i hgt
      subst hgt
      cases hy
      subst hb
      exact ⟨_, hl, fun R w O v hv => by cases hv; exact .tru⟩
    · exact ⟨y, hy, .refl _⟩
  | ff j want g c h hg hl hb =>
    rw [lk_cons] at hy
    split at hy
    · rename_i hgt
      subst hgt
      cases hy
      subst hb
      exact ⟨_, hl, fun R w O v hv => by cases hv; exact .fls⟩
    · exact ⟨y, hy, .refl _⟩

theorem Gd.erel {all : List Oper} {o : Oper} {e e' : Env} {b : Bool} (h : Gd all o e e' b) {O : Nat → Prop} {tmps : Array Value} (hE : ERel R w O e tmps) : ERel R w O e' tmps := fun t y hy => by
  obtain ⟨x, hx, hf⟩ := h.fits hy
  exact ⟨(hE t x hx).1, hf _ _ _ _ (hE t x hx).2⟩

theorem slotOf_eq (all : List Oper) (j : Nat) : slotOf all j = dstOf all.toArray j := by
  unfold slotOf dstOf
  cases h : all[j]? <;> simp [h]

theorem yielded_of {all : List Oper} {tmps : Array Value} {j g : Nat} {b : Bool} (hg : slotOf all j = some g) (hs : g < tmps.size) (hv : tmps.getD g undef = .bool b) : yielded all.toArray tmps j = some b := by
  unfold yielded
  have : (all.toArray[j]?).bind (·.dst) = some g := by
    unfold slotOf at hg
    cases h : all[j]? with
    | none => rw [h] at hg; cases hg
    | some o => rw [h] at hg; simpa [h] using hg
  rw [this]
  have h2 : tmps[g]? = some (.bool b) := by
    rw [← hv]
    simp [Array.getD_eq_getD_getElem?, hs]
  simp [h2]

theorem undef_rep {O : Nat → Prop} : Rep R w O (.tup []) undef := .tup [] [] rfl (by simp)
theorem yielded_none {all : List Oper} {tmps : Array Value} {j g : Nat} (hg : slotOf all j = some g) (hv : tmps.getD g undef = .tuple #[]) : yielded all.toArray tmps j = none := by
  unfold yielded
  have : (all.toArray[j]?).bind (·.dst) = some g := by
    unfold slotOf at hg
    cases h : all[j]? with
    | none => rw [h] at hg; cases hg
    | some o => rw [h] at hg; simpa [h] using hg
  rw [this]
  cases h2 : tmps[g]? with
  | none => simp [h2]
  | some v =>
    have : v = .tuple #[] := by rw [← hv]; simp [Array.getD_eq_getD_getElem?, h2]
    subst this
    simp [h2]

/-- What the guard's slot must hold. -/
theorem Gd.wanted {all : List Oper} {o : Oper} {e e' : Env} {b : Bool} (h : Gd all o e e' b) {O : Nat → Prop} {tmps : Array Value}
    (hE : ∀ j want g x, o.guard = some (j, want) → slotOf all j = some g → lk e g = some x → g < tmps.size ∧ Rep R w O x (tmps.getD g undef)) : Region.wanted o (yielded all.toArray tmps) = b := by
  cases h with
  | none h => simp [Region.wanted, h]
  | tru j _ g h hg hl =>
    obtain ⟨h1, h2⟩ := hE j _ g _ h hg hl
    generalize hv : tmps.getD g undef = v at h2
    cases h2
    simp only [Region.wanted, h, yielded_of hg h1 hv]
    cases b <;> rfl
  | fls j want g h hg hl =>
    obtain ⟨h1, h2⟩ := hE j want g _ h hg hl
    generalize hv : tmps.getD g undef = v at h2
    cases h2
    simp only [Region.wanted, h, yielded_of hg h1 hv]
    cases want <;> rfl
  | und j want g h hg hl =>
    obtain ⟨h1, h2⟩ := hE j want g _ h hg hl
    generalize hv : tmps.getD g undef = v at h2
    obtain ⟨vs, rfl, hc⟩ := rep_tup h2
    have : vs = [] := List.length_eq_zero_iff.1 hc.1.symm
    subst this
    simp only [Region.wanted, h, yielded_none hg hv]
    cases want <;> rfl
  | ft j _ g c h hg hl hb =>
    obtain ⟨h1, h2⟩ := hE j _ g _ h hg hl
    generalize hv : tmps.getD g undef = v at h2
    cases h2
    subst hb
    simp only [Region.wanted, h, yielded_of hg h1 hv]
    cases b <;> rfl
  | ff j want g c h hg hl hb =>
    obtain ⟨h1, h2⟩ := hE j want g _ h hg hl
    generalize hv : tmps.getD g undef = v at h2
    cases h2
    subst hb
    simp only [Region.wanted, h, yielded_of hg h1 hv]
    cases want <;> rfl

theorem obl_inv {l : List Prop} {q : Prop} (h : obl l q) : (∀ p ∈ l, p) ∧ q := by
  induction l with
  | nil => exact ⟨by simp, h⟩
  | cons p l ih =>
    obtain ⟨h1, h2⟩ := h
    obtain ⟨h3, h4⟩ := ih h2
    exact ⟨fun r hr => by rcases List.mem_cons.1 hr with rfl | hr; exact h1; exact h3 r hr, h4⟩

/-- One operation's conditions. -/
def opVC (C : Ctx) (q : Bool) (o : Oper) (e : Env) (H : AH) (K : Env → AH → Prop) : Prop :=
  match q with
  | true => (match aopF C.T C.S o.op e H with
    | some (obs, v) => obl obs (K (pute o.dst v e) H)
    | none => False)
  | false => aop C o.op e H fun v H' => K (pute o.dst v e) H'

theorem vcOps_inv {all l : List Oper} {q : Bool} {o : Oper} {e : Env} {K : Env → AH → Prop} (h : vcOps C all q (o :: l) e H K) :
    ∃ e' b, Gd all o e e' b ∧ (b = true → opVC C q o e' H fun e'' H' => vcOps C all q l e'' H' K) ∧ (b = false → vcOps C all q l (pute o.dst (.tup []) e') H K) := by
  have h : opStep C all q o (vcOps C all q l) e H K := h
  unfold opStep at h
  simp only at h
  have hrun : ∀ e', (match q with
      | true => (match aopF C.T C.S o.op e' H with
        | some (obs, v) => obl obs (vcOps C all q l (pute o.dst v e') H K)
        | none => False)
      | false => aop C o.op e' H fun v H' => vcOps C all q l (pute o.dst v e') H' K) → opVC C q o e' H fun e'' H' => vcOps C all q l e'' H' K := fun e' h => by
    unfold opVC; cases q <;> exact h
  split at h
  · rename_i hg
    exact ⟨e, true, .none hg, fun _ => hrun e h, fun h => by cases h⟩
  · rename_i j want hg
    split at h
    · exact h.elim
    · rename_i g hs
      split at h
      · rename_i hl
        refine ⟨e, want, .tru j want g hg hs hl, fun hw => ?_, fun hw => ?_⟩
        · subst hw; exact hrun e h
        · subst hw; exact h
      · rename_i hl
        refine ⟨e, !want, .fls j want g hg hs hl, fun hw => ?_, fun hw => ?_⟩
        · cases want
          · exact hrun e h
          · cases hw
        · cases want
          · cases hw
          · exact h
      · rename_i b hl
        cases b with
        | true =>
          have h := h.1 rfl
          refine ⟨_, want, .ft j want g true hg hs hl rfl, fun hw => ?_, fun hw => ?_⟩
          · subst hw; exact hrun _ h
          · subst hw; exact h
        | false =>
          have h := h.2 rfl
          refine ⟨_, !want, .ff j want g false hg hs hl rfl, fun hw => ?_, fun hw => ?_⟩
          · cases want
            · exact hrun _ h
            · cases hw
          · cases want
            · cases hw
            · exact h
      · rename_i hl
        exact ⟨e, false, .und j want g hg hs hl, fun k => (by cases k), fun _ => h⟩
      · exact h.elim

theorem St.quiet {e : Env} {a : Act} {w' : World} (h : St F Ob W0 A dz n e H a w) (hx : Ext (fun _ => False) w w') : St F Ob W0 A dz n e H a w' := by
  obtain ⟨R, hA, h1, h2, h3, h4⟩ := h
  exact .mk R hA (h1.quiet hx) (h2.mono (fun _ _ k => k) (hx.weaken fun _ _ k => k.elim) (fun _ _ k => k)) h3 h4

theorem op_sound (hC : COK P C) {q : Bool} {o : Oper} {e : Env} {K : Env → AH → Prop} (h : opVC C q o e H K) (hd : ∀ t, o.dst = some t → t < n) {a : Act} (hS : St F Ob W0 A dz n e H a w) :
    o.wp P a w (fun a' w' => ∃ e' H', K e' H' ∧ St F Ob W0 A dz n e' H' a' w') NoWay := by
  obtain ⟨R, hA, h1, h2, h3, h4⟩ := hS
  have quiet : ∀ {obs : List Prop} {v : AV}, aopF C.T C.S o.op e H = some (obs, v) → (∀ p ∈ obs, p) → K (pute o.dst v e) H → o.wp P a w (fun a' w' => ∃ e' H', K e' H' ∧ St F Ob W0 A dz n e' H' a' w') NoWay := by
    intro obs v hf ho hK
    refine upon_noway (aopF_ok hC.T hC.S hf ho h1 h2) fun a' w' ⟨cv, ha, hx, hr⟩ => ?_
    subst ha
    refine ⟨_, _, hK, .mk R hA (h1.quiet hx) ?_ (by rw [put_defers_eq]; exact h3) (by rw [put_size]; exact h4)⟩
    have hx' : Ext (Wr F R H) w w' := hx.weaken fun _ _ k => k.elim
    exact (h2.mono (fun _ _ k => k) hx' (fun _ _ k => k)).put (fun t ht => by rw [h4]; exact hd t ht) hr
  unfold opVC at h
  cases q with
  | true =>
    simp only at h
    split at h
    · rename_i obs v hf
      obtain ⟨ho, hK⟩ := obl_inv h
      exact quiet hf ho hK
    · exact h.elim
  | false =>
    simp only [aop] at h
    split at h
    · rename_i obs v hf
      obtain ⟨ho, hK⟩ := obl_inv h
      exact quiet hf ho hK
    · have hg : aopG C o.op e H (fun v H' => K (pute o.dst v e) H') ∨ C.X o.op e H (fun v H' => K (pute o.dst v e) H') := by
        split at h
        · exact .inr h
        · exact .inl h
      refine upon_noway (hC.G o a e F Ob W0 R H w _ hg h1 h2) fun a' w' ⟨R', v, H', cv, hK, ha, g0, g1, g2, g3⟩ => ?_
      subst ha
      exact ⟨_, _, hK, .mk R' (fun i x hx => h1.keep g0 i x (hA i x hx)) g1 (g2.put (fun t ht => by rw [h4]; exact hd t ht) g3) (by rw [put_defers_eq]; exact h3) (by rw [put_size]; exact h4)⟩

def dstsIn (n : Nat) (l : List Oper) : Prop := ∀ o ∈ l, ∀ t, o.dst = some t → t < n

theorem vcOps_sound (hC : COK P C) {all : List Oper} {Q : Exit → Act → World → Prop} {K : Env → AH → Prop} (hK : ∀ e H a w, K e H → St F Ob W0 A dz n e H a w → Q .normal a w) :
    ∀ (l : List Oper) (e : Env) (H : AH) (a : Act) (w : World), dstsIn n l → vcOps C all false l e H K → St F Ob W0 A dz n e H a w → wpList P all.toArray Q l a w
  | [], e, H, a, w, _, h, hS => hK e H a w h hS
  | o :: l, e, H, a, w, hd, h, hS => by
    obtain ⟨e', b, hg, hrun, hskip⟩ := vcOps_inv h
    obtain ⟨R, hA, h1, h2, h3, h4⟩ := hS
    have hw := hg.wanted (fun j want g x _ _ hl => h2 g x hl)
    have hS' : St F Ob W0 A dz n e' H a w := .mk R hA h1 (hg.erel h2) h3 h4
    unfold wpList
    rw [hw]
    cases b with
    | true =>
      refine .inl (upon_noway (op_sound hC (hrun rfl) (hd o (by simp)) hS') fun a' w' ⟨e'', H', hv, hS''⟩ => ?_)
      exact vcOps_sound hC hK l e'' H' a' w' (fun o ho => hd o (by simp [ho])) hv hS''
    | false =>
      refine vcOps_sound hC hK l _ H _ w (fun o ho => hd o (by simp [ho])) (hskip rfl) ?_
      obtain ⟨R, hA, h1, h2, h3, h4⟩ := hS'
      exact .mk R hA h1 (h2.put (fun t ht => by rw [h4]; exact hd o (by simp) t ht) undef_rep) (by rw [put_defers_eq]; exact h3) (by rw [put_size]; exact h4)

end
end Go.Proofs.Ytdiflkabpjnncaa
