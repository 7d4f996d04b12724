
/- The engine, part 3: the operations that turn no owned block do what part 2 says. No condition. -/
import Derived.Test.YtdiflkabpjnncaaE2
namespace Go.Proofs.Ytdiflkabpjnncaa
open Go Go.RowKit
set_option linter.unusedVariables false
set_option linter.unusedSimpArgs false

theorem beqK_eq {k k' : IntKind} (h : beqK k k' = true) : k = k' := by cases k <;> cases k' <;> first | rfl | cases h

section
variable {P : Program} {T : TypeId → Option TI} {R : PN} {w : World} {O : Nat → Prop}

def TOK (P : Program) (T : TypeId → Option TI) : Prop := ∀ t i, T t = some i → probe P t = some i

theorem probe_inv {t : TypeId} {i : TI} (h : probe P t = some i) : ∃ inf d z, P.info? t = some inf ∧ P.underlying t = some d ∧ inf.zero = some z ∧ i = ⟨tdOf d, inf.size, inf.bytes, z.cells.toList, plainT P t d⟩ := by
  unfold probe at h
  split at h
  · rename_i inf d h1 h2
    split at h
    · rename_i z hz
      exact ⟨inf, d, z, h1, h2, hz, (Option.some.inj h).symm⟩
    · cases h
  · cases h

theorem tdq_inv (hT : TOK P T) {t : TypeId} {d : TD} (h : tdq T t = d) (hd : d ≠ .oth) : ∃ i inf ds z, T t = some i ∧ i.d = d ∧ P.info? t = some inf ∧ P.underlying t = some ds ∧ inf.zero = some z ∧ tdOf ds = d ∧ i.sz = inf.size ∧ i.by_ = inf.bytes ∧ i.zero = z.cells.toList := by
  unfold tdq at h
  split at h
  · rename_i i hi
    obtain ⟨inf, ds, z, h1, h2, h3, rfl⟩ := probe_inv (hT t i hi)
    exact ⟨_, inf, ds, z, hi, h, h1, h2, h3, h, rfl, rfl, rfl⟩
  · exact absurd h.symm hd

def UndB : TypeDesc → TD → Prop
  | d, .int k => d = .int k
  | d, .bool => d = .bool
  | d, .str => d = .string
  | d, .ptr => ∃ e, d = .pointer e
  | d, .struct fs => ∃ F : Array Field, d = .struct F ∧ F.toList.map (fun f => (f.offset, f.type)) = fs
  | d, .arr n e => d = .array n e
  | d, .slice e => d = .slice e
  | d, .fn => ∃ a b c, d = .func a b c
  | _, .oth => True
theorem und_of (d : TypeDesc) : UndB d (tdOf d) := by cases d <;> simp [tdOf, UndB]

theorem ofVal1_rep (v : Value) : Rep R w O (ofVal1 v) v := by
  unfold ofVal1
  split
  · exact .int _ _
  · split
    · exact .tru
    · exact .fls
  · exact .str _
  · exact .nilp
  · exact .nils
  · exact .nilfn
  · exact .val _
theorem ofVal_rep (v : Value) : Rep R w O (ofVal v) v := by
  unfold ofVal
  split
  · rename_i cs
    obtain ⟨l⟩ := cs
    refine .agg _ l (by simp) fun j x v hx hv => ?_
    simp at hx
    obtain ⟨y, hy, rfl⟩ := hx
    rw [hv] at hy
    cases hy
    exact ofVal1_rep v
  · exact ofVal1_rep v

/-- What an abstract frame says. -/
def ERel (R : PN) (w : World) (O : Nat → Prop) (e : Env) (tmps : Array Value) : Prop := ∀ t v, lk e t = some v → t < tmps.size ∧ Rep R w O v (tmps.getD t undef)

theorem evA_rep {e : Env} {a : Act} (hE : ERel R w O e a.tmps) {x : Operand} {v : AV} (h : evA e x = some v) : Rep R w O v (a.eval x) := by
  cases x with
  | tmp t => exact (hE t v h).2
  | const c => simp only [evA, Option.some.injEq] at h; subst h; exact ofVal_rep c
  | global g => simp [evA] at h
  | func f => simp only [evA, Option.some.injEq] at h; subst h; exact .fn f 0 [] [] rfl (by simp)

theorem and_of {p : Prop} {l : List Prop} (h : ∀ q ∈ p :: l, q) : p ∧ ∀ q ∈ l, q := ⟨h p (by simp), fun q hq => h q (by simp [hq])⟩

/-! ### Arithmetic -/
theorem wrap_rng {k : IntKind} {n : Int} (h : rngI k n) : k.wrap n = n := by
  obtain ⟨h1, h2⟩ := h
  have h : k.min ≤ n ∧ n ≤ k.max := ⟨h1, h2⟩
  clear h1 h2
  cases k <;> simp [IntKind.wrap, IntKind.min, IntKind.max, IntKind.bits, IntKind.signed] at h ⊢ <;> omega

theorem arith_ok {k : IntKind} {n : Int} {obs : List Prop} {r : AV} (h : arith k n = some (obs, r)) (ho : ∀ p ∈ obs, p) : r = .int k (k.wrap n) := by
  unfold arith at h
  cases hp : plainK k
  · simp [hp] at h; exact h.2.symm
  · simp [hp] at h
    obtain ⟨rfl, rfl⟩ := h
    have h1 : rngI k n := ho _ (by simp)
    rw [wrap_rng h1]

theorem eqGuard_int (op : BinOp) (t : TypeId) (X Y : Operand) (k k' : IntKind) (x y : Int) : (eqGuard op t X Y (.int k x) (.int k' y)).run P w = .ok () w := by
  unfold eqGuard; cases op <;> simp

theorem abinI_ok {op : BinOp} {k : IntKind} {x y : Int} {t : TypeId} {obs : List Prop} {r : AV} {X Y : Operand} (h : abinI op k x y = some (obs, r)) (ho : ∀ p ∈ obs, p) (hop : op ≠ .shl ∧ op ≠ .shr) :
    ∃ cv, (do eqGuard op t X Y (.int k x) (.int k y); binOp op t (.int k x) (.int k y) : Sem Value).run P w = .ok cv w ∧ Rep R w O r cv := by
  have e1 : ∀ {r' : AV} {cv : Value}, r = r' → Rep R w O r' cv → (binOp op t (.int k x) (.int k y)).run P w = .ok cv w → ∃ cv, (do eqGuard op t X Y (.int k x) (.int k y); binOp op t (.int k x) (.int k y) : Sem Value).run P w = .ok cv w ∧ Rep R w O r cv := by
    intro r' cv h1 h2 h3
    subst h1
    exact ⟨cv, by rw [Sem.run_bind, eqGuard_int]; exact h3, h2⟩
  cases op <;> simp only [abinI] at h <;> try (exact absurd rfl hop.1) <;> try (exact absurd rfl hop.2)
  case add => exact e1 (arith_ok h ho) (.int _ _) (by simp [binOp, Op.intArith])
  case sub => exact e1 (arith_ok h ho) (.int _ _) (by simp [binOp, Op.intArith])
  case mul => exact e1 (arith_ok h ho) (.int _ _) (by simp [binOp, Op.intArith])
  case quo =>
    cases hp : plainK k
    · simp [hp] at h
      obtain ⟨rfl, rfl⟩ := h
      have h0 : y ≠ 0 := ho _ (by simp)
      exact e1 rfl (.int _ _) (by simp [binOp, Op.intDiv, h0])
    · simp [hp] at h
      obtain ⟨rfl, rfl⟩ := h
      have h0 : y ≠ 0 := ho _ (by simp)
      have h1 : rngI k (x.tdiv y) := ho _ (by simp)
      exact e1 rfl (.int _ _) (by simp [binOp, Op.intDiv, h0, wrap_rng h1])
  case rem =>
    simp at h
    obtain ⟨rfl, rfl⟩ := h
    have h0 : y ≠ 0 := ho _ (by simp)
    exact e1 rfl (.int _ _) (by simp [binOp, Op.intDiv, h0])
  all_goals (try (cases h; done))
  all_goals
    simp only [Option.some.injEq, Prod.mk.injEq] at h
    obtain ⟨rfl, rfl⟩ := h
  case and => exact e1 rfl (.int _ _) (by simp [binOp, Op.intBits])
  case or => exact e1 rfl (.int _ _) (by simp [binOp, Op.intBits])
  case xor => exact e1 rfl (.int _ _) (by simp [binOp, Op.intBits])
  case andNot => exact e1 rfl (.int _ _) (by simp [binOp, Op.intBits])
  case eql => exact e1 rfl (.bool _) (by simp [binOp, Op.intCmp]; rw [Bool.eq_iff_iff]; simp)
  case neq => exact e1 rfl (.bool _) (by simp [binOp, Op.intCmp]; rw [Bool.eq_iff_iff]; simp)
  case lss => exact e1 rfl (.bool _) (by simp [binOp, Op.intCmp])
  case leq => exact e1 rfl (.bool _) (by simp [binOp, Op.intCmp])
  case gtr => exact e1 rfl (.bool _) (by simp [binOp, Op.intCmp])
  case geq => exact e1 rfl (.bool _) (by simp [binOp, Op.intCmp])

theorem beqL_iff (a b : List UInt8) : (a == b) = decide (a = b) := by
  rw [Bool.eq_iff_iff]; simp

theorem eqGuard_none (op : BinOp) (t : TypeId) (X Y : Operand) (x y : Value) (h : x ≠ .nilIface) (hx : ∀ c, x ≠ .agg c) : (eqGuard op t X Y x y).run P w = .ok () w := by
  unfold eqGuard
  cases op <;> simp <;> cases x <;> simp_all

theorem und_td (hT : TOK P T) {t : TypeId} {d : TD} (h : tdq T t = d) (hd : d ≠ .oth) : ∃ ds, P.underlying t = some ds ∧ UndB ds d := by
  obtain ⟨i, inf, ds, z, h1, h2, h3, h4, h5, h6, _⟩ := tdq_inv hT h hd
  exact ⟨ds, h4, h6 ▸ und_of ds⟩

theorem run_isAgg {t : TypeId} {d : TypeDesc} (h : P.underlying t = some d) : (isAgg t).run P w = .ok (match d with | .struct _ | .array _ _ => true | _ => false) w := by
  unfold isAgg
  rw [Sem.run_bind, run_underlying h]
  cases d <;> simp

theorem run_part_one {t : TypeId} {k : IntKind} (h : P.underlying t = some (.int k)) {cs : Array Value} {o : Nat} {v : Value} (hv : cs[o]? = some v) : (part t cs o).run P w = .ok v w := by
  unfold part
  rw [Sem.run_bind, run_isAgg h]
  simp [hv]

theorem cells_get {l : List AV} {vs : List Value} (hl : l.length = vs.length) (h : ∀ (j : Nat) (x : AV) (v : Value), l[j]? = some x → vs[j]? = some v → Rep R w O x v) {j : Nat} {x : AV} (hj : l[j]? = some x) : ∃ v, vs[j]? = some v ∧ Rep R w O x v := by
  have hlt : j < vs.length := by rw [← hl]; exact (List.getElem?_eq_some_iff.1 hj).1
  exact ⟨vs[j], by simp [hlt], h j x _ hj (by simp [hlt])⟩

theorem tdq_int (hT : TOK P T) {t : TypeId} {k : IntKind} (h : tdq T t = .int k) : P.underlying t = some (.int k) := by
  obtain ⟨i, inf, ds, z, h1, h2, h3, h4, h5, h6, _⟩ := tdq_inv hT h (by simp)
  have := und_of ds
  rw [h6] at this
  cases this
  exact h4

theorem eqFields_ok (hT : TOK P T) {xs ys : List AV} {cx cy : List Value} (hlx : xs.length = cx.length) (hx : ∀ (j : Nat) (x : AV) (v : Value), xs[j]? = some x → cx[j]? = some v → Rep R w O x v)
    (hly : ys.length = cy.length) (hy : ∀ (j : Nat) (x : AV) (v : Value), ys[j]? = some x → cy[j]? = some v → Rep R w O x v) (d : Nat) :
    ∀ (fs : List Field) (n : Nat) (ks : List IntKind) (r : Bool), (∀ f ∈ fs, f.name ≠ "_") → kindsOf T n (fs.map fun f => (f.offset, f.type)) = some ks → eqInts ks (xs.drop n) (ys.drop n) = some r →
      (Op.eqFields (d + 1) cx.toArray cy.toArray fs).run P w = .ok r w := by
  intro fs
  induction fs with
  | nil =>
    intro n ks r _ hk he
    simp [kindsOf] at hk
    subst hk
    generalize xs.drop n = a at he
    generalize ys.drop n = b at he
    cases a with
    | nil => cases b with
      | nil => simp [eqInts] at he; subst he; simp [Op.eqFields]
      | cons y b => simp [eqInts] at he
    | cons x a => simp [eqInts] at he
  | cons f fs ih =>
    intro n ks r hn hk he
    simp only [List.map_cons, kindsOf] at hk
    cases hb : Nat.beq f.offset n
    · simp [hb] at hk
    · have hfo : f.offset = n := beq_iff.1 hb
      simp only [hb, cond_true] at hk
      split at hk
      · rename_i k hk1
        cases hks : kindsOf T (n + 1) (fs.map fun f => (f.offset, f.type)) with
        | none => simp [hks] at hk
        | some ks' =>
          simp [hks] at hk
          subst hk
          cases hxd : xs.drop n with
          | nil => rw [hxd] at he; simp [eqInts] at he
          | cons x xs' =>
            cases hyd : ys.drop n with
            | nil => rw [hxd, hyd] at he; cases x <;> simp [eqInts] at he
            | cons y ys' =>
              rw [hxd, hyd] at he
              have hx0 : xs[n]? = some x := by have := congrArg (fun l => l[0]?) hxd; simpa using this
              have hy0 : ys[n]? = some y := by have := congrArg (fun l => l[0]?) hyd; simpa using this
              have hx1 : xs.drop (n + 1) = xs' := by rw [List.drop_add_one_eq_tail_drop, hxd]; rfl
              have hy1 : ys.drop (n + 1) = ys' := by rw [List.drop_add_one_eq_tail_drop, hyd]; rfl
              obtain ⟨vx, hvx, rx⟩ := cells_get hlx hx hx0
              obtain ⟨vy, hvy, ry⟩ := cells_get hly hy hy0
              unfold eqInts at he
              split at he
              · simp_all
              · rename_i k0 ks0 k1 a l k2 b m e1 e2 e3
                simp only [List.cons.injEq] at e1 e2 e3
                obtain ⟨rfl, rfl⟩ := e1
                obtain ⟨rfl, rfl⟩ := e2
                obtain ⟨rfl, rfl⟩ := e3
                cases hkk : beqK k k1 && beqK k k2
                · simp [hkk] at he
                · simp only [hkk, cond_true] at he
                  rw [Bool.and_eq_true] at hkk
                  have h1 := beqK_eq hkk.1
                  have h2 := beqK_eq hkk.2
                  subst h1; subst h2
                  split at he
                  · rename_i r' hr'
                    simp at he
                    subst he
                    cases rx; cases ry
                    have hu := tdq_int hT hk1
                    have e0 : f.name ≠ "_" := hn f (by simp)
                    have := ih (n + 1) ks' r' (fun g hg => hn g (by simp [hg])) hks (by rw [hx1, hy1]; exact hr')
                    simp only [Op.eqFields, e0, ne_eq, not_false_eq_true, if_true, Sem.run_bind, run_part_one hu (cs := cx.toArray) (o := f.offset) (by simpa [hfo] using hvx),
                      run_part_one hu (cs := cy.toArray) (o := f.offset) (by simpa [hfo] using hvy), Result.andThen_ok, run_equalIn_int w d f.type k k a b hu]
                    by_cases hab : a = b
                    · subst hab
                      simpa using this
                    · simp [hab]
                  · cases he
              · cases he
      · cases hk

theorem aeqS_ok (hT : TOK P T) {t : TypeId} {xs ys : List AV} {cx cy : List Value} {r : Bool} (h : aeqS T t xs ys = some r) (hlx : xs.length = cx.length) (hx : ∀ (j : Nat) (x : AV) (v : Value), xs[j]? = some x → cx[j]? = some v → Rep R w O x v)
    (hly : ys.length = cy.length) (hy : ∀ (j : Nat) (x : AV) (v : Value), ys[j]? = some x → cy[j]? = some v → Rep R w O x v) :
    P.eqGuardType P.depth t = false ∧ (Op.equalIn 10000 t (.agg cx.toArray) (.agg cy.toArray)).run P w = .ok r w := by
  unfold aeqS at h
  split at h
  · rename_i i hi
    obtain ⟨inf, ds, z, h1, h2, h3, rfl⟩ := probe_inv (hT t i hi)
    simp only at h
    split at h
    · rename_i fs hd hp
      split at h
      · rename_i ks hks
        have hb := und_of ds
        rw [hd] at hb
        obtain ⟨F, rfl, hF⟩ := hb
        simp only [plainT, Bool.and_eq_true, Bool.not_eq_true', List.all_eq_true, bne_iff_ne] at hp
        have hfo : P.fieldsOf t = F := by simp [Program.fieldsOf, h2]
        refine ⟨hp.1.2, ?_⟩
        rw [run_equalIn_struct w 9999 t _ _ (by rw [hfo]; exact h2) hp.1.1, hfo]
        exact eqFields_ok hT hlx hx hly hy 9998 F.toList 0 ks r hp.2 (by rw [hF]; exact hks) (by simpa using h)
      · cases h
    · cases h
  · cases h

theorem eqG_agg {op : BinOp} {t : TypeId} {X Y : Operand} {a b : Array Value} (h : P.eqGuardType P.depth t = false) : (eqGuard op t X Y (.agg a) (.agg b)).run P w = .ok () w := run_eqGuard_agg w op t X Y a b h

theorem equalIn_fn (d : Nat) {t : TypeId} {a b : Array TypeId} {v : Bool} (h : P.underlying t = some (.func a b v)) (f : Fn) (x y : Array Value) : (Op.equalIn (d + 1) t (.func f x y) .nilFunc).run P w = .ok false w := by
  simp [Op.equalIn, run_underlying h]
theorem equal_fn {t : TypeId} {a b : Array TypeId} {v : Bool} (h : P.underlying t = some (.func a b v)) (f : Fn) (x y : Array Value) : (Op.equal t (.func f x y) .nilFunc).run P w = .ok false w := equalIn_fn 9999 h f x y

theorem abin_ok (hT : TOK P T) {op : BinOp} {x y : AV} {cx cy : Value} {t : TypeId} {obs : List Prop} {r : AV} {X Y : Operand} (h : abin T op t x y = some (obs, r)) (ho : ∀ p ∈ obs, p) (hx : Rep R w O x cx) (hy : Rep R w O y cy) :
    ∃ cv, (do eqGuard op t X Y cx cy; binOp op t cx cy : Sem Value).run P w = .ok cv w ∧ Rep R w O r cv := by
  have e1 : ∀ {r' : AV} {cv : Value}, r = r' → Rep R w O r' cv → cx ≠ .nilIface → (∀ c, cx ≠ .agg c) → (binOp op t cx cy).run P w = .ok cv w → ∃ cv, (do eqGuard op t X Y cx cy; binOp op t cx cy : Sem Value).run P w = .ok cv w ∧ Rep R w O r cv := by
    intro r' cv h1 h2 h4 h5 h3
    subst h1
    exact ⟨cv, by rw [Sem.run_bind, eqGuard_none _ _ _ _ _ _ h4 h5]; exact h3, h2⟩
  have boolA_inv : ∀ {z : AV} {cz : Value} {b : Bool}, boolA z = some b → Rep R w O z cz → cz = .bool b := by
    intro z cz b h hz
    unfold boolA at h
    split at h <;> cases hz <;> cases h <;> rfl
  unfold abin at h
  split at h
  · -- shl
    cases hx; cases hy
    simp only [Option.some.injEq, Prod.mk.injEq] at h
    obtain ⟨rfl, rfl⟩ := h
    have h0 := ho _ (by simp; rfl)
    exact e1 rfl (.int _ _) (by simp) (by simp) (by simp [binOp, Op.shift]; omega)
  · cases hx; cases hy
    simp only [Option.some.injEq, Prod.mk.injEq] at h
    obtain ⟨rfl, rfl⟩ := h
    have h0 := ho _ (by simp; rfl)
    exact e1 rfl (.int _ _) (by simp) (by simp) (by simp [binOp, Op.shift]; omega)
  · rename_i op' k a k' b hs1 hs2
    cases hx; cases hy
    cases hk : beqK k k'
    · simp [hk] at h
    · have := beqK_eq hk
      subst this
      simp [hk] at h
      exact abinI_ok h ho ⟨fun e => hs1 e, fun e => hs2 e⟩
  · -- add of texts
    rename_i a b
    cases hx; cases hy
    simp only [Option.some.injEq, Prod.mk.injEq] at h
    obtain ⟨rfl, rfl⟩ := h
    have h0 : ((a.length + b.length : Nat) : Int) ≤ IntKind.i64.max := ho _ (by simp)
    refine e1 rfl (.str _) (by simp) (by simp) ?_
    have : ¬ (((⟨a.toArray⟩ : ByteArray).size + (⟨b.toArray⟩ : ByteArray).size : Nat) : Int) > IntKind.i64.max := by
      simp only [ByteArray.size, List.size_toArray]; omega
    simp only [binOp, Op.stringOp, if_neg this]
    rw [ByteArray.mk_append_mk]; simp
  · cases hx; cases hy
    simp only [Option.some.injEq, Prod.mk.injEq] at h
    obtain ⟨rfl, rfl⟩ := h
    exact e1 rfl (.bool _) (by simp) (by simp) (by rw [binOp_string_eql]; simp [beqL_iff])
  · cases hx; cases hy
    simp only [Option.some.injEq, Prod.mk.injEq] at h
    obtain ⟨rfl, rfl⟩ := h
    exact e1 rfl (.bool _) (by simp) (by simp) (by rw [binOp_string_neq]; simp [beqL_iff])
  · -- pointers against nil
    split at h
    · rename_i hd
      obtain ⟨ds, hu, e, rfl⟩ := und_td hT hd (by simp)
      have hu' : P.underlying t = some (.pointer (P.pointee t)) := by simp [Program.pointee, hu]
      cases hx; cases hy
      simp only [Option.some.injEq, Prod.mk.injEq] at h
      obtain ⟨rfl, rfl⟩ := h
      exact e1 rfl (.bool _) (by simp) (by simp) (by rw [run_eql_pointer_nil w t _ hu']; rfl)
    · cases h
  · split at h
    · rename_i hd
      obtain ⟨ds, hu, e, rfl⟩ := und_td hT hd (by simp)
      have hu' : P.underlying t = some (.pointer (P.pointee t)) := by simp [Program.pointee, hu]
      cases hx; cases hy
      simp only [Option.some.injEq, Prod.mk.injEq] at h
      obtain ⟨rfl, rfl⟩ := h
      exact e1 rfl (.bool _) (by simp) (by simp) (by rw [run_neq_pointer_nil w t _ hu']; rfl)
    · cases h
  · split at h
    · rename_i hd
      obtain ⟨ds, hu, e, rfl⟩ := und_td hT hd (by simp)
      have hu' : P.underlying t = some (.pointer (P.pointee t)) := by simp [Program.pointee, hu]
      cases hx; cases hy
      simp only [Option.some.injEq, Prod.mk.injEq] at h
      obtain ⟨rfl, rfl⟩ := h
      exact e1 rfl (.bool _) (by simp) (by simp) (by rw [run_eql_pointer_nil w t _ hu']; rfl)
    · cases h
  · split at h
    · rename_i hd
      obtain ⟨ds, hu, e, rfl⟩ := und_td hT hd (by simp)
      have hu' : P.underlying t = some (.pointer (P.pointee t)) := by simp [Program.pointee, hu]
      cases hx; cases hy
      simp only [Option.some.injEq, Prod.mk.injEq] at h
      obtain ⟨rfl, rfl⟩ := h
      exact e1 rfl (.bool _) (by simp) (by simp) (by rw [run_neq_pointer_nil w t _ hu']; rfl)
    · cases h
  · split at h
    · rename_i hd
      obtain ⟨ds, hu, e, rfl⟩ := und_td hT hd (by simp)
      have hu' : P.underlying t = some (.pointer (P.pointee t)) := by simp [Program.pointee, hu]
      cases hx; cases hy
      simp only [Option.some.injEq, Prod.mk.injEq] at h
      obtain ⟨rfl, rfl⟩ := h
      exact e1 rfl (.bool _) (by simp) (by simp) (by rw [run_eql_pointer_nil w t _ hu']; rfl)
    · cases h
  · split at h
    · rename_i hd
      obtain ⟨ds, hu, e, rfl⟩ := und_td hT hd (by simp)
      have hu' : P.underlying t = some (.pointer (P.pointee t)) := by simp [Program.pointee, hu]
      cases hx; cases hy
      simp only [Option.some.injEq, Prod.mk.injEq] at h
      obtain ⟨rfl, rfl⟩ := h
      exact e1 rfl (.bool _) (by simp) (by simp) (by rw [run_neq_pointer_nil w t _ hu']; rfl)
    · cases h
  · -- structs
    split at h
    · rename_i r' hr
      cases hx with | agg _ vx hlx hcx =>
      cases hy with | agg _ vy hly hcy =>
      obtain ⟨g1, g2⟩ := aeqS_ok hT hr hlx hcx hly hcy
      simp only [Option.some.injEq, Prod.mk.injEq] at h
      obtain ⟨rfl, rfl⟩ := h
      exact ⟨.bool r', by rw [Sem.run_bind, eqG_agg g1]; simp only [Result.andThen_ok]; rw [run_eql_struct, g2]; rfl, .bool _⟩
    · cases h
  · split at h
    · rename_i r' hr
      cases hx with | agg _ vx hlx hcx =>
      cases hy with | agg _ vy hly hcy =>
      obtain ⟨g1, g2⟩ := aeqS_ok hT hr hlx hcx hly hcy
      simp only [Option.some.injEq, Prod.mk.injEq] at h
      obtain ⟨rfl, rfl⟩ := h
      exact ⟨.bool (!r'), by rw [Sem.run_bind, eqG_agg g1]; simp only [Result.andThen_ok]; rw [run_neq_struct, g2]; rfl, .bool _⟩
    · cases h
  · -- functions against nil
    split at h
    · rename_i hd
      obtain ⟨ds, hu, e1', e2', e3', rfl⟩ := und_td hT hd (by simp)
      cases hx; cases hy
      simp only [Option.some.injEq, Prod.mk.injEq] at h
      obtain ⟨rfl, rfl⟩ := h
      exact e1 rfl (.bool _) (by simp) (by simp) (by simp only [binOp]; simp [equal_fn hu])
    · cases h
  · split at h
    · rename_i hd
      obtain ⟨ds, hu, e1', e2', e3', rfl⟩ := und_td hT hd (by simp)
      cases hx; cases hy
      simp only [Option.some.injEq, Prod.mk.injEq] at h
      obtain ⟨rfl, rfl⟩ := h
      exact e1 rfl (.bool _) (by simp) (by simp) (by simp only [binOp]; simp [equal_fn hu])
    · cases h
  · split at h
    · rename_i a b h1 h2 h3 _ _ _ _ _ _ _ _ _ _ _ _ _ _ _
      have := boolA_inv h1 hx
      subst this
      have := boolA_inv h2 hy
      subst this
      have hu : P.underlying t = some .bool := by
        obtain ⟨ds, hu, hb⟩ := und_td hT h3 (by simp)
        cases hb; exact hu
      simp only [Option.some.injEq, Prod.mk.injEq] at h
      obtain ⟨rfl, rfl⟩ := h
      exact e1 rfl (.bool _) (by simp) (by simp) (by simp [binOp, run_equal_bool w t a b hu])
    · rename_i a b h1 h2 h3 _ _ _ _ _ _ _ _ _ _ _ _ _ _ _
      have := boolA_inv h1 hx
      subst this
      have := boolA_inv h2 hy
      subst this
      have hu : P.underlying t = some .bool := by
        obtain ⟨ds, hu, hb⟩ := und_td hT h3 (by simp)
        cases hb; exact hu
      simp only [Option.some.injEq, Prod.mk.injEq] at h
      obtain ⟨rfl, rfl⟩ := h
      exact e1 rfl (.bool _) (by simp) (by simp) (by simp [binOp, run_equal_bool w t a b hu])
    · cases h

theorem aun_ok {op : UnOp} {x : AV} {cx : Value} {obs : List Prop} {r : AV} (h : aun op x = some (obs, r)) (ho : ∀ p ∈ obs, p) (hx : Rep R w O x cx) :
    ∃ cv, (Op.unary op cx).run P w = .ok cv w ∧ Rep R w O r cv := by
  unfold aun at h
  split at h
  · cases hx
    simp only [Option.some.injEq, Prod.mk.injEq] at h
    obtain ⟨rfl, rfl⟩ := h
    exact ⟨_, by simp [Op.unary], .bool _⟩
  · cases hx
    simp only [Option.some.injEq, Prod.mk.injEq] at h
    obtain ⟨rfl, rfl⟩ := h
    exact ⟨.bool false, by simp [Op.unary], .fls⟩
  · cases hx
    simp only [Option.some.injEq, Prod.mk.injEq] at h
    obtain ⟨rfl, rfl⟩ := h
    exact ⟨.bool true, by simp [Op.unary], .tru⟩
  · cases hx
    have := arith_ok h ho
    subst this
    exact ⟨_, by simp [Op.unary, Op.intArith], .int _ _⟩
  · cases hx
    simp only [Option.some.injEq, Prod.mk.injEq] at h
    obtain ⟨rfl, rfl⟩ := h
    exact ⟨_, by simp [Op.unary, Op.intBits], .int _ _⟩
  · cases h

theorem aconv_ok (hT : TOK P T) {src dst : TypeId} {x : AV} {cx : Value} {obs : List Prop} {r : AV} (h : aconv T src dst x = some (obs, r)) (ho : ∀ p ∈ obs, p) (hx : Rep R w O x cx) :
    ∃ cv, (convert src dst cx).run P w = .ok cv w ∧ Rep R w O r cv := by
  unfold aconv at h
  split at h
  · cases h
  · rename_i si hsi
    obtain ⟨inf, dsrc, z, h1, h2, h3, rfl⟩ := probe_inv (hT src si hsi)
    split at h
    · rename_i k k' n hd
      cases hx
      have hu := tdq_int hT hd
      have hr : r = .int k (k.wrap n) := by
        cases hp : plainC k
        · simp [hp] at h; exact h.2.symm
        · simp [hp] at h
          obtain ⟨rfl, rfl⟩ := h
          have h1 : rngI k n := ho _ (by simp)
          rw [wrap_rng h1]
      subst hr
      exact ⟨_, by simp [convert, run_underlying h2, run_underlying hu, Conv.intToInt], .int _ _⟩
    · rename_i s hd
      split at h
      · rename_i hs
        cases hx
        simp only [Option.some.injEq, Prod.mk.injEq] at h
        obtain ⟨rfl, rfl⟩ := h
        obtain ⟨ds, hu, hb⟩ := und_td hT hd (by simp)
        cases hb
        obtain ⟨ds', hu', hb'⟩ := und_td hT hs (by simp)
        cases hb'
        exact ⟨_, by simp [convert, run_underlying hu', run_underlying hu], .str _⟩
      · cases h
    · cases h
end
end Go.Proofs.Ytdiflkabpjnncaa
