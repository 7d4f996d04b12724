
/- The engine, part 6: addresses of fields and elements, parts of values, slices, composite values: sound. No condition. -/
import Derived.Test.YtdiflkabpjnncaaE5
namespace Go.Proofs.Ytdiflkabpjnncaa
open Go Go.RowKit
set_option linter.unusedVariables false
set_option linter.unusedSimpArgs false
section
variable {P : Program} {T : TypeId → Option TI} {R : PN} {w : World} {O : Nat → Prop}

theorem afield_inv (hT : TOK P T) {t : TypeId} {f off : Nat} {ft : TypeId} {sz : Nat} (h : afield T t f = some (off, ft, sz)) :
    ∃ (F : Array Field) (fd : Field) (i : TI), P.underlying t = some (.struct F) ∧ F[f]? = some fd ∧ fd.offset = off ∧ fd.type = ft ∧ T ft = some i ∧ i.sz = sz := by
  unfold afield at h
  split at h
  · rename_i fs hd
    obtain ⟨ds, hu, F, rfl, hF⟩ := und_td hT hd (by simp)
    split at h
    · rename_i off' ft' hf
      split at h
      · rename_i i hi
        simp only [Option.some.injEq, Prod.mk.injEq] at h
        obtain ⟨rfl, rfl, rfl⟩ := h
        rw [← hF] at hf
        simp at hf
        obtain ⟨fd, h1, h2, h3⟩ := hf
        exact ⟨F, fd, i, hu, h1, h2, h3, hi, rfl⟩
      · cases h
    · cases h
  · cases h

theorem run_fieldAt (hT : TOK P T) {t : TypeId} {f off : Nat} {ft : TypeId} {sz : Nat} (h : afield T t f = some (off, ft, sz)) (h0 : sz ≠ 0) (b o : Nat) :
    (Instr.fieldAt t (.pointer (some ⟨b, o, none⟩)) f).run P w = .ok (.pointer (some ⟨b, o + off, none⟩)) w := by
  obtain ⟨F, fd, i, hu, hf, rfl, rfl, hi, rfl⟩ := afield_inv hT h
  obtain ⟨_, h2, _, _⟩ := run_info (w := w) hT hi
  unfold Instr.fieldAt
  simp [Sem.run_bind, run_underlying hu, hf, Instr.sureAddr, fieldPlace, h2, h0, Addr.add_mid]

theorem afieldAddr_ok (hT : TOK P T) {t : TypeId} {f : Nat} {x : AV} {cx : Value} {obs : List Prop} {r : AV} (h : afieldAddr T t f x = some (obs, r)) (hx : Rep R w O x cx) :
    ∃ cv, (Instr.fieldAt t cx f).run P w = .ok cv w ∧ Rep R w O r cv := by
  unfold afieldAddr at h
  split at h
  · rename_i off ft sz hf
    cases hb : Nat.beq sz 0
    · simp only [hb, cond_false] at h
      have h0 : sz ≠ 0 := fun e => by subst e; simp at hb
      split at h
      · cases hx with | ptr _ _ b hR =>
        simp only [Option.some.injEq, Prod.mk.injEq] at h
        obtain ⟨rfl, rfl⟩ := h
        exact ⟨_, run_fieldAt hT hf h0 _ _, .ptr _ _ _ hR⟩
      · rename_i l
        cases hx with | rop _ b o v hO hlt hcell hv =>
        split at h
        · rename_i v' i hp hi
          replace h := bif_some h; obtain ⟨hone, h⟩ := h
          simp only [Option.some.injEq, Prod.mk.injEq] at h
          obtain ⟨rfl, rfl⟩ := h
          obtain ⟨vs, rfl, hc⟩ := rep_agg hv
          refine ⟨_, run_fieldAt hT hf h0 _ _, ?_⟩
          have hm : ∀ j u, vs[j]? = some u → w.cell? ⟨b, o + j, none⟩ = some u := fun j u hu => by
            rw [hcell j (by simpa [Value.cells] using (List.getElem?_eq_some_iff.1 hu).1)]
            simpa [Value.cells] using hu
          unfold partA at hp
          rw [hi] at hp
          simp only at hp
          cases ha : i.isAgg
          · rw [ha] at hp hone
            simp only [cond_false, Bool.or_false] at hp hone
            obtain ⟨u, hu, hr⟩ := hc.get hp
            refine .rop _ b (o + off) u hO hlt (fun f hf => ?_) hr
            rw [(rep_one hr hone).1] at hf ⊢
            simp at hf
            subst hf
            simpa using hm off u hu
          · rw [ha] at hp
            simp only [cond_true] at hp
            replace hp := bif_some hp; obtain ⟨hle, hp⟩ := hp
            simp at hp
            subst hp
            refine .rop _ b (o + off) (.agg ((vs.drop off).take i.sz).toArray) hO hlt (fun f hf => ?_) (hc.sub off i.sz).rep
            have hlen : off + i.sz ≤ vs.length := by rw [← hc.1]; exact Nat.le_of_ble_eq_true hle
            simp [Value.cells] at hf
            have hf1 : f < i.sz := by omega
            have : vs[off + f]? = some (vs[off + f]'(by omega)) := by simp
            rw [Nat.add_assoc, hm _ _ this]
            simp [Value.cells, List.getElem?_take, hf1, this]
        · cases h
      · cases hx with | eptr _ _ _ _ b hR =>
        simp only [Option.some.injEq, Prod.mk.injEq] at h
        obtain ⟨rfl, rfl⟩ := h
        refine ⟨_, run_fieldAt hT hf h0 _ _, ?_⟩
        rw [Nat.add_assoc]
        exact .eptr _ _ _ _ _ hR
      · cases h
    · simp [hb] at h
  · cases h

theorem afieldV_ok (hT : TOK P T) {t : TypeId} {f : Nat} {x : AV} {cx : Value} {obs : List Prop} {r : AV} (h : afieldV T t f x = some (obs, r)) (hx : Rep R w O x cx) :
    ∃ cv, (Instr.field t cx f).run P w = .ok cv w ∧ Rep R w O r cv := by
  unfold afieldV at h
  split at h
  · rename_i off ft sz l hf
    replace h := opt_map h; obtain ⟨r', hp, he⟩ := h
    simp only [Prod.mk.injEq] at he
    obtain ⟨rfl, rfl⟩ := he
    obtain ⟨F, fd, i, hu, hfd, rfl, rfl, hi, rfl⟩ := afield_inv hT hf
    obtain ⟨vs, rfl, hc⟩ := rep_agg hx
    obtain ⟨cv, hcv, hr⟩ := partA_ok hT hp hc
    exact ⟨cv, by unfold Instr.field; simp [Sem.run_bind, run_underlying hu, hfd, asAgg, hcv], hr⟩
  · cases h

theorem szOf_inv (hT : TOK P T) {t : TypeId} {s : Nat} (h : szOf T t = some s) : (sizeOf t).run P w = .ok s w := by
  unfold szOf at h
  obtain ⟨i, hi, rfl⟩ := opt_map h
  exact (run_info hT hi).2.1

theorem tdq_slice (hT : TOK P T) {t e : TypeId} (h : tdq T t = .slice e) : P.underlying t = some (.slice e) := by
  obtain ⟨ds, hu, hb⟩ := und_td hT h (by simp)
  cases hb; exact hu
theorem tdq_arr (hT : TOK P T) {t e : TypeId} {n : Nat} (h : tdq T t = .arr n e) : P.underlying t = some (.array n e) := by
  obtain ⟨ds, hu, hb⟩ := und_td hT h (by simp)
  cases hb; exact hu
theorem tdq_str (hT : TOK P T) {t : TypeId} (h : tdq T t = .str) : P.underlying t = some .string := by
  obtain ⟨ds, hu, hb⟩ := und_td hT h (by simp)
  cases hb; exact hu

theorem run_indexAt_slice {t e : TypeId} {s : Nat} (hu : P.underlying t = some (.slice e)) (hs : (sizeOf e).run P w = .ok s w) (b o m c : Nat) (k : IntKind) (n : Int) (h0 : 0 ≤ n) (h1 : n < m) :
    (Instr.indexAt t (.slice (some ⟨b, o, none⟩) m c) (.int k n)).run P w = .ok (.pointer (some ⟨b, o + n.toNat * s, none⟩)) w := by
  unfold Instr.indexAt
  simp [Sem.run_bind, asIntOf, run_underlying hu, hs, h0, h1, Addr.add_mid]

theorem run_indexAt_arr {t e : TypeId} {s len : Nat} (hu : P.underlying t = some (.array len e)) (hs : (sizeOf e).run P w = .ok s w) (b o : Nat) (k : IntKind) (n : Int) (h0 : 0 ≤ n) (h1 : n < len) :
    (Instr.indexAt t (.pointer (some ⟨b, o, none⟩)) (.int k n)).run P w = .ok (.pointer (some ⟨b, o + n.toNat * s, none⟩)) w := by
  unfold Instr.indexAt
  simp [Sem.run_bind, asIntOf, run_underlying hu, hs, h0, h1, Addr.add_mid, Instr.sureAddr]

theorem aindexAddr_ok (hT : TOK P T) {t : TypeId} {x ix : AV} {cx ci : Value} {obs : List Prop} {r : AV} (h : aindexAddr T t x ix = some (obs, r)) (ho : ∀ p ∈ obs, p) (hx : Rep R w O x cx) (hi : Rep R w O ix ci) :
    ∃ cv, (Instr.indexAt t cx ci).run P w = .ok cv w ∧ Rep R w O r cv := by
  unfold aindexAddr at h
  split at h
  · rename_i e sz m get k n hd
    split at h
    · rename_i s hs
      replace h := bif_some h; obtain ⟨hb, h⟩ := h
      have := beq_iff.1 hb
      subst this
      simp only [Option.some.injEq, Prod.mk.injEq] at h
      obtain ⟨rfl, rfl⟩ := h
      obtain ⟨h0, h1⟩ : 0 ≤ n ∧ n < (m : Int) := ho _ (by simp)
      cases hi
      cases hx with
      | ronil => omega
      | roz => omega
      | ro _ _ _ b off c vals hn hc hO hlt hcell hsz hv =>
        refine ⟨_, run_indexAt_slice (tdq_slice hT hd) (szOf_inv hT hs) b off m c k n h0 h1, ?_⟩
        refine .rop _ b (off + n.toNat * s) (vals n.toNat) hO hlt (fun f hf => ?_) (hv _ (by omega))
        rw [hsz _ (by omega)] at hf
        exact hcell _ (by omega) f hf
    · cases h
  · rename_i e k l ki n hd
    split at h
    · rename_i s hs
      replace h := bif_some h; obtain ⟨hb, h⟩ := h
      have := beq_iff.1 hb
      subst this
      simp only [Option.some.injEq, Prod.mk.injEq] at h
      obtain ⟨rfl, rfl⟩ := h
      obtain ⟨h0, h1⟩ : 0 ≤ n ∧ n < (l.length : Int) := ho _ (by simp)
      cases hi
      cases hx with
      | roinil => simp at h1; omega
      | roiz => simp at h1; omega
      | roi _ _ b off c hn hc hO hlt hcell =>
        refine ⟨_, run_indexAt_slice (tdq_slice hT hd) (szOf_inv hT hs) b off l.length c ki n h0 h1, ?_⟩
        refine .rop _ b (off + n.toNat * 1) (.int k (l.getD n.toNat 0)) hO hlt (fun f hf => ?_) (.int _ _)
        simp [Value.cells] at hf
        subst hf
        have hlt' : n.toNat < l.length := by omega
        have := hcell n.toNat (l.getD n.toNat 0) (by simp [List.getD, hlt'])
        simpa [Value.cells] using this
    · cases h
  · rename_i e i sz o m k n hd
    split at h
    · rename_i s hs
      replace h := bif_some h; obtain ⟨hb, h⟩ := h
      have := beq_iff.1 hb
      subst this
      simp only [Option.some.injEq, Prod.mk.injEq] at h
      obtain ⟨rfl, rfl⟩ := h
      obtain ⟨h0, h1⟩ : 0 ≤ n ∧ n < (m : Int) := ho _ (by simp)
      cases hi
      cases hx with
      | slnil => omega
      | sl _ _ _ _ b c off sh hR hn hc hof hss hl =>
        refine ⟨_, run_indexAt_slice (tdq_slice hT hd) (szOf_inv hT hs) b off m c k n h0 h1, ?_⟩
        have := hof (by omega)
        subst this
        rw [← Nat.add_mul]
        exact .eptr _ _ _ _ _ hR
    · cases h
  · rename_i len e i o k n hd
    split at h
    · rename_i s hs
      simp only [Option.some.injEq, Prod.mk.injEq] at h
      obtain ⟨rfl, rfl⟩ := h
      obtain ⟨h0, h1⟩ : 0 ≤ n ∧ n < (len : Int) := ho _ (by simp)
      cases hi
      cases hx with | ptr _ _ b hR =>
      exact ⟨_, run_indexAt_arr (tdq_arr hT hd) (szOf_inv hT hs) b o k n h0 h1, .ptr _ _ _ hR⟩
    · cases h
  · cases h

theorem intsOf_get {k : IntKind} : ∀ {l : List AV} {z : List Int}, intsOf k l = some z → ∀ j, j < l.length → l[j]? = some (.int k (z.getD j 0))
  | [], z, h, j, hj => by simp at hj
  | x :: l, z, h, j, hj => by
    cases x <;> simp [intsOf] at h
    rename_i k' n
    cases hb : beqK k k'
    · simp [hb] at h
    · simp only [hb, cond_true] at h
      obtain ⟨z', hz, rfl⟩ := opt_map h
      have := beqK_eq hb
      subst this
      cases j with
      | zero => simp
      | succ j => simpa using intsOf_get hz j (by simpa using hj)
theorem strsOf_get : ∀ {l : List AV} {z : List (List UInt8)}, strsOf l = some z → ∀ j, j < l.length → l[j]? = some (.str (z.getD j []))
  | [], z, h, j, hj => by simp at hj
  | x :: l, z, h, j, hj => by
    cases x <;> simp [strsOf] at h
    rename_i s
    obtain ⟨z', hz, rfl⟩ := h
    cases j with
    | zero => simp
    | succ j => simpa using strsOf_get hz j (by simpa using hj)

theorem elemA_get {l : List AV} {n : Nat} {r : AV} (h : elemA l n = some r) (hn : n < l.length) : l[n]? = some r := by
  unfold elemA at h
  split at h
  · obtain ⟨z, hz, rfl⟩ := opt_map h
    exact intsOf_get hz n hn
  · obtain ⟨z, hz, rfl⟩ := opt_map h
    exact strsOf_get hz n hn
  · exact h

theorem aindex_ok (hT : TOK P T) {t : TypeId} {x ix : AV} {cx ci : Value} {obs : List Prop} {r : AV} (h : aindex T t x ix = some (obs, r)) (ho : ∀ p ∈ obs, p) (hx : Rep R w O x cx) (hi : Rep R w O ix ci) :
    ∃ cv, (Instr.index t cx ci).run P w = .ok cv w ∧ Rep R w O r cv := by
  unfold aindex at h
  split at h
  · rename_i len e l k n hd
    split at h
    · rename_i i hti
      obtain ⟨h1, h2, _, _⟩ := run_info (w := w) hT hti
      have hu := tdq_arr hT hd
      cases hi
      obtain ⟨vs, rfl, hc⟩ := rep_agg hx
      cases ha : i.isAgg
      · rw [ha] at h h1
        simp only [cond_false] at h
        replace h := bif_some h; obtain ⟨hb, h⟩ := h
        rw [Bool.and_eq_true] at hb
        replace h := opt_map h; obtain ⟨r', hp, he⟩ := h
        simp only [Prod.mk.injEq] at he
        obtain ⟨rfl, rfl⟩ := he
        obtain ⟨g0, g1⟩ : 0 ≤ n ∧ n < (len : Int) := ho _ (by simp)
        have hlen := beq_iff.1 hb.1
        have hone := beq_iff.1 hb.2
        obtain ⟨v, hv, hr⟩ := hc.get (elemA_get hp (by omega))
        refine ⟨v, ?_, hr⟩
        unfold Instr.index
        simp [Sem.run_bind, asIntOf, run_underlying hu, h2, g0, g1, part, h1, hone, hv]
      · rw [ha] at h
        simp only [cond_true] at h
        replace h := opt_map h; obtain ⟨r', hp, he⟩ := h
        simp only [Prod.mk.injEq] at he
        obtain ⟨rfl, rfl⟩ := he
        obtain ⟨g0, g1⟩ : 0 ≤ n ∧ n < (len : Int) := ho _ (by simp)
        obtain ⟨cv, hcv, hr⟩ := partA_ok hT hp hc
        refine ⟨cv, ?_, hr⟩
        unfold Instr.index
        simp [Sem.run_bind, asIntOf, run_underlying hu, h2, g0, g1, hcv]
    · cases h
  · rename_i s k n hd
    have hu := tdq_str hT hd
    simp only [Option.some.injEq, Prod.mk.injEq] at h
    obtain ⟨rfl, rfl⟩ := h
    obtain ⟨g0, g1⟩ : 0 ≤ n ∧ n < (s.length : Int) := ho _ (by simp)
    cases hi
    cases hx
    refine ⟨_, ?_, .int _ _⟩
    have h2 : 0 ≤ n ∧ n < ((⟨s.toArray⟩ : ByteArray).size : Int) := by simpa [ByteArray.size] using And.intro g0 g1
    rw [run_index_string _ _ _ _ _ hu, dif_pos h2]
    have hlt : n.toNat < s.length := by omega
    have e : (⟨s.toArray⟩ : ByteArray)[n.toNat]'(by simpa [ByteArray.size] using hlt) = s.getD n.toNat 0 := by
      rw [ByteArray.getElem_eq_getElem_data]
      simp [List.getD, hlt]
    rw [e]
  · cases h

/-! ### Slices -/
theorem sliceBound_ok (n : Int) (k : IntKind) (y : Nat) (c : BoundsCode) (h0 : 0 ≤ n) (h1 : n ≤ (y : Int)) : (Instr.sliceBound (.int k n) y c).run P w = .ok n.toNat w := by
  unfold Instr.sliceBound
  simp [Sem.run_bind, asIntOf, h0, h1]

theorem bounds_ok {e : Env} {a : Act} (hE : ERel R w O e a.tmps) {lo hi : Option Operand} {len : Nat} {p : List Prop} {l h : Nat} (hb : aBounds e len lo hi = some (p, l, h)) (ho : ∀ q ∈ p, q) (b : Bool) {cap : Nat} (hc : len ≤ cap) :
    (Instr.sliceBounds b len cap (lo.map a.eval) (hi.map a.eval) none).run P w = .ok (l, h, cap) w ∧ l ≤ h ∧ h ≤ len := by
  unfold aBounds at hb
  cases hi with
  | none =>
    simp only at hb
    cases lo with
    | none =>
      simp only [Option.some.injEq, Prod.mk.injEq] at hb
      obtain ⟨rfl, rfl, rfl⟩ := hb
      exact ⟨by unfold Instr.sliceBounds; simp [Sem.run_bind], Nat.zero_le _, Nat.le_refl _⟩
    | some x =>
      simp only at hb
      split at hb
      · rename_i k n hx
        simp only [Option.some.injEq, Prod.mk.injEq] at hb
        obtain ⟨rfl, rfl, rfl⟩ := hb
        obtain ⟨h0, h1⟩ : 0 ≤ n ∧ n ≤ (len : Int) := ho _ (by simp)
        have hr := evA_rep hE hx
        generalize hv : a.eval x = v at hr
        cases hr
        exact ⟨by unfold Instr.sliceBounds; simp [Sem.run_bind, hv, sliceBound_ok n k len _ h0 h1], by omega, Nat.le_refl _⟩
      · cases hb
  | some y =>
    simp only at hb
    split at hb
    · cases hb
    · rename_i q hn heq
      split at heq
      · rename_i ky m hy
        simp only [Option.some.injEq, Prod.mk.injEq] at heq
        obtain ⟨rfl, rfl⟩ := heq
        have hry := evA_rep hE hy
        generalize hvy : a.eval y = vy at hry
        cases hry
        cases lo with
        | none =>
          simp only [Option.some.injEq, Prod.mk.injEq] at hb
          obtain ⟨rfl, rfl, rfl⟩ := hb
          obtain ⟨h0, h1⟩ : 0 ≤ m ∧ m ≤ (len : Int) := ho _ (by simp)
          exact ⟨by unfold Instr.sliceBounds; simp [Sem.run_bind, hvy, sliceBound_ok m ky cap _ h0 (by omega)], Nat.zero_le _, by omega⟩
        | some x =>
          simp only at hb
          split at hb
          · rename_i k n hx
            simp only [Option.some.injEq, Prod.mk.injEq] at hb
            obtain ⟨rfl, rfl, rfl⟩ := hb
            obtain ⟨g0, g1⟩ : 0 ≤ m ∧ m ≤ (len : Int) := ho _ (by simp)
            obtain ⟨h0, h1⟩ : 0 ≤ n ∧ n ≤ (m.toNat : Int) := ho _ (by simp)
            have hr := evA_rep hE hx
            generalize hv : a.eval x = v at hr
            cases hr
            exact ⟨by unfold Instr.sliceBounds; simp [Sem.run_bind, hv, hvy, sliceBound_ok m ky cap _ g0 (by omega), sliceBound_ok n k m.toNat _ h0 h1], by omega, by omega⟩
          · cases hb
      · cases heq

theorem run_sliceAt {t : TypeId} {d : TypeDesc} (hu : P.underlying t = some d) (hd : ∀ n e, d ≠ .array n e) (x : Value) (lo hi mx : Option Value) : (Instr.sliceAt t x lo hi mx).run P w = (Instr.slice t x lo hi mx).run P w := by
  unfold Instr.sliceAt
  rw [Sem.run_bind, run_underlying hu]
  cases d <;> simp_all

theorem aslice_ok (hT : TOK P T) {e : Env} {a : Act} (hE : ERel R w O e a.tmps) {lo hi : Option Operand} {t : TypeId} {x : AV} {cx : Value} {obs : List Prop} {r : AV} (h : aslice T e t x lo hi = some (obs, r)) (ho : ∀ p ∈ obs, p)
    (hx : Rep R w O x cx) : ∃ cv, (Instr.sliceAt t cx (lo.map a.eval) (hi.map a.eval) none).run P w = .ok cv w ∧ Rep R w O r cv := by
  unfold aslice at h
  split at h
  · rename_i s hd
    have hu := tdq_str hT hd
    split at h
    · rename_i p l hh hb
      simp only [Option.some.injEq, Prod.mk.injEq] at h
      obtain ⟨rfl, rfl⟩ := h
      obtain ⟨h1, h2, h3⟩ := bounds_ok (P := P) hE hb ho false (Nat.le_refl _)
      cases hx
      rw [run_sliceAt hu (by simp)]
      refine ⟨.string ((⟨s.toArray⟩ : ByteArray).extract l hh), ?_, ?_⟩
      · unfold Instr.slice
        rw [Sem.run_bind, run_underlying hu]
        have e0 : (⟨s.toArray⟩ : ByteArray).size = s.length := by simp [ByteArray.size]
        simp [Sem.run_bind, e0, h1]
      · rw [ByteArray.extract_mk, List.take_drop]
        rw [show l + (hh - l) = hh by omega]
        exact .str _
    · cases h
  · rename_i el sz m get hd
    have hu := tdq_slice hT hd
    split at h
    · rename_i s p l hh hs hb
      replace h := bif_some h; obtain ⟨hbq, h⟩ := h
      have := beq_iff.1 hbq
      subst this
      simp only [Option.some.injEq, Prod.mk.injEq] at h
      obtain ⟨rfl, rfl⟩ := h
      rw [run_sliceAt hu (by simp)]
      cases hx with
      | ronil =>
        obtain ⟨h1, h2, h3⟩ := bounds_ok (P := P) hE hb ho true (Nat.le_refl 0)
        obtain rfl : hh = 0 := by omega
        obtain rfl : l = 0 := by omega
        refine ⟨.slice none 0 0, ?_, .ronil _ _⟩
        unfold Instr.slice
        rw [Sem.run_bind, run_underlying hu]
        simp [Sem.run_bind, h1, szOf_inv hT hs]
      | roz _ _ ad c hc =>
        obtain ⟨h1, h2, h3⟩ := bounds_ok (P := P) hE hb ho true (Nat.zero_le c)
        obtain rfl : hh = 0 := by omega
        obtain rfl : l = 0 := by omega
        refine ⟨.slice (if c = 0 then some ad else some (ad.add (0 * s))) 0 c, ?_, ?_⟩
        · unfold Instr.slice
          rw [Sem.run_bind, run_underlying hu]
          simp [Sem.run_bind, h1, szOf_inv hT hs]
        · split
          · exact .roz _ _ _ _ hc
          · exact .roz _ _ _ _ hc
      | ro _ _ _ b off c vals hn hc hO hlt hcell hsz hv =>
        obtain ⟨h1, h2, h3⟩ := bounds_ok (P := P) hE hb ho true hn
        refine ⟨.slice (if c = l then some ⟨b, off, none⟩ else some ⟨b, off + l * s, none⟩) (hh - l) (c - l), ?_, ?_⟩
        · unfold Instr.slice
          rw [Sem.run_bind, run_underlying hu]
          simp [Sem.run_bind, h1, szOf_inv hT hs, Addr.add_mid]
        · have key : ∀ off', (c ≠ l → off' = off + l * s) → Rep R w O (.ro s (hh - l) fun j => get (l + j)) (.slice (some ⟨b, off', none⟩) (hh - l) (c - l)) := by
            intro off' ho'
            refine .ro _ _ _ b off' (c - l) (fun j => vals (l + j)) (by omega) (by omega) hO hlt (fun j hj f hf => ?_) (fun j hj => hsz _ (by omega)) (fun j hj => hv _ (by omega))
            rw [ho' (by omega), show off + l * s + j * s + f = off + (l + j) * s + f by rw [Nat.add_mul]; omega]
            exact hcell _ (by omega) f hf
          split
          · exact key off (fun hne => absurd (by assumption) hne)
          · exact key _ (fun _ => rfl)
    · cases h
  · rename_i el k l hd
    have hu := tdq_slice hT hd
    split at h
    · rename_i s p a' hh hs hb
      replace h := bif_some h; obtain ⟨hbq, h⟩ := h
      have := beq_iff.1 hbq
      subst this
      simp only [Option.some.injEq, Prod.mk.injEq] at h
      obtain ⟨rfl, rfl⟩ := h
      rw [run_sliceAt hu (by simp)]
      have hlen : ∀ n : Nat, a' ≤ hh → hh ≤ l.length → ((l.take hh).drop a').length = hh - a' := fun n h1 h2 => by simp; omega
      cases hx with
      | roinil =>
        obtain ⟨h1, h2, h3⟩ := bounds_ok (P := P) hE hb ho true (Nat.le_refl 0)
        obtain rfl : hh = 0 := by simpa using h3
        obtain rfl : a' = 0 := by omega
        refine ⟨.slice none 0 0, ?_, .roinil _⟩
        unfold Instr.slice
        rw [Sem.run_bind, run_underlying hu]
        simp at h1
        simp [Sem.run_bind, h1, szOf_inv hT hs]
      | roiz _ ad c hc =>
        obtain ⟨h1, h2, h3⟩ := bounds_ok (P := P) hE hb ho true (Nat.zero_le c)
        obtain rfl : hh = 0 := by simpa using h3
        obtain rfl : a' = 0 := by omega
        refine ⟨.slice (if c = 0 then some ad else some (ad.add (0 * 1))) 0 c, ?_, ?_⟩
        · unfold Instr.slice
          rw [Sem.run_bind, run_underlying hu]
          simp at h1
          simp [Sem.run_bind, h1, szOf_inv hT hs]
        · split
          · exact .roiz _ _ _ hc
          · exact .roiz _ _ _ hc
      | roi _ _ b off c hn hc hO hlt hcell =>
        obtain ⟨h1, h2, h3⟩ := bounds_ok (P := P) hE hb ho true hn
        refine ⟨.slice (if c = a' then some ⟨b, off, none⟩ else some ⟨b, off + a' * 1, none⟩) (hh - a') (c - a'), ?_, ?_⟩
        · unfold Instr.slice
          rw [Sem.run_bind, run_underlying hu]
          simp [Sem.run_bind, h1, szOf_inv hT hs, Addr.add_mid]
        · have key : ∀ off', (c ≠ a' → off' = off + a' * 1) → Rep R w O (.roi k ((l.take hh).drop a')) (.slice (some ⟨b, off', none⟩) (hh - a') (c - a')) := by
            intro off' ho'
            have := Rep.roi (R := R) (w := w) (O := O) k ((l.take hh).drop a') b off' (c - a') (by simp; omega) (by omega) hO hlt (fun j x hj => by
              have hj1 : j < ((l.take hh).drop a').length := (List.getElem?_eq_some_iff.1 hj).1
              simp at hj1
              rw [ho' (by omega), Nat.mul_one, Nat.add_assoc]
              refine hcell _ x ?_
              rw [List.getElem?_drop, List.getElem?_take_of_lt (by omega)] at hj
              exact hj)
            rw [hlen 0 h2 h3] at this
            exact this
          split
          · exact key off (fun hne => absurd (by assumption) hne)
          · exact key _ (fun _ => rfl)
    · cases h
  · rename_i el i sz o m hd
    have hu := tdq_slice hT hd
    split at h
    · rename_i s p l hh hs hb
      replace h := bif_some h; obtain ⟨hbq, h⟩ := h
      have := beq_iff.1 hbq
      subst this
      simp only [Option.some.injEq, Prod.mk.injEq] at h
      obtain ⟨rfl, rfl⟩ := h
      rw [run_sliceAt hu (by simp)]
      cases hx with
      | slnil _ _ _ hR =>
        obtain ⟨h1, h2, h3⟩ := bounds_ok (P := P) hE hb ho true (Nat.le_refl 0)
        obtain rfl : hh = 0 := by omega
        obtain rfl : l = 0 := by omega
        refine ⟨.slice none 0 0, ?_, .slnil _ _ _ hR⟩
        unfold Instr.slice
        rw [Sem.run_bind, run_underlying hu]
        simp [Sem.run_bind, h1, szOf_inv hT hs]
      | sl _ _ _ _ b c off sh hR hn hc hof hss hl =>
        obtain ⟨h1, h2, h3⟩ := bounds_ok (P := P) hE hb ho true hn
        refine ⟨.slice (if c = l then some ⟨b, off, none⟩ else some ⟨b, off + l * s, none⟩) (hh - l) (c - l), ?_, ?_⟩
        · unfold Instr.slice
          rw [Sem.run_bind, run_underlying hu]
          simp [Sem.run_bind, h1, szOf_inv hT hs, Addr.add_mid]
        · split
          · rename_i hcl
            refine .sl _ _ _ _ b (c - l) off sh hR (by omega) (by omega) (fun k => by omega) hss ?_
            have : (c - l) * s ≤ c * s := Nat.mul_le_mul_right s (Nat.sub_le _ _)
            omega
          · rename_i hcl
            refine .sl _ _ _ _ b (c - l) (off + l * s) sh hR (by omega) (by omega) (fun k => ?_) hss ?_
            · rw [hof (by omega), Nat.add_mul]
            · have : l * s + (c - l) * s = c * s := by rw [← Nat.add_mul]; congr 1; omega
              omega
    · cases h
  · rename_i el hd
    have hu := tdq_slice hT hd
    split at h
    · rename_i s p l hh hs hb
      simp only [Option.some.injEq, Prod.mk.injEq] at h
      obtain ⟨rfl, rfl⟩ := h
      cases hx
      rw [run_sliceAt hu (by simp)]
      obtain ⟨h1, h2, h3⟩ := bounds_ok (P := P) hE hb ho true (Nat.le_refl 0)
      obtain rfl : hh = 0 := by omega
      obtain rfl : l = 0 := by omega
      refine ⟨.slice none 0 0, ?_, .nils⟩
      unfold Instr.slice
      rw [Sem.run_bind, run_underlying hu]
      simp [Sem.run_bind, h1, szOf_inv hT hs]
    · cases h
  · cases h

/-! ### Composite values -/
theorem fold_set (off : Nat) : ∀ (xs : List Value) (n : Nat) (cs : List Value), off + n + xs.length ≤ cs.length →
    ((xs.zipIdx n).foldl (fun (c : Array Value) (p : Value × Nat) => c.setIfInBounds (off + p.2) p.1) cs.toArray) = (cs.take (off + n) ++ xs ++ cs.drop (off + n + xs.length)).toArray
  | [], n, cs, h => by simp
  | x :: xs, n, cs, h => by
    simp only [List.zipIdx_cons, List.foldl_cons, List.setIfInBounds_toArray]
    rw [fold_set off xs (n + 1) (cs.set (off + n) x) (by simp at h ⊢; omega)]
    congr 1
    simp only [List.length_cons] at h ⊢
    have hlt : off + n < cs.length := by omega
    have e1 : (cs.set (off + n) x).take (off + (n + 1)) = cs.take (off + n) ++ [x] := by
      rw [← Nat.add_assoc, List.take_add_one, List.take_set_of_le (Nat.le_refl _)]
      simp [hlt]
    have e2 : (cs.set (off + n) x).drop (off + (n + 1) + xs.length) = cs.drop (off + n + (xs.length + 1)) := by
      rw [List.drop_set_of_lt (by omega)]
      congr 1
      omega
    rw [e1, e2]
    simp

theorem setRange_rel {l : List AV} {vs : List Value} (h : CRel R w O l vs) {m : List AV} {us : List Value} (k : CRel R w O m us) (off : Nat) (hl : off + m.length ≤ l.length) :
    CRel R w O (setRange l off m) (vs.take off ++ us ++ vs.drop (off + us.length)) := by
  have e1 := h.1
  have e2 := k.1
  refine ⟨by simp [setRange, e1, e2], fun j x v hj hv => ?_⟩
  unfold setRange at hj
  rw [List.append_assoc, List.getElem?_append] at hj hv
  simp only [List.length_take] at hj hv
  rw [Nat.min_eq_left (by omega)] at hj
  rw [Nat.min_eq_left (by omega)] at hv
  split at hj
  · rename_i hlt
    rw [if_pos hlt] at hv
    rw [List.getElem?_take_of_lt hlt] at hj hv
    exact h.2 j x v hj hv
  · rename_i hge
    rw [if_neg hge] at hv
    rw [List.getElem?_append] at hj hv
    rw [← e2] at hv
    split at hj
    · rename_i hlt
      rw [if_pos hlt] at hv
      exact k.2 _ x v hj hv
    · rename_i hge2
      rw [if_neg hge2] at hv
      rw [List.getElem?_drop] at hj hv
      exact h.2 _ x v hj hv

theorem fill_ok {e : Env} {a : Act} (hE : ERel R w O e a.tmps) {place : Nat → Option (Nat × Nat)} : ∀ (ps : List (Nat × Operand)) (l : List AV) (vs : List Value) (r : List AV), CRel R w O l vs → fillA place e l ps = some r →
    ∃ us : List Value, Instr.fill place vs.toArray (ps.map fun p => (p.1, a.eval p.2)) = some us.toArray ∧ CRel R w O r us
  | [], l, vs, r, hc, h => by
    simp [fillA] at h
    subst h
    exact ⟨vs, rfl, hc⟩
  | (i, x) :: ps, l, vs, r, hc, h => by
    unfold fillA at h
    simp only [forceA_eq] at h
    split at h
    · rename_i off sz v hp hv
      replace h := bif_some h; obtain ⟨hb, h⟩ := h
      simp only [Bool.and_eq_true] at hb
      obtain ⟨⟨h1, h2⟩, h3⟩ := hb
      have hs := beq_iff.1 h2
      have hle := Nat.le_of_ble_eq_true h3
      have hr := rep_cells (evA_rep hE hv) h1
      have hc' := setRange_rel hc hr off (by omega)
      obtain ⟨us, hus, hcu⟩ := fill_ok hE ps _ _ r hc' h
      refine ⟨us, ?_, hcu⟩
      simp only [List.map_cons, Instr.fill, hp]
      have e1 : (a.eval x).cells.size = sz := by rw [← hs, hr.1]; simp
      have e2 := hc.1
      have e3 : ¬ ((a.eval x).cells.size ≠ sz || decide (off + (a.eval x).cells.size > vs.toArray.size)) = true := by
        simp [e1]; omega
      rw [if_neg (by simpa using e3)]
      have e4 := fold_set off (a.eval x).cells.toList 0 vs (by simp [e1]; omega)
      rw [← hus]
      congr 1
      rw [← Array.foldl_toList, Array.toList_zipIdx]
      have e5 : (a.eval x).cells.toList.zipIdx 0 = (a.eval x).cells.toList.zipIdx := rfl
      rw [Nat.add_zero] at e4
      exact e4
    · cases h

theorem zero_rel (z : List Value) : CRel R w O (z.map ofVal1) z :=
  ⟨by simp, fun j x v hj hv => by
    simp at hj
    obtain ⟨y, hy, rfl⟩ := hj
    rw [hv] at hy
    cases hy
    exact ofVal1_rep v⟩

theorem places_ok (hT : TOK P T) : ∀ (fs : List Field), ((fs.map fun f => (f.offset, f.type)).all fun f => (szOf T f.2).isSome) = true →
    ∃ pl : List (Nat × Nat), fs.mapM (fun f => (P.info? f.type).map fun i => (f.offset, i.size)) = some pl ∧ ∀ j, pl[j]? = plc T (fs.map fun f => (f.offset, f.type)) j
  | [], _ => ⟨[], rfl, fun j => by simp [plc]⟩
  | f :: fs, h => by
    simp only [List.map_cons, List.all_cons, Bool.and_eq_true] at h
    obtain ⟨pl, h1, h2⟩ := places_ok hT fs h.2
    obtain ⟨s, hs⟩ := Option.isSome_iff_exists.1 h.1
    have hs' := hs
    unfold szOf at hs'
    obtain ⟨i, hi, rfl⟩ := opt_map hs'
    obtain ⟨inf, ds, z, g1, g2, g3, rfl⟩ := probe_inv (hT _ i hi)
    refine ⟨(f.offset, inf.size) :: pl, by simp [List.mapM_cons, g1, h1], fun j => ?_⟩
    cases j with
    | zero => simp [plc, hs]
    | succ j => simpa [plc] using h2 j

theorem abuild_ok (hT : TOK P T) {e : Env} {a : Act} (hE : ERel R w O e a.tmps) {t : TypeId} {ps : Array (Nat × Operand)} {obs : List Prop} {r : AV} (h : abuild T e t ps.toList = some (obs, r)) :
    ∃ cv, (Instr.build t (ps.map fun (i, x) => (i, a.eval x))).run P w = .ok cv w ∧ Rep R w O r cv := by
  have hps : (ps.map fun (i, x) => (i, a.eval x)).toList = ps.toList.map fun p => (p.1, a.eval p.2) := by simp
  unfold abuild at h
  split at h
  · rename_i i hi
    obtain ⟨inf, ds, z, g1, g2, g3, rfl⟩ := probe_inv (hT _ i hi)
    simp only at h
    have hb := und_of ds
    split at h
    · rename_i fs hd
      rw [hd] at hb
      obtain ⟨F, rfl, hF⟩ := hb
      replace h := bif_some h; obtain ⟨hall, h⟩ := h
      replace h := opt_map h; obtain ⟨l, hl, he⟩ := h
      simp only [Prod.mk.injEq] at he
      obtain ⟨rfl, rfl⟩ := he
      rw [← hF] at hall hl
      obtain ⟨pl, h1, h2⟩ := places_ok hT F.toList hall
      obtain ⟨us, hus, hc⟩ := fill_ok hE ps.toList _ _ l (zero_rel z.cells.toList) hl
      refine ⟨.agg us.toArray, run_build w t _ _ ?_, hc.rep⟩
      have e1 : (fun x => pl.toArray[x]?) = plc T (F.toList.map fun f => (f.offset, f.type)) := funext fun j => by simpa using h2 j
      simp only [Program.built, g1, g2, g3, h1, hps, e1]
      simpa using hus
    · rename_i n el hd
      rw [hd] at hb
      cases hb
      split at h
      · rename_i s hs
        replace h := opt_map h; obtain ⟨l, hl, he⟩ := h
        simp only [Prod.mk.injEq] at he
        obtain ⟨rfl, rfl⟩ := he
        obtain ⟨us, hus, hc⟩ := fill_ok hE ps.toList _ _ l (zero_rel z.cells.toList) hl
        refine ⟨.agg us.toArray, run_build w t _ _ ?_, hc.rep⟩
        unfold szOf at hs
        obtain ⟨ie, hie, rfl⟩ := opt_map hs
        obtain ⟨inf', ds', z', k1, k2, k3, rfl⟩ := probe_inv (hT _ ie hie)
        simp only [Program.built, g1, g2, g3, k1, hps]
        simpa using hus
      · cases h
    · cases h
  · cases h

theorem evAs_rel {e : Env} {a : Act} (hE : ERel R w O e a.tmps) : ∀ {xs : List Operand} {l : List AV}, evAs e xs = some l → CRel R w O l (xs.map a.eval)
  | [], l, h => by simp [evAs] at h; subst h; exact ⟨rfl, by simp⟩
  | x :: xs, l, h => by
    unfold evAs at h
    split at h
    · rename_i v r hv hr
      simp at h
      subst h
      obtain ⟨h1, h2⟩ := evAs_rel hE hr
      refine ⟨by simp [h1], fun j y u hj hu => ?_⟩
      cases j with
      | zero => simp at hj hu; subst hj; subst hu; exact evA_rep hE hv
      | succ j => exact h2 j y u (by simpa using hj) (by simpa using hu)
    · cases h
end
end Go.Proofs.Ytdiflkabpjnncaa
