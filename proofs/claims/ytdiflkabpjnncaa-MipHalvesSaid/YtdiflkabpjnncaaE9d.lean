
/- The engine, part 9 d: regions in whatever order that make or turn memory: sound. No condition. -/
import Derived.Test.YtdiflkabpjnncaaE9c
namespace Go.Proofs.Ytdiflkabpjnncaa
open Go Go.RowKit
set_option linter.unusedVariables false
set_option linter.unusedSimpArgs false

section
variable {P : Program} {C : Ctx} {R : PN} {w : World} {F Ob : Nat → Prop} {W0 : World} {A : PN} {H : AH} {dz : List Deferred} {n : Nat} {e e' : Env}

theorem dbuild_congr {T : TypeId → Option TI} {t : TypeId} {len : Nat} {ps : List (Nat × Operand)} (h : ∀ p ∈ ps, evA e p.2 = evA e' p.2) : dbuildSlice T e H t len ps = dbuildSlice T e' H t len ps := by
  have hf : ∀ place l, fillA place e l ps = fillA place e' l ps := fun place l => fillA_congr place ps l h
  unfold dbuildSlice
  simp only [hf]
theorem aopD_congr {o : Op} (h : ∀ x ∈ o.operands.toList, evA e x = evA e' x) : aopD C o e H = aopD C o e' H := by
  unfold aopD
  split <;> simp only [Op.operands, Call.operands, Array.toList_append, List.mem_append, List.mem_cons, List.not_mem_nil, or_false, forall_eq_or_imp, forall_eq] at h
  · rfl
  · rw [h]
  · rename_i t len ps
    exact dbuild_congr fun p hp => h p.2 (by simp; exact ⟨p.1, by simpa using hp⟩)
  · rw [h.1, h.2]
  · rw [h.1, h.2]
  · rename_i args ts
    split
    · rename_i s x t t' hs ht
      rw [h s (by simp [hs]), h x (by simp [hs])]
    · rfl
  · rfl
theorem dcall_congr {o : Op} (h : ∀ x ∈ o.operands.toList, evA e x = evA e' x) : dcall C o e H = dcall C o e' H := by
  unfold dcall
  split <;> simp only [Op.operands, Call.operands, Array.toList_append, List.mem_append, List.mem_cons, List.not_mem_nil, or_false, forall_eq_or_imp, forall_eq] at h
  · rename_i f args ts
    rw [h.1, evAs_congr args.toList fun x hx => h.2 x hx]
  · rfl
theorem dcopy_congr {T : TypeId → Option TI} {o : Op} (h : ∀ x ∈ o.operands.toList, evA e x = evA e' x) : dcopy T o e H = dcopy T o e' H := by
  unfold dcopy
  split <;> simp only [Op.operands, Call.operands, Array.toList_append, List.mem_append, List.mem_cons, List.not_mem_nil, or_false, forall_eq_or_imp, forall_eq] at h
  · rename_i args ts
    split
    · rename_i d s t t' hs ht
      rw [h d (by simp [hs]), h s (by simp [hs])]
    · rfl
  · rfl
theorem dcall_G (hD : DOK C) {o : Op} {obs : List Prop} {v : AV} {δ : List (Nat × Option Ent)} {nx : Nat} {K : AV → AH → Prop} (h : dcall C o e H = some (obs, v, δ, nx)) (ho : ∀ p ∈ obs, p) (hK : K v ⟨nx, δ ++ H.es⟩) : aopG C o e H K := by
  unfold dcall at h
  split at h
  · rename_i f args ts
    split at h
    · rename_i g k cap l hf hl
      obtain ⟨s, hs, hk⟩ := hD g _ H obs v δ nx K h ho hK
      unfold aopG
      simp only [hf, hl, hs]
      exact hk
    · cases h
  · cases h
theorem aopX_congr (hY : CopyOK C) {o : Op} (h : ∀ x ∈ o.operands.toList, evA e x = evA e' x) : aopX C o e H = aopX C o e' H := by
  unfold aopX
  rw [aopF_congr h, aopD_congr h, dcall_congr h, hY.congr o e e' H h]

/-- One operation, told: sound. -/
theorem opX_sound (hC : COK P C) {o : Oper} {a : Act} {obs : List Prop} {v : AV} {dl : Es} {nx : Nat} (hf : aopX C o.op e H = some (obs, v, dl, nx)) (ho : ∀ p ∈ obs, p) (hH : HRel F Ob W0 R H w) (hE : ERel R w (Wr F R H) e a.tmps) :
    o.wp P a w (fun a' w' => ∃ R' cv, a' = a.put o.dst cv ∧ (∀ i, i < H.nx → R'[i]? = R[i]?) ∧ HRel F Ob W0 R' ⟨nx, dl ++ H.es⟩ w' ∧ Rep R' w' (Wr F R' ⟨nx, dl ++ H.es⟩) v cv) NoWay := by
  unfold aopX at hf
  split at hf
  · rename_i obs' v' hq
    cases hf
    refine upon_noway (aopF_ok hC.T hC.S hq ho hH hE) fun a' w' ⟨cv, ha, hx, hr⟩ => ?_
    exact ⟨R, cv, ha, fun _ _ => rfl, hH.quiet hx, hr⟩
  · have hg : aopG C o.op e H (fun v' H' => v' = v ∧ H' = ⟨nx, dl ++ H.es⟩) ∨ C.X o.op e H (fun v' H' => v' = v ∧ H' = ⟨nx, dl ++ H.es⟩) := by
      split at hf
      · rename_i r hd
        cases hf
        exact .inl (dcall_G hC.D hd ho ⟨rfl, rfl⟩)
      · split at hf
        · rename_i r hd
          cases hf
          exact .inl (aopD_G hd ho ⟨rfl, rfl⟩)
        · exact .inr (hC.Y.out _ _ _ _ _ _ _ _ hf ho ⟨rfl, rfl⟩)
    refine upon_noway (hC.G o a e F Ob W0 R H w _ hg hH hE) fun a' w' ⟨R', v', H', cv, ⟨h1, h2⟩, ha, g0, g1, g2, g3⟩ => ?_
    subst h1; subst h2
    exact ⟨R', cv, ha, g0, g1, g3⟩

/-! ### The order -/
section order
variable {ops : List Oper}
theorem edgeB_has {i j : Nat} (h : edgeB ops i j = true) : hasEdge ops.toArray i j = true := by
  unfold edgeB at h
  unfold hasEdge
  rw [List.getElem?_toArray]
  split at h
  · rename_i o ho
    simp only [ho]
    rw [List.any_eq_true] at h
    obtain ⟨e, he, hb⟩ := h
    rw [Bool.and_eq_true] at hb
    exact Array.any_eq_true'.2 ⟨e, by simpa using he, by rw [hb.1, beq_iff.1 hb.2]; simp⟩
  · cases h
theorem ordB_lt (hs : Sound ops.toArray) {i j : Nat} (h : ordB ops i j = true) : j < i := by
  have key : ∀ {i j}, edgeB ops i j = true → j < i := fun {i j} h => by
    obtain ⟨o, ho, e, he, hb, hon⟩ := edge_spec (edgeB_has h)
    have := hs.back i o ho e he hb
    omega
  unfold ordB at h
  rw [Bool.or_eq_true] at h
  rcases h with h | h
  · exact key h
  · split at h
    · rename_i o ho
      simp only [List.any_eq_true, Bool.and_eq_true] at h
      obtain ⟨e, he, h⟩ := h
      have h1 := hs.back i o (by simpa using ho) e (by simpa using he) h.1
      have h2 := key h.2
      omega
    · cases h
theorem ordB_done {L : Nat → Bool} (hcl : ∀ j o, L j = true → ops.toArray[j]? = some o → ∀ e ∈ o.after, Region.binds .any e = true → L e.on = true) {i j : Nat} {o : Oper} (ho : ops.toArray[i]? = some o)
    (hd : ∀ e ∈ o.after, Region.binds .any e = true → L e.on = true) (h : ordB ops i j = true) : L j = true := by
  unfold ordB at h
  rw [Bool.or_eq_true] at h
  rcases h with h | h
  · obtain ⟨o', ho', e, he, hb, hon⟩ := edge_spec (edgeB_has h)
    rw [ho] at ho'
    cases ho'
    rw [← hon]
    exact hd e he hb
  · rw [List.getElem?_toArray] at ho
    rw [ho] at h
    simp only [List.any_eq_true, Bool.and_eq_true] at h
    obtain ⟨e, he, h1, h2⟩ := h
    obtain ⟨o', ho', e', he', hb', hon'⟩ := edge_spec (edgeB_has h2)
    rw [← hon']
    exact hcl _ o' (hd e (by simpa using he) h1) ho' e' he' hb'
theorem hidGo_spec {k x : Nat} : ∀ {W : List (List Nat)} {s : Nat}, (hidGo ops k s W).any (Nat.beq x) = false → ∀ j, (W.getD j []).any (Nat.beq x) = true → s + j = k ∨ ordB ops k (s + j) = true ∨ ordB ops (s + j) k = true
  | [], s, _, j, hj => by (simp at hj)
  | [] :: r, s, h, j, hj => by
    cases j with
    | zero => simp at hj
    | succ j =>
      have := hidGo_spec (s := s + 1) h j (by simpa using hj)
      rw [show s + 1 + j = s + (j + 1) by omega] at this
      exact this
  | (a :: ws) :: r, s, h, j, hj => by
    unfold hidGo at h
    cases hc : (Nat.beq s k || ordB ops k s || ordB ops s k)
    · rw [hc, cond_false, List.any_append, Bool.or_eq_false_iff] at h
      cases j with
      | zero =>
        have hj : (a :: ws).any (Nat.beq x) = true := hj
        rw [h.1] at hj
        cases hj
      | succ j =>
        have := hidGo_spec (s := s + 1) h.2 j (by simpa using hj)
        rw [show s + 1 + j = s + (j + 1) by omega] at this
        exact this
    · rw [hc, cond_true] at h
      cases j with
      | zero =>
        rw [Bool.or_eq_true, Bool.or_eq_true] at hc
        rcases hc with (hc | hc) | hc
        · exact .inl (beq_iff.1 hc)
        · exact .inr (.inl hc)
        · exact .inr (.inr hc)
      | succ j =>
        have := hidGo_spec (s := s + 1) h j (by simpa using hj)
        rw [show s + 1 + j = s + (j + 1) by omega] at this
        exact this
theorem wokGo_spec {k x : Nat} {ws : List Nat} (hx : ws.any (Nat.beq x) = true) : ∀ {r : List (List Nat)} {s : Nat}, wokGo ops k ws s r = true → ∀ j, (r.getD j []).any (Nat.beq x) = true → ordB ops (s + j) k = true
  | [], s, _, j, hj => by simp at hj
  | vs :: r, s, h, j, hj => by
    unfold wokGo at h
    rw [Bool.and_eq_true, Bool.or_eq_true] at h
    cases j with
    | zero =>
      have hj : vs.any (Nat.beq x) = true := hj
      rcases h.1 with h1 | h1
      · exfalso
        rw [List.any_eq_true] at hx
        obtain ⟨y, hy, hxy⟩ := hx
        have := beq_iff.1 hxy
        subst this
        have := List.all_eq_true.1 h1 x hy
        rw [hj] at this
        cases this
      · exact h1
    | succ j =>
      have := wokGo_spec hx h.2 j (by simpa using hj)
      rw [show s + 1 + j = s + (j + 1) by omega] at this
      exact this
theorem wok_spec {x : Nat} : ∀ {W : List (List Nat)} {s : Nat}, wok ops s W = true → ∀ i j, i < j → (W.getD i []).any (Nat.beq x) = true → (W.getD j []).any (Nat.beq x) = true → ordB ops (s + j) (s + i) = true
  | [], s, _, i, j, _, hi, _ => by simp at hi
  | ws :: r, s, h, i, j, hij, hi, hj => by
    unfold wok at h
    rw [Bool.and_eq_true] at h
    cases j with
    | zero => omega
    | succ j =>
      cases i with
      | zero =>
        have := wokGo_spec (k := s) (x := x) (ws := ws) hi h.1 j (by simpa using hj)
        rw [show s + 1 + j = s + (j + 1) by omega] at this
        exact this
      | succ i =>
        have := wok_spec h.2 i j (by omega) (by simpa using hi) (by simpa using hj)
        rw [show s + 1 + j = s + (j + 1) by omega, show s + 1 + i = s + (i + 1) by omega] at this
        exact this
end order

theorem hide_eta (hid : List Nat) (H : AH) : (⟨H.nx, (hide hid H).es⟩ : AH) = hide hid H := by cases hid <;> rfl
theorem vcMix_inv {all l : List Oper} {W : List (List Nat)} {o : Oper} {k : Nat} {K : Env → AH → Prop} (h : vcMix C all W (o :: l) k e H K) :
    ∃ e' b, Gd all o e e' b ∧ (b = true → ∃ obs v dl nx, aopX C o.op e' (hide (hidGo all k 0 W) H) = some (obs, v, dl, nx) ∧ mixB C W k o e' (hide (hidGo all k 0 W) H) dl nx = true ∧ (∀ p ∈ obs, p) ∧
        vcMix C all W l (k + 1) (pute o.dst v e') ⟨nx, dl ++ H.es⟩ K) ∧ (b = false → vcMix C all W l (k + 1) (pute o.dst (.tup []) e') H K) := by
  have h : mixStep C all W k o (vcMix C all W l (k + 1)) e H K := h
  unfold mixStep at h
  simp only at h
  have hrun : ∀ e', (forceL (hidGo all k 0 W) fun hid => forceL (hide hid H).es fun es => match aopX C o.op e' ⟨H.nx, es⟩ with
    | some (obs, v, δ, nx) => Chk (mixB C W k o e' ⟨H.nx, es⟩ δ nx) ∧ obl obs (forceL δ fun δ' => vcMix C all W l (k + 1) (pute o.dst v e') ⟨nx, δ' ++ H.es⟩ K)
    | none => False) → ∃ obs v dl nx, aopX C o.op e' (hide (hidGo all k 0 W) H) = some (obs, v, dl, nx) ∧ mixB C W k o e' (hide (hidGo all k 0 W) H) dl nx = true ∧ (∀ p ∈ obs, p) ∧
        vcMix C all W l (k + 1) (pute o.dst v e') ⟨nx, dl ++ H.es⟩ K := fun e' h => by
    rw [forceL_eq, forceL_eq, hide_eta] at h
    split at h
    · rename_i obs v δ nx hx
      obtain ⟨⟨h1⟩, h2⟩ := h
      obtain ⟨h3, h4⟩ := obl_inv h2
      rw [forceL_eq] at h4
      exact ⟨obs, v, δ, nx, hx, h1, h3, h4⟩
    · exact h.elim
  split at h
  · rename_i hg
    exact ⟨e, true, .none hg, fun _ => hrun e h, fun h => by cases h⟩
  · rename_i j want hg
    split at h
    · exact h.elim
    · rename_i g hs
      split at h
      · rename_i hl
        refine ⟨e, want, .tru j want g hg hs hl, fun hw => ?_, fun hw => ?_⟩
        · subst hw; exact hrun e h
        · subst hw; exact h
      · rename_i hl
        refine ⟨e, !want, .fls j want g hg hs hl, fun hw => ?_, fun hw => ?_⟩
        · cases want
          · exact hrun e h
          · cases hw
        · cases want
          · cases hw
          · exact h
      · rename_i b hl
        cases b with
        | true =>
          have h := h.1 rfl
          refine ⟨_, want, .ft j want g true hg hs hl rfl, fun hw => ?_, fun hw => ?_⟩
          · subst hw; exact hrun _ h
          · subst hw; exact h
        | false =>
          have h := h.2 rfl
          refine ⟨_, !want, .ff j want g false hg hs hl rfl, fun hw => ?_, fun hw => ?_⟩
          · cases want
            · exact hrun _ h
            · cases hw
          · cases want
            · cases hw
            · exact h
      · rename_i hl
        exact ⟨e, false, .und j want g hg hs hl, fun k => (by cases k), fun _ => h⟩
      · exact h.elim

theorem chainM {all : List Oper} {W : List (List Nat)} {K : Env → AH → Prop} : ∀ (l : List Oper) (k : Nat) (e : Env) (H : AH), vcMix C all W l k e H K →
    ∃ (E E' : Nat → Env) (Hs : Nat → AH) (av : Nat → AV) (dl : Nat → Es) (b : Nat → Bool), E 0 = e ∧ Hs 0 = H ∧ (∀ i o, l[i]? = some o → Gd all o (E i) (E' i) (b i) ∧
      (b i = true → ∃ obs, aopX C o.op (E' i) (hide (hidGo all (k + i) 0 W) (Hs i)) = some (obs, av i, dl i, (Hs (i + 1)).nx) ∧ mixB C W (k + i) o (E' i) (hide (hidGo all (k + i) 0 W) (Hs i)) (dl i) (Hs (i + 1)).nx = true ∧ ∀ p ∈ obs, p) ∧
      (b i = false → av i = .tup [] ∧ dl i = [] ∧ (Hs (i + 1)).nx = (Hs i).nx) ∧ E (i + 1) = pute o.dst (av i) (E' i) ∧ (Hs (i + 1)).es = dl i ++ (Hs i).es) ∧ K (E l.length) (Hs l.length)
  | [], k, e, H, h => ⟨fun _ => e, fun _ => e, fun _ => H, fun _ => .any, fun _ => [], fun _ => true, rfl, rfl, fun i o hi => by simp at hi, h⟩
  | o :: l, k, e, H, h => by
    obtain ⟨e', b, hg, hrun, hskip⟩ := vcMix_inv h
    have key : ∃ av dl H', (b = true → ∃ obs, aopX C o.op e' (hide (hidGo all k 0 W) H) = some (obs, av, dl, H'.nx) ∧ mixB C W k o e' (hide (hidGo all k 0 W) H) dl H'.nx = true ∧ ∀ p ∈ obs, p) ∧
        (b = false → av = .tup [] ∧ dl = [] ∧ H'.nx = H.nx) ∧ H'.es = dl ++ H.es ∧ vcMix C all W l (k + 1) (pute o.dst av e') H' K := by
      cases b with
      | true =>
        obtain ⟨obs, v, dl, nx, h1, h2, h3, h4⟩ := hrun rfl
        exact ⟨v, dl, ⟨nx, dl ++ H.es⟩, fun _ => ⟨obs, h1, h2, h3⟩, fun k => (by cases k), rfl, h4⟩
      | false => exact ⟨.tup [], [], H, fun k => (by cases k), fun _ => ⟨rfl, rfl, rfl⟩, rfl, hskip rfl⟩
    obtain ⟨av, dl, H', k1, k2, k3, k4⟩ := key
    obtain ⟨E, E', Hs, avs, dls, bs, h0, hh0, hst, hK⟩ := chainM l _ _ _ k4
    refine ⟨fun | 0 => e | i + 1 => E i, fun | 0 => e' | i + 1 => E' i, fun | 0 => H | i + 1 => Hs i, fun | 0 => av | i + 1 => avs i, fun | 0 => dl | i + 1 => dls i, fun | 0 => b | i + 1 => bs i, rfl, rfl, fun i o' hi => ?_, hK⟩
    cases i with
    | zero =>
      simp only [List.getElem?_cons_zero, Option.some.injEq] at hi
      subst hi
      simp only [Nat.zero_add, Nat.add_zero]
      rw [hh0]
      exact ⟨hg, k1, k2, h0, k3⟩
    | succ i =>
      have := hst i o' (by simpa using hi)
      rw [show k + 1 + i = k + (i + 1) by omega] at this
      exact this
end
end Go.Proofs.Ytdiflkabpjnncaa
