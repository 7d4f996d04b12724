
/- Small things for all: bytes, weaker answers, slices that are nothing, loops that are gone through round by round. No condition. -/
import Derived.Test.YtdiflkabpjnncaaA
namespace Go.Proofs.Ytdiflkabpjnncaa
open Go Go.RowKit
set_option linter.unusedVariables false
set_option linter.unusedSimpArgs false
set_option maxRecDepth 100000

theorem w64 {n : Int} (h0 : 0 ≤ n) (h1 : n < 18446744073709551616) : IntKind.u64.wrap n = n := by
  simp only [IntKind.wrap, IntKind.signed, IntKind.bits, Bool.false_eq_true, if_false]
  exact Int.emod_eq_of_lt h0 (by simpa using h1)
theorem w32 {n : Int} (h0 : 0 ≤ n) (h1 : n < 4294967296) : IntKind.u32.wrap n = n := by
  simp only [IntKind.wrap, IntKind.signed, IntKind.bits, Bool.false_eq_true, if_false]
  exact Int.emod_eq_of_lt h0 (by simpa using h1)
theorem w8 {n : Int} (h0 : 0 ≤ n) (h1 : n < 256) : IntKind.u8.wrap n = n := by
  simp only [IntKind.wrap, IntKind.signed, IntKind.bits, Bool.false_eq_true, if_false]
  exact Int.emod_eq_of_lt h0 (by simpa using h1)
def Bytes (p : List Int) : Prop := ∀ x ∈ p, 0 ≤ x ∧ x ≤ 255
theorem Bytes.get {p : List Int} (h : Bytes p) (i : Nat) : 0 ≤ p.getD i 0 ∧ p.getD i 0 ≤ 255 := by
  by_cases hi : i < p.length
  · have : p.getD i 0 = p[i] := by simp [List.getD, hi]
    rw [this]; exact h _ (List.getElem_mem hi)
  · simp [List.getD, hi]
theorem bytes_of {xs : List Int} (h : ∀ x ∈ xs, (Lit.int .u8 x).wf = true) : Bytes xs := fun x hx => by
  have := h x hx
  simp [Lit.wf, IntKind.min, IntKind.max, IntKind.signed, IntKind.bits] at this
  omega
theorem sok_weak {P : Program} {g : FuncId} {s s' : PSpec} (h : SOK P g s) (k : ∀ l obs v, s' l = some (obs, v) → (∀ p ∈ obs, p) → ∃ obs', s l = some (obs', v) ∧ ∀ p ∈ obs', p) : SOK P g s' :=
  ⟨h.1, fun l obs v h1 h2 w O cl h3 h4 => by
    obtain ⟨obs', k1, k2⟩ := k l obs v h1 h2
    exact h.2 l obs' v k1 k2 w O cl h3 h4⟩
def nz0 : AV → AV | .nils => .roi .u8 [] | x => x
def nzA : AV → AV | .agg l => .agg (l.map nz0) | x => nz0 x
theorem nz0_rep {R : PN} {w : World} {O : Nat → Prop} {x : AV} {v : Value} (h : Rep R w O x v) : Rep R w O (nz0 x) v := by
  unfold nz0
  split
  · cases h; exact .roinil _
  · exact h
theorem nzA_rep {R : PN} {w : World} {O : Nat → Prop} {x : AV} {v : Value} (h : Rep R w O x v) : Rep R w O (nzA x) v := by
  unfold nzA
  split
  · cases h with
    | agg l vs hl h =>
      refine .agg _ _ (by simpa using hl) fun j x v hx hv => ?_
      simp only [List.getElem?_map, Option.map_eq_some_iff] at hx
      obtain ⟨y, hy, rfl⟩ := hx
      exact nz0_rep (h j y v hy hv)
  · exact nz0_rep h
/-- A slice that is nothing is as one that is empty. -/
theorem sok_nz {P : Program} {g : FuncId} {s : PSpec} (h : SOK P g s) : SOK P g (fun l => s (l.map nzA)) :=
  ⟨h.1, fun l obs v h1 h2 w O cl h3 h4 => h.2 _ obs v h1 h2 w O cl h3 ⟨by simpa using h4.1, fun j x v hx hv => by
    simp only [List.getElem?_map, Option.map_eq_some_iff] at hx
    obtain ⟨y, hy, rfl⟩ := hx
    exact nzA_rep (h4.2 j y v hy hv)⟩⟩
theorem fokD {S : List (FuncId × PSpec)} {G : FuncId → Option GSpec} {D : List (FuncId × FSpec)} (cuts : List Nat) (hS : POK Try.prog (slook S)) (hG : ∀ g s, G g = some s → GSOK Try.prog g s) (hD : ∀ g FS, dlook D g = some FS → GSOK Try.prog g (fG FS)) {g : FuncId} {fn : Func} (hf : FnOK Try.prog g fn) {FS : FSpec}
    (h : ∀ l es obs v es', FS l es = some (obs, v, es') → (∀ p ∈ obs, p) → l.length ≤ fn.ntmps ∧ vcFn (mkD es.length S G D cuts) fn l ⟨es.length, num 0 (es.map some)⟩ (RetF es.length v es')) : GSOK Try.prog g (fG FS) :=
  fok_of (T := tlook tt) (S := slook S) (G := dG D G) (xs := xsC (tlook tt)) (X := xop2 (tlook tt)) (cut := fun i => cuts.any (Nat.beq i)) (XD := dXD D) (XN := dXN D) (DX := dcopy (tlook tt)) (fun p => mkD_ok (p := p) (cuts := cuts) hS hG hD) mixed hf h
theorem set_getD {l : List Int} {n : Nat} {x : Int} {p : Nat} (h : n < l.length) : (l.set n x).getD p 0 = if p = n then x else l.getD p 0 := by
  simp only [List.getD_eq_getElem?_getD]
  by_cases e : p = n
  · subst e; rw [if_pos rfl]; simp [h]
  · rw [if_neg e, List.getElem?_set_ne (by omega)]

/-! ### Loops, round by round -/
noncomputable def GoodN (p : Nat) (round : Env → AH → (Env → AH → Prop) → Prop) (n : Nat) : Env → AH → Prop :=
  Nat.rec (motive := fun _ => Env → AH → Prop) (fun _ _ => False) (fun _ ih e H => ih e H ∨ round e H fun e' H' => ∃ (e'' : Env) (H'' : AH) (σ : Names), Le p σ e' H' e'' H'' ∧ ih e'' H'') n
theorem good_iff {p : Nat} {round : Env → AH → (Env → AH → Prop) → Prop} : ∀ {n : Nat} {e : Env} {H : AH}, GoodN p round n e H ↔ ∃ k, k < n ∧ round e H fun e' H' => ∃ (e'' : Env) (H'' : AH) (σ : Names), Le p σ e' H' e'' H'' ∧ GoodN p round k e'' H''
  | 0, e, H => ⟨fun h => h.elim, fun ⟨k, h, _⟩ => by omega⟩
  | n + 1, e, H => by
    refine ⟨fun h => ?_, fun ⟨k, hk, h⟩ => ?_⟩
    · rcases h with h | h
      · obtain ⟨k, hk, h⟩ := good_iff.1 h
        exact ⟨k, by omega, h⟩
      · exact ⟨n, by omega, h⟩
    · by_cases e : k = n
      · subst e; exact .inr h
      · exact .inl (good_iff.2 ⟨k, by omega, h⟩)
theorem loop_good {p : Nat} {e : Env} {H : AH} {round : Env → AH → (Env → AH → Prop) → Prop} (n : Nat) (h : ∃ (e0 : Env) (H0 : AH) (σ : Names), Le p σ e H e0 H0 ∧ GoodN p round n e0 H0) : LoopVC p e H round := by
  obtain ⟨e0, H0, σ, hl, hg⟩ := h
  obtain ⟨k, hk, hg⟩ := good_iff.1 hg
  refine ⟨Env × AH × Nat, fun t => t.1, fun t => t.2.1, fun t => round t.1 t.2.1 fun e' H' => ∃ (e'' : Env) (H'' : AH) (σ : Names), Le p σ e' H' e'' H'' ∧ GoodN p round t.2.2 e'' H'', fun t => t.2.2, ⟨(e0, H0, k), σ, hg, hl⟩, fun t ht => ?_⟩
  have : (fun e' H' => ∃ (e'' : Env) (H'' : AH) (σ : Names), Le p σ e' H' e'' H'' ∧ GoodN p round t.2.2 e'' H'') =
      fun e' H' => ∃ (g' : Env × AH × Nat) (σ : Names), (round g'.1 g'.2.1 fun e' H' => ∃ (e'' : Env) (H'' : AH) (σ : Names), Le p σ e' H' e'' H'' ∧ GoodN p round g'.2.2 e'' H'') ∧ g'.2.2 < t.2.2 ∧ Le p σ e' H' g'.1 g'.2.1 := by
    funext e' H'
    refine propext ⟨fun ⟨e'', H'', σ, h1, h2⟩ => ?_, fun ⟨g', σ, h1, h2, h3⟩ => ⟨g'.1, g'.2.1, σ, h3, good_iff.2 ⟨g'.2.2, h2, h1⟩⟩⟩
    obtain ⟨k, hk, h⟩ := good_iff.1 h2
    exact ⟨(e'', H'', k), σ, h, hk, h1⟩
  exact this ▸ ht

/-! Frames and heaps that are kept as they are -/
def idN (n : Nat) : Names := (List.range n).map some
theorem idN_get {n i : Nat} (h : i < n) : (idN n)[i]? = some (some i) := by simp [idN, h]
def self0 (n : Nat) : AV → Bool
  | .int _ _ | .bool _ | .tru | .fls | .str _ | .nilp | .nils | .nilfn | .ro _ _ _ | .roi _ _ | .rop _ | .val _ | .any => true
  | .ptr i _ => Nat.blt i n
  | .sl i _ _ _ => Nat.blt i n
  | .eptr i _ _ _ => Nat.blt i n
  | _ => false
def self1 (n : Nat) : AV → Bool
  | .agg l => l.all (self0 n)
  | .fn _ _ l => l.all fun x => match x with | .agg m => m.all (self0 n) | x => self0 n x
  | x => self0 n x
def selfE (n : Nat) : Ent → Bool
  | .cells _ l => l.all (self0 n)
  | .recs1 _ _ _ _ _ y => self0 n y
  | _ => true
theorem blt_lt {i n : Nat} (h : Nat.blt i n = true) : i < n := Nat.le_of_ble_eq_true h
theorem beqK_refl (k : IntKind) : beqK k k = true := by cases k <;> rfl
theorem mat0_self {n : Nat} : ∀ {x : AV}, self0 n x = true → mat0 (idN n) x x
  | .int k a, _ => by show (bif beqK k k then a = a else False); rw [beqK_refl]; exact rfl
  | .bool _, _ => rfl
  | .tru, _ => True.intro
  | .fls, _ => True.intro
  | .str _, _ => rfl
  | .nilp, _ => True.intro
  | .nils, _ => True.intro
  | .nilfn, _ => True.intro
  | .ro sz n g, _ => by show (bif Nat.beq sz sz then (n = n ∧ ∀ j, j < n → g j = g j) else False); rw [Nat.beq_refl]; exact ⟨rfl, fun _ _ => rfl⟩
  | .roi k l, _ => by show (bif beqK k k then l = l else False); rw [beqK_refl]; exact rfl
  | .rop _, _ => rfl
  | .val _, _ => rfl
  | .any, _ => True.intro
  | .ptr i o, h => by
    have h : i < n := blt_lt h
    simp only [mat0, idN_get h, Nat.beq_refl, cond_true]
  | .sl i sz o m, h => by
    have h : i < n := blt_lt h
    simp only [mat0, idN_get h, Nat.beq_refl, Bool.and_self, cond_true, and_self]
  | .eptr i sz o m, h => by
    have h : i < n := blt_lt h
    simp only [mat0, idN_get h, Nat.beq_refl, Bool.and_self, cond_true, and_self]
theorem matL_self {f : AV → AV → Prop} : ∀ {l : List AV}, (∀ x ∈ l, f x x) → matL f l l
  | [], _ => True.intro
  | [x], h => h x (by simp)
  | x :: y :: l, h => ⟨h x (by simp), matL_self (l := y :: l) fun z hz => h z (List.mem_cons_of_mem _ hz)⟩
theorem mat_self {n : Nat} {x : AV} (h : self1 n x = true) : mat (idN n) x x := by
  unfold self1 at h
  split at h
  · exact matL_self fun x hx => mat0_self (List.all_eq_true.1 h x hx)
  · rename_i f k l
    show (bif Nat.beq f f && Nat.beq k k then matL (matA (idN n)) l l else False)
    rw [Nat.beq_refl, Nat.beq_refl]
    refine matL_self fun x hx => ?_
    have h1 := List.all_eq_true.1 h x hx
    split at h1
    · exact matL_self fun y hy => mat0_self (List.all_eq_true.1 h1 y hy)
    · have h2 := mat0_self h1
      cases x <;> first | exact h2 | (cases h1)
  · have h2 := mat0_self h
    cases x <;> first | exact h2 | (cases h)
theorem matE_self {n : Nat} {x : Ent} (h : selfE n x = true) : matE (idN n) x x := by
  cases x with
  | cells t l =>
    show (bif Nat.beq t t then matL1 (idN n) l l else False)
    rw [Nat.beq_refl]
    exact matL_self fun x hx => by
      have h1 := List.all_eq_true.1 h x hx
      have h2 := mat0_self h1
      cases x <;> first | exact h2 | (cases h1)
  | ints e k l =>
    show (bif Nat.beq e e && beqK k k then l = l else False)
    rw [Nat.beq_refl, beqK_refl]; exact rfl
  | recs e sz m g =>
    show (bif Nat.beq e e && Nat.beq sz sz then (m = m ∧ ∀ j, j < m → g j = g j) else False)
    rw [Nat.beq_refl, Nat.beq_refl]; exact ⟨rfl, fun _ _ => rfl⟩
  | recs1 e sz m g f y =>
    show (bif Nat.beq e e && (Nat.beq sz sz && Nat.beq f f) then ((m = m ∧ ∀ j, j < m → g j = g j) ∧ mat0 (idN n) y y) else False)
    rw [Nat.beq_refl, Nat.beq_refl, Nat.beq_refl]; exact ⟨⟨rfl, fun _ _ => rfl⟩, mat0_self h⟩
def normE (n : Nat) : List Nat → Env → Env
  | _, [] => []
  | seen, (t, v) :: r => bif seen.any (Nat.beq t) then normE n seen r else bif self1 n v then (t, v) :: normE n (t :: seen) r else normE n (t :: seen) r
def normH (n : Nat) : List Nat → List (Nat × Option Ent) → List (Nat × Option Ent)
  | _, [] => []
  | seen, (t, v) :: r => bif seen.any (Nat.beq t) then normH n seen r else match v with
    | some x => bif Nat.blt t n && selfE n x then (t, some x) :: normH n (t :: seen) r else normH n (t :: seen) r
    | none => normH n (t :: seen) r
theorem any_mem {l : List Nat} {t : Nat} : l.any (Nat.beq t) = true ↔ t ∈ l := by
  simp only [List.any_eq_true]
  exact ⟨fun ⟨x, hx, h⟩ => by rw [Nat.eq_of_beq_eq_true h]; exact hx, fun h => ⟨t, h, Nat.beq_refl t⟩⟩
theorem norm_mem {n : Nat} : ∀ {e : Env} {seen : List Nat} {t : Nat} {v : AV}, (t, v) ∈ normE n seen e → t ∉ seen ∧ lk e t = some v ∧ self1 n v = true
  | [], _, _, _, h => by cases h
  | (a, b) :: r, seen, t, v, h => by
    unfold normE at h
    have step : ∀ {s2 : List Nat}, (∀ x ∈ seen, x ∈ s2) → a ∈ s2 → (t, v) ∈ normE n s2 r → t ∉ seen ∧ lk ((a, b) :: r) t = some v ∧ self1 n v = true := fun hs ha hm => by
      obtain ⟨h1, h2, h3⟩ := norm_mem hm
      refine ⟨fun k => h1 (hs t k), ?_, h3⟩
      have hne : Nat.beq a t = false := by
        cases hb : Nat.beq a t with
        | false => rfl
        | true => exact absurd (Nat.eq_of_beq_eq_true hb ▸ ha) h1
      show (bif Nat.beq a t then some b else lk r t) = some v
      rw [hne]; exact h2
    cases hs : seen.any (Nat.beq a) with
    | true => rw [hs] at h; exact step (fun _ k => k) (any_mem.1 hs) h
    | false =>
      rw [hs] at h
      have hna : a ∉ seen := fun k => by rw [any_mem.2 k] at hs; cases hs
      cases hb : self1 n b with
      | false => rw [hb] at h; exact step (fun _ k => List.mem_cons_of_mem _ k) (by simp) h
      | true =>
        rw [hb] at h
        rcases List.mem_cons.1 h with h | h
        · cases h
          refine ⟨hna, ?_, hb⟩
          show (bif Nat.beq a a then some b else lk r a) = some b
          rw [Nat.beq_refl]; rfl
        · exact step (fun _ k => List.mem_cons_of_mem _ k) (by simp) h
theorem normH_mem {n : Nat} : ∀ {e : List (Nat × Option Ent)} {seen : List Nat} {t : Nat} {v : Option Ent}, (t, v) ∈ normH n seen e → t ∉ seen ∧ ∃ x, v = some x ∧ geth e t = some x ∧ t < n ∧ selfE n x = true
  | [], _, _, _, h => by cases h
  | (a, b) :: r, seen, t, v, h => by
    unfold normH at h
    have step : ∀ {s2 : List Nat}, (∀ x ∈ seen, x ∈ s2) → a ∈ s2 → (t, v) ∈ normH n s2 r → t ∉ seen ∧ ∃ x, v = some x ∧ geth ((a, b) :: r) t = some x ∧ t < n ∧ selfE n x = true := fun hs ha hm => by
      obtain ⟨h1, x, h2, h3, h4⟩ := normH_mem hm
      refine ⟨fun k => h1 (hs t k), x, h2, ?_, h4⟩
      have hne : Nat.beq a t = false := by
        cases hb : Nat.beq a t with
        | false => rfl
        | true => exact absurd (Nat.eq_of_beq_eq_true hb ▸ ha) h1
      show (bif Nat.beq a t then b else geth r t) = some x
      rw [hne]; exact h3
    cases hs : seen.any (Nat.beq a) with
    | true => rw [hs] at h; exact step (fun _ k => k) (any_mem.1 hs) h
    | false =>
      rw [hs] at h
      have hna : a ∉ seen := fun k => by rw [any_mem.2 k] at hs; cases hs
      cases b with
      | none => exact step (fun _ k => List.mem_cons_of_mem _ k) (by simp) h
      | some x =>
        simp only [cond_false] at h
        cases hb : Nat.blt a n && selfE n x with
        | false => rw [hb] at h; exact step (fun _ k => List.mem_cons_of_mem _ k) (by simp) h
        | true =>
          rw [hb] at h
          rcases List.mem_cons.1 h with h | h
          · cases h
            simp only [Bool.and_eq_true] at hb
            refine ⟨hna, x, rfl, ?_, blt_lt hb.1, hb.2⟩
            show (bif Nat.beq a a then some x else geth r a) = some x
            rw [Nat.beq_refl]; rfl
          · exact step (fun _ k => List.mem_cons_of_mem _ k) (by simp) h
theorem leE_of {σ : Names} {e : Env} : ∀ {l : Env}, (∀ t v, (t, v) ∈ l → ∃ x, lk e t = some x ∧ mat σ x v) → leE σ e l
  | [], _ => True.intro
  | (t, v) :: l, h => by
    obtain ⟨x, h1, h2⟩ := h t v (by simp)
    refine ⟨?_, leE_of fun t v hm => h t v (List.mem_cons_of_mem _ hm)⟩
    show (match lk e t with | some x => mat σ x v | none => False)
    rw [h1]; exact h2
theorem leH_of {σ : Names} {H : AH} : ∀ {l : List (Nat × Option Ent)}, (∀ t v, (t, v) ∈ l → ∃ n, v = some n ∧ σ[t]? = some (some t) ∧ ∃ x, H.get t = some x ∧ matE σ x n) → leH σ H l
  | [], _ => True.intro
  | (t, v) :: l, h => by
    obtain ⟨n, rfl, h1, x, h2, h3⟩ := h t v (by simp)
    refine ⟨?_, leH_of fun t v hm => h t v (List.mem_cons_of_mem _ hm)⟩
    show (match σ[t]? with | some (some j) => (match H.get j with | some x => matE σ x n | none => False) | some none => nilE n | none => False)
    rw [h1]
    show (match H.get t with | some x => matE σ x n | none => False)
    rw [h2]; exact h3
/-- On with the same frame and heap. -/
theorem on_same {p : Nat} {e : Env} {H : AH} {G : Env → AH → Prop} (c : Chk (Nat.beq (idN H.nx).length H.nx && nodupN (idN H.nx) && fixN (idN H.nx) p)) (h : G (normE H.nx [] e) ⟨H.nx, normH H.nx [] H.es⟩) :
    ∃ (e'' : Env) (H'' : AH) (σ : Names), Le p σ e H e'' H'' ∧ G e'' H'' :=
  ⟨normE H.nx [] e, ⟨H.nx, normH H.nx [] H.es⟩, idN H.nx, ⟨c, leE_of fun t v hm => by
    obtain ⟨_, h2, h3⟩ := norm_mem hm
    exact ⟨v, h2, mat_self h3⟩, leH_of fun t v hm => by
    obtain ⟨_, x, rfl, h2, h3, h4⟩ := normH_mem hm
    exact ⟨x, rfl, idN_get h3, x, h2, matE_self h4⟩⟩, h⟩
end Go.Proofs.Ytdiflkabpjnncaa
