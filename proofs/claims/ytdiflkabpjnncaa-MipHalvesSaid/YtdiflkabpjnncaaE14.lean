
/- The engine, part 14: functions that turn memory that is handed in, or that hand out memory of their own: told by their own memory alone; all other memory stays (a frame's law). No condition. -/
import Derived.Test.YtdiflkabpjnncaaE13
namespace Go.Proofs.Ytdiflkabpjnncaa
open Go Go.RowKit
set_option linter.unusedVariables false
set_option linter.unusedSimpArgs false

/-- Answers of a function by the memory that its arguments reach: names 0, 1 .. are the entries in the order in which the arguments reach them. Told: obligations, the value, the entries behind (first those that were handed in, then new ones). -/
abbrev FSpec : Type := List AV → List Ent → Option (List Prop × AV × List (Option Ent))

def nmsL : List AV → List Nat
  | [] => []
  | x :: l => nms0 x ++ nmsL l
def nms1 : AV → List Nat
  | .agg l => nmsL l
  | .fn _ _ l => nmsL l
  | .ifc _ l => nmsL l
  | x => nms0 x
def nmsLL : List AV → List Nat
  | [] => []
  | x :: l => nms1 x ++ nmsLL l
/-- More names: those that have an entry and do not stand there yet. -/
def addN (H : AH) : List Nat → List Nat → List Nat
  | acc, [] => acc
  | acc, j :: r => bif acc.any (Nat.beq j) then addN H acc r else (match H.get j with | some _ => addN H (acc ++ [j]) r | none => addN H acc r)
def nmsH (H : AH) : List Nat → List Nat
  | [] => []
  | j :: r => (match H.get j with | some (.cells _ l) => nmsLL l | _ => []) ++ nmsH H r
def reach (H : AH) (l : List AV) : List Nat :=
  let a := addN H [] (nmsLL l)
  let b := addN H a (nmsH H a)
  addN H b (nmsH H b)

def idxN : List Nat → Nat → Option Nat
  | [], _ => none
  | a :: r, j => bif Nat.beq a j then some 0 else (match idxN r j with | some i => some (i + 1) | none => none)
def un0 (σ : List Nat) : AV → AV
  | .ptr i o => (match idxN σ i with | some k => .ptr k o | none => .any)
  | .sl i sz o n => (match idxN σ i with | some k => .sl k sz o n | none => .any)
  | .eptr i sz j f => (match idxN σ i with | some k => .eptr k sz j f | none => .any)
  | .agg _ => .any
  | .tup _ => .any
  | .fn _ _ _ => .any
  | .ifc _ _ => .any
  | x => x
def unA (σ : List Nat) : AV → AV
  | .agg l => .agg (l.map (un0 σ))
  | x => un0 σ x
def un1 (σ : List Nat) : AV → AV
  | .agg l => .agg (l.map (un0 σ))
  | .fn f k l => .fn f k (l.map (unA σ))
  | .ifc t l => .ifc t (l.map (unA σ))
  | x => un0 σ x
def unE (σ : List Nat) : Ent → Ent
  | .cells t l => .cells t (l.map (un1 σ))
  | .recs1 e sz n get f y => .recs1 e sz n get f (un0 σ y)
  | e => e
def entsO (H : AH) (σ : List Nat) : List Nat → Option (List Ent)
  | [] => some []
  | j :: r => (match H.get j, entsO H σ r with | some e, some l => some (unE σ e :: l) | _, _ => none)
def nodupL : List Nat → Bool
  | [] => true
  | a :: r => !(r.any (Nat.beq a)) && nodupL r

def rnN (σ : List Nat) (nx i : Nat) : Nat := match σ[i]? with | some j => j | none => Nat.add nx (Nat.sub i σ.length)
def rn0 (ρ : Nat → Nat) : AV → AV
  | .ptr i o => .ptr (ρ i) o
  | .sl i sz o n => .sl (ρ i) sz o n
  | .eptr i sz j f => .eptr (ρ i) sz j f
  | .agg _ => .any
  | .tup _ => .any
  | .fn _ _ _ => .any
  | .ifc _ _ => .any
  | x => x
def rnA (ρ : Nat → Nat) : AV → AV
  | .agg l => .agg (l.map (rn0 ρ))
  | x => rn0 ρ x
def rn1 (ρ : Nat → Nat) : AV → AV
  | .agg l => .agg (l.map (rn0 ρ))
  | .fn f k l => .fn f k (l.map (rnA ρ))
  | .ifc t l => .ifc t (l.map (rnA ρ))
  | x => rn0 ρ x
def rn2 (ρ : Nat → Nat) : AV → AV
  | .tup l => .tup (l.map (rn1 ρ))
  | x => rn1 ρ x
def rnE (ρ : Nat → Nat) : Ent → Ent
  | .cells t l => .cells t (l.map (rn1 ρ))
  | .recs1 e sz n get f y => .recs1 e sz n get f (rn0 ρ y)
  | e => e
def num : Nat → List (Option Ent) → List (Nat × Option Ent)
  | _, [] => []
  | n, e :: r => (n, e) :: num (n + 1) r
def layF (ρ : Nat → Nat) : Nat → List (Option Ent) → List (Nat × Option Ent) → List (Nat × Option Ent)
  | _, [], es => es
  | n, e :: r, es => (ρ n, match e with | some x => some (rnE ρ x) | none => none) :: layF ρ (n + 1) r es

/-- What such a function leaves behind, in its caller's names; σ: the caller's names of the memory that is told (chosen by the prover). -/
noncomputable def fG (F : FSpec) : GSpec := fun l H K => ∃ σ : List Nat, Chk (nodupL σ) ∧
  match entsO H σ σ with
  | some es => (match F (l.map (un1 σ)) es with
    | some (obs, v, es') => (bif Nat.ble σ.length es'.length then
        obl obs (K (rn2 (rnN σ H.nx) v) ⟨Nat.add H.nx (Nat.sub es'.length σ.length), layF (rnN σ H.nx) 0 es' H.es⟩) else False)
    | none => False)
  | none => False

theorem obl_intro {l : List Prop} {q : Prop} (h : ∀ p ∈ l, p) (hq : q) : obl l q := by
  induction l with
  | nil => exact hq
  | cons p l ih => exact ⟨h p (by simp), ih fun r hr => h r (by simp [hr])⟩
/-- Such functions in a region of no fixed order: no memory comes in, one new row goes out. -/
def dlook : List (FuncId × FSpec) → FuncId → Option FSpec
  | [], _ => none
  | (g, s) :: r, f => bif Nat.beq g f then some s else dlook r f
noncomputable def dXD (D : List (FuncId × FSpec)) (g : FuncId) (l : List AV) (H : AH) : Option (List Prop × AV × List (Nat × Option Ent) × Nat) :=
  match dlook D g with
  | some FS => forceL (reach H l) fun σ => (match entsO H σ σ with
    | some es => forceL es fun es => (match FS (l.map (un1 σ)) es with
      | some (obs, v, es') => bif nodupL σ && Nat.ble σ.length es'.length then some (obs, rn2 (rnN σ H.nx) v, layF (rnN σ H.nx) 0 es' [], Nat.add H.nx (Nat.sub es'.length σ.length)) else none
      | none => none)
    | none => none)
  | none => none
def dXN (D : List (FuncId × FSpec)) (g : FuncId) : Nat := match dlook D g with | some _ => 2 | none => 0
/-- Some of them (D0) make nothing new. -/
def dXN0 (D0 D : List (FuncId × FSpec)) (g : FuncId) : Nat := match dlook D0 g with | some _ => 1 | none => dXN D g
theorem layF_app (ρ : Nat → Nat) : ∀ (es : List (Option Ent)) (n : Nat) (r : List (Nat × Option Ent)), layF ρ n es r = layF ρ n es [] ++ r
  | [], _, _ => rfl
  | e :: es, n, r => by
    show _ :: layF ρ (n + 1) es r = (_ :: layF ρ (n + 1) es []) ++ r
    rw [layF_app ρ es (n + 1) r]; rfl
noncomputable def dG (D : List (FuncId × FSpec)) (G : FuncId → Option GSpec) (g : FuncId) : Option GSpec := match dlook D g with | some FS => some (fG FS) | none => G g
theorem dok_of {T : TypeId → Option TI} {S : FuncId → Option PSpec} {G : FuncId → Option GSpec} {xs : Op → Env → AH → Bool} {X : Op → Env → AH → (AV → AH → Prop) → Prop} {cut : Nat → Bool} {p : Nat} {XN : FuncId → Nat} {DX : Op → Env → AH → Option (List Prop × AV × List (Nat × Option Ent) × Nat)} (D : List (FuncId × FSpec)) : DOK ⟨p, T, S, dG D G, xs, X, cut, dXD D, XN, DX⟩ := by
  intro g l H obs v δ nx K h ho hK
  simp only [dXD] at h
  split at h
  · rename_i FS hD
    rw [forceL_eq] at h
    split at h
    · rename_i es hes
      rw [forceL_eq] at h
      split at h
      · rename_i obs' v' es' hF
        replace h := bif_some h; obtain ⟨hb, h⟩ := h
        rw [Bool.and_eq_true] at hb
        cases h
        refine ⟨fG FS, by simp only [dG, hD], reach H l, ⟨hb.1⟩, ?_⟩
        simp only [hes, hF, hb.2, cond_true]
        rw [layF_app]
        exact obl_intro ho hK
      · cases h
    · cases h
  · cases h

/-- What came back stands for v, and what stands in memory for es. -/
noncomputable def RetF (k : Nat) (v : AV) (es : List (Option Ent)) (v' : AV) (H' : AH) : Prop :=
  ∃ τ : Names, Chk (Nat.beq τ.length es.length && nodupN τ && fixN τ k) ∧ mat τ v' v ∧ leH τ H' (num 0 es)

section
variable {P : Program} {C : Ctx} {R : PN} {w : World} {F Ob : Nat → Prop} {W0 : World} {A : PN} {H H' : AH} {n : Nat} {O : Nat → Prop} {σ : Names}

theorem le_core {τ : Names} (h1 : Nat.beq τ.length H'.nx = true) (h2 : nodupN τ = true) (hL : leH τ H H'.es) (g1 : HRel F Ob W0 R H w) :
    HRel F Ob W0 (reN τ R) H' w ∧ ∀ b, Wr F (reN τ R) H' b → Wr F R H b := by
  have own : ∀ b, Own (reN τ R) H' b → Own R H b := by
    rintro b ⟨i, y, hi, hR⟩
    obtain ⟨j, hj, hRj⟩ := reN_inv hR
    rcases leH_get hL hi with ⟨j', x, hs, hx, _⟩ | ⟨hs, _⟩
    · rw [hj] at hs
      cases hs
      exact ⟨j, x, hx, hRj⟩
    · rw [hj] at hs; cases hs
  have wr : ∀ b, Wr F (reN τ R) H' b → Wr F R H b := fun b hb => hb.imp id (own b)
  refine ⟨⟨?_, g1.ext, g1.fb, fun b hb => g1.own b (own b hb), fun i y hi => ?_, fun i i' y y' b hi hi' hb hb' => ?_⟩, wr⟩
  · intro i hi
    rw [← beq_iff.1 h1] at hi
    simp [reN_get, hi]
  · rcases leH_get hL hi with ⟨j, x, hs, hx, hm⟩ | ⟨hs, hn⟩
    · obtain ⟨b, hb, hh⟩ := g1.ent j x hx
      exact ⟨b, reN_some hs hb, matE_holds hm hh fun b _ k => wr b k⟩
    · exact ⟨none, reN_none hs, nilE_holds hn _ _ _⟩
  · obtain ⟨j, hj, hRj⟩ := reN_inv hb
    obtain ⟨j', hj', hRj'⟩ := reN_inv hb'
    have h4 : ∀ {i j : Nat} {y : Ent}, H'.get i = some y → τ[i]? = some (some j) → ∃ x, H.get j = some x := by
      intro i j y hi hj
      rcases leH_get hL hi with ⟨k, x, hs, hx, _⟩ | ⟨hs, _⟩
      · rw [hj] at hs; cases hs; exact ⟨x, hx⟩
      · rw [hj] at hs; cases hs
    obtain ⟨x, hx⟩ := h4 hi hj
    obtain ⟨x', hx'⟩ := h4 hi' hj'
    have := g1.dis j j' x x' b hx hx' hRj hRj'
    subst this
    exact nodupN_inj h2 hj hj'

/-! ### Names -/
theorem idxN_get : ∀ {σ : List Nat} {j i : Nat}, idxN σ j = some i → σ[i]? = some j
  | [], j, i, h => by cases h
  | a :: r, j, i, h => by
    unfold idxN at h
    cases hb : Nat.beq a j
    · rw [hb] at h
      simp only [cond_false] at h
      split at h
      · rename_i k hk; cases h; simpa using idxN_get hk
      · cases h
    · rw [hb] at h
      cases h
      have := beq_iff.1 hb
      subst this; rfl
theorem nodupL_inj : ∀ {σ : List Nat}, nodupL σ = true → ∀ {i i' j : Nat}, σ[i]? = some j → σ[i']? = some j → i = i'
  | [], _, i, i', j, h, _ => by simp at h
  | a :: r, hn, i, i', j, h1, h2 => by
    simp only [nodupL, Bool.and_eq_true, Bool.not_eq_true', List.any_eq_false] at hn
    have no : ∀ i : Nat, r[i]? ≠ some a := fun i hi => by
      have := hn.1 a (List.mem_of_getElem? hi)
      simp at this
    cases i with
    | zero =>
      simp at h1
      subst h1
      cases i' with
      | zero => rfl
      | succ i' => exact absurd (by simpa using h2) (no i')
    | succ i => cases i' with
      | zero => simp at h2; subst h2; exact absurd (by simpa using h1) (no i)
      | succ i' => exact congrArg (· + 1) (nodupL_inj (σ := r) hn.2 (by simpa using h1) (by simpa using h2))

/-- The callee's names. -/
def reC (σ : List Nat) (R : PN) : PN := ⟨fun i => match σ[i]? with | some j => R.f j | none => none⟩
theorem reC_some {σ : List Nat} {i j : Nat} (h : σ[i]? = some j) : (reC σ R)[i]? = R[j]? := by
  show (match σ[i]? with | some j => R.f j | none => none) = R.f j
  rw [h]
theorem reC_none {σ : List Nat} {i : Nat} (h : σ[i]? = none) : (reC σ R)[i]? = none := by
  show (match σ[i]? with | some j => R.f j | none => none) = none
  rw [h]

theorem un0_rep {σ : List Nat} {x : AV} {v : Value} (hx : Rep R w O x v) : Rep (reC σ R) w O (un0 σ x) v := by
  cases hx with
  | ptr i o b h =>
    unfold un0; dsimp only
    split
    · rename_i k hk; exact .ptr _ _ _ ((reC_some (idxN_get hk)).trans h)
    · exact .any _
  | slnil i sz o h =>
    unfold un0; dsimp only
    split
    · rename_i k hk; exact .slnil _ _ _ ((reC_some (idxN_get hk)).trans h)
    · exact .any _
  | sl i sz o n b c off s h hn hc ho hs hl =>
    unfold un0; dsimp only
    split
    · rename_i k hk; exact .sl _ _ _ _ b c off s ((reC_some (idxN_get hk)).trans h) hn hc ho hs hl
    · exact .any _
  | eptr i sz j f b h =>
    unfold un0; dsimp only
    split
    · rename_i k hk; exact .eptr _ _ _ _ _ ((reC_some (idxN_get hk)).trans h)
    · exact .any _
  | int k n => exact .int _ _
  | bool b => exact .bool _
  | tru => exact .tru
  | fls => exact .fls
  | str s => exact .str _
  | nilp => exact .nilp
  | nils => exact .nils
  | ronil sz get => exact .ronil _ _
  | roz sz get a c hc => exact .roz _ _ _ _ hc
  | ro sz n get b off c vals hn hc hOb hb hcell hsz hv => exact .ro sz n get b off c vals hn hc hOb hb hcell hsz hv
  | roinil k => exact .roinil _
  | roiz k a c hc => exact .roiz _ _ _ hc
  | roi k l b off c hn hc hOb hb hcell => exact .roi k l b off c hn hc hOb hb hcell
  | rop x b off v hOb hb hcell hv => exact .rop x b off v hOb hb hcell hv
  | agg l vs hl h => exact .any _
  | tup l vs hl h => exact .any _
  | fn f k l vs hl h => exact .any _
  | ifc t l vs hl h => exact .any _
  | nilfn => exact .nilfn
  | val v => exact .val _
  | any v => exact .any _
theorem mapR {R R' : PN} {O' : Nat → Prop} {f : AV → AV} (hf : ∀ x v, Rep R w O x v → Rep R' w O' (f x) v) {l : List AV} {vs : List Value} (h : ∀ (j : Nat) (x : AV) (v : Value), l[j]? = some x → vs[j]? = some v → Rep R w O x v) :
    ∀ (j : Nat) (x : AV) (v : Value), (l.map f)[j]? = some x → vs[j]? = some v → Rep R' w O' x v := by
  intro j x v hx hv
  simp only [List.getElem?_map, Option.map_eq_some_iff] at hx
  obtain ⟨y, hy, rfl⟩ := hx
  exact hf _ _ (h j y v hy hv)
theorem unA_rep {σ : List Nat} {x : AV} {v : Value} (hx : Rep R w O x v) : Rep (reC σ R) w O (unA σ x) v := by
  unfold unA
  split
  · cases hx with | agg l vs hl h => exact .agg _ vs (by simpa using hl) (mapR (fun _ _ k => un0_rep k) h)
  · exact un0_rep hx
theorem un1_rep {σ : List Nat} {x : AV} {v : Value} (hx : Rep R w O x v) : Rep (reC σ R) w O (un1 σ x) v := by
  unfold un1
  split
  · cases hx with | agg l vs hl h => exact .agg _ vs (by simpa using hl) (mapR (fun _ _ k => un0_rep k) h)
  · cases hx with | fn f k l vs hl h => exact .fn _ _ _ vs (by simpa using hl) (mapR (fun _ _ k => unA_rep k) h)
  · cases hx with | ifc t l vs hl h => exact .ifc _ _ vs (by simpa using hl) (mapR (fun _ _ k => unA_rep k) h)
  · exact un0_rep hx
theorem unE_holds {σ : List Nat} {x : Ent} {b : Option Nat} (hx : x.holds R w O b) : (unE σ x).holds (reC σ R) w O b := by
  cases x with
  | cells t l => cases b with
    | none => exact hx
    | some b =>
      obtain ⟨vs, fr, g1, g2, g3, g4⟩ := hx
      refine ⟨vs, fr, g1, g2, by simpa using g3, fun j x v hj hv => ⟨?_, mapR (fun _ _ k => un1_rep k) (fun j x v hj hv => (g4 j x v hj hv).2) j x v hj hv⟩⟩
      have hlt : j < vs.length := (List.getElem?_eq_some_iff.1 hv).1
      exact (g4 j _ v (List.getElem?_eq_getElem (by omega)) hv).1
  | ints e k l => cases b <;> exact hx
  | recs e sz n get => cases b <;> exact hx
  | recs1 e sz n get f y => cases b with
    | none => exact hx
    | some b =>
      obtain ⟨vs, fr, vals, g1, g2, g3, g4, g5, g6, v, g7, g8⟩ := hx
      exact ⟨vs, fr, vals, g1, g2, g3, g4, g5, g6, v, g7, un0_rep g8⟩

theorem rn0_rep {ρ : Nat → Nat} {R R' : PN} (hR : ∀ (i : Nat) (x : Option Nat), R[i]? = some x → R'[ρ i]? = some x) {x : AV} {v : Value} (hx : Rep R w O x v) : Rep R' w O (rn0 ρ x) v := by
  cases hx with
  | ptr i o b h => exact .ptr _ _ _ (hR _ _ h)
  | slnil i sz o h => exact .slnil _ _ _ (hR _ _ h)
  | sl i sz o n b c off s h hn hc ho hs hl => exact .sl _ _ _ _ b c off s (hR _ _ h) hn hc ho hs hl
  | eptr i sz j f b h => exact .eptr _ _ _ _ _ (hR _ _ h)
  | int k n => exact .int _ _
  | bool b => exact .bool _
  | tru => exact .tru
  | fls => exact .fls
  | str s => exact .str _
  | nilp => exact .nilp
  | nils => exact .nils
  | ronil sz get => exact .ronil _ _
  | roz sz get a c hc => exact .roz _ _ _ _ hc
  | ro sz n get b off c vals hn hc hOb hb hcell hsz hv => exact .ro sz n get b off c vals hn hc hOb hb hcell hsz hv
  | roinil k => exact .roinil _
  | roiz k a c hc => exact .roiz _ _ _ hc
  | roi k l b off c hn hc hOb hb hcell => exact .roi k l b off c hn hc hOb hb hcell
  | rop x b off v hOb hb hcell hv => exact .rop x b off v hOb hb hcell hv
  | agg l vs hl h => exact .any _
  | tup l vs hl h => exact .any _
  | fn f k l vs hl h => exact .any _
  | ifc t l vs hl h => exact .any _
  | nilfn => exact .nilfn
  | val v => exact .val _
  | any v => exact .any _
theorem rnA_rep {ρ : Nat → Nat} {R R' : PN} (hR : ∀ (i : Nat) (x : Option Nat), R[i]? = some x → R'[ρ i]? = some x) {x : AV} {v : Value} (hx : Rep R w O x v) : Rep R' w O (rnA ρ x) v := by
  unfold rnA
  split
  · cases hx with | agg l vs hl h => exact .agg _ vs (by simpa using hl) (mapR (fun _ _ k => rn0_rep hR k) h)
  · exact rn0_rep hR hx
theorem rn1_rep {ρ : Nat → Nat} {R R' : PN} (hR : ∀ (i : Nat) (x : Option Nat), R[i]? = some x → R'[ρ i]? = some x) {x : AV} {v : Value} (hx : Rep R w O x v) : Rep R' w O (rn1 ρ x) v := by
  unfold rn1
  split
  · cases hx with | agg l vs hl h => exact .agg _ vs (by simpa using hl) (mapR (fun _ _ k => rn0_rep hR k) h)
  · cases hx with | fn f k l vs hl h => exact .fn _ _ _ vs (by simpa using hl) (mapR (fun _ _ k => rnA_rep hR k) h)
  · cases hx with | ifc t l vs hl h => exact .ifc _ _ vs (by simpa using hl) (mapR (fun _ _ k => rnA_rep hR k) h)
  · exact rn0_rep hR hx
theorem rn2_rep {ρ : Nat → Nat} {R R' : PN} (hR : ∀ (i : Nat) (x : Option Nat), R[i]? = some x → R'[ρ i]? = some x) {x : AV} {v : Value} (hx : Rep R w O x v) : Rep R' w O (rn2 ρ x) v := by
  unfold rn2
  split
  · cases hx with | tup l vs hl h => exact .tup _ vs (by simpa using hl) (mapR (fun _ _ k => rn1_rep hR k) h)
  · exact rn1_rep hR hx
theorem rnE_holds {ρ : Nat → Nat} {R R' : PN} {O' : Nat → Prop} (hR : ∀ (i : Nat) (x : Option Nat), R[i]? = some x → R'[ρ i]? = some x) {x : Ent} {b : Option Nat} (hx : x.holds R w O b) (hO : ∀ b, b < w.heap.size → O' b → O b) : (rnE ρ x).holds R' w O' b := by
  have hx0 : Ext O w w := Ext.refl _ _
  cases x with
  | cells t l => cases b with
    | none => exact hx
    | some b =>
      obtain ⟨vs, fr, g1, g2, g3, g4⟩ := hx
      refine ⟨vs, fr, g1, g2, by simpa using g3, fun j x v hj hv => ⟨?_, (mapR (fun _ _ k => rn1_rep hR k) (fun j x v hj hv => (g4 j x v hj hv).2) j x v hj hv).mono (fun _ _ k => k) hx0 hO⟩⟩
      have hlt : j < vs.length := (List.getElem?_eq_some_iff.1 hv).1
      exact (g4 j _ v (List.getElem?_eq_getElem (by omega)) hv).1
  | ints e k l => cases b <;> exact hx
  | recs e sz n get => cases b with
    | none => exact hx
    | some b =>
      obtain ⟨vs, fr, vals, g1, g2, g3, g4, g5⟩ := hx
      exact ⟨vs, fr, vals, g1, g2, g3, fun j hj => ⟨(g4 j hj).1, (g4 j hj).2.mono (fun _ _ k => k) hx0 hO⟩, g5⟩
  | recs1 e sz n get f y => cases b with
    | none => exact hx
    | some b =>
      obtain ⟨vs, fr, vals, g1, g2, g3, ⟨g4, g5⟩, g6, g7, v, g8, g9⟩ := hx
      exact ⟨vs, fr, vals, g1, g2, g3, ⟨fun j hj => ⟨(g4 j hj).1, (g4 j hj).2.mono (fun _ _ k => k) hx0 hO⟩, g5⟩, g6, g7, v, g8, (rn0_rep hR g9).mono (fun _ _ k => k) hx0 hO⟩

theorem geth_num : ∀ (es : List (Option Ent)) (n i : Nat) (e : Ent), geth (num n es) i = some e → n ≤ i ∧ es[i - n]? = some (some e)
  | [], n, i, e, h => by cases h
  | x :: r, n, i, e, h => by
    unfold num geth at h
    cases hb : Nat.beq n i
    · rw [hb] at h
      obtain ⟨h1, h2⟩ := geth_num r (n + 1) i e h
      have : i - n = (i - (n + 1)) + 1 := by omega
      exact ⟨by omega, by rw [this]; simpa using h2⟩
    · rw [hb] at h
      have := beq_iff.1 hb
      subst this
      simp only [cond_true] at h
      subst h
      exact ⟨Nat.le_refl _, by simp⟩
theorem num_geth : ∀ (es : List (Option Ent)) (n i : Nat) (e : Ent), es[i]? = some (some e) → geth (num n es) (n + i) = some e
  | [], n, i, e, h => by simp at h
  | x :: r, n, i, e, h => by
    unfold num geth
    cases i with
    | zero =>
      simp at h
      subst h
      simp
    | succ i =>
      have hb : Nat.beq n (n + (i + 1)) = false := by cases hb : Nat.beq n (n + (i + 1)) with | false => rfl | true => have := beq_iff.1 hb; omega
      rw [hb]
      have := num_geth r (n + 1) i e (by simpa using h)
      rw [show n + (i + 1) = n + 1 + i by omega]
      exact this
theorem geth_lay {ρ : Nat → Nat} : ∀ (es : List (Option Ent)) (n : Nat) (rest : List (Nat × Option Ent)) (j : Nat) (y : Ent), geth (layF ρ n es rest) j = some y →
    (∃ i e, es[i]? = some (some e) ∧ ρ (n + i) = j ∧ y = rnE ρ e) ∨ (geth rest j = some y ∧ ∀ i, i < es.length → ρ (n + i) ≠ j)
  | [], n, rest, j, y, h => .inr ⟨h, fun i hi => by simp at hi⟩
  | x :: r, n, rest, j, y, h => by
    unfold layF geth at h
    cases hb : Nat.beq (ρ n) j
    · rw [hb] at h
      rcases geth_lay r (n + 1) rest j y h with ⟨i, e, h1, h2, h3⟩ | ⟨h1, h2⟩
      · exact .inl ⟨i + 1, e, by simpa using h1, by rw [← h2]; congr 1; omega, h3⟩
      · refine .inr ⟨h1, fun i hi => ?_⟩
        cases i with
        | zero => intro hc; rw [beq_iff.2 (by simpa using hc)] at hb; cases hb
        | succ i => rw [show n + (i + 1) = n + 1 + i by omega]; exact h2 i (by simpa using hi)
    · rw [hb] at h
      cases x with
      | none => cases h
      | some e => cases h; exact .inl ⟨0, e, by simp, beq_iff.1 hb, rfl⟩

theorem entsO_get {τ : List Nat} : ∀ {σ : List Nat} {es : List Ent}, entsO H τ σ = some es → es.length = σ.length ∧ ∀ (i j : Nat), σ[i]? = some j → ∃ x, H.get j = some x ∧ es[i]? = some (unE τ x)
  | [], es, h => by cases h; exact ⟨rfl, fun i j hi => by simp at hi⟩
  | a :: r, es, h => by
    unfold entsO at h
    split at h
    · rename_i e l he hl
      cases h
      obtain ⟨h1, h2⟩ := entsO_get hl
      refine ⟨by simp [h1], fun i j hi => ?_⟩
      cases i with
      | zero => simp at hi; subst hi; exact ⟨e, he, by simp⟩
      | succ i => obtain ⟨x, hx, hy⟩ := h2 i j (by simpa using hi); exact ⟨x, hx, by simpa using hy⟩
    · cases h

theorem some_isSome {α : Type} {a : Option α} {b : α} (h : a = some b) : a.isSome = true := by rw [h]; rfl

/-- A function told by its own memory: from the conditions of its body to what it does in any caller's memory. -/
theorem fok_snd {g : FuncId} {fn : Func} (hf : FnOK P g fn) {FS : FSpec}
    (h : ∀ l es obs v es', FS l es = some (obs, v, es') → (∀ p ∈ obs, p) → Snd P es.length g l ⟨es.length, num 0 (es.map some)⟩ (RetF es.length v es')) : GSOK P g (fG FS) := by
  refine ⟨⟨fn, hf.f, hf.nm, hf.b⟩, fun l H K hs F Ob W0 R w cl hH hc => ?_⟩
  obtain ⟨σ, ⟨hnd⟩, hs⟩ := hs
  split at hs
  rotate_left
  · exact hs.elim
  rename_i es hes
  split at hs
  rotate_left
  · exact hs.elim
  rename_i obs v es' hF
  obtain ⟨hle, hs⟩ := bif_true hs
  replace hle := Nat.le_of_ble_eq_true hle
  obtain ⟨hob, hK⟩ := obl_inv hs
  obtain ⟨hlen, hget⟩ := entsO_get hes
  have h1 := h _ _ _ _ _ hF hob
  generalize hH0 : (⟨es.length, num 0 (es.map some)⟩ : AH) = H0 at *
  have nx0 : H0.nx = σ.length := by rw [← hH0]; exact hlen
  -- the entries that come in
  have get0 : ∀ i e, H0.get i = some e → ∃ j x, σ[i]? = some j ∧ H.get j = some x ∧ e = unE σ x := by
    intro i e hi
    rw [← hH0] at hi
    obtain ⟨_, hi⟩ := geth_num _ _ _ _ hi
    simp only [Nat.sub_zero, List.getElem?_map, Option.map_eq_some_iff, Option.some.injEq] at hi
    obtain ⟨y, hy, rfl⟩ := hi
    have hlt : i < σ.length := by rw [← hlen]; exact (List.getElem?_eq_some_iff.1 hy).1
    obtain ⟨x, hx, hy'⟩ := hget i _ (List.getElem?_eq_getElem hlt)
    rw [hy] at hy'
    cases hy'
    exact ⟨_, x, List.getElem?_eq_getElem hlt, hx, rfl⟩
  have get0' : ∀ i j : Nat, σ[i]? = some j → ∃ x, H.get j = some x ∧ H0.get i = some (unE σ x) := by
    intro i j hi
    obtain ⟨x, hx, hy⟩ := hget i j hi
    refine ⟨x, hx, ?_⟩
    rw [← hH0]
    have := num_geth (es.map some) 0 i (unE σ x) (by simp [hy])
    rw [Nat.zero_add] at this
    exact this
  have own0 : ∀ b, Own (reC σ R) H0 b → Own R H b := by
    rintro b ⟨i, e, hi, hR⟩
    obtain ⟨j, x, hj, hx, _⟩ := get0 i e hi
    rw [reC_some hj] at hR
    exact ⟨j, x, hx, hR⟩
  have notF : ∀ b, F b → ¬ Own R H b := fun b hb ho => by
    have := hH.fb.1 b hb
    rcases hH.own b ho with k | k
    · exact this.2 k
    · omega
  let Fc : Nat → Prop := fun b => F b ∨ (Own R H b ∧ ¬ Own (reC σ R) H0 b)
  have wr0 : ∀ b, Wr Fc (reC σ R) H0 b ↔ Wr F R H b := fun b => by
    constructor
    · rintro ((k | k) | k)
      · exact .inl k
      · exact .inr k.1
      · exact .inr (own0 b k)
    · rintro (k | k)
      · exact .inl (.inl k)
      · by_cases hk : Own (reC σ R) H0 b
        · exact .inr hk
        · exact .inl (.inr ⟨k, hk⟩)
  have hRel0 : HRel Fc (Own (reC σ R) H0) w (reC σ R) H0 w := by
    refine ⟨fun i hi => ?_, Ext.refl _ _, hH.fbOf (fun b hb => ?_) (fun b hb => (wr0 b).1 hb), fun b hb => .inl hb, fun i e hi => ?_, fun i i' e e' b hi hi' hb hb' => ?_⟩
    · rw [nx0] at hi
      exact reC_none (List.getElem?_eq_none hi)
    · rcases hb with k | k
      · have := hH.fb.1 b k
        exact ⟨Nat.lt_of_lt_of_le this.1 hH.ext.size, fun ho => notF b k (own0 b ho)⟩
      · exact ⟨hH.own_lt k.1, k.2⟩
    · obtain ⟨j, x, hj, hx, rfl⟩ := get0 i e hi
      obtain ⟨b, hb, hh⟩ := hH.ent j x hx
      exact ⟨b, (reC_some hj).trans hb, Ent.holds_mono (unE_holds hh) (fun _ _ k => k) (Ext.refl _ _) (fun b _ k => (wr0 b).1 k) (fun _ _ => rfl)⟩
    · obtain ⟨j, x, hj, hx, _⟩ := get0 i e hi
      obtain ⟨j', x', hj', hx', _⟩ := get0 i' e' hi'
      rw [reC_some hj] at hb
      rw [reC_some hj'] at hb'
      have := hH.dis j j' x x' b hx hx' hb hb'
      subst this
      exact nodupL_inj hnd hj hj'
  have hc0 : CRel (reC σ R) w (Wr Fc (reC σ R) H0) (l.map (un1 σ)) cl :=
    ⟨by simpa using hc.1, mapR (fun x v k => (un1_rep k).mono (fun _ _ k => k) (Ext.refl _ _) fun b _ k => (wr0 b).1 k) hc.2⟩
  refine (h1 Fc _ w (reC σ R) (reC σ R) w cl (fun i x hx => ?_) (fun _ _ k => k) hRel0 hc0).mono ?_
  · rcases Nat.lt_or_ge i σ.length with k | k
    · show i < es.length; rw [hlen]; exact k
    · rw [reC_none (List.getElem?_eq_none k)] at hx; cases hx
  rintro en w' ⟨R1, v1, H1, cv, ⟨τ, ⟨hτ⟩, hmv, hmh⟩, rfl, hA, hH1, hr1⟩
  simp only [Bool.and_eq_true] at hτ
  obtain ⟨⟨ht1, ht2⟩, ht3⟩ := hτ
  obtain ⟨hHs, hws⟩ := le_core (H' := ⟨es'.length, num 0 es'⟩) ht1 ht2 hmh hH1
  have hrs : Rep (reN τ R1) w' (Wr Fc (reN τ R1) ⟨es'.length, num 0 es'⟩) v cv := (mat_rep hmv hr1).mono (fun _ _ k => k) (Ext.refl _ _) fun b _ k => hws b k
  have hkeep : ∀ i j : Nat, σ[i]? = some j → (reN τ R1)[i]? = R[j]? := by
    intro i j hi
    have hlt : i < σ.length := (List.getElem?_eq_some_iff.1 hi).1
    obtain ⟨x, hx, _⟩ := get0' i j hi
    obtain ⟨b, hb, _⟩ := hH.ent j x hx
    rw [hb]
    exact reN_some (fixN_get ht3 (by omega)) (hA i _ ((reC_some hi).trans hb))
  generalize hRs : reN τ R1 = Rs at *
  generalize hHS : (⟨es'.length, num 0 es'⟩ : AH) = Hs at *
  have nxs : Hs.nx = es'.length := by rw [← hHS]
  have gets : ∀ (i : Nat) (e : Ent), Hs.get i = some e ↔ es'[i]? = some (some e) := by
    intro i e
    rw [← hHS]
    constructor
    · intro k; have := (geth_num _ _ _ _ k).2; simpa using this
    · intro k; have := num_geth _ 0 _ _ k; rw [Nat.zero_add] at this; exact this
  let R' : PN := ⟨fun j => if j < H.nx then R.f j else Rs.f (j - H.nx + σ.length)⟩
  have R'old : ∀ j : Nat, j < H.nx → R'[j]? = R[j]? := fun j hj => if_pos hj
  have R'new : ∀ j : Nat, H.nx ≤ j → R'[j]? = Rs[j - H.nx + σ.length]? := fun j hj => if_neg (by omega)
  have namelt : ∀ i j : Nat, σ[i]? = some j → j < H.nx := fun i j hi => by
    obtain ⟨x, hx, _⟩ := get0' i j hi
    exact hH.name_lt hx
  have ρold : ∀ i j : Nat, σ[i]? = some j → rnN σ H.nx i = j := fun i j hi => by unfold rnN; rw [hi]
  have ρnew : ∀ i : Nat, σ.length ≤ i → rnN σ H.nx i = H.nx + (i - σ.length) := fun i hi => by unfold rnN; rw [List.getElem?_eq_none hi]; rfl
  have R'ρ : ∀ i : Nat, R'[rnN σ H.nx i]? = Rs[i]? := by
    intro i
    rcases Nat.lt_or_ge i σ.length with k | k
    · have hi := List.getElem?_eq_getElem k
      rw [ρold i _ hi, R'old _ (namelt i _ hi), hkeep i _ hi]
    · rw [ρnew i k, R'new _ (by omega)]
      congr 1
      omega
  have hren : ∀ (i : Nat) (x : Option Nat), Rs[i]? = some x → R'[rnN σ H.nx i]? = some x := fun i x hx => (R'ρ i).trans hx
  let H' : AH := ⟨Nat.add H.nx (Nat.sub es'.length σ.length), layF (rnN σ H.nx) 0 es' H.es⟩
  have get' : ∀ j y, H'.get j = some y → (∃ i e, Hs.get i = some e ∧ rnN σ H.nx i = j ∧ y = rnE (rnN σ H.nx) e) ∨ (H.get j = some y ∧ ∀ i, i < es'.length → rnN σ H.nx i ≠ j) := by
    intro j y hj
    rcases geth_lay es' 0 H.es j y hj with ⟨i, e, h1, h2, h3⟩ | ⟨h1, h2⟩
    · exact .inl ⟨i, e, (gets i e).2 h1, by simpa using h2, h3⟩
    · exact .inr ⟨h1, fun i hi => by simpa using h2 i hi⟩
  -- an old entry that did not come in
  have out : ∀ j y b, H.get j = some y → (∀ i, i < es'.length → rnN σ H.nx i ≠ j) → R[j]? = some (some b) → Own R H b ∧ ¬ Own (reC σ R) H0 b := by
    intro j y b hj hno hb
    refine ⟨⟨j, y, hj, hb⟩, ?_⟩
    rintro ⟨i, e, hi, hR⟩
    obtain ⟨j', x, hj', hx, _⟩ := get0 i e hi
    rw [reC_some hj'] at hR
    have := hH.dis j j' y x b hj hx hb hR
    subst this
    exact hno i (Nat.lt_of_lt_of_le (List.getElem?_eq_some_iff.1 hj').1 hle) (ρold i j hj')
  have own' : ∀ b, Own R' H' b → Own Rs Hs b ∨ (Own R H b ∧ ¬ Own (reC σ R) H0 b) := by
    rintro b ⟨j, y, hj, hb⟩
    rcases get' j y hj with ⟨i, e, hi, rfl, _⟩ | ⟨hj', hno⟩
    · exact .inl ⟨i, e, hi, (R'ρ i).symm.trans hb⟩
    · rw [R'old j (hH.name_lt hj')] at hb
      exact .inr (out j y b hj' hno hb)
  have wr' : ∀ b, Wr F R' H' b → Wr Fc Rs Hs b := fun b hb => by
    rcases hb with k | k
    · exact .inl (.inl k)
    · rcases own' b k with k | k
      · exact .inr k
      · exact .inl (.inr k)
  have hx : Ext (Wr F R H) w w' := hHs.ext.weaken fun b _ k => .inr (own0 b k)
  have back : ∀ b, b < w.heap.size → Wr F R' H' b → Wr F R H b := fun b hb hw => by
    rcases hw with k | k
    · exact .inl k
    · rcases own' b k with k | k
      · rcases hHs.own b k with k | k
        · exact .inr (own0 b k)
        · omega
      · exact .inr k.1
  have hRel' : HRel F Ob W0 R' H' w' := by
    refine ⟨fun j hj => ?_, hH.ext.trans hHs.ext (fun x hx ho => ?_), hH.fb, fun b hb => ?_, fun j y hj => ?_, fun j j' y y' b hj hj' hb hb' => ?_⟩
    · have hj : H.nx + (es'.length - σ.length) ≤ j := hj
      rw [R'new j (by omega)]
      exact hHs.len _ (by rw [nxs]; omega)
    · rcases hH.own x (own0 x ho) with k | k
      · exact k
      · omega
    · rcases own' b hb with k | k
      · rcases hHs.own b k with k | k
        · exact hH.own b (own0 b k)
        · exact .inr (Nat.le_trans hH.ext.size k)
      · exact hH.own b k.1
    · rcases get' j y hj with ⟨i, e, hi, rfl, rfl⟩ | ⟨hj', hno⟩
      · obtain ⟨b, hb, hh⟩ := hHs.ent i e hi
        exact ⟨b, (R'ρ i).trans hb, rnE_holds hren hh fun b _ k => wr' b k⟩
      · obtain ⟨b, hb, hh⟩ := hH.ent j y hj'
        refine ⟨b, (R'old j (hH.name_lt hj')).trans hb, Ent.holds_mono hh (fun i x hx => ?_) hx (fun b hb k => back b hb k) fun g hg => ?_⟩
        · rcases Nat.lt_or_ge i H.nx with k | k
          · rw [R'old i k]; exact hx
          · rw [hH.len i k] at hx; cases hx
        · subst hg
          exact hHs.ext.blk g (Ent.lt hh) (out j y g hj' hno hb).2
    · rcases get' j y hj with ⟨i, e, hi, rfl, rfl⟩ | ⟨hg, hno⟩
      · rw [R'ρ i] at hb
        rcases get' j' y' hj' with ⟨i', e', hi', rfl, rfl⟩ | ⟨hg', hno'⟩
        · rw [R'ρ i'] at hb'
          rw [hHs.dis i i' e e' b hi hi' hb hb']
        · rw [R'old j' (hH.name_lt hg')] at hb'
          have ho := out j' y' b hg' hno' hb'
          have := hHs.fb.1 b (.inr ho)
          rcases hHs.own b ⟨i, e, hi, hb⟩ with k | k
          · exact absurd k this.2
          · omega
      · rw [R'old j (hH.name_lt hg)] at hb
        rcases get' j' y' hj' with ⟨i', e', hi', rfl, rfl⟩ | ⟨hg', hno'⟩
        · rw [R'ρ i'] at hb'
          have ho := out j y b hg hno hb
          have := hHs.fb.1 b (.inr ho)
          rcases hHs.own b ⟨i', e', hi', hb'⟩ with k | k
          · exact absurd k this.2
          · omega
        · rw [R'old j' (hH.name_lt hg')] at hb'
          exact hH.dis j j' y y' b hg hg' hb hb'
  exact ⟨R', _, H', cv, hK, rfl, R'old, hx, hRel', back, (rn2_rep hren hrs).mono (fun _ _ k => k) (Ext.refl _ _) fun b _ k => wr' b k⟩
theorem fok_of {T : TypeId → Option TI} {S : FuncId → Option PSpec} {G : FuncId → Option GSpec} {xs : Op → Env → AH → Bool} {X : Op → Env → AH → (AV → AH → Prop) → Prop} {cut : Nat → Bool} {XD : FuncId → List AV → AH → Option (List Prop × AV × List (Nat × Option Ent) × Nat)} {XN : FuncId → Nat} {DX : Op → Env → AH → Option (List Prop × AV × List (Nat × Option Ent) × Nat)} (hC : ∀ p, COK P ⟨p, T, S, G, xs, X, cut, XD, XN, DX⟩) (hmo : P.follows .mixedOrders = true) {g : FuncId} {fn : Func} (hf : FnOK P g fn) {FS : FSpec}
    (h : ∀ l es obs v es', FS l es = some (obs, v, es') → (∀ p ∈ obs, p) → l.length ≤ fn.ntmps ∧ vcFn ⟨es.length, T, S, G, xs, X, cut, XD, XN, DX⟩ fn l ⟨es.length, num 0 (es.map some)⟩ (RetF es.length v es')) : GSOK P g (fG FS) :=
  fok_snd hf fun l es obs v es' hF hob => by
    obtain ⟨h1, h2⟩ := h _ _ _ _ _ hF hob
    exact snd_of (hC _) hmo hf h1 h2
end
end Go.Proofs.Ytdiflkabpjnncaa
