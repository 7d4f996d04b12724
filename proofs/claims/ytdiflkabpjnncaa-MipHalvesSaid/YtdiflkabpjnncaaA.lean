
/- The engine in use: contexts of this translation, laws out of conditions, small lemmas. No condition. -/
import Derived.Test.YtdiflkabpjnncaaE16
import Derived.Test.YtdiflkabpjnncaaTT
namespace Go.Proofs.Ytdiflkabpjnncaa
open Go Go.RowKit
set_option linter.unusedVariables false
set_option linter.unusedSimpArgs false

/-- What is often simplified by, in short. -/
theorem ll1 {α : Type} : (∀ (a : α) (l : List α), (a :: l).length = l.length + 1) ∧ ([] : List α).length = 0 ∧ (∀ l m : List α, (l ++ m).length = l.length + m.length) ∧ (∀ (i : Nat) (l : List α), (l.take i).length = min i l.length) ∧ (∀ (i : Nat) (l : List α), (l.drop i).length = l.length - i) ∧ (∀ (l : List α) (i : Nat) (a : α), (l.set i a).length = l.length) ∧ (∀ (n : Nat) (a : α), (List.replicate n a).length = n) ∧ (∀ l : List α, l.drop 0 = l) ∧ (∀ l : List α, l.take 0 = []) :=
  ⟨fun _ _ => List.length_cons, List.length_nil, fun _ _ => List.length_append, fun _ _ => List.length_take, fun _ _ => List.length_drop, fun _ _ _ => List.length_set, fun _ _ => List.length_replicate, fun _ => List.drop_zero, fun _ => List.take_zero⟩
theorem ll2 {α β : Type} (f : α → β) (l : List α) : (l.map f).length = l.length := List.length_map f
theorem ll0 : (∀ n : Nat, 0 + n = n) ∧ (∀ n : Nat, n + 0 = n) ∧ (∀ n : Nat, 0 ≤ n) ∧ ((1 : Nat) : Int) = 1 ∧ (∀ n : Int, n * 1 = n) ∧ ((0 : Nat) : Int) = 0 ∧ (∀ n : Nat, n ≤ n) := ⟨Nat.zero_add, Nat.add_zero, Nat.zero_le, Int.natCast_one, Int.mul_one, Int.natCast_zero, Nat.le_refl⟩
theorem dh1 : (∀ b : Bool, ((!b) = true) = (b = false)) ∧ (∀ b : Bool, ((!b) = false) = (b = true)) ∧ (∀ a b : Bool, ((a && b) = true) = (a = true ∧ b = true)) ∧ (∀ a b : Bool, ((a || b) = true) = (a = true ∨ b = true)) ∧ (∀ a b : Bool, ((a && b) = false) = (a = false ∨ b = false)) ∧ (∀ a b : Bool, ((a || b) = false) = (a = false ∧ b = false)) ∧ (∀ a b : Int, (¬ a < b) = (b ≤ a)) ∧ (∀ a b : Int, (¬ a ≤ b) = (b < a)) := by
  refine ⟨by decide, by decide, by decide, by decide, by decide, by decide, fun a b => propext Int.not_lt, fun a b => propext Int.not_le⟩
theorem dh0 : (∀ p : Prop, (¬ ¬ p) = p) ∧ (true = false) = False ∧ (false = true) = False ∧ (∀ p : Prop, (p ∨ False) = p) ∧ (∀ p : Prop, (False ∨ p) = p) ∧ (∀ p : Prop, (p ∧ True) = p) ∧ (∀ p : Prop, (True ∧ p) = p) ∧ (¬ True) = False ∧ (¬ False) = True := by
  refine ⟨fun p => propext Classical.not_not, by simp, by simp, by simp, by simp, by simp, by simp, by simp, by simp⟩
theorem mixed : Try.prog.follows .mixedOrders = true := by kernel_rfl
theorem ttok : TOK Try.prog (tlook tt) := tok_of tt_ok

/-- A context out of tables of answers and of conditions. -/
def mkC (p : Nat) (S : List (FuncId × PSpec)) (G : FuncId → Option GSpec) : Ctx := ⟨p, tlook tt, slook S, G, xsC (tlook tt), xop2 (tlook tt), fun _ => false, fun _ _ _ => none, fun _ => 0, dcopy (tlook tt)⟩
/-- With regions behind which frame and heap are told anew. -/
def mkK (p : Nat) (S : List (FuncId × PSpec)) (G : FuncId → Option GSpec) (cuts : List Nat) : Ctx := ⟨p, tlook tt, slook S, G, xsC (tlook tt), xop2 (tlook tt), fun i => cuts.any (Nat.beq i), fun _ _ _ => none, fun _ => 0, dcopy (tlook tt)⟩
def noG : FuncId → Option GSpec := fun _ => none
theorem mkC_ok {p : Nat} {S : List (FuncId × PSpec)} {G : FuncId → Option GSpec} (hS : POK Try.prog (slook S)) (hG : ∀ g s, G g = some s → GSOK Try.prog g s) : COK Try.prog (mkC p S G) :=
  ⟨ttok, hS, gok_of ttok (xok2 ttok rfl) hG, (fun _ _ _ _ _ _ _ _ h => by cases h), copyok2 rfl rfl⟩
theorem noG_ok : ∀ g s, noG g = some s → GSOK Try.prog g s := fun g s h => by cases h
def glook : List (FuncId × GSpec) → FuncId → Option GSpec
  | [], _ => none
  | (g, s) :: r, f => bif Nat.beq g f then some s else glook r f
theorem gl_nil : ∀ g s, glook [] g = some s → GSOK Try.prog g s := fun g s h => by cases h
theorem gl_cons {g : FuncId} {s : GSpec} {r : List (FuncId × GSpec)} (h : GSOK Try.prog g s) (k : ∀ g s, glook r g = some s → GSOK Try.prog g s) : ∀ f t, glook ((g, s) :: r) f = some t → GSOK Try.prog f t := fun f t ht => by
  unfold glook at ht
  cases hb : Nat.beq g f
  · rw [hb] at ht; exact k f t ht
  · rw [hb] at ht
    cases ht
    have := beq_iff.1 hb
    subst this
    exact h

theorem mkK_ok {p : Nat} {S : List (FuncId × PSpec)} {G : FuncId → Option GSpec} {cuts : List Nat} (hS : POK Try.prog (slook S)) (hG : ∀ g s, G g = some s → GSOK Try.prog g s) : COK Try.prog (mkK p S G cuts) :=
  ⟨ttok, hS, gok_of ttok (xok2 ttok rfl) hG, (fun _ _ _ _ _ _ _ _ h => by cases h), copyok2 rfl rfl⟩
theorem fokK {S : List (FuncId × PSpec)} {G : FuncId → Option GSpec} (cuts : List Nat) (hS : POK Try.prog (slook S)) (hG : ∀ g s, G g = some s → GSOK Try.prog g s) {g : FuncId} {fn : Func} (hf : FnOK Try.prog g fn) {FS : FSpec}
    (h : ∀ l es obs v es', FS l es = some (obs, v, es') → (∀ p ∈ obs, p) → l.length ≤ fn.ntmps ∧ vcFn (mkK es.length S G cuts) fn l ⟨es.length, num 0 (es.map some)⟩ (RetF es.length v es')) : GSOK Try.prog g (fG FS) :=
  fok_of (T := tlook tt) (S := slook S) (G := G) (xs := xsC (tlook tt)) (X := xop2 (tlook tt)) (cut := fun i => cuts.any (Nat.beq i)) (XD := fun _ _ _ => none) (XN := fun _ => 0) (DX := dcopy (tlook tt)) (fun p => mkK_ok (p := p) (cuts := cuts) hS hG) mixed hf h
/-- A function told by its own memory, out of its conditions. -/
theorem fok {S : List (FuncId × PSpec)} {G : FuncId → Option GSpec} (hS : POK Try.prog (slook S)) (hG : ∀ g s, G g = some s → GSOK Try.prog g s) {g : FuncId} {fn : Func} (hf : FnOK Try.prog g fn) {FS : FSpec}
    (h : ∀ l es obs v es', FS l es = some (obs, v, es') → (∀ p ∈ obs, p) → l.length ≤ fn.ntmps ∧ vcFn (mkC es.length S G) fn l ⟨es.length, num 0 (es.map some)⟩ (RetF es.length v es')) : GSOK Try.prog g (fG FS) :=
  fok_of (T := tlook tt) (S := slook S) (G := G) (xs := xsC (tlook tt)) (X := xop2 (tlook tt)) (cut := fun _ => false) (XD := fun _ _ _ => none) (XN := fun _ => 0) (DX := dcopy (tlook tt)) (fun p => mkC_ok (p := p) hS hG) mixed hf h

/-- With framed functions D that may also be called in regions of no fixed order. -/
noncomputable def mkD (p : Nat) (S : List (FuncId × PSpec)) (G : FuncId → Option GSpec) (D : List (FuncId × FSpec)) (cuts : List Nat) : Ctx := ⟨p, tlook tt, slook S, dG D G, xsC (tlook tt), xop2 (tlook tt), fun i => cuts.any (Nat.beq i), dXD D, dXN D, dcopy (tlook tt)⟩
theorem dl_nil : ∀ g FS, dlook [] g = some FS → GSOK Try.prog g (fG FS) := fun g FS h => by cases h
theorem dl_cons {g : FuncId} {FS : FSpec} {r : List (FuncId × FSpec)} (h : GSOK Try.prog g (fG FS)) (k : ∀ g FS, dlook r g = some FS → GSOK Try.prog g (fG FS)) : ∀ f t, dlook ((g, FS) :: r) f = some t → GSOK Try.prog f (fG t) := fun f t ht => by
  unfold dlook at ht
  cases hb : Nat.beq g f
  · rw [hb] at ht; exact k f t ht
  · rw [hb] at ht
    cases ht
    have := beq_iff.1 hb
    subst this
    exact h
theorem mkD_ok {p : Nat} {S : List (FuncId × PSpec)} {G : FuncId → Option GSpec} {D : List (FuncId × FSpec)} {cuts : List Nat} (hS : POK Try.prog (slook S)) (hG : ∀ g s, G g = some s → GSOK Try.prog g s) (hD : ∀ g FS, dlook D g = some FS → GSOK Try.prog g (fG FS)) : COK Try.prog (mkD p S G D cuts) :=
  ⟨ttok, hS, gok_of ttok (xok2 ttok rfl) (fun g s h => by
    simp only [mkD, dG] at h
    split at h
    · rename_i FS hd
      cases h
      exact hD g FS hd
    · exact hG g s h), dok_of D, copyok2 rfl rfl⟩
theorem gl_none (h : (GLtab.isEmpty && GVtab.isEmpty) = true) {w : World} {O : Nat → Prop} : GL w O := by
  rw [Bool.and_eq_true] at h
  refine ⟨fun t ht => ?_, fun t ht => ?_⟩
  · rw [List.isEmpty_iff.1 h.1] at ht
    cases ht
  · rw [List.isEmpty_iff.1 h.2] at ht
    cases ht
theorem law_snd {g : FuncId} {l : List AV} (h : Snd Try.prog 0 g l ⟨0, []⟩ (Ret (.bool true))) {W : World} {cl : List Value} (hc : CRel noN W NoO l cl) (hg : GL W NoO := by exact gl_none rfl) :
    Calls Try.prog g cl.toArray W fun e W' => e = .returned (.bool true) ∧ Below W.heap.size W W' := by
  have hst := HRel.start (w := W) (F := NoO) ⟨fun b k => k.elim, hg⟩
  have wr0 : ∀ b, Wr NoO noN ⟨0, []⟩ b → NoO b := fun b hb => hb.elim id fun ⟨i, e, h, _⟩ => by simp [AH.get, geth] at h
  refine (h NoO NoO W noN noN W cl (fun i x h => by cases h) (fun _ _ k => k) hst ⟨hc.1, fun j x v hx hv => (hc.2 j x v hx hv).mono (fun _ _ k => k) (Ext.refl NoO _) fun b _ k => wr0 b k⟩).mono fun en w' ⟨R', v', H', cv, hk, he, _, hH, hr⟩ => ?_
  refine ⟨?_, (hH.ext.weaken (O' := fun _ => False) fun _ _ k => k).below⟩
  rw [he]
  unfold Ret at hk
  split at hk
  · rename_i obs' r hv
    obtain ⟨k1, k2⟩ := obl_inv hk
    have := mat_rep (σ := []) k2 (viewR_rep hH hr hv k1)
    simp only [reN, List.map_nil] at this
    cases this
    rfl
  · exact hk.elim
/-- A law, out of its conditions. -/
theorem law_of {C : Ctx} (hC : COK Try.prog C) (hp : C.p = 0) {g : FuncId} {fn : Func} (hf : FnOK Try.prog g fn) {l : List AV} (hl : l.length ≤ fn.ntmps) (h : vcFn C fn l ⟨0, []⟩ (Ret (.bool true))) {W : World} {cl : List Value} (hc : CRel noN W NoO l cl) (hg : GL W NoO := by exact gl_none rfl) :
    Calls Try.prog g cl.toArray W fun e W' => e = .returned (.bool true) ∧ Below W.heap.size W W' := by
  have h1 := snd_of hC mixed hf hl h
  rw [hp] at h1
  exact law_snd h1 hc hg

theorem crel_nil {R : PN} {W : World} {O : Nat → Prop} : CRel R W O [] [] := ⟨rfl, by simp⟩
theorem crel_cons {R : PN} {W : World} {O : Nat → Prop} {x : AV} {v : Value} {l : List AV} {vs : List Value} (h : Rep R W O x v) (k : CRel R W O l vs) : CRel R W O (x :: l) (v :: vs) :=
  ⟨by simp [k.1], fun j a b ha hb => by
    cases j with
    | zero => simp at ha hb; subst ha; subst hb; exact h
    | succ j => exact k.2 j a b (by simpa using ha) (by simpa using hb)⟩

theorem rng64 {n : Int} (h0 : -9223372036854775808 ≤ n) (h1 : n ≤ 9223372036854775807) : rngI .i64 n := ⟨by simpa [IntKind.min, IntKind.signed, IntKind.bits] using h0, by simpa [IntKind.max, IntKind.signed, IntKind.bits] using h1⟩
theorem rng64_inv {n : Int} (h : rngI .i64 n) : -9223372036854775808 ≤ n ∧ n ≤ 9223372036854775807 := by
  obtain ⟨h0, h1⟩ := h
  exact ⟨by simpa [IntKind.min, IntKind.signed, IntKind.bits] using h0, by simpa [IntKind.max, IntKind.signed, IntKind.bits] using h1⟩
end Go.Proofs.Ytdiflkabpjnncaa
