
/- The engine, part 1: abstract values, abstract heaps, what they stand for in a world, and how that stands against steps that turn owned blocks alone. No condition. -/
import Derived.WalkKit
import Derived.Laws.AppendOwnNone
import Derived.Laws.MakeOwn
import Derived.OwnWalk
namespace Go.Proofs.Ytdiflkabpjnncaa
open Go Go.RowKit
set_option linter.unusedVariables false
set_option linter.unusedSimpArgs false

/-- An abstract value. -/
inductive AV where
  | int (k : IntKind) (n : Int)
  | bool (b : Bool)
  | tru
  | fls
  | str (s : List UInt8)
  | ptr (i o : Nat)
  | nilp
  | sl (i sz o n : Nat)
  | nils
  | eptr (i sz j f : Nat)
  | ro (sz n : Nat) (get : Nat → AV)
  | roi (k : IntKind) (l : List Int)
  | rop (x : AV)
  | agg (l : List AV)
  | tup (l : List AV)
  | fn (f : FuncId) (first : Nat) (cap : List AV)
  | ifc (t : TypeId) (l : List AV)
  | nilfn
  | val (v : Value)
  | any

/-- New names out of old ones. -/
abbrev Names : Type := List (Option Nat)
/-- The blocks of the names (none: no name; some none: a name of nothing). -/
structure PN where
  f : Nat → Option (Option Nat)
instance : GetElem? PN Nat (Option Nat) (fun R i => (R.f i).isSome = true) where
  getElem R i h := (R.f i).get h
  getElem? R i := R.f i
def noN : PN := ⟨fun _ => none⟩
@[simp] theorem noN_get (i : Nat) : noN[i]? = none := rfl
theorem noN_mono {R : PN} (i : Nat) (x : Option Nat) (h : noN[i]? = some x) : R[i]? = some x := by cases h
/-- One more name. -/
def PN.app (R : PN) (n : Nat) (b : Option Nat) : PN := ⟨fun i => if i = n then some b else R.f i⟩
theorem PN.get_app (R : PN) (n : Nat) (b : Option Nat) (i : Nat) : (R.app n b)[i]? = if i = n then some b else R[i]? := rfl

/-- What an abstract value stands for: R tells the names' blocks, O which blocks may be written. -/
inductive Rep : PN → World → (Nat → Prop) → AV → Value → Prop
  | int {R : PN} {w : World} {O : Nat → Prop} (k : IntKind) (n : Int) : Rep R w O (.int k n) (.int k n)
  | bool {R : PN} {w : World} {O : Nat → Prop} (b : Bool) : Rep R w O (.bool b) (.bool b)
  | tru {R : PN} {w : World} {O : Nat → Prop} : Rep R w O .tru (.bool true)
  | fls {R : PN} {w : World} {O : Nat → Prop} : Rep R w O .fls (.bool false)
  | str {R : PN} {w : World} {O : Nat → Prop} (s : List UInt8) : Rep R w O (.str s) (.string ⟨s.toArray⟩)
  | nilp {R : PN} {w : World} {O : Nat → Prop} : Rep R w O .nilp (.pointer none)
  | ptr {R : PN} {w : World} {O : Nat → Prop} (i o b : Nat) (h : R[i]? = some (some b)) : Rep R w O (.ptr i o) (.pointer (some ⟨b, o, none⟩))
  | nils {R : PN} {w : World} {O : Nat → Prop} : Rep R w O .nils (.slice none 0 0)
  | slnil {R : PN} {w : World} {O : Nat → Prop} (i sz o : Nat) (h : R[i]? = some none) : Rep R w O (.sl i sz o 0) (.slice none 0 0)
  | sl {R : PN} {w : World} {O : Nat → Prop} (i sz o n b c off : Nat) (s : TypeId × Nat) (h : R[i]? = some (some b)) (hn : n ≤ c) (hc : c ≤ maxLen) (ho : 0 < c → off = o * sz) (hs : w.shape? b = some s) (hl : off + c * sz ≤ s.2) :
      Rep R w O (.sl i sz o n) (.slice (some ⟨b, off, none⟩) n c)
  | eptr {R : PN} {w : World} {O : Nat → Prop} (i sz j f b : Nat) (h : R[i]? = some (some b)) : Rep R w O (.eptr i sz j f) (.pointer (some ⟨b, j * sz + f, none⟩))
  | ronil {R : PN} {w : World} {O : Nat → Prop} (sz : Nat) (get : Nat → AV) : Rep R w O (.ro sz 0 get) (.slice none 0 0)
  | roz {R : PN} {w : World} {O : Nat → Prop} (sz : Nat) (get : Nat → AV) (a : Addr) (c : Nat) (hc : c ≤ maxLen) : Rep R w O (.ro sz 0 get) (.slice (some a) 0 c)
  | ro {R : PN} {w : World} {O : Nat → Prop} (sz n : Nat) (get : Nat → AV) (b off c : Nat) (vals : Nat → Value) (hn : n ≤ c) (hc : c ≤ maxLen) (hO : ¬ O b) (hb : b < w.heap.size)
      (hcell : ∀ j, j < n → ∀ f, f < sz → w.cell? ⟨b, off + j * sz + f, none⟩ = (vals j).cells[f]?) (hsz : ∀ j, j < n → (vals j).cells.size = sz) (hv : ∀ j, j < n → Rep noN w O (get j) (vals j)) :
      Rep R w O (.ro sz n get) (.slice (some ⟨b, off, none⟩) n c)
  | roinil {R : PN} {w : World} {O : Nat → Prop} (k : IntKind) : Rep R w O (.roi k []) (.slice none 0 0)
  | roi {R : PN} {w : World} {O : Nat → Prop} (k : IntKind) (l : List Int) (b off c : Nat) (hn : l.length ≤ c) (hc : c ≤ maxLen) (hO : ¬ O b) (hb : b < w.heap.size)
      (hcell : ∀ (j : Nat) (x : Int), l[j]? = some x → w.cell? ⟨b, off + j, none⟩ = some (.int k x)) : Rep R w O (.roi k l) (.slice (some ⟨b, off, none⟩) l.length c)
  | roiz {R : PN} {w : World} {O : Nat → Prop} (k : IntKind) (a : Addr) (c : Nat) (hc : c ≤ maxLen) : Rep R w O (.roi k []) (.slice (some a) 0 c)
  | rop {R : PN} {w : World} {O : Nat → Prop} (x : AV) (b off : Nat) (v : Value) (hO : ¬ O b) (hb : b < w.heap.size) (hcell : ∀ f, f < v.cells.size → w.cell? ⟨b, off + f, none⟩ = v.cells[f]?) (hv : Rep noN w O x v) :
      Rep R w O (.rop x) (.pointer (some ⟨b, off, none⟩))
  | agg {R : PN} {w : World} {O : Nat → Prop} (l : List AV) (vs : List Value) (hl : l.length = vs.length) (h : ∀ (j : Nat) (x : AV) (v : Value), l[j]? = some x → vs[j]? = some v → Rep R w O x v) : Rep R w O (.agg l) (.agg vs.toArray)
  | tup {R : PN} {w : World} {O : Nat → Prop} (l : List AV) (vs : List Value) (hl : l.length = vs.length) (h : ∀ (j : Nat) (x : AV) (v : Value), l[j]? = some x → vs[j]? = some v → Rep R w O x v) : Rep R w O (.tup l) (.tuple vs.toArray)
  | fn {R : PN} {w : World} {O : Nat → Prop} (f : FuncId) (k : Nat) (l : List AV) (vs : List Value) (hl : l.length = vs.length) (h : ∀ (j : Nat) (x : AV) (v : Value), l[j]? = some x → vs[j]? = some v → Rep R w O x v) : Rep R w O (.fn f k l) (.func (.func f) (vs.take k).toArray (vs.drop k).toArray)
  | ifc {R : PN} {w : World} {O : Nat → Prop} (t : TypeId) (l : List AV) (vs : List Value) (hl : l.length = vs.length) (h : ∀ (j : Nat) (x : AV) (v : Value), l[j]? = some x → vs[j]? = some v → Rep R w O x v) : Rep R w O (.ifc t l) (.iface t (vs.headD .nilFunc))
  | nilfn {R : PN} {w : World} {O : Nat → Prop} : Rep R w O .nilfn .nilFunc
  | val {R : PN} {w : World} {O : Nat → Prop} (v : Value) : Rep R w O (.val v) v
  | any {R : PN} {w : World} {O : Nat → Prop} (v : Value) : Rep R w O .any v

/-- From w to w' no block but those of O has turned, and no block's size. -/
structure Ext (O : Nat → Prop) (w w' : World) : Prop where
  os : w'.os = w.os
  tape : w'.tape = w.tape
  output : w'.output = w.output
  size : w.heap.size ≤ w'.heap.size
  blk : ∀ b, b < w.heap.size → ¬ O b → w'.heap[b]? = w.heap[b]?
  shp : ∀ b s, w.shape? b = some s → w'.shape? b = some s

theorem Ext.refl (O : Nat → Prop) (w : World) : Ext O w w := ⟨rfl, rfl, rfl, Nat.le_refl _, fun _ _ _ => rfl, fun _ _ h => h⟩
theorem Ext.trans {O O' : Nat → Prop} {a b c : World} (h : Ext O a b) (k : Ext O' b c) (ho : ∀ x, x < a.heap.size → O' x → O x) : Ext O a c :=
  ⟨k.os.trans h.os, k.tape.trans h.tape, k.output.trans h.output, Nat.le_trans h.size k.size,
    fun x hx hn => (k.blk x (Nat.lt_of_lt_of_le hx h.size) fun hk => hn (ho x hx hk)).trans (h.blk x hx hn), fun x s hs => k.shp x s (h.shp x s hs)⟩
theorem Ext.weaken {O O' : Nat → Prop} {a b : World} (h : Ext O a b) (ho : ∀ x, x < a.heap.size → O x → O' x) : Ext O' a b :=
  ⟨h.os, h.tape, h.output, h.size, fun x hx hn => h.blk x hx fun hk => hn (ho x hx hk), h.shp⟩
theorem Ext.below {w w' : World} (h : Ext (fun _ => False) w w') : Below w.heap.size w w' :=
  ⟨h.os, h.tape, h.output, h.size, fun k hk => h.blk k hk (fun x => x)⟩
theorem shape_of_block {w w' : World} {b : Nat} (h : w'.heap[b]? = w.heap[b]?) : w'.shape? b = w.shape? b := by simp [World.shape?, h]
theorem shape_lt {w : World} {b : Nat} {s : TypeId × Nat} (h : w.shape? b = some s) : b < w.heap.size := by
  unfold World.shape? at h
  rcases Nat.lt_or_ge b w.heap.size with hl | hl
  · exact hl
  · simp [Array.getElem?_eq_none hl] at h
theorem Below.ext {w w' : World} {O : Nat → Prop} (h : Below w.heap.size w w') : Ext O w w' :=
  ⟨h.os, h.tape, h.output, h.size, fun b hb _ => h.block b hb, fun b s hs => by rw [shape_of_block (h.block b (shape_lt hs))]; exact hs⟩
theorem Ext.alloc (O : Nat → Prop) (w : World) (o : Obj) : Ext O w (w.alloc o) :=
  Below.ext ((Below.refl _ _).alloc (Nat.le_refl _) o)
theorem Ext.drew (O : Nat → Prop) (w : World) : Ext O w w.drew := Below.ext (Below.refl _ _).drew
theorem shape_setCell (w : World) (a : Addr) (v : Value) (b : Nat) : (w.setCell a v).shape? b = w.shape? b := by
  unfold World.shape? World.setCell
  simp only [Array.getElem?_modify]
  by_cases h : a.block = b
  · rw [if_pos h]
    cases hb : w.heap[b]? with
    | none => rfl
    | some o => cases o <;> simp <;> split <;> simp
  · rw [if_neg h]
theorem Ext.setCell {O : Nat → Prop} (w : World) {a : Addr} (v : Value) (h : O a.block) : Ext O w (w.setCell a v) :=
  ⟨rfl, rfl, rfl, by simp [World.setCell], fun b _ hn => Below.heap_setCell _ _ _ _ (fun e => hn (e ▸ h)), fun b s hs => by rw [shape_setCell]; exact hs⟩

theorem cell_of_block {w w' : World} {b o : Nat} (h : w'.heap[b]? = w.heap[b]?) : w'.cell? ⟨b, o, none⟩ = w.cell? ⟨b, o, none⟩ := by simp [World.cell?, h]

/-- What a value stands for stands on. -/
theorem Rep.mono {R R' : PN} {w w' : World} {O O' : Nat → Prop} {a : AV} {v : Value} (h : Rep R w O a v) (hR : ∀ (i : Nat) (x : Option Nat), R[i]? = some x → R'[i]? = some x)
    (hx : Ext O w w') (hO : ∀ b, b < w.heap.size → O' b → O b) : Rep R' w' O' a v := by
  induction h generalizing R' with
  | int k n => exact .int k n
  | bool b => exact .bool b
  | tru => exact .tru
  | fls => exact .fls
  | str s => exact .str s
  | nilp => exact .nilp
  | ptr i o b h => exact .ptr i o b (hR _ _ h)
  | nils => exact .nils
  | slnil i sz o h => exact .slnil i sz o (hR _ _ h)
  | sl i sz o n b c off s h hn hc ho hs hl => exact .sl i sz o n b c off s (hR _ _ h) hn hc ho (hx.shp _ _ hs) hl
  | eptr i sz j f b h => exact .eptr i sz j f b (hR _ _ h)
  | ronil sz get => exact .ronil sz get
  | roz sz get a c hc => exact .roz sz get a c hc
  | ro sz n get b off c vals hn hc hOb hb hcell hsz hv ih =>
    exact .ro sz n get b off c vals hn hc (fun k => hOb (hO b hb k)) (Nat.lt_of_lt_of_le hb hx.size)
      (fun j hj f hf => (cell_of_block (hx.blk b hb hOb)).trans (hcell j hj f hf)) hsz (fun j hj => ih j hj (fun _ _ h => h) hx hO)
  | roinil k => exact .roinil k
  | roiz k a c hc => exact .roiz k a c hc
  | roi k l b off c hn hc hOb hb hcell =>
    exact .roi k l b off c hn hc (fun k => hOb (hO b hb k)) (Nat.lt_of_lt_of_le hb hx.size) (fun j x hj => (cell_of_block (hx.blk b hb hOb)).trans (hcell j x hj))
  | rop x b off v hOb hb hcell hv ih =>
    exact .rop x b off v (fun k => hOb (hO b hb k)) (Nat.lt_of_lt_of_le hb hx.size) (fun f hf => (cell_of_block (hx.blk b hb hOb)).trans (hcell f hf)) (ih (fun _ _ h => h) hx hO)
  | agg l vs hl h ih => exact .agg l vs hl (fun j x v hj hv => ih j x v hj hv hR hx hO)
  | tup l vs hl h ih => exact .tup l vs hl (fun j x v hj hv => ih j x v hj hv hR hx hO)
  | fn f k l vs hl h ih => exact .fn f k l vs hl (fun j x v hj hv => ih j x v hj hv hR hx hO)
  | ifc t l vs hl h ih => exact .ifc t l vs hl (fun j x v hj hv => ih j x v hj hv hR hx hO)
  | nilfn => exact .nilfn
  | val v => exact .val v
  | any v => exact .any v

/-! ### Heaps -/
inductive Ent where
  | cells (t : TypeId) (l : List AV)
  | ints (e : TypeId) (k : IntKind) (l : List Int)
  | recs (e : TypeId) (sz n : Nat) (get : Nat → AV)
  | recs1 (e : TypeId) (sz n : Nat) (get : Nat → AV) (f : Nat) (y : AV)

/-- No cell of a block of so many cells is frozen. -/
def NF (fr : Nat × Nat) (n : Nat) : Prop := fr = (0, 0) ∨ n ≤ fr.1
theorem nf0 (n : Nat) : NF (0, 0) n := .inl rfl
theorem NF.get {fr : Nat × Nat} {n : Nat} (h : NF fr n) (k : Nat) (hk : k < n) : ¬ (fr.1 ≤ k ∧ k < fr.2) := by
  rcases h with h | h
  · subst h; exact fun h => absurd h.2 (Nat.not_lt_zero _)
  · omega

/-- What an entry says of its block. -/
def Ent.holds (R : PN) (w : World) (O : Nat → Prop) : Option Nat → Ent → Prop
  | some b, .cells t l => ∃ vs : List Value, ∃ fr, w.heap[b]? = some (.cells vs.toArray t fr) ∧ NF fr vs.length ∧ l.length = vs.length ∧ ∀ (j : Nat) (x : AV) (v : Value), l[j]? = some x → vs[j]? = some v → v.oneCell' = true ∧ Rep R w O x v
  | some b, .ints e k l => ∃ vs : List Value, ∃ fr, w.heap[b]? = some (.cells vs.toArray e fr) ∧ NF fr vs.length ∧ l.length ≤ vs.length ∧ ∀ (j : Nat) (x : Int), l[j]? = some x → vs[j]? = some (.int k x)
  | some b, .recs e sz n get => ∃ vs : List Value, ∃ fr, ∃ vals : Nat → Value, w.heap[b]? = some (.cells vs.toArray e fr) ∧ NF fr vs.length ∧ n * sz ≤ vs.length ∧
      (∀ j, j < n → (vals j).cells.size = sz ∧ Rep noN w O (get j) (vals j)) ∧ ∀ j, j < n → ∀ f, f < sz → ∃ v, vs[j * sz + f]? = some v ∧ (vals j).cells[f]? = some v ∧ v.oneCell' = true
  | some b, .recs1 e sz n get f y => ∃ vs : List Value, ∃ fr, ∃ vals : Nat → Value, w.heap[b]? = some (.cells vs.toArray e fr) ∧ NF fr vs.length ∧ n * sz ≤ vs.length ∧
      ((∀ j, j < n → (vals j).cells.size = sz ∧ Rep noN w O (get j) (vals j)) ∧ ∀ j, j < n → ∀ f, f < sz → ∃ v, vs[j * sz + f]? = some v ∧ (vals j).cells[f]? = some v ∧ v.oneCell' = true) ∧ 0 < n ∧ f < sz ∧ ∃ v, vs[f]? = some v ∧ Rep R w O y v
  | none, .cells _ _ => False
  | none, .recs1 _ _ _ _ _ _ => False
  | none, .ints _ _ l => l = []
  | none, .recs _ _ n _ => n = 0

theorem Ent.holds_mono {R R' : PN} {w w' : World} {O O' : Nat → Prop} {b : Option Nat} {e : Ent} (h : e.holds R w O b) (hR : ∀ (i : Nat) (x : Option Nat), R[i]? = some x → R'[i]? = some x)
    (hx : Ext O w w') (hO : ∀ b, b < w.heap.size → O' b → O b) (hb : ∀ g, b = some g → w'.heap[g]? = w.heap[g]?) : e.holds R' w' O' b := by
  cases b with
  | none => cases e <;> exact h
  | some b =>
    have hb := hb b rfl
    cases e with
    | cells t l =>
      obtain ⟨vs, fr, h1, h2, h3, h4⟩ := h
      exact ⟨vs, fr, hb.trans h1, h2, h3, fun j x v hj hv => ⟨(h4 j x v hj hv).1, (h4 j x v hj hv).2.mono hR hx hO⟩⟩
    | ints e k l =>
      obtain ⟨vs, fr, h1, h2, h3, h4⟩ := h
      exact ⟨vs, fr, hb.trans h1, h2, h3, h4⟩
    | recs e sz n get =>
      obtain ⟨vs, fr, vals, h1, h2, h3, h4, h5⟩ := h
      exact ⟨vs, fr, vals, hb.trans h1, h2, h3, fun j hj => ⟨(h4 j hj).1, (h4 j hj).2.mono (fun _ _ h => h) hx hO⟩, h5⟩
    | recs1 e sz n get f y =>
      obtain ⟨vs, fr, vals, h1, h2, h3, ⟨h4, h5⟩, h6, h7, v, h8, h9⟩ := h
      exact ⟨vs, fr, vals, hb.trans h1, h2, h3, ⟨fun j hj => ⟨(h4 j hj).1, (h4 j hj).2.mono (fun _ _ h => h) hx hO⟩, h5⟩, h6, h7, v, h8, h9.mono hR hx hO⟩

/-- An abstract heap: the next name, and the entries (the first one of a name counts; none: the name is spent). -/
structure AH where
  nx : Nat
  es : List (Nat × Option Ent)

def geth : List (Nat × Option Ent) → Nat → Option Ent
  | [], _ => none
  | (j, e) :: r, i => bif Nat.beq j i then e else geth r i
def AH.get (H : AH) (i : Nat) : Option Ent := geth H.es i
def AH.set (H : AH) (i : Nat) (e : Ent) : AH := ⟨H.nx, (i, some e) :: H.es⟩
def AH.del (H : AH) (i : Nat) : AH := ⟨H.nx, (i, none) :: H.es⟩
def AH.push (H : AH) (e : Ent) : AH := ⟨H.nx + 1, (H.nx, some e) :: H.es⟩

theorem beq_iff {i j : Nat} : Nat.beq i j = true ↔ i = j := ⟨Nat.eq_of_beq_eq_true, fun h => by subst h; exact Nat.beq_refl i⟩
theorem get_set (H : AH) (i j : Nat) (e : Ent) : (H.set i e).get j = if i = j then some e else H.get j := by
  show (bif Nat.beq i j then some e else geth H.es j) = _
  by_cases h : i = j
  · subst h; simp
  · have : Nat.beq i j = false := by cases hb : Nat.beq i j with | false => rfl | true => exact absurd (beq_iff.1 hb) h
    simp [this, h, AH.get]
theorem get_del (H : AH) (i j : Nat) : (H.del i).get j = if i = j then none else H.get j := by
  show (bif Nat.beq i j then none else geth H.es j) = _
  by_cases h : i = j
  · subst h; simp
  · have : Nat.beq i j = false := by cases hb : Nat.beq i j with | false => rfl | true => exact absurd (beq_iff.1 hb) h
    simp [this, h, AH.get]
theorem get_push (H : AH) (j : Nat) (e : Ent) : (H.push e).get j = if H.nx = j then some e else H.get j := by
  show (bif Nat.beq H.nx j then some e else geth H.es j) = _
  by_cases h : H.nx = j
  · subst h; simp
  · have : Nat.beq H.nx j = false := by cases hb : Nat.beq H.nx j with | false => rfl | true => exact absurd (beq_iff.1 hb) h
    simp [this, h, AH.get]

/-- The blocks that a heap owns. -/
def Own (R : PN) (H : AH) (b : Nat) : Prop := ∃ i e, H.get i = some e ∧ R[i]? = some (some b)
/-- The blocks that are written at all: a heap's own, and those of others (F). -/
def Wr (F : Nat → Prop) (R : PN) (H : AH) (b : Nat) : Prop := F b ∨ Own R H b

/-- The package variables of which contents are known (by block: its cells): they are never written. -/
def GLtab : List (Nat × List Value) := []
/-- The package variables that hold an interface's value (an error), whatever it is. -/
def GVtab : List Nat := []
structure GL (w : World) (O : Nat → Prop) : Prop where
  tab : ∀ t ∈ GLtab, t.1 < w.heap.size ∧ ¬ O t.1 ∧ ∃ ty fr, w.heap[t.1]? = some (.cells t.2.toArray ty fr)
  vr : ∀ g ∈ GVtab, g < w.heap.size ∧ ¬ O g ∧ ∃ te pe ty fr, w.heap[g]? = some (.cells #[.iface te pe] ty fr)
instance {w : World} {O : Nat → Prop} : CoeFun (GL w O) (fun _ => ∀ t ∈ GLtab, t.1 < w.heap.size ∧ ¬ O t.1 ∧ ∃ ty fr, w.heap[t.1]? = some (.cells t.2.toArray ty fr)) := ⟨GL.tab⟩
theorem GL.mono {w : World} {O O' : Nat → Prop} (h : GL w O) (k : ∀ b, O' b → O b) : GL w O' := ⟨fun t ht => ⟨(h.tab t ht).1, fun o => (h.tab t ht).2.1 (k _ o), (h.tab t ht).2.2⟩, fun t ht => ⟨(h.vr t ht).1, fun o => (h.vr t ht).2.1 (k _ o), (h.vr t ht).2.2⟩⟩
theorem GL.ext {w w' : World} {O O' : Nat → Prop} (h : GL w O) (hx : Ext O' w w') (k : ∀ b, O' b → O b) : GL w' O :=
  ⟨fun t ht => ⟨Nat.lt_of_lt_of_le (h.tab t ht).1 hx.size, (h.tab t ht).2.1, by
    obtain ⟨ty, fr, e⟩ := (h.tab t ht).2.2
    exact ⟨ty, fr, (hx.blk t.1 (h.tab t ht).1 fun o => (h.tab t ht).2.1 (k _ o)).trans e⟩⟩,
   fun t ht => ⟨Nat.lt_of_lt_of_le (h.vr t ht).1 hx.size, (h.vr t ht).2.1, by
    obtain ⟨te, pe, ty, fr, e⟩ := (h.vr t ht).2.2
    exact ⟨te, pe, ty, fr, (hx.blk t (h.vr t ht).1 fun o => (h.vr t ht).2.1 (k _ o)).trans e⟩⟩⟩
/-- What is known of the blocks that may be written. -/
def FBd (O : Nat → Prop) (w : World) : Prop := (∀ b, O b → b < w.heap.size) ∧ GL w O
def FB (F Ob : Nat → Prop) (W0 : World) : Prop := (∀ b, F b → b < W0.heap.size ∧ ¬ Ob b) ∧ GL W0 (fun b => F b ∨ Ob b)

/-- What an abstract heap says of a world: a call that began at world W0, where the blocks Ob were its own; F: the blocks of others. -/
structure HRel (F Ob : Nat → Prop) (W0 : World) (R : PN) (H : AH) (w : World) : Prop where
  len : ∀ i, H.nx ≤ i → R[i]? = none
  ext : Ext Ob W0 w
  fb : FB F Ob W0
  own : ∀ b, Own R H b → Ob b ∨ W0.heap.size ≤ b
  ent : ∀ i e, H.get i = some e → ∃ b, R[i]? = some b ∧ e.holds R w (Wr F R H) b
  dis : ∀ i j e e' b, H.get i = some e → H.get j = some e' → R[i]? = some (some b) → R[j]? = some (some b) → i = j

theorem Ent.lt {R : PN} {w : World} {O : Nat → Prop} {b : Nat} {e : Ent} (h : e.holds R w O (some b)) : b < w.heap.size := by
  have key : ∀ o, w.heap[b]? = some o → b < w.heap.size := fun o ho => (Array.getElem?_eq_some_iff.1 ho).1
  cases e with
  | cells t l => obtain ⟨vs, fr, h1, _⟩ := h; exact key _ h1
  | ints e k l => obtain ⟨vs, fr, h1, _⟩ := h; exact key _ h1
  | recs e sz n get => obtain ⟨vs, fr, vals, h1, _⟩ := h; exact key _ h1
  | recs1 e sz n get f y => obtain ⟨vs, fr, vals, h1, _⟩ := h; exact key _ h1

section
variable {F Ob : Nat → Prop} {W0 : World} {R : PN} {H : AH} {w : World}

theorem HRel.own_lt (h : HRel F Ob W0 R H w) {b : Nat} (hb : Own R H b) : b < w.heap.size := by
  obtain ⟨i, e, hi, hr⟩ := hb
  obtain ⟨b', hb', he⟩ := h.ent i e hi
  rw [hr] at hb'
  cases hb'
  exact Ent.lt he

theorem HRel.name_lt (h : HRel F Ob W0 R H w) {i : Nat} {e : Ent} (hi : H.get i = some e) : i < H.nx := by
  obtain ⟨b', hb', he⟩ := h.ent i e hi
  rcases Nat.lt_or_ge i H.nx with hl | hl
  · exact hl
  · rw [h.len i hl] at hb'; cases hb'

theorem HRel.keep {R' : PN} (h : HRel F Ob W0 R H w) (hR : ∀ i, i < H.nx → R'[i]? = R[i]?) (i : Nat) (x : Option Nat) (hx : R[i]? = some x) : R'[i]? = some x := by
  rcases Nat.lt_or_ge i H.nx with hl | hl
  · rw [hR i hl]; exact hx
  · rw [h.len i hl] at hx; cases hx

theorem HRel.gl (h : HRel F Ob W0 R H w) : GL w (Wr F R H) := by
  have key : ∀ g, g < W0.heap.size → ¬ (F g ∨ Ob g) → g < w.heap.size ∧ ¬ Wr F R H g ∧ w.heap[g]? = W0.heap[g]? := fun g h1 h2 => by
    refine ⟨Nat.lt_of_lt_of_le h1 h.ext.size, fun k => ?_, h.ext.blk g h1 fun o => h2 (.inr o)⟩
    rcases k with k | k
    · exact h2 (.inl k)
    · rcases h.own _ k with k | k
      · exact h2 (.inr k)
      · omega
  refine ⟨fun t ht => ?_, fun g hg => ?_⟩
  · obtain ⟨h1, h2, ty, fr, h3⟩ := h.fb.2.tab t ht
    obtain ⟨k1, k2, k3⟩ := key t.1 h1 h2
    exact ⟨k1, k2, ty, fr, k3.trans h3⟩
  · obtain ⟨h1, h2, te, pe, ty, fr, h3⟩ := h.fb.2.vr g hg
    obtain ⟨k1, k2, k3⟩ := key g h1 h2
    exact ⟨k1, k2, te, pe, ty, fr, k3.trans h3⟩
theorem HRel.fbOf (h : HRel F Ob W0 R H w) {F' Ob' : Nat → Prop} (k : ∀ b, F' b → b < w.heap.size ∧ ¬ Ob' b) (k2 : ∀ b, F' b ∨ Ob' b → Wr F R H b) : FB F' Ob' w := ⟨k, h.gl.mono k2⟩

/-- The world goes on, no owned block turns. -/
theorem HRel.quiet {w' : World} (h : HRel F Ob W0 R H w) (hx : Ext (fun _ => False) w w') : HRel F Ob W0 R H w' := by
  refine ⟨h.len, h.ext.trans hx (fun _ _ k => k.elim), h.fb, h.own, fun i e hi => ?_, h.dis⟩
  obtain ⟨b, hb, he⟩ := h.ent i e hi
  refine ⟨b, hb, Ent.holds_mono he (fun _ _ k => k) (hx.weaken fun _ _ k => k.elim) (fun _ _ k => k) fun g hg => ?_⟩
  subst hg
  exact hx.blk g (Ent.lt he) (fun k => k)

end
end Go.Proofs.Ytdiflkabpjnncaa
