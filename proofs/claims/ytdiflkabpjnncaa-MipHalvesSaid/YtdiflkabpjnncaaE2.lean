
/- The engine, part 2: what each operation does to abstract values and heaps. No condition. -/
import Derived.Test.YtdiflkabpjnncaaE1
namespace Go.Proofs.Ytdiflkabpjnncaa
open Go Go.RowKit
set_option linter.unusedVariables false
set_option linter.unusedSimpArgs false

/-! ### Types -/
inductive TD where
  | int (k : IntKind) | bool | str | ptr
  | struct (fs : List (Nat × TypeId))
  | arr (n : Nat) (e : TypeId)
  | slice (e : TypeId)
  | fn
  | oth

structure TI where
  d : TD
  sz : Nat
  by_ : Nat
  zero : List Value
  pl : Bool

def tdOf : TypeDesc → TD
  | .int k => .int k
  | .bool => .bool
  | .string => .str
  | .pointer _ => .ptr
  | .struct fs => .struct (fs.toList.map fun f => (f.offset, f.type))
  | .array n e => .arr n e
  | .slice e => .slice e
  | .func _ _ _ => .fn
  | _ => .oth

/-- May structs of this type be held against each other field by field? -/
def plainT (P : Program) (t : TypeId) : TypeDesc → Bool
  | .struct fs => !P.stoodInHeld t && !P.eqGuardType P.depth t && fs.toList.all fun f => f.name != "_"
  | _ => false

def probe (P : Program) (t : TypeId) : Option TI :=
  match P.info? t, P.underlying t with
  | some i, some d => match i.zero with
    | some z => some ⟨tdOf d, i.size, i.bytes, z.cells.toList, plainT P t d⟩
    | none => none
  | _, _ => none

def TI.isAgg (i : TI) : Bool := match i.d with | .struct _ | .arr _ _ => true | _ => false

def tdq (T : TypeId → Option TI) (t : TypeId) : TD := match T t with | some i => i.d | none => .oth

/-! ### Frames -/
abbrev Env : Type := List (Nat × AV)
def lk : Env → Nat → Option AV
  | [], _ => none
  | (s, v) :: r, t => bif Nat.beq s t then some v else lk r t

def ofVal1 : Value → AV
  | .int k n => .int k n
  | .bool b => match b with | true => .tru | false => .fls
  | .string s => .str s.data.toList
  | .pointer none => .nilp
  | .slice none 0 0 => .nils
  | .nilFunc => .nilfn
  | v => .val v
def ofVal : Value → AV
  | .agg cs => .agg (cs.toList.map ofVal1)
  | v => ofVal1 v

def evA (e : Env) : Operand → Option AV
  | .tmp t => lk e t
  | .const v => some (ofVal v)
  | .global _ => none
  | .func f => some (.fn f 0 [])

/-! ### Helpers -/
/-- The bool that a value is. -/
def boolA : AV → Option Bool
  | .bool b => some b
  | .tru => some true
  | .fls => some false
  | _ => none
/-- Cells of a value. -/
def cellsA : AV → List AV
  | .agg l => l
  | x => [x]
def isOne : AV → Bool
  | .agg _ | .tup _ | .val _ | .any => false
  | _ => true
def okE : AV → Bool
  | .agg _ => true
  | x => isOne x
structure rngI (k : IntKind) (n : Int) : Prop where
  lo : k.min ≤ n
  hi : n ≤ k.max
/-- Is a sum of this kind asked to be in range (its value then is the plain sum)? -/
def plainK : IntKind → Bool
  | .i64 => true
  | _ => false
/-- A conversion that is asked to keep its number. -/
def plainC : IntKind → Bool
  | .i64 => true
  | _ => false

abbrev QR : Type := Option (List Prop × AV)

def beqK : IntKind → IntKind → Bool
  | .i8, .i8 | .i16, .i16 | .i32, .i32 | .i64, .i64 | .u8, .u8 | .u16, .u16 | .u32, .u32 | .u64, .u64 => true
  | _, _ => false

def arith (k : IntKind) (n : Int) : QR := bif plainK k then some ([rngI k n], .int k n) else some ([], .int k (k.wrap n))

def abinI (op : BinOp) (k : IntKind) (a b : Int) : QR :=
  match op with
  | .add => arith k (a + b)
  | .sub => arith k (a - b)
  | .mul => arith k (a * b)
  | .quo => bif plainK k then some ([b ≠ 0, rngI k (a.tdiv b)], .int k (a.tdiv b)) else some ([b ≠ 0], .int k (k.wrap (a.tdiv b)))
  | .rem => some ([b ≠ 0], .int k (a.tmod b))
  | .and => some ([], .int k (k.wrap (BitVec.ofInt k.bits a &&& BitVec.ofInt k.bits b).toNat))
  | .or => some ([], .int k (k.wrap (BitVec.ofInt k.bits a ||| BitVec.ofInt k.bits b).toNat))
  | .xor => some ([], .int k (k.wrap (BitVec.ofInt k.bits a ^^^ BitVec.ofInt k.bits b).toNat))
  | .andNot => some ([], .int k (k.wrap (BitVec.ofInt k.bits a &&& ~~~ BitVec.ofInt k.bits b).toNat))
  | .eql => some ([], .bool (decide (a = b)))
  | .neq => some ([], .bool (decide (a ≠ b)))
  | .lss => some ([], .bool (decide (a < b)))
  | .leq => some ([], .bool (decide (a ≤ b)))
  | .gtr => some ([], .bool (decide (b < a)))
  | .geq => some ([], .bool (decide (b ≤ a)))
  | _ => none

/-- The fields' kinds, where all are integers of one cell, one behind the other. -/
def kindsOf (T : TypeId → Option TI) : Nat → List (Nat × TypeId) → Option (List IntKind)
  | _, [] => some []
  | n, (off, ft) :: r => bif Nat.beq off n then (match tdq T ft with | .int k => (kindsOf T (n + 1) r).map (k :: ·) | _ => none) else none

def eqInts : List IntKind → List AV → List AV → Option Bool
  | [], [], [] => some true
  | k :: ks, .int k1 a :: l, .int k2 b :: m => bif beqK k k1 && beqK k k2 then (match eqInts ks l m with
    | some r => some (decide (a = b) && r)
    | none => none) else none
  | _, _, _ => none

def aeqS (T : TypeId → Option TI) (t : TypeId) (xs ys : List AV) : Option Bool :=
  match T t with
  | some i => (match i.d, i.pl with
    | .struct fs, true => (match kindsOf T 0 fs with
      | some ks => eqInts ks xs ys
      | none => none)
    | _, _ => none)
  | none => none

def abin (T : TypeId → Option TI) (op : BinOp) (t : TypeId) (x y : AV) : QR :=
  match op, x, y with
  | .shl, .int k a, .int _ b => some ([0 ≤ b], .int k (k.wrap (a * 2 ^ min b.toNat k.bits)))
  | .shr, .int k a, .int _ b => some ([0 ≤ b], .int k (a.fdiv (2 ^ min b.toNat k.bits)))
  | op, .int k a, .int k' b => bif beqK k k' then abinI op k a b else none
  | .add, .str a, .str b => some ([((a.length + b.length : Nat) : Int) ≤ IntKind.i64.max], .str (a ++ b))
  | .eql, .str a, .str b => some ([], .bool (decide (a = b)))
  | .neq, .str a, .str b => some ([], .bool (!decide (a = b)))
  | .eql, .ptr _ _, .nilp => (match tdq T t with | .ptr => some ([], .bool false) | _ => none)
  | .neq, .ptr _ _, .nilp => (match tdq T t with | .ptr => some ([], .bool true) | _ => none)
  | .eql, .rop _, .nilp => (match tdq T t with | .ptr => some ([], .bool false) | _ => none)
  | .neq, .rop _, .nilp => (match tdq T t with | .ptr => some ([], .bool true) | _ => none)
  | .eql, .nilp, .nilp => (match tdq T t with | .ptr => some ([], .bool true) | _ => none)
  | .neq, .nilp, .nilp => (match tdq T t with | .ptr => some ([], .bool false) | _ => none)
  | .eql, .agg a, .agg b => (match aeqS T t a b with | some r => some ([], .bool r) | none => none)
  | .neq, .agg a, .agg b => (match aeqS T t a b with | some r => some ([], .bool (!r)) | none => none)
  | .eql, .fn _ _ _, .nilfn => (match tdq T t with | .fn => some ([], .bool false) | _ => none)
  | .neq, .fn _ _ _, .nilfn => (match tdq T t with | .fn => some ([], .bool true) | _ => none)
  | op, x, y => (match op, boolA x, boolA y, tdq T t with
    | .eql, some a, some b, .bool => some ([], .bool (a == b))
    | .neq, some a, some b, .bool => some ([], .bool (!(a == b)))
    | _, _, _, _ => none)

def aun (op : UnOp) (x : AV) : QR :=
  match op, x with
  | .not, .bool b => some ([], .bool (!b))
  | .not, .tru => some ([], .fls)
  | .not, .fls => some ([], .tru)
  | .neg, .int k n => arith k (0 - n)
  | .xor, .int k n => some ([], .int k (k.wrap (BitVec.ofInt k.bits (if k.signed then -1 else k.max) ^^^ BitVec.ofInt k.bits n).toNat))
  | _, _ => none

/-- A conversion that makes nothing. -/
def aconv (T : TypeId → Option TI) (src dst : TypeId) (x : AV) : QR :=
  match T src with
  | none => none
  | some _ => match tdq T dst, x with
  | .int k, .int _ n => bif plainC k then some ([rngI k n], .int k n) else some ([], .int k (k.wrap n))
  | .str, .str s => (match tdq T src with | .str => some ([], .str s) | _ => none)
  | _, _ => none

/-- A part of a value: the cells from off on, so many. -/
def subA (l : List AV) (off n : Nat) : List AV := (l.drop off).take n

/-- The part of type t (its cells from off on) out of cells. -/
def partA (T : TypeId → Option TI) (t : TypeId) (l : List AV) (off : Nat) : Option AV :=
  match T t with
  | some i => bif i.isAgg then (bif Nat.ble (off + i.sz) l.length then some (.agg (subA l off i.sz)) else none) else l[off]?
  | none => none

def aload (T : TypeId → Option TI) (t : TypeId) (H : AH) (x : AV) : QR :=
  match x with
  | .ptr i o => (match H.get i with
    | some (.cells _ l) => (partA T t l o).map fun v => ([], v)
    | _ => none)
  | .rop x => (match T t with
    | some i => (match i.isAgg, x with
      | true, .agg l => bif Nat.beq l.length i.sz then some ([], .agg l) else none
      | false, x => bif isOne x then some ([], x) else none
      | _, _ => none)
    | none => none)
  | .eptr i sz j f => (match H.get i with
    | some (.ints _ k l) => (match tdq T t with
      | .int k' => bif beqK k k' && Nat.beq sz 1 && Nat.beq f 0 then some ([j < l.length], .int k (l.getD j 0)) else none
      | _ => none)
    | some (.recs _ sz' n get) => bif Nat.beq sz sz' then (bif Nat.beq (cellsA (get j)).length sz && okE (get j) then (partA T t (cellsA (get j)) f).map fun v => ([j < n], v) else none) else none
    | _ => none)
  | _ => none

def afield (T : TypeId → Option TI) (t : TypeId) (f : Nat) : Option (Nat × TypeId × Nat) :=
  match tdq T t with
  | .struct fs => (match fs[f]? with
    | some (off, ft) => (match T ft with
      | some i => some (off, ft, i.sz)
      | none => none)
    | none => none)
  | _ => none

def afieldAddr (T : TypeId → Option TI) (t : TypeId) (f : Nat) (x : AV) : QR :=
  match afield T t f with
  | some (off, ft, sz) => bif Nat.beq sz 0 then none else (match x with
    | .ptr i o => some ([], .ptr i (o + off))
    | .rop (.agg l) => (match partA T ft l off, T ft with
      | some v, some i => bif isOne v || i.isAgg then some ([], .rop v) else none
      | _, _ => none)
    | .eptr i s j g => some ([], .eptr i s j (g + off))
    | _ => none)
  | none => none

def afieldV (T : TypeId → Option TI) (t : TypeId) (f : Nat) (x : AV) : QR :=
  match afield T t f, x with
  | some (off, ft, _), .agg l => (partA T ft l off).map fun v => ([], v)
  | _, _ => none

def szOf (T : TypeId → Option TI) (t : TypeId) : Option Nat := (T t).map (·.sz)

def aindexAddr (T : TypeId → Option TI) (t : TypeId) (x ix : AV) : QR :=
  match tdq T t, x, ix with
  | .slice e, .ro sz m get, .int _ n => (match szOf T e with
    | some s => bif Nat.beq s sz then some ([0 ≤ n ∧ n < (m : Int)], .rop (get n.toNat)) else none
    | none => none)
  | .slice e, .roi k l, .int _ n => (match szOf T e with
    | some s => bif Nat.beq s 1 then some ([0 ≤ n ∧ n < (l.length : Int)], .rop (.int k (l.getD n.toNat 0))) else none
    | none => none)
  | .slice e, .sl i sz o m, .int _ n => (match szOf T e with
    | some s => bif Nat.beq s sz then some ([0 ≤ n ∧ n < (m : Int)], .eptr i sz (o + n.toNat) 0) else none
    | none => none)
  | .arr len e, .ptr i o, .int _ n => (match szOf T e with
    | some s => some ([0 ≤ n ∧ n < (len : Int)], .ptr i (o + n.toNat * s))
    | none => none)
  | _, _, _ => none

def intsOf (k : IntKind) : List AV → Option (List Int)
  | [] => some []
  | .int k' n :: l => bif beqK k k' then (intsOf k l).map (n :: ·) else none
  | _ => none
def strsOf : List AV → Option (List (List UInt8))
  | [] => some []
  | .str s :: l => (strsOf l).map (s :: ·)
  | _ => none

/-- An element of an array, by a number that need not be told. -/
def elemA (l : List AV) (n : Nat) : Option AV :=
  match l with
  | .int k a :: _ => (intsOf k l).map fun z => .int k (z.getD n 0)
  | .str s :: _ => (strsOf l).map fun z => .str (z.getD n [])
  | l => l[n]?

def aindex (T : TypeId → Option TI) (t : TypeId) (x ix : AV) : QR :=
  match tdq T t, x, ix with
  | .arr len e, .agg l, .int _ n => (match T e with
    | some i => bif i.isAgg then (partA T e l (n.toNat * i.sz)).map fun v => ([0 ≤ n ∧ n < (len : Int)], v)
        else (bif Nat.beq l.length len && Nat.beq i.sz 1 then (elemA l n.toNat).map fun v => ([0 ≤ n ∧ n < (len : Int)], v) else none)
    | none => none)
  | .str, .str s, .int _ n => some ([0 ≤ n ∧ n < (s.length : Int)], .int .u8 ((s.getD n.toNat 0).toNat : Int))
  | _, _, _ => none

/-- A slice's bounds. -/
def aBounds (e : Env) (len : Nat) (lo hi : Option Operand) : Option (List Prop × Nat × Nat) :=
  let h : Option (List Prop × Nat) := match hi with
    | none => some ([], len)
    | some x => (match evA e x with | some (.int _ n) => some ([0 ≤ n ∧ n ≤ (len : Int)], n.toNat) | _ => none)
  match h with
  | none => none
  | some (p, hn) => match lo with
    | none => some (p, 0, hn)
    | some x => (match evA e x with | some (.int _ n) => some (p ++ [0 ≤ n ∧ n ≤ (hn : Int)], n.toNat, hn) | _ => none)

def aslice (T : TypeId → Option TI) (e : Env) (t : TypeId) (x : AV) (lo hi : Option Operand) : QR :=
  match tdq T t, x with
  | .str, .str s => (match aBounds e s.length lo hi with
    | some (p, l, h) => some (p, .str ((s.take h).drop l))
    | none => none)
  | .slice el, .ro sz m get => (match szOf T el, aBounds e m lo hi with
    | some s, some (p, l, h) => bif Nat.beq s sz then some (p, .ro sz (h - l) (fun j => get (l + j))) else none
    | _, _ => none)
  | .slice el, .roi k l => (match szOf T el, aBounds e l.length lo hi with
    | some s, some (p, a, h) => bif Nat.beq s 1 then some (p, .roi k ((l.take h).drop a)) else none
    | _, _ => none)
  | .slice el, .sl i sz o m => (match szOf T el, aBounds e m lo hi with
    | some s, some (p, l, h) => bif Nat.beq s sz then some (p, .sl i sz (o + l) (h - l)) else none
    | _, _ => none)
  | .slice el, .nils => (match szOf T el, aBounds e 0 lo hi with
    | some _, some (p, _, _) => some (p, .nils)
    | _, _ => none)
  | _, _ => none

def setRange (l : List AV) (off : Nat) (xs : List AV) : List AV := l.take off ++ xs ++ l.drop (off + xs.length)

/-- Values are told one by one before one goes on. -/
def forceA {β : Type} : List AV → (List AV → β) → β
  | [], k => k []
  | a :: l, k => forceA l fun l' => k (a :: l')
theorem forceA_eq {β : Type} : ∀ (l : List AV) (k : List AV → β), forceA l k = k l
  | [], _ => rfl
  | a :: l, k => forceA_eq l _
def fillA (place : Nat → Option (Nat × Nat)) (e : Env) (cells : List AV) : List (Nat × Operand) → Option (List AV)
  | [] => some cells
  | (i, x) :: rest => match place i, evA e x with
    | some (off, sz), some v => bif okE v && Nat.beq (cellsA v).length sz && Nat.ble (off + sz) cells.length then forceA (setRange cells off (cellsA v)) fun cells' => fillA place e cells' rest else none
    | _, _ => none

/-- Where a struct's field lies, and how many cells it has. -/
def plc (T : TypeId → Option TI) (fs : List (Nat × TypeId)) (j : Nat) : Option (Nat × Nat) :=
  match fs[j]? with
  | some p => (match szOf T p.2 with | some s => some (p.1, s) | none => none)
  | none => none

def abuild (T : TypeId → Option TI) (e : Env) (t : TypeId) (parts : List (Nat × Operand)) : QR :=
  match T t with
  | some i => (match i.d with
    | .struct fs => bif fs.all (fun f => (szOf T f.2).isSome) then (fillA (plc T fs) e (i.zero.map ofVal1) parts).map fun l => ([], .agg l) else none
    | .arr n el => (match szOf T el with
      | some s => (fillA (fun j => some (j * s, s)) e (i.zero.map ofVal1) parts).map fun l => ([], .agg l)
      | none => none)
    | _ => none)
  | none => none

def evAs (e : Env) : List Operand → Option (List AV)
  | [] => some []
  | x :: l => match evA e x, evAs e l with
    | some v, some r => some (v :: r)
    | _, _ => none

def alen : AV → QR
  | .str s => some ([], .int .i64 (s.length : Int))
  | .ro _ n _ => some ([], .int .i64 (n : Int))
  | .roi _ l => some ([], .int .i64 (l.length : Int))
  | .sl _ _ _ n => some ([], .int .i64 (n : Int))
  | .nils => some ([], .int .i64 0)
  | _ => none

def foldMin (k : IntKind) (a : Int) : List AV → Option Int
  | [] => some a
  | .int k' b :: l => bif beqK k k' then foldMin k (min a b) l else none
  | _ => none
def foldMax (k : IntKind) (a : Int) : List AV → Option Int
  | [] => some a
  | .int k' b :: l => bif beqK k k' then foldMax k (max a b) l else none
  | _ => none

/-- Does a value name no owned block? -/
def nl0 : AV → Bool
  | .int _ _ | .bool _ | .tru | .fls | .str _ | .nilp | .nils | .ro _ _ _ | .roi _ _ | .rop _ | .nilfn => true
  | _ => false
def nlB : AV → Bool
  | .agg l => l.all nl0
  | x => nl0 x
/-- A value in which there are no addresses at all. -/
def flat0 : AV → Bool
  | .int _ _ | .bool _ | .tru | .fls | .str _ | .nilp | .nils | .nilfn => true
  | _ => false
def flat1 : AV → Bool
  | .agg l => l.all flat0
  | x => flat0 x
def flatB : AV → Bool
  | .tup l => l.all flat1
  | x => flat1 x

/-- An owned value as one that is only read. -/
def view0 (H : AH) : AV → QR
  | .sl i sz o n => (match H.get i with
    | some (.ints _ k l) => bif Nat.beq sz 1 then some ([o + n ≤ l.length], .roi k ((l.drop o).take n)) else none
    | some (.recs _ sz' m get) => bif Nat.beq sz sz' then some ([o + n ≤ m], .ro sz n (fun j => get (o + j))) else none
    | _ => none)
  | .int k n => some ([], .int k n)
  | .bool b => some ([], .bool b)
  | .tru => some ([], .tru)
  | .fls => some ([], .fls)
  | .str s => some ([], .str s)
  | .nilp => some ([], .nilp)
  | .nils => some ([], .nils)
  | .ro sz n get => some ([], .ro sz n get)
  | .roi k l => some ([], .roi k l)
  | .rop x => some ([], .rop x)
  | .nilfn => some ([], .nilfn)
  | .fn f k [] => some ([], .fn f k [])
  | .any => some ([], .any)
  | .val v => some ([], .val v)
  | _ => none
def viewL (H : AH) : List AV → Option (List Prop × List AV)
  | [] => some ([], [])
  | x :: l => match view0 H x, viewL H l with
    | some (p, v), some (q, r) => some (p ++ q, v :: r)
    | _, _ => none
def view1 (H : AH) : AV → QR
  | .agg l => (match viewL H l with
    | some (p, r) => some (p, .agg r)
    | none => none)
  | .ifc t l => (match viewL H l with
    | some (p, r) => some (p, .ifc t r)
    | none => none)
  | .ptr i 0 => (match H.get i with
    | some (.cells _ l) => (match viewL H l with
      | some (p, r) => some (p, .rop (.agg r))
      | none => none)
    | _ => none)
  | .sl i sz o n => (match H.get i with
    | some (.recs1 _ sz' m get f (.sl j 1 0 c)) => (match H.get j, get 0 with
      | some (.ints _ k l), .agg l0 => bif Nat.beq sz sz' && Nat.beq o 0 then some ([n ≤ m, c ≤ l.length], .ro sz n (fun q => bif Nat.beq q 0 then .agg (l0.set f (.roi k (l.take c))) else get q)) else none
      | _, _ => none)
    | _ => view0 H (.sl i sz o n))
  | x => view0 H x
def viewAs (H : AH) : List AV → Option (List Prop × List AV)
  | [] => some ([], [])
  | x :: l => match view1 H x, viewAs H l with
    | some (p, v), some (q, r) => some (p ++ q, v :: r)
    | _, _ => none

/-- What a function is called with: k of the parts of its value ahead of the arguments, the others behind. -/
def putCap (k : Nat) (cap l : List AV) : List AV := cap.take k ++ (l ++ cap.drop k)
/-- What functions that turn nothing answer: obligations and the result, of the arguments. -/
abbrev PSpec : Type := List AV → QR

/-- The operations that turn no owned block: obligations and the result. -/
def aopF (T : TypeId → Option TI) (S : FuncId → Option PSpec) (o : Op) (e : Env) (H : AH) : QR :=
  match o with
  | .move x | .assign x => (evA e x).map fun v => ([], v)
  | .pick c a b => (match evA e c, evA e a, evA e b with
    | some .tru, some a, _ => some ([], a)
    | some .fls, _, some b => some ([], b)
    | some (.bool c), some a, some b => (match boolA a, boolA b with
      | some a, some b => some ([], .bool (bif c then a else b))
      | _, _ => none)
    | _, _, _ => none)
  | .load t x => (match evA e x with | some v => aload T t H v | none => none)
  | .nilCheck x => (match evA e x with
    | some (.ptr i o) => some ([], .ptr i o)
    | some (.rop v) => some ([], .rop v)
    | some (.eptr i s j f) => some ([], .eptr i s j f)
    | some (.fn f k c) => some ([], .fn f k c)
    | _ => none)
  | .binOp op t x y _ => (match evA e x, evA e y with | some a, some b => abin T op t a b | _, _ => none)
  | .unOp op _ x => (match evA e x with | some v => aun op v | none => none)
  | .convert s d x => (match evA e x with | some v => aconv T s d v | none => none)
  | .makeInterface t x => (match evA e x, T t with
    | some v, some i => (match i.d with | .oth => none | _ => some ([], .ifc t [v]))
    | _, _ => none)
  | .typeAssert x _ t ok => (match evA e x, T t with
    | some (.ifc t' [v]), some i => (match i.d with
      | .oth => none
      | _ => bif Nat.beq t t' then some ([], bif ok then .tup [v, .tru] else v) else none)
    | _, _ => none)
  | .makeFunc (.func f) first cap => (match first.toList with
    | [] => (evAs e cap.toList).map fun l => ([], .fn f 0 l)
    | [x] => (evAs e (x :: cap.toList)).map fun l => ([], .fn f 1 l)
    | _ => none)
  | .slice t x lo hi none => (match evA e x with | some v => aslice T e t v lo hi | none => none)
  | .fieldAddr t x f => (match evA e x with | some v => afieldAddr T t f v | none => none)
  | .field t x f => (match evA e x with | some v => afieldV T t f v | none => none)
  | .indexAddr t x i => (match evA e x, evA e i with | some v, some n => aindexAddr T t v n | _, _ => none)
  | .index t x i => (match evA e x, evA e i with | some v, some n => aindex T t v n | _, _ => none)
  | .extract x i => (match evA e x with | some (.tup l) => (l[i]?).map fun v => ([], v) | _ => none)
  | .build t ps => abuild T e t ps.toList
  | .call { callee := .builtin .len, args, argTypes } => (match args.toList, argTypes.toList with
    | [x], [t] => (match evA e x, tdq T t with
      | some (.str s), .str => alen (.str s)
      | some v, .slice _ => (match v with | .str _ => none | v => alen v)
      | _, _ => none)
    | _, _ => none)
  | .call { callee := .builtin .min, args, .. } => (match evAs e args.toList with
    | some (.int k a :: l) => (foldMin k a l).map fun r => ([], .int k r)
    | _ => none)
  | .call { callee := .builtin .max, args, .. } => (match evAs e args.toList with
    | some (.int k a :: l) => (foldMax k a l).map fun r => ([], .int k r)
    | _ => none)
  | .call { callee := .value f, args, .. } => (match evA e f, evAs e args.toList with
    | some (.fn g k cap), some l => (match S g with
      | some s => bif (putCap k cap l).all nlB then s (putCap k cap l) else (match viewAs H (putCap k cap l) with
        | some (p, l') => (match s l' with
          | some (q, v) => bif flatB v then some (p ++ q, v) else none
          | none => none)
        | none => none)
      | none => none)
    | _, _ => none)
  | _ => none
end Go.Proofs.Ytdiflkabpjnncaa
