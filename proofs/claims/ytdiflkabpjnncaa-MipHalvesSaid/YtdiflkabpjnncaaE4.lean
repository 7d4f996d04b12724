
/- The engine, part 4: the operations that make or turn memory, and the conditions of a whole function. No condition. -/
import Derived.Test.YtdiflkabpjnncaaE2
import Derived.Test.YtdiflkabpjnncaaPlan
namespace Go.Proofs.Ytdiflkabpjnncaa
open Go Go.RowKit
set_option linter.unusedVariables false
set_option linter.unusedSimpArgs false

/-- What functions that may turn or make memory leave: a condition on what comes behind. -/
abbrev GSpec : Type := List AV → AH → (AV → AH → Prop) → Prop

def tlook : List (Nat × TI) → TypeId → Option TI
  | [], _ => none
  | (s, v) :: r, t => bif Nat.beq s t then some v else tlook r t

structure Ctx where
  /-- so many names are fixed (the call's own places that came in) -/
  p : Nat
  T : TypeId → Option TI
  S : FuncId → Option PSpec
  G : FuncId → Option GSpec
  /-- further operations: which ones, and what they leave -/
  xs : Op → Env → AH → Bool
  X : Op → Env → AH → (AV → AH → Prop) → Prop
  /-- the regions behind which frame and heap are told anew -/
  cut : Nat → Bool
  /-- calls that may stand in a region of no fixed order: they make one new row at most, of their own -/
  XD : FuncId → List AV → AH → Option (List Prop × AV × List (Nat × Option Ent) × Nat)
  /-- 0: may not; 1: makes nothing new; more: makes one -/
  XN : FuncId → Nat
  /-- further operations in such a region -/
  DX : Op → Env → AH → Option (List Prop × AV × List (Nat × Option Ent) × Nat)

/-- A check by evaluation. -/
structure Chk (b : Bool) : Prop where
  out : b = true

noncomputable def obl (l : List Prop) (q : Prop) : Prop := List.rec (motive := fun _ => Prop) q (fun p _ ih => p ∧ ih) l

/-- The cells of a new row, all of them the element type's zero. -/
def zerosA (i : TI) (n : Nat) : List AV := (List.range n).map fun j => (i.zero.map ofVal1).getD (j % i.zero.length) .any
/-- Element j of a row's cells. -/
def chunkA (i : TI) (l : List AV) (j : Nat) : AV := bif i.isAgg then .agg (subA l (j * i.sz) i.sz) else l.getD j .any

def abuildSlice (T : TypeId → Option TI) (e : Env) (H : AH) (t : TypeId) (len : Nat) (parts : List (Nat × Operand)) (K : AV → AH → Prop) : Prop :=
  match tdq T t with
  | .slice el => (match T el with
    | some i => bif Nat.ble (len * i.sz) 16777216 && Nat.blt 0 i.sz && Nat.beq i.zero.length i.sz then (match fillA (fun j => some (j * i.sz, i.sz)) e (zerosA i (len * i.sz)) parts with
      | some l => (match i.d with
        | .int k => (match intsOf k l with
          | some z => bif Nat.beq i.sz 1 then K (.sl H.nx 1 0 len) (H.push (.ints el k z)) else False
          | none => False)
        | _ => bif l.all nl0 && l.all isOne && (i.isAgg || Nat.beq i.sz 1) then K (.sl H.nx i.sz 0 len) (H.push (.recs el i.sz len (chunkA i l))) else False)
      | none => False) else False
    | none => False)
  | _ => False

def astore (T : TypeId → Option TI) (H : AH) (t : TypeId) (a x : AV) (K : AH → Prop) : Prop :=
  match szOf T t with
  | none => False
  | some s => bif Nat.beq (cellsA x).length s && okE x && (cellsA x).all isOne then (match a with
    | .ptr i o => (match H.get i with
      | some (.cells bt l) => bif Nat.ble (o + s) l.length then K (H.set i (.cells bt (setRange l o (cellsA x)))) else False
      | _ => False)
    | .eptr i sz j f => (match H.get i with
      | some (.ints el k l) => (match x with
        | .int k' v => bif beqK k k' && Nat.beq sz 1 && Nat.beq f 0 then (j < l.length ∧ K (H.set i (.ints el k (l.set j v)))) else False
        | _ => False)
      | _ => False)
    | _ => False) else False

/-- The numbers that a slice, or a text, holds. -/
def intsOfA (H : AH) (k : IntKind) : AV → Option (List Prop × List Int)
  | .nils => some ([], [])
  | .roi k' l => bif beqK k k' then some ([], l) else none
  | .sl i 1 o n => (match H.get i with
    | some (.ints _ k' l) => bif beqK k k' then some ([o + n ≤ l.length], (l.drop o).take n) else none
    | _ => none)
  | _ => none

def amake (T : TypeId → Option TI) (H : AH) (t : TypeId) (n c : AV) (K : AV → AH → Prop) : Prop :=
  match tdq T t, n, c with
  | .slice el, .int _ n, .int _ c => (match T el with
    | some i => (match i.d, i.zero with
      | .int k, [.int k' 0] => bif beqK k k' && Nat.beq i.sz 1 then ((0 ≤ n ∧ n ≤ c ∧ c ≤ 140737488355328 ∧ c * i.by_ ≤ 140737488355328) ∧ K (.sl H.nx 1 0 n.toNat) (H.push (.ints el k (List.replicate n.toNat 0)))) else False
      | _, _ => False)
    | none => False)
  | _, _, _ => False

def nilEnt (el : TypeId) (i : TI) : Ent := match i.d with | .int k => .ints el k [] | _ => .recs el i.sz 0 (fun _ => .any)

/-- The base of an append: obligations, its length, its content's entry, the heap without it. -/
def abase (H : AH) (el : TypeId) (i : TI) : AV → Option (List Prop × Nat × Ent × AH)
  | .nils => some ([], 0, nilEnt el i, H)
  | .sl j sz o n => bif Nat.beq sz i.sz && Nat.beq o 0 then (match H.get j with
    | some (.ints e k l) => bif Nat.beq e el && Nat.beq i.sz 1 then some ([n = l.length], l.length, .ints e k l, H.del j) else none
    | some (.recs e s m get) => bif Nat.beq e el && Nat.beq s i.sz then some ([n = m], m, .recs e s m get, H.del j) else none
    | _ => none) else none
  | _ => none
/-- Records that are appended. -/
def recsOfA (H : AH) (sz : Nat) : AV → Option (List Prop × Nat × (Nat → AV))
  | .nils => some ([], 0, fun _ => .any)
  | .sl i s o n => bif Nat.beq s sz then (match H.get i with
    | some (.recs _ s' m get) => bif Nat.beq s' sz then some ([o + n ≤ m], n, fun j => get (o + j)) else none
    | _ => none) else none
  | _ => none

/-- append(s, x...): s nothing, or the whole of an owned row; the row goes on under a new name. -/
noncomputable def aappend (T : TypeId → Option TI) (H : AH) (t : TypeId) (s x : AV) (K : AV → AH → Prop) : Prop :=
  match tdq T t with
  | .slice el => (match T el with
    | some i => bif Nat.blt 0 i.sz && Nat.beq i.zero.length i.sz then (match abase H el i s with
      | some (p, n, .ints e k l, H') => (match intsOfA H k x with
        | some (q, xs) => bif Nat.beq i.sz 1 && Nat.beq e el then obl (p ++ q) (((n : Int) + xs.length) * i.by_ ≤ 140737488355328 ∧ n + xs.length ≤ 140737488355328 ∧ K (.sl H'.nx 1 0 (n + xs.length)) (H'.push (.ints el k (l ++ xs)))) else False
        | none => False)
      | some (p, n, .recs e s m get, H') => (match recsOfA H i.sz x with
        | some (q, c, getx) => bif Nat.beq s i.sz && Nat.beq e el then obl (p ++ q) (((n : Int) + c) * i.by_ ≤ 140737488355328 ∧ n + c ≤ 140737488355328 ∧ K (.sl H'.nx i.sz 0 (n + c)) (H'.push (.recs el i.sz (n + c) (fun j => if j < n then get j else getx (j - n))))) else False
        | none => False)
      | _ => False) else False
    | none => False)
  | _ => False

/-- The operations that make or turn memory. -/
noncomputable def aopG (C : Ctx) (o : Op) (e : Env) (H : AH) (K : AV → AH → Prop) : Prop :=
  match o with
  | .alloc t => (match C.T t with | some i => bif i.zero.all (·.oneCell') then K (.ptr H.nx 0) (H.push (.cells t (i.zero.map ofVal1))) else False | none => False)
  | .box t x => (match C.T t, evA e x with
    | some i, some v => bif Nat.beq (cellsA v).length i.sz && okE v && (cellsA v).all isOne then K (.ptr H.nx 0) (H.push (.cells t (cellsA v))) else False
    | _, _ => False)
  | .buildSlice t len parts => abuildSlice C.T e H t len parts.toList K
  | .store t a x => (match evA e a, evA e x with
    | some a, some x => astore C.T H t a x (K .any)
    | _, _ => False)
  | .makeSlice t n c => (match evA e n, evA e c with
    | some n, some c => amake C.T H t n c K
    | _, _ => False)
  | .call { callee := .builtin .append, args, argTypes } => (match args.toList, argTypes.toList with
    | [s, x], [t, t'] => bif Nat.beq t t' then (match evA e s, evA e x with
      | some s, some x => aappend C.T H t s x K
      | _, _ => False) else False
    | _, _ => False)
  | .call { callee := .value f, args, .. } => (match evA e f, evAs e args.toList with
    | some (.fn g k cap), some l => (match C.G g with | some s => s (putCap k cap l) H K | none => False)
    | _, _ => False)
  | _ => False

noncomputable def aop (C : Ctx) (o : Op) (e : Env) (H : AH) (K : AV → AH → Prop) : Prop :=
  match aopF C.T C.S o e H with
  | some (obs, v) => obl obs (K v H)
  | none => (match C.xs o e H with | true => C.X o e H K | false => aopG C o e H K)

def pute (d : Option Tmp) (v : AV) (e : Env) : Env := match d with | some t => (t, v) :: e | none => e
def slotOf (ops : List Oper) (j : Nat) : Option Tmp := match ops[j]? with | some o => o.dst | none => none

/-- One operation in the text's order; rest: the others; q: only such as turn no owned block. -/
noncomputable def opStep (C : Ctx) (all : List Oper) (q : Bool) (o : Oper) (rest : Env → AH → (Env → AH → Prop) → Prop) (e : Env) (H : AH) (K : Env → AH → Prop) : Prop :=
  let run (e : Env) : Prop := match q with
    | true => (match aopF C.T C.S o.op e H with
      | some (obs, v) => obl obs (rest (pute o.dst v e) H K)
      | none => False)
    | false => aop C o.op e H fun v H' => rest (pute o.dst v e) H' K
  let skip (e : Env) : Prop := rest (pute o.dst (.tup []) e) H K
  match o.guard with
  | none => run e
  | some (j, want) => match slotOf all j with
    | none => False
    | some g => match lk e g with
      | some .tru => (match want with | true => run e | false => skip e)
      | some .fls => (match want with | true => skip e | false => run e)
      | some (.bool b) => (b = true → (match want with | true => run ((g, .tru) :: e) | false => skip ((g, .tru) :: e))) ∧
          (b = false → (match want with | true => skip ((g, .fls) :: e) | false => run ((g, .fls) :: e)))
      | some (.tup []) => skip e
      | _ => False

/-- The operations in the text's order. (By the recursor itself: so the kernel and the elaborator come to the same terms.) -/
noncomputable def vcOps (C : Ctx) (all : List Oper) (q : Bool) (l : List Oper) : Env → AH → (Env → AH → Prop) → Prop :=
  List.rec (motive := fun _ => Env → AH → (Env → AH → Prop) → Prop) (fun e H K => K e H) (fun o _ rest => opStep C all q o rest) l

/-- What an operation must come behind. -/
def depsO (ops : List Oper) (i : Nat) : List Nat := match ops[i]? with | some o => (o.after.toList.filter fun e => Region.binds .any e).map (·.on) | none => []
/-- All that must have been done ahead, of what is told (edges lead back). -/
def ancGo (ops : List Oper) : Nat → List Nat → List Nat
  | 0, s => s
  | t + 1, s => ancGo ops t (bif s.any (Nat.beq t) then depsO ops t ++ s else s)
/-- The operations from m on come each behind all ahead of it in the text. -/
def tailT (ops : List Oper) (m : Nat) : Bool := (List.range ops.length).all fun i => Nat.ble (i + 1) m || (List.range i).all fun j => (ancGo ops i (depsO ops i)).any (Nat.beq j)

/-- May this operation stand among those that come in any order? -/
def isQ (C : Ctx) (o : Oper) : Bool :=
  match o.op with
  | .alloc _ | .box _ _ | .buildSlice _ _ _ | .store _ _ _ | .makeSlice _ _ _ => false
  | .call { callee := .builtin .append, .. } => false
  | .call { callee := .builtin .copy, .. } => false
  | .call { callee := .value (.func f), .. } => (match C.S f with | some _ => true | none => false)
  | .call { callee := .value (.tmp _), .. } => false
  | _ => true

def quietN (C : Ctx) : List Oper → Nat
  | [] => 0
  | o :: l => bif isQ C o then quietN C l + 1 else 0

/-! ### Operations that make or turn memory, in whatever order -/
/-- Told: obligations, the value, the entries that are laid over the heap, the next name. -/
abbrev DR : Type := Option (List Prop × AV × List (Nat × Option Ent) × Nat)
def dbuildSlice (T : TypeId → Option TI) (e : Env) (H : AH) (t : TypeId) (len : Nat) (parts : List (Nat × Operand)) : DR :=
  match tdq T t with
  | .slice el => (match T el with
    | some i => bif Nat.ble (len * i.sz) 16777216 && Nat.blt 0 i.sz && Nat.beq i.zero.length i.sz then (match fillA (fun j => some (j * i.sz, i.sz)) e (zerosA i (len * i.sz)) parts with
      | some l => (match i.d with
        | .int k => (match intsOf k l with
          | some z => bif Nat.beq i.sz 1 then some ([], .sl H.nx 1 0 len, [(H.nx, some (.ints el k z))], H.nx + 1) else none
          | none => none)
        | _ => bif l.all nl0 && l.all isOne && (i.isAgg || Nat.beq i.sz 1) then some ([], .sl H.nx i.sz 0 len, [(H.nx, some (.recs el i.sz len (chunkA i l)))], H.nx + 1) else none)
      | none => none) else none
    | none => none)
  | _ => none
def dstore (T : TypeId → Option TI) (H : AH) (t : TypeId) (a x : AV) : DR :=
  match szOf T t with
  | none => none
  | some s => bif Nat.beq (cellsA x).length s && okE x && (cellsA x).all isOne then (match a with
    | .ptr i o => (match H.get i with
      | some (.cells bt l) => bif Nat.ble (o + s) l.length then some ([], .any, [(i, some (.cells bt (setRange l o (cellsA x))))], H.nx) else none
      | _ => none)
    | .eptr i sz j f => (match H.get i with
      | some (.ints el k l) => (match x with
        | .int k' v => bif beqK k k' && Nat.beq sz 1 && Nat.beq f 0 then some ([j < l.length], .any, [(i, some (.ints el k (l.set j v)))], H.nx) else none
        | _ => none)
      | _ => none)
    | _ => none) else none
def dmake (T : TypeId → Option TI) (H : AH) (t : TypeId) (n c : AV) : DR :=
  match tdq T t, n, c with
  | .slice el, .int _ n, .int _ c => (match T el with
    | some i => (match i.d, i.zero with
      | .int k, [.int k' 0] => bif beqK k k' && Nat.beq i.sz 1 then some ([0 ≤ n ∧ n ≤ c ∧ c ≤ 140737488355328 ∧ c * i.by_ ≤ 140737488355328], .sl H.nx 1 0 n.toNat, [(H.nx, some (.ints el k (List.replicate n.toNat 0)))], H.nx + 1) else none
      | _, _ => none)
    | none => none)
  | _, _, _ => none
/-- The name that an append spends. -/
def spent (s : AV) : List (Nat × Option Ent) := match s with | .sl j _ _ _ => [(j, none)] | _ => []
def dappend (T : TypeId → Option TI) (H : AH) (t : TypeId) (s x : AV) : DR :=
  match tdq T t with
  | .slice el => (match T el with
    | some i => bif Nat.blt 0 i.sz && Nat.beq i.zero.length i.sz then (match abase H el i s with
      | some (p, n, .ints e k l, _) => (match intsOfA H k x with
        | some (q, xs) => bif Nat.beq i.sz 1 && Nat.beq e el then some (p ++ q ++ [((n : Int) + xs.length) * i.by_ ≤ 140737488355328, n + xs.length ≤ 140737488355328], .sl H.nx 1 0 (n + xs.length), (H.nx, some (.ints el k (l ++ xs))) :: spent s, H.nx + 1) else none
        | none => none)
      | some (p, n, .recs e s' m get, _) => (match recsOfA H i.sz x with
        | some (q, c, getx) => bif Nat.beq s' i.sz && Nat.beq e el then some (p ++ q ++ [((n : Int) + c) * i.by_ ≤ 140737488355328, n + c ≤ 140737488355328], .sl H.nx i.sz 0 (n + c), (H.nx, some (.recs el i.sz (n + c) (fun j => if j < n then get j else getx (j - n)))) :: spent s, H.nx + 1) else none
        | none => none)
      | _ => none) else none
    | none => none)
  | _ => none
def aopD (C : Ctx) (o : Op) (e : Env) (H : AH) : DR :=
  match o with
  | .alloc t => (match C.T t with | some i => bif i.zero.all (·.oneCell') then some ([], .ptr H.nx 0, [(H.nx, some (.cells t (i.zero.map ofVal1)))], H.nx + 1) else none | none => none)
  | .box t x => (match C.T t, evA e x with
    | some i, some v => bif Nat.beq (cellsA v).length i.sz && okE v && (cellsA v).all isOne then some ([], .ptr H.nx 0, [(H.nx, some (.cells t (cellsA v)))], H.nx + 1) else none
    | _, _ => none)
  | .buildSlice t len parts => dbuildSlice C.T e H t len parts.toList
  | .store t a x => (match evA e a, evA e x with
    | some a, some x => dstore C.T H t a x
    | _, _ => none)
  | .makeSlice t n c => (match evA e n, evA e c with
    | some n, some c => dmake C.T H t n c
    | _, _ => none)
  | .call { callee := .builtin .append, args, argTypes } => (match args.toList, argTypes.toList with
    | [s, x], [t, t'] => bif Nat.beq t t' then (match evA e s, evA e x with
      | some s, some x => dappend C.T H t s x
      | _, _ => none) else none
    | _, _ => none)
  | _ => none
def dcall (C : Ctx) (o : Op) (e : Env) (H : AH) : DR :=
  match o with
  | .call { callee := .value f, args, .. } => (match evA e f, evAs e args.toList with
    | some (.fn g k cap), some l => C.XD g (putCap k cap l) H
    | _, _ => none)
  | _ => none
/-- A copy onto a row of one's own. -/
def dcopyV (T : TypeId → Option TI) (H : AH) (t : TypeId) (d s : AV) : DR :=
  match tdq T t with
  | .slice el => (match szOf T el, d with
    | some 1, .sl j 1 o n => (match H.get j with
      | some (.ints e k l) => (match intsOfA H k s with
        | some (obs, xs) => some (obs ++ [o + n ≤ l.length], .int .i64 ((Nat.min xs.length n : Nat) : Int), [(j, some (.ints e k (l.take o ++ (xs.take (Nat.min xs.length n) ++ l.drop (o + Nat.min xs.length n)))))], H.nx)
        | none => none)
      | _ => none)
    | _, _ => none)
  | _ => none
def dcopy (T : TypeId → Option TI) (o : Op) (e : Env) (H : AH) : DR :=
  match o with
  | .call { callee := .builtin .copy, args, argTypes } => (match args.toList, argTypes.toList with
    | [d, s], [t, _] => (match evA e d, evA e s with | some d, some s => dcopyV T H t d s | _, _ => none)
    | _, _ => none)
  | _ => none
def aopX (C : Ctx) (o : Op) (e : Env) (H : AH) : DR :=
  match aopF C.T C.S o e H with
  | some (obs, v) => some (obs, v, [], H.nx)
  | none => (match dcall C o e H with
    | some r => some r
    | none => (match aopD C o e H with
      | some r => some r
      | none => C.DX o e H))

def edgeB (ops : List Oper) (i j : Nat) : Bool := match ops[i]? with | some o => o.after.toList.any fun e => Region.binds .any e && Nat.beq e.on j | none => false
/-- Does operation i come behind operation j? -/
def ordB (ops : List Oper) (i j : Nat) : Bool := edgeB ops i j || (match ops[i]? with | some o => o.after.toList.any fun e => Region.binds .any e && edgeB ops e.on j | none => false)
/-- The names that an operation in no order with operation k may turn. -/
def hidGo (ops : List Oper) (k : Nat) : Nat → List (List Nat) → List Nat
  | _, [] => []
  | j, [] :: r => hidGo ops k (j + 1) r
  | j, (a :: ws) :: r => bif Nat.beq j k || ordB ops k j || ordB ops j k then hidGo ops k (j + 1) r else (a :: ws) ++ hidGo ops k (j + 1) r
def hide (hid : List Nat) (H : AH) : AH := match hid with | [] => H | a :: l => ⟨H.nx, H.es.filter fun p => !(a :: l).any (Nat.beq p.1)⟩
/-- Are those that turn the same name in order? -/
def wokGo (ops : List Oper) (k : Nat) (ws : List Nat) : Nat → List (List Nat) → Bool
  | _, [] => true
  | j, vs :: r => (ws.all (fun a => !vs.any (Nat.beq a)) || ordB ops j k) && wokGo ops k ws (j + 1) r
def wok (ops : List Oper) : Nat → List (List Nat) → Bool
  | _, [] => true
  | k, ws :: r => wokGo ops k ws (k + 1) r && wok ops (k + 1) r

/-- Does a value name nothing from name n on? -/
def nm0 (n : Nat) : AV → Bool
  | .ptr i _ => Nat.blt i n
  | .sl i _ _ _ => Nat.blt i n
  | .eptr i _ _ _ => Nat.blt i n
  | .agg _ => false
  | .tup _ => false
  | .fn _ _ [] => true
  | .fn _ _ (_ :: _) => false
  | .ifc _ _ => false
  | _ => true
def nmA (n : Nat) : AV → Bool
  | .agg l => l.all (nm0 n)
  | x => nm0 n x
def nm1 (n : Nat) : AV → Bool
  | .agg l => l.all (nm0 n)
  | .fn _ _ l => l.all (nmA n)
  | .ifc _ l => l.all (nmA n)
  | x => nm0 n x
def nm2 (n : Nat) : AV → Bool
  | .tup l => l.all (nm1 n)
  | x => nm1 n x
def entB (n : Nat) : Ent → Bool
  | .cells _ l => l.all (nm0 n)
  | .recs1 _ _ _ _ _ y => nm0 n y
  | _ => true
def esB (n : Nat) (p : Nat × Option Ent) : Bool := match p.2 with | some x => Nat.blt p.1 n && entB n x | none => true
def mixB (C : Ctx) (W : List (List Nat)) (k : Nat) (o : Oper) (e : Env) (H : AH) (δ : List (Nat × Option Ent)) (nx : Nat) : Bool :=
  (δ.all fun p => (W.getD k []).any (Nat.beq p.1) && Nat.blt p.1 nx) && (Nat.beq nx H.nx || Nat.beq nx (H.nx + 1)) &&
  (o.op.operands.toList.all fun x => match evA e x with | some v => nm2 H.nx v | none => true) && H.es.all (esB H.nx)

/-- A list is told part by part before one goes on (so that it is told once). -/
noncomputable def forceL {α : Type} {β : Sort _} (l : List α) : (List α → β) → β := List.rec (motive := fun _ => (List α → β) → β) (fun k => k []) (fun a _ ih k => ih fun l' => k (a :: l')) l
theorem forceL_eq {α : Type} {β : Sort _} (l : List α) : ∀ k : List α → β, forceL l k = k l := by
  induction l with
  | nil => intro k; rfl
  | cons a l ih => intro k; exact ih _
noncomputable def forceLL {α : Type} {β : Sort _} (l : List (List α)) : (List (List α) → β) → β := List.rec (motive := fun _ => (List (List α) → β) → β) (fun k => k []) (fun a _ ih k => forceL a fun a' => ih fun l' => k (a' :: l')) l
theorem forceLL_eq {α : Type} {β : Sort _} (l : List (List α)) : ∀ k : List (List α) → β, forceLL l k = k l := by
  induction l with
  | nil => intro k; rfl
  | cons a l ih => intro k; exact (forceL_eq a _).trans (ih _)
noncomputable def mixStep (C : Ctx) (all : List Oper) (W : List (List Nat)) (k : Nat) (o : Oper) (rest : Env → AH → (Env → AH → Prop) → Prop) (e : Env) (H : AH) (K : Env → AH → Prop) : Prop :=
  let run (e : Env) : Prop := forceL (hidGo all k 0 W) fun hid => forceL (hide hid H).es fun es => match aopX C o.op e ⟨H.nx, es⟩ with
    | some (obs, v, δ, nx) => Chk (mixB C W k o e ⟨H.nx, es⟩ δ nx) ∧ obl obs (forceL δ fun δ' => rest (pute o.dst v e) ⟨nx, δ' ++ H.es⟩ K)
    | none => False
  let skip (e : Env) : Prop := rest (pute o.dst (.tup []) e) H K
  match o.guard with
  | none => run e
  | some (j, want) => match slotOf all j with
    | none => False
    | some g => match lk e g with
      | some .tru => (match want with | true => run e | false => skip e)
      | some .fls => (match want with | true => skip e | false => run e)
      | some (.bool b) => (b = true → (match want with | true => run ((g, .tru) :: e) | false => skip ((g, .tru) :: e))) ∧
          (b = false → (match want with | true => skip ((g, .fls) :: e) | false => run ((g, .fls) :: e)))
      | some (.tup []) => skip e
      | _ => False
noncomputable def vcMix (C : Ctx) (all : List Oper) (W : List (List Nat)) (l : List Oper) : Nat → Env → AH → (Env → AH → Prop) → Prop :=
  List.rec (motive := fun _ => Nat → Env → AH → (Env → AH → Prop) → Prop) (fun _ e H K => K e H) (fun o _ rest k => mixStep C all W k o (rest (k + 1))) l

/-- The names that each operation turns or makes (told ahead, by the text alone; a wrong answer fails a check). -/
def nmOf : AV → Option Nat
  | .ptr i _ => some i
  | .sl i _ _ _ => some i
  | .eptr i _ _ _ => some i
  | _ => none
def nlook (e : Env) (m : List (Nat × Option Nat)) (x : Operand) : Option Nat := match x with
  | .tmp t => (match m.find? (fun p => Nat.beq p.1 t) with
    | some p => p.2
    | none => (match lk e t with | some v => nmOf v | none => none))
  | _ => none
def nput (d : Option Tmp) (v : Option Nat) (m : List (Nat × Option Nat)) : List (Nat × Option Nat) := match d with | some t => (t, v) :: m | none => m
/-- The names that stand in values, and those that their cells lead to. -/
def nmL0 : List AV → List Nat
  | [] => []
  | x :: l => (match x with | .ptr i _ => [i] | .sl i _ _ _ => [i] | .eptr i _ _ _ => [i] | _ => []) ++ nmL0 l
def nmV1 : AV → List Nat
  | .agg l => nmL0 l
  | .tup l => nmL0 l
  | .fn _ _ l => nmL0 l
  | .ifc _ l => nmL0 l
  | x => nmL0 [x]
def nmVL : List AV → List Nat
  | [] => []
  | x :: l => nmV1 x ++ nmVL l
def nmIn (H : AH) : List Nat → List Nat
  | [] => []
  | j :: r => (match H.get j with | some (.cells _ l) => nmVL l | _ => []) ++ nmIn H r
def nmCl (H : AH) (l : List Nat) : List Nat := l ++ (nmIn H l ++ nmIn H (nmIn H l))
def nmArgs (e : Env) (m : List (Nat × Option Nat)) : List Operand → List Nat
  | [] => []
  | x :: l => (match x with
    | .tmp t => (match m.find? (fun p => Nat.beq p.1 t) with
      | some p => p.2.toList
      | none => (match lk e t with | some v => nmV1 v | none => []))
    | _ => []) ++ nmArgs e m l
/-- The name of a row that was made in this region and stands among the parts. -/
def namP (m : List (Nat × Option Nat)) : List (Nat × Operand) → Option Nat
  | [] => none
  | (_, .tmp t) :: r => (match m.find? (fun p => Nat.beq p.1 t) with
    | some (_, some i) => some i
    | _ => namP m r)
  | _ :: r => namP m r
def autoW (T : TypeId → Option TI) (XN : FuncId → Nat) (cl : List Nat → List Nat) (f : Op → Env → Option AV) (e : Env) : List Oper → Nat → List (Nat × Option Nat) → List (List Nat)
  | [], _, _ => []
  | o :: l, nx, m => match o.op with
    | .alloc _ | .box _ _ | .makeSlice _ _ _ => [nx] :: autoW T XN cl f e l (nx + 1) (nput o.dst (some nx) m)
    | .buildSlice _ _ parts => (nx :: (namP m parts.toList).toList) :: autoW T XN cl f e l (nx + 1) (nput o.dst (some nx) m)
    | .build _ parts => [] :: autoW T XN cl f e l nx (nput o.dst (namP m parts.toList) m)
    | .call { callee := .builtin .append, args, .. } => (nx :: (match args.toList with | s :: _ => (nlook e m s).toList | [] => [])) :: autoW T XN cl f e l (nx + 1) (nput o.dst (some nx) m)
    | .store _ a _ => (nlook e m a).toList :: autoW T XN cl f e l nx (nput o.dst none m)
    | .call { callee := .builtin .copy, args, .. } => (match args.toList with | s :: _ => (nlook e m s).toList | [] => []) :: autoW T XN cl f e l nx (nput o.dst none m)
    | .call { callee := .value (.func g), args, .. } => (match XN g with
      | 0 => [] :: autoW T XN cl f e l nx (nput o.dst none m)
      | 1 => cl (nmArgs e m args.toList) :: autoW T XN cl f e l nx (nput o.dst none m)
      | _ => (nx :: cl (nmArgs e m args.toList)) :: autoW T XN cl f e l (nx + 1) (nput o.dst (some nx) m))
    | .move x | .assign x | .fieldAddr _ x _ | .indexAddr _ x _ | .slice _ x _ _ _ | .nilCheck x => [] :: (match f o.op e, nlook e m x with
      | some v, none => autoW T XN cl f (pute o.dst v e) l nx m
      | some v, some i => autoW T XN cl f (pute o.dst v e) l nx (nput o.dst (some i) m)
      | none, r => autoW T XN cl f e l nx (nput o.dst r m))
    | .load _ _ => [] :: (match f o.op e with
      | some v => autoW T XN cl f (pute o.dst v e) l nx m
      | none => autoW T XN cl f e l nx (nput o.dst none m))
    | .convert s d _ => (match tdq T s, tdq T d with
      | .str, .slice _ => [nx] :: autoW T XN cl f e l (nx + 1) (nput o.dst (some nx) m)
      | _, _ => [] :: autoW T XN cl f e l nx (nput o.dst none m))
    | _ => [] :: autoW T XN cl f e l nx (nput o.dst none m)
/-- What a quiet operation gives, at the region's beginning. -/
def qval (C : Ctx) (H : AH) (o : Op) (e : Env) : Option AV := match aopF C.T C.S o e H with | some (_, v) => some v | none => none

/-- Is the first operation that is not quiet a call of a function that may not stand in a region of no fixed order? (Then what comes from it on must be in order.) -/
def callG (C : Ctx) : List Oper → Bool
  | [] => false
  | o :: l => bif isQ C o then callG C l else (match o.op with | .call { callee := .value (.func f), .. } => Nat.beq (C.XN f) 0 | _ => false)
/-- A long region that ends with one new thing, put into a slot. -/
def bigB (C : Ctx) (ops : List Oper) : Bool := Nat.ble 16 ops.length && (match ops.drop (quietN C ops) with
  | [o1, o2] => (match o1.op, o2.op with
    | .buildSlice _ _ _, .assign _ => true
    | .box _ _, .assign _ => true
    | .makeSlice _ _ _, .assign _ => true
    | _, _ => false)
  | _ => false)
noncomputable def vcRegion (C : Ctx) (ops : List Oper) (draw : Bool) (e : Env) (H : AH) (K : Env → AH → Prop) : Prop :=
  match draw with
  | false => vcOps C ops false ops e H K
  | true => match Nat.ble ops.length (quietN C ops + 1) || callG C ops || bigB C ops with
    | true => Chk (planOK ops.toArray && tailT ops (quietN C ops)) ∧ vcOps C ops true (ops.take (quietN C ops)) e H fun e' H' => vcOps C ops false (ops.drop (quietN C ops)) e' H' K
    | false => forceLL (autoW C.T C.XN (nmCl H) (qval C H) e ops H.nx []) fun W => Chk (planOK ops.toArray && wok ops 0 W) ∧ vcMix C ops W ops 0 e H K

structure KK where
  nor : Env → AH → Prop
  ext : Nat → Env → AH → Prop
  ret : Env → AH → Prop

/-! ### One frame and heap out of another -/
def matN (σ : Names) (i j : Nat) : Prop := match σ[i]? with | some (some j') => (bif Nat.beq j j' then True else False) | _ => False
def bP (b : Bool) : Prop := bif b then True else False
/-- What stands for x stands for y too; the names of y are those of x by σ. -/
def mat0 (σ : Names) : AV → AV → Prop
  | .int k a, .int k' b => bif beqK k k' then a = b else False
  | .bool a, .bool b => a = b
  | .tru, .bool b => true = b
  | .fls, .bool b => false = b
  | .tru, .tru => True
  | .fls, .fls => True
  | .str a, .str b => a = b
  | .nilp, .nilp => True
  | .nils, .nils => True
  | .nilfn, .nilfn => True
  | .ptr j o, .ptr i o' => (match σ[i]? with | some (some j') => (bif Nat.beq j j' then o = o' else False) | _ => False)
  | .sl j sz o n, .sl i sz' o' n' => (match σ[i]? with | some (some j') => (bif Nat.beq j j' && Nat.beq sz sz' then (o = o' ∧ n = n') else False) | _ => False)
  | .nils, .sl i sz o n => (match σ[i]? with | some none => n = 0 | _ => False)
  | .eptr j sz a f, .eptr i sz' a' f' => (match σ[i]? with | some (some j') => (bif Nat.beq j j' && Nat.beq sz sz' then (a = a' ∧ f = f') else False) | _ => False)
  | .ro sz n get, .ro sz' n' get' => bif Nat.beq sz sz' then (n = n' ∧ ∀ j, j < n' → get j = get' j) else False
  | .nils, .ro sz n get => n = 0
  | .roi k l, .roi k' l' => bif beqK k k' then l = l' else False
  | .nils, .roi k l => l = []
  | .rop x, .rop y => x = y
  | .val x, .val y => x = y
  | .fn f k [], .fn g k' [] => bif Nat.beq f g && Nat.beq k k' then True else False
  | _, .any => True
  | _, _ => False
/-- The parts one by one. -/
noncomputable def matL (f : AV → AV → Prop) (l : List AV) : List AV → Prop :=
  List.rec (motive := fun _ => List AV → Prop) (fun m => match m with | [] => True | _ :: _ => False)
    (fun x l' ih m => match m with
      | [] => False
      | y :: m' => match l', m' with
        | [], [] => f x y
        | _, _ => f x y ∧ ih m') l
noncomputable def matL0 (σ : Names) : List AV → List AV → Prop := matL (mat0 σ)
/-- A part of a function's value. -/
noncomputable def matA (σ : Names) : AV → AV → Prop
  | .agg l, .agg m => matL0 σ l m
  | x, y => mat0 σ x y
noncomputable def mat1 (σ : Names) : AV → AV → Prop
  | .agg l, .agg m => matL0 σ l m
  | .fn f k l, .fn g k' m => bif Nat.beq f g && Nat.beq k k' then matL (matA σ) l m else False
  | .ifc t l, .ifc t' m => bif Nat.beq t t' then matL (matA σ) l m else False
  | x, y => mat0 σ x y
noncomputable def matL1 (σ : Names) : List AV → List AV → Prop := matL (mat1 σ)
noncomputable def mat (σ : Names) : AV → AV → Prop
  | .tup l, .tup m => matL1 σ l m
  | x, y => mat1 σ x y
noncomputable def matE (σ : Names) : Ent → Ent → Prop
  | .cells t l, .cells t' m => bif Nat.beq t t' then matL1 σ l m else False
  | .ints e k l, .ints e' k' m => bif Nat.beq e e' && beqK k k' then l = m else False
  | .recs e sz n get, .recs e' sz' n' get' => bif Nat.beq e e' && Nat.beq sz sz' then (n = n' ∧ ∀ j, j < n' → get j = get' j) else False
  | .recs1 e sz n get f y, .recs1 e' sz' n' get' f' y' => bif Nat.beq e e' && (Nat.beq sz sz' && Nat.beq f f') then ((n = n' ∧ ∀ j, j < n' → get j = get' j) ∧ mat0 σ y y') else False
  | _, _ => False
def nilE : Ent → Prop
  | .ints _ _ l => l = []
  | .recs _ _ n _ => n = 0
  | _ => False

noncomputable def leE (σ : Names) (e : Env) (l : Env) : Prop :=
  List.rec (motive := fun _ => Prop) True (fun p _ ih => (match lk e p.1 with | some x => mat σ x p.2 | none => False) ∧ ih) l
noncomputable def leH (σ : Names) (H : AH) (l : List (Nat × Option Ent)) : Prop :=
  List.rec (motive := fun _ => Prop) True (fun p _ ih => match p.2 with
    | some n => (match σ[p.1]? with
      | some (some j) => (match H.get j with | some x => matE σ x n | none => False)
      | some none => nilE n
      | none => False) ∧ ih
    | none => ih) l
def nodupN : Names → Bool
  | [] => true
  | none :: r => nodupN r
  | some j :: r => !(r.any fun x => match x with | some i => Nat.beq i j | none => false) && nodupN r

/-- The first p names are the same. -/
def fixN (σ : Names) : Nat → Bool
  | 0 => true
  | p + 1 => (match σ[p]? with | some (some j) => Nat.beq j p | _ => false) && fixN σ p

noncomputable def Le (p : Nat) (σ : Names) (e : Env) (H : AH) (e' : Env) (H' : AH) : Prop :=
  Chk (Nat.beq σ.length H'.nx && nodupN σ && fixN σ p) ∧ leE σ e e' ∧ leH σ H H'.es

/-- Frame and heap may be told anew behind region id. -/
def nms0 : AV → List Nat
  | .ptr i _ => [i]
  | .sl i _ _ _ => [i]
  | .eptr i _ _ _ => [i]
  | _ => []
/-- Entries that are given up. -/
def delN (H : AH) : List Nat → AH
  | [] => H
  | i :: r => delN (H.del i) r
/-- A variable and the rows in it as one that is only read. -/
def viewF (H : AH) : AV → QR
  | .ptr i 0 => (match H.get i with
    | some (.cells _ l) => (match viewL H l with
      | some (p, r) => some (p, .rop (.agg r))
      | none => none)
    | _ => none)
  | x => view0 H x
def nmsC : List AV → List Nat
  | [] => []
  | x :: l => nms0 x ++ nmsC l
def nmsF (H : AH) : AV → List Nat
  | .ptr i 0 => i :: (match H.get i with
    | some (.cells _ l) => nmsC l
    | _ => [])
  | x => nms0 x
/-- The rows of some slots are given up: they are only read from then on. -/
noncomputable def frzGo (ts : List Nat) : Env → AH → (Env → AH → Prop) → Prop :=
  List.rec (motive := fun _ => Env → AH → (Env → AH → Prop) → Prop) (fun e H K => K e H) (fun t _ ih e H K => match lk e t with
    | some v => (match viewF H v with
      | some (q, r) => obl q (ih ((t, r) :: e) (delN H (nmsF H v)) K)
      | none => False)
    | none => False) ts
noncomputable def cutK (C : Ctx) (id : Nat) (K : Env → AH → Prop) (e : Env) (H : AH) : Prop :=
  match C.cut id with
  | true => ∃ (e' : Env) (H' : AH) (σ : Names), Le C.p σ e H e' H' ∧ K e' H'
  | false => (match C.cut (Nat.add id 1000000) with
    | true => ∃ ts : List Nat, frzGo ts e H fun e1 H1 => ∃ (e' : Env) (H' : AH) (σ : Names), Le C.p σ e1 H1 e' H' ∧ K e' H'
    | false => K e H)

/-- What is to be shown of a loop: what holds at each round's head, told by g. -/
noncomputable def LoopVC (p : Nat) (e : Env) (H : AH) (round : Env → AH → (Env → AH → Prop) → Prop) : Prop :=
  ∃ (γ : Type) (E : γ → Env) (A : γ → AH) (φ : γ → Prop) (μ : γ → Nat),
    (∃ g σ, φ g ∧ Le p σ e H (E g) (A g)) ∧ ∀ g, φ g → round (E g) (A g) fun e' H' => ∃ g' σ, φ g' ∧ μ g' < μ g ∧ Le p σ e' H' (E g') (A g')

noncomputable def vc (C : Ctx) (c : Code) : Env → AH → KK → Prop :=
  Code.rec (motive := fun _ => Env → AH → KK → Prop)
    (fun e H K => K.nor e H)
    (fun id ops draw e H K => vcRegion C ops.toList draw e H (cutK C id K.nor))
    (fun _ _ va vb e H K => va e H ⟨fun e' H' => vb e' H' K, K.ext, K.ret⟩)
    (fun c _ _ vx vy e H K => match evA e c with
      | some .tru => vx e H K
      | some .fls => vy e H K
      | some (.bool b) => (b = true → vx e H K) ∧ (b = false → vy e H K)
      | _ => False)
    (fun id _ vb e H K => vb e H ⟨K.nor, fun i e' H' => bif Nat.beq i id then K.nor e' H' else K.ext i e' H', K.ret⟩)
    (fun _ vb e H K => LoopVC C.p e H fun e' H' K' => vb e' H' ⟨K', K.ext, K.ret⟩)
    (fun _ _ _ _ _ _ _ _ _ => False)
    (fun id e H K => K.ext id e H)
    (fun _ _ _ _ _ => False)
    (fun _ _ _ _ => False)
    (fun _ _ _ _ => False)
    (fun e H K => K.ret e H)
    (fun _ _ _ _ => False) c

def resV (T : TypeId → Option TI) (e : Env) (H : AH) : List ResultVar → Option (List AV)
  | [] => some []
  | .tmp t :: r => (match lk e t, resV T e H r with | some v, some l => some (v :: l) | _, _ => none)
  | .cell a ty :: r => (match lk e a, resV T e H r with
    | some p, some l => (match aload T ty H p with | some ([], v) => some (v :: l) | _ => none)
    | _, _ => none)

def resA (T : TypeId → Option TI) (fn : Func) (e : Env) (H : AH) (K : AV → AH → Prop) : Prop :=
  match resV T e H fn.results.toList with
  | some [v] => K v H
  | some l => K (.tup l) H
  | none => False

/-- A result as one that names nothing. -/
def viewR (H : AH) : AV → QR
  | .tup l => (match viewAs H l with
    | some (p, r) => some (p, .tup r)
    | none => none)
  | x => view1 H x
/-- What came back stands for v. -/
noncomputable def Ret (v : AV) (v' : AV) (H' : AH) : Prop := match viewR H' v' with | some (obs, r) => obl obs (mat [] r v) | none => False

def args0 : Nat → List AV → Env
  | _, [] => []
  | n, v :: l => (n, v) :: args0 (n + 1) l

/-- Are all slots that code writes below n? -/
def dstB (n : Nat) : Code → Bool
  | .region _ ops _ => ops.toList.all fun o => match o.dst with | some t => Nat.blt t n | none => true
  | .seq a b | .cond _ a b => dstB n a && dstB n b
  | .block _ c | .loop c => dstB n c
  | _ => true

/-- The conditions of a function's body. -/
noncomputable def vcFn (C : Ctx) (fn : Func) (args : List AV) (H : AH) (K : AV → AH → Prop) : Prop :=
  match fn.body with
  | some c => vc C c (args0 0 args) H ⟨fun e H => resA C.T fn e H K, fun _ _ _ => False, fun e H => resA C.T fn e H K⟩
  | none => False
end Go.Proofs.Ytdiflkabpjnncaa
