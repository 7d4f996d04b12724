
/- Development only (never in a claim): prints frames and heaps at loops, and what a goal asks next. -/
import Lean
import Derived.Test.YtepjmnkleajibaaA
import Derived.Test.YtepjmnkleajibaaE18
open Lean Meta Elab Tactic
namespace GoDevTools
open Go.Proofs.Ytepjmnkleajibaa

partial def stopAt (stops : List Name) (e : Lean.Expr) : MetaM Expr := do
  let e ← whnfCore (← instantiateMVars e)
  match e.getAppFn with
  | .const n _ =>
    if n == ``cutK && stops.contains n then
      let c ← whnf (mkApp2 (mkConst ``Ctx.cut) (e.getArg! 0) (e.getArg! 1))
      if c.isConstOf ``Bool.true then return e else go e
    else if stops.contains n then return e else go e
  | _ => go e
where go (e : Lean.Expr) : MetaM Expr := do
  match ← unfoldDefinition? e with
  | some e' => stopAt stops e'
  | none => return e

partial def natOf (e : Lean.Expr) : MetaM (Option Nat) := do
  let e ← whnf (← instantiateMVars e)
  match e.rawNatLit? with
  | some n => return some n
  | none => (match e with
    | .app (.const ``Nat.succ _) x => do match ← natOf x with | some n => return some (n+1) | none => return none
    | .const ``Nat.zero _ => return some 0
    | _ => match e.getAppFnArgs with
      | (``OfNat.ofNat, #[_, x, _]) => natOf x
      | _ => return none)

def leaf (e : Lean.Expr) : MetaM String := do
  let e ← instantiateMVars e
  let e ← Core.betaReduce e
  let s := toString (← withOptions (fun o => (o.setBool `pp.proofs false)) (ppExpr e))
  let s := (s.replace "\n" " ")
  if s.any (fun c => c == ' ') && !(s.startsWith "[") then return "(" ++ s ++ ")" else return s
def natS (e : Lean.Expr) : MetaM String := do
  match ← natOf e with | some n => return toString n | none => leaf e

partial def listOf (e : Lean.Expr) : MetaM (Option (List Lean.Expr)) := do
  let e ← whnf e
  match e.getAppFnArgs with
  | (``List.nil, _) => return some []
  | (``List.cons, #[_, a, r]) => do match ← listOf r with | some l => return some (a :: l) | none => return none
  | _ => return none

def kindS (e : Lean.Expr) : MetaM String := do
  match (← whnf e).getAppFn with | .const n _ => return "." ++ n.getString! | _ => leaf e

mutual
partial def avS (ρ : Nat → String) (e : Lean.Expr) : MetaM String := do
  let e ← whnf e
  match e.getAppFnArgs with
  | (``AV.int, #[k, n]) => return s!".int {← kindS k} {← intS n}"
  | (``AV.bool, #[b]) => return s!".bool {← leaf b}"
  | (``AV.tru, _) => return ".tru"
  | (``AV.fls, _) => return ".fls"
  | (``AV.str, #[s]) => return s!".str {← leaf s}"
  | (``AV.ptr, #[i, o]) => return s!".ptr {← nmS ρ i} {← natS o}"
  | (``AV.nilp, _) => return ".nilp"
  | (``AV.sl, #[i, sz, o, n]) => return s!".sl {← nmS ρ i} {← natS sz} {← natS o} {← natS n}"
  | (``AV.nils, _) => return ".nils"
  | (``AV.eptr, #[i, sz, j, f]) => return s!".eptr {← nmS ρ i} {← natS sz} {← natS j} {← natS f}"
  | (``AV.ro, #[sz, n, g]) => return s!".ro {← natS sz} {← natS n} {← leaf g}"
  | (``AV.roi, #[k, l]) => return s!".roi {← kindS k} {← leaf l}"
  | (``AV.rop, #[x]) => return s!".rop ({← avS ρ x})"
  | (``AV.agg, #[l]) => return s!".agg {← avsS ρ l}"
  | (``AV.tup, #[l]) => return s!".tup {← avsS ρ l}"
  | (``AV.fn, #[f, k, l]) => return s!".fn F⟦{← natS f}⟧ {← natS k} {← avsS ρ l}"
  | (``AV.nilfn, _) => return ".nilfn"
  | (``AV.val, #[v]) => return s!".val {← leaf v}"
  | (``AV.any, _) => return ".any"
  | _ => leaf e
partial def avsS (ρ : Nat → String) (l : Lean.Expr) : MetaM String := do
  match ← listOf l with
  | some xs => return "[" ++ ", ".intercalate (← xs.mapM (avS ρ)) ++ "]"
  | none => leaf l
partial def nmS (ρ : Nat → String) (i : Lean.Expr) : MetaM String := do
  match ← natOf i with | some n => return ρ n | none => leaf i
partial def intS (e : Lean.Expr) : MetaM String := leaf e
end

def entS (ρ : Nat → String) (e : Lean.Expr) : MetaM String := do
  let e ← whnf e
  match e.getAppFnArgs with
  | (``Ent.cells, #[t, l]) => return s!".cells T⟦{← natS t}⟧ {← avsS ρ l}"
  | (``Ent.ints, #[t, k, l]) => return s!".ints T⟦{← natS t}⟧ {← kindS k} {← leaf l}"
  | (``Ent.recs, #[t, sz, n, g]) => return s!".recs T⟦{← natS t}⟧ {← natS sz} {← natS n} {← leaf g}"
  | _ => leaf e

/-- names that a value reaches -/
partial def namesOf (e : Lean.Expr) : MetaM (List Nat) := do
  let e ← whnf e
  match e.getAppFnArgs with
  | (``AV.ptr, #[i, _]) | (``AV.sl, #[i, _, _, _]) | (``AV.eptr, #[i, _, _, _]) => return (← natOf i).toList
  | (``AV.agg, #[l]) | (``AV.tup, #[l]) | (``AV.fn, #[_, _, l]) => do
    match ← listOf l with
    | some xs => return (← xs.mapM namesOf).flatten
    | none => return []
  | _ => return []

partial def tmpsIn (e : Lean.Expr) : MetaM (List Nat) := do
  let st ← IO.mkRef (#[] : Array Nat)
  let visit (x : Lean.Expr) : MetaM Bool := do
    match x.getAppFnArgs with
    | (``Go.Operand.tmp, #[n]) => do (match ← natOf n with | some k => st.modify (·.push k) | none => pure ()); return false
    | (``Go.ResultVar.tmp, #[n]) => do (match ← natOf n with | some k => st.modify (·.push k) | none => pure ()); return false
    | (``Go.ResultVar.cell, #[n, _]) => do (match ← natOf n with | some k => st.modify (·.push k) | none => pure ()); return false
    | (n, _) => do
      if !n.isAnonymous && x.isConst then
        let c ← getConstInfo n
        if c.type.isConstOf ``Go.Func then
          match c.value? with
          | some v => (match v.getAppFnArgs with
            | (``Go.Func.mk, ars) => for a in ars do
                if (← inferType a).getAppFn.isConstOf ``Array then
                  let rec go (y : Lean.Expr) (d : Nat) : MetaM Unit := do
                    match d with
                    | 0 => pure ()
                    | d + 1 =>
                      match y.getAppFnArgs with
                      | (``Go.ResultVar.tmp, #[n]) => (match ← natOf n with | some k => st.modify (·.push k) | none => pure ())
                      | (``Go.ResultVar.cell, #[n, _]) => (match ← natOf n with | some k => st.modify (·.push k) | none => pure ())
                      | _ => for z in y.getAppArgs do go z d
                  go a 40
            | _ => pure ())
          | none => pure ()
      return true
  let _ ← (Meta.transform e (pre := fun x => do if ← visit x then return .continue else return .done x))
  return (← st.get).toList.eraseDups

def envPairs (e : Lean.Expr) : MetaM (List (Nat × Lean.Expr)) := do
  match ← listOf e with
  | none => return []
  | some xs =>
    let mut out : List (Nat × Lean.Expr) := []
    for x in xs do
      match (← whnf x).getAppFnArgs with
      | (``Prod.mk, #[_, _, t, v]) => do
        match ← natOf t with
        | some k => if !(out.any (·.1 == k)) then out := out ++ [(k, v)]
        | none => pure ()
      | _ => pure ()
    return out
def heapPairs (H : Lean.Expr) : MetaM (Nat × List (Nat × Option Lean.Expr)) := do
  let H ← whnf H
  match H.getAppFnArgs with
  | (``AH.mk, #[n, es]) => do
    let n := (← natOf n).getD 999
    match ← listOf es with
    | none => return (n, [])
    | some xs =>
      let mut out : List (Nat × Option Lean.Expr) := []
      for x in xs do
        match (← whnf x).getAppFnArgs with
        | (``Prod.mk, #[_, _, t, v]) => do
          match ← natOf t with
          | some k => do
            let w ← whnf v
            let o : Option Lean.Expr := match w.getAppFnArgs with
              | (``Option.some, #[_, en]) => some en
              | _ => none
            if !(out.any (·.1 == k)) then out := out ++ [(k, o)]
          | none => pure ()
        | _ => pure ()
      return (n, out)
  | _ => return (999, [])

def frameText (p : Nat) (e H : Lean.Expr) (live : Option (List Nat)) : MetaM (String × String × String) := do
  let ps0 ← envPairs e
  let ps1 := match live with | some l => ps0.filter (fun (q : Nat × Lean.Expr) => l.contains q.1) | none => ps0
  let ps := ps1.toArray.qsort (fun a b => a.1 < b.1) |>.toList
  let (_, hs) ← heapPairs H
  -- names in use
  let mut names : List Nat := List.range p
  for (_, v) in ps do names := names ++ (← namesOf v)
  names := names.eraseDups
  for _ in [0, 1, 2] do
    for k in names do
      match hs.find? (·.1 == k) with
      | some (_, some en) => do
        match (← whnf en).getAppFnArgs with
        | (``Ent.cells, #[_, l]) => do
          match ← listOf l with
          | some xs => for x in xs do names := (names ++ (← namesOf x)).eraseDups
          | none => pure ()
        | _ => pure ()
      | _ => pure ()
  let inh := names.filter (fun k => hs.any (fun q => q.1 == k && q.2.isSome))
  let rest := (inh.filter (· ≥ p)).toArray.qsort (· < ·) |>.toList
  let order := List.range p ++ rest
  let ρ := fun n => match order.idxOf? n with | some i => toString i | none => s!"DEAD{n}"
  let mut es : List String := []
  let mut i := 0
  for k in order do
    match hs.find? (·.1 == k) with
    | some (_, some en) => es := es ++ [s!"({i}, some ({← entS ρ en}))"]
    | _ => pure ()
    i := i + 1
  let evs ← ps.mapM (fun (q : Nat × Lean.Expr) => do return s!"({q.1}, {← avS ρ q.2})")
  let σ := "[" ++ ", ".intercalate (order.map fun k => s!"some {k}") ++ "]"
  return ("[" ++ ", ".intercalate evs ++ "]", s!"⟨{order.length}, [" ++ ", ".intercalate es ++ "]⟩", σ)

/-- the frame, the heap and the names at a loop's head, or at a cut -/
elab "loopq" : tactic => do
  let g ← getMainGoal
  g.withContext do
    let t ← stopAt [``LoopVC, ``rangeVC, ``cutK, ``Exists, ``RetF, ``Ret] (← g.getType)
    match t.getAppFnArgs with
    | (``LoopVC, #[p, e, H, round]) => do
      let live ← tmpsIn round
      let (a, b, c) ← frameText ((← natOf p).getD 0) e H (some live)
      logInfo m!"LOOP\n    refine ⟨Nat, fun i => {a},\n      fun i => {b},\n      fun i => PHI, fun i => MU, ⟨0, {c}, ?_, ?_⟩, fun i hi => ?_⟩"
    | (``rangeVC, #[C, _, gg, ps, asg, body, e, H, K]) => do
      let l1 ← tmpsIn gg
      let l2 ← tmpsIn asg
      let l3 ← tmpsIn body
      let l4 ← tmpsIn K
      let p ← whnf (mkApp (mkConst ``Ctx.p) C)
      let (a, b, c) ← frameText ((← natOf p).getD 0) e H (some (l1 ++ l2 ++ l3 ++ l4))
      logInfo m!"LOOP RANGE\n    refine ⟨{a},\n      {b}, {c}, ?_, ?_⟩"
    | (``cutK, #[C, id, K, e, H]) => do
      let live ← tmpsIn K
      let p ← whnf (mkApp (mkConst ``Ctx.p) C)
      let (a, b, c) ← frameText ((← natOf p).getD 0) e H (some live)
      logInfo m!"CUT {id}\n    refine ⟨{a},\n      {b}, {c}, ?_, ?_⟩"
    | (n, ars) => do
      logInfo m!"AT {n}: {← if n == ``Exists then pure (ars[0]!) else pure t}"

/-- a check, by the kernel at once -/
elab "kchk" : tactic => do
  let g ← getMainGoal
  g.withContext do
    let ty ← instantiateMVars (← g.getType)
    let ty ← whnfCore ty
    match ty.getAppFnArgs with
    | (``Chk, #[b]) => do
      let pf := mkApp2 (mkConst ``Chk.mk) b (mkApp2 (mkConst ``Eq.refl [Level.succ Level.zero]) (mkConst ``Bool) (mkConst ``Bool.true))
      if ty.hasExprMVar then
        g.assign pf
      else
        let e ← mkAuxTheorem ty pf (zetaDelta := true)
        g.assign e
    | _ => throwError "no check"
/-- what each goal asks first -/
elab "peek" : tactic => do
  let gs ← getGoals
  for g in gs do
    g.withContext do
      let ty ← g.getType
      let t ← stopAt [``LoopVC, ``rangeVC, ``cutK, ``Exists, ``And, ``RetF, ``Ret, ``Eq, ``False, ``True] ty
      let tag := ((toString (← g.getTag)).splitOn "._@").head!
      let s ← match t.getAppFnArgs with
        | (``And, #[a, b]) => do
          let a' ← instantiateMVars a
          let bb ← stopAt [``LoopVC, ``cutK, ``Exists, ``And, ``RetF, ``Ret] b
          let head := match bb.getAppFn with | .const n _ => toString n | .forallE .. => "forall" | _ => "?"
          let sa := s!"{← ppExpr a'}"
          let extra ← (match b with
            | .forallE _ d _ _ => do return " || " ++ ((s!"{← ppExpr d}").take 300).toString
            | _ => return "")
          pure s!"{(sa.take 700).toString} ∧ <{head}{extra}>"
        | (``LoopVC, _) => pure "LOOP"
        | (``rangeVC, _) => pure "RANGE"
        | (``cutK, #[_, id, _, _, _]) => pure s!"CUT {← ppExpr id}"
        | (``RetF, #[_, _, _, _, H]) => do
          let (_, hs) ← heapPairs H
          let ρ := fun (n : Nat) => toString n
          let l ← hs.mapM fun (q : Nat × Option Lean.Expr) => do (match q.2 with | some en => return s!"{q.1}: {((← entS ρ en).take 150).toString}" | none => return s!"{q.1}: gone")
          pure s!"RETF {l}"
        | (``Ret, #[v, v', _]) => pure s!"RET {← ppExpr v} {((s!"{← ppExpr v'}").take 300).toString}"
        | (``Exists, #[ty, _]) => pure s!"∃ : {← ppExpr ty}"
        | _ => pure ((s!"{← ppExpr t}").take 700 |>.toString)
      let mut hs : List String := []
      for d in (← getLCtx) do
        if d.userName.eraseMacroScopes == `hfk then
          hs := (((s!"{← ppExpr (← instantiateMVars d.type)}").take 200).toString) :: hs
      let hh := " & ".intercalate (hs.take 3)
      let tg := (tag.takeEnd 60).toString
      logInfo m!"PEEK [{tg}] {s}\n      hfk: {hh}"
end GoDevTools
