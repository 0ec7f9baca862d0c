/- Abs2: the evaluator, on: regions whose order is drawn, code, functions. Definitions only. Conditions: none. -/
import Derived.Test.YtknhmkijmbcnhaaAbs1
set_option linter.unusedVariables false
set_option linter.unusedSimpArgs false
namespace Go.Abs
/-- Of each operation those that surely come ahead of it, whatever order is drawn. -/
def ancA : List Oper → List (List Nat) → List (List Nat)
  | [], acc => acc
  | o :: l, acc => ancA l (acc ++ [(o.after.toList.filter (Region.binds .any)).flatMap fun e => e.on :: acc.getD e.on []])
/-- Operations that leave the blocks that there were as they were. -/
def extOp : Op → Bool
  | .load .. | .convert .. | .slice .. | .alloc .. | .box .. | .buildSlice .. | .makeSlice .. | .range .. => true
  | _ => false
def callOp : Op → Bool
  | .call { callee := .value _, .. } => true
  | .store .. => true
  | _ => false
def pureAt (ops : Array Oper) (i : Nat) : Bool :=
  match ops[i]? with
  | some o => pureOp o.op
  | none => true
/-- Is i ordered against each operation that is not pure. -/
def mutA (ops : Array Oper) (anc : List (List Nat)) (i : Nat) : Bool :=
  (List.range ops.size).all fun j => j == i || pureAt ops j || (if j < i then (anc.getD i []).contains j else (anc.getD j []).contains i)
def chkOne (ops : Array Oper) (anc : List (List Nat)) (i : Nat) : Bool :=
  match ops[i]? with
  | none => true
  | some o =>
    (pureOp o.op || extOp o.op || callOp o.op || mutA ops anc i) &&
    (match o.op with | .select .. => false | _ => true) &&
    (o.after.all fun e => !Region.binds .any e || decide (e.on < i)) &&
    (List.range i).all fun j => match ops[j]? with
      | some p => p.apart ops o || (anc.getD i []).contains j
      | none => true
def chkA (ops : Array Oper) : Bool := (List.range ops.size).all (chkOne ops (ancA ops.toList []))
/-- No operation from j on, up to k, writes what j looks at. -/
def looksFree (ops : Array Oper) (j k : Nat) : Bool :=
  (List.range k).all fun p => decide (p < j) || match ops[p]?, ops[j]? with
    | some q, some o => match q.dst with
      | some t => !(o.looksAt ops).contains t
      | none => true
    | _, _ => true
/-- A step that is not ordered against some loads that stand ahead of it in the text: what these read is the same behind it. -/
def flexA (c : Ctx) (ops : Array Oper) (anc : List (List Nat)) (k : Nat) (fr : AFrame) (h h' : AHeap) : Bool :=
  (List.range ops.size).all fun j => j == k || pureAt ops j || (if j < k then (anc.getD k []).contains j else (anc.getD j []).contains k) ||
    (decide (j < k) && looksFree ops j k && match ops[j]? with
      | some o => match o.op with
        | .load t x => (!wantA ops fr o) || (match evA c fr x with
          | some a => decide (loadA c.P h t a = loadA c.P h' t a)
          | none => false)
        | _ => false
      | none => true)
def mtF (c : Ctx) (ops : Array Oper) : Nat → AFrame → AHeap → AHeap → Bool := fun k fr h h' => mutA ops (ancA ops.toList []) k || flexA c ops (ancA ops.toList []) k fr h h'
/-- The operations of a region that draws its order, in the text's order; an operation that is not ordered against all others leaves the old blocks alone. -/
def evDraw (c : Ctx) (call : CallF) (n : Nat) (ops : Array Oper) (mt : Nat → AFrame → AHeap → AHeap → Bool) : List Oper → Nat → AFrame → AHeap → Option (AFrame × AHeap)
  | [], _, fr, h => some (fr, h)
  | o :: rest, k, fr, h =>
    if wantA ops fr o then
      match evOp c call fr o.op h with
      | some (v, h') => if pureOp o.op || extOp o.op || mt k fr h h' || decide (h'.take h.length = h) then
          match putA n fr o.dst v with
          | some fr' => evDraw c call n ops mt rest (k + 1) fr' h'
          | none => none
        else none
      | none => none
    else match putA n fr o.dst undef with
      | some fr' => evDraw c call n ops mt rest (k + 1) fr' h
      | none => none
def evRegion (c : Ctx) (call : CallF) (n : Nat) (ops : Array Oper) (draw : Bool) (fr : AFrame) (h : AHeap) : Option (AFrame × AHeap) :=
  if draw then
    if chkA ops then evDraw c call n ops (mtF c ops) ops.toList 0 fr h else none
  else evOps c call n ops ops.toList fr h
inductive AExit where
  | normal
  | exit (id : Nat)
  | ret
  deriving DecidableEq
abbrev CodeR := Option (AExit × AFrame × AHeap)
def loopA (f : AFrame → AHeap → CodeR) : Nat → AFrame → AHeap → CodeR
  | 0, _, _ => none
  | k + 1, fr, h => match f fr h with
    | some (.normal, fr', h') => loopA f k fr' h'
    | r => r
def evC (c : Ctx) (call : CallF) (n k : Nat) : Code → AFrame → AHeap → CodeR
  | .skip, fr, h => some (.normal, fr, h)
  | .region _ ops draw, fr, h => match evRegion c call n ops draw fr h with
    | some (fr', h') => some (.normal, fr', h')
    | none => none
  | .seq a b, fr, h => match evC c call n k a fr h with
    | some (.normal, fr', h') => evC c call n k b fr' h'
    | r => r
  | .cond x a b, fr, h => match evA c fr x with
    | some (.bool true) => evC c call n k a fr h
    | some (.bool false) => evC c call n k b fr h
    | _ => none
  | .block id a, fr, h => match evC c call n k a fr h with
    | some (.exit i, fr', h') => if i = id then some (.normal, fr', h') else some (.exit i, fr', h')
    | r => r
  | .loop a, fr, h => loopA (evC c call n k a) k fr h
  | .exit id, fr, h => some (.exit id, fr, h)
  | .ret, fr, h => some (.ret, fr, h)
  | _, _, _ => none
def resA (P : Program) (fr : AFrame) (h : AHeap) : List ResultVar → Option (List Value)
  | [] => some []
  | .tmp t :: l => match resA P fr h l with
    | some vs => some (fget fr t :: vs)
    | none => none
  | .cell a t :: l => match loadA P h t (fget fr a), resA P fr h l with
    | some v, some vs => some (v :: vs)
    | _, _ => none
def oneA : List Value → Value
  | [v] => v
  | vs => .tuple vs.toArray
def evBody (c : Ctx) (call : CallF) (k : Nat) (fn : Func) (args : List Value) (h : AHeap) : Option (Value × AHeap) :=
  match fn.body with
  | some b =>
    if fn.name == "runtime.NumGoroutine" then none else
    match evC c call fn.ntmps k b args h with
    | some (.exit _, _, _) => none
    | some (_, fr, h') => (resA c.P fr h' fn.results.toList).map fun vs => (oneA vs, h')
    | none => none
  | none => none
/-- A call of function f: what it hands back, and the heap behind it. k: how deep calls go, and how often a loop may go round. -/
def evF (c : Ctx) : Nat → CallF
  | 0, _, _, _ => none
  | k + 1, f, args, h =>
    match c.prim f with
    | some p => p args h
    | none => match c.P.funcs[f]? with
      | some fn => evBody c (evF c k) k fn args h
      | none => none
end Go.Abs
