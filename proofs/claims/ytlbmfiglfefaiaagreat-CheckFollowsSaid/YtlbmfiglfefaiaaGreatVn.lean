/- Regions whose operations come in an order that is drawn: plans. -/
import Derived.Test.YtlbmfiglfefaiaaGreatVm
namespace Go.Vv

/-- Operations that may come early or late: they change nothing. -/
def isNew : Op → Bool
  | .alloc _ | .box .. | .makeMap _ none | .makeSlice .. => true
  | _ => false

def isMov : Op → Bool
  | .move _ | .pick .. | .build .. | .buildSlice .. | .load .. | .nilCheck _ | .binOp .. | .unOp .. | .convert .. | .makeInterface .. | .makeFunc .. | .slice ..
  | .fieldAddr .. | .field .. | .indexAddr .. | .index .. | .lookup .. | .typeAssert .. | .extract .. => true
  | .call { callee := .builtin .len, .. } | .call { callee := .builtin .min, .. } | .call { callee := .builtin .max, .. } => true
  | o => isNew o

/-- Operations whose value may be another in another heap. -/
def readsHeap : Op → Bool
  | .load .. | .convert .. | .lookup .. => true
  | .call { callee := .builtin .len, .. } => true
  | _ => false

def opTmps (op : Op) : List Tmp := op.operands.toList.filterMap fun x => match x with | .tmp t => some t | _ => none

/-- The slots that an operation looks at. -/
def slotsRead (ops : Array Oper) (o : Oper) : List Tmp :=
  opTmps o.op ++ (match o.guard with | some (j, _) => ((ops[j]?).bind (·.dst)).toList | none => [])

def opAt (ops : Array Oper) (i : Nat) : Oper := ops.getD i default
def hasBit (b : Array Nat) (j i : Nat) : Bool := (b.getD j 0).testBit i
/-- What an operation waits for in whatever order. -/
def waits (o : Oper) : List Nat := (o.after.toList.filter (Region.binds .any)).map (·.on)

/-- Every bit of a mask is an edge or a bit behind one. -/
def chkMask (ops : Array Oper) (b : Array Nat) : Bool :=
  (List.range ops.size).all fun j => (waits (opAt ops j)).all (fun k => decide (k < j)) &&
    (List.range ops.size).all fun i => !hasBit b j i || (waits (opAt ops j)).contains i || (waits (opAt ops j)).any fun k => hasBit b k i

def chkSlots (ops : Array Oper) (b : Array Nat) : Bool :=
  (List.range ops.size).all fun i => (List.range ops.size).all fun j =>
    let oi := opAt ops i
    let oj := opAt ops j
    (match oi.dst with
      | some d => (!(slotsRead ops oj).contains d || (i == j && !isMov oi.op) || (i != j && (hasBit b j i || (!isMov oi.op && hasBit b i j)))) && (i == j || oj.dst != some d)
      | none => true) &&
    (i == j || isMov oi.op || isMov oj.op || hasBit b j i || hasBit b i j)

abbrev Plan := List (Nat × List Nat)

def okPlan (ops : Array Oper) (b : Array Nat) : List Nat → Plan → Bool
  | done, [] => (List.range ops.size).all fun i => done.contains i
  | done, (i, pend) :: rest =>
    decide (i < ops.size) && !done.contains i && (waits (opAt ops i)).all done.contains &&
    (isMov (opAt ops i).op ||
      ((List.range ops.size).all (fun j => done.contains j || !isMov (opAt ops j).op || !(waits (opAt ops j)).all done.contains) &&
       done.all fun p => !isMov (opAt ops p).op || !(readsHeap (opAt ops p).op || isNew (opAt ops p).op) || pend.contains p || hasBit b i p)) &&
    okPlan ops b (i :: done) rest

def mkPlanFrom (ops : Array Oper) (b : Array Nat) : Nat → List Nat → Plan
  | 0, _ => []
  | n + 1, done =>
    let ready := (List.range ops.size).filter fun i => !done.contains i && (waits (opAt ops i)).all done.contains
    match ready.find? fun i => isMov (opAt ops i).op with
    | some i => (i, []) :: mkPlanFrom ops b n (i :: done)
    | none => match ready.head? with
      | some i => (i, done.filter fun p => isMov (opAt ops p).op && (readsHeap (opAt ops p).op || isNew (opAt ops p).op) && !hasBit b i p) :: mkPlanFrom ops b n (i :: done)
      | none => []

def mkPlan (ops : Array Oper) : Plan := mkPlanFrom ops (Region.before ops) ops.size []

def chkDraw (ops : Array Oper) (plan : Plan) : Bool :=
  chkMask ops (Region.before ops) && chkSlots ops (Region.before ops) && okPlan ops (Region.before ops) [] plan

end Go.Vv
