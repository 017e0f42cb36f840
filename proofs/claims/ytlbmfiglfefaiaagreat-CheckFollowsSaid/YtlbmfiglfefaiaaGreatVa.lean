/- The abstract values, the abstract heap, frames, and what each plain operation makes of them (an abstract interpreter of the model's code; its soundness stands in the texts behind this one). -/
import Derived.Orders
import Derived.Laws.AppendOwn
import Derived.KernelRfl
namespace Go.Vv

/-! ## Tries: finite maps from numbers, looked up in a logarithm of steps. -/

inductive Tr (α : Type) where
  | nil
  | node (v : Option α) (l r : Tr α)

namespace Tr
variable {α : Type}

def get : Tr α → Nat → Option α
  | .nil, _ => none
  | .node v l r, n => if n = 0 then v else if n % 2 = 1 then l.get (n / 2) else r.get (n / 2 - 1)

def setF : Nat → Tr α → Nat → α → Tr α
  | 0, t, _, _ => t
  | f + 1, .nil, n, a => if n = 0 then .node (some a) .nil .nil else if n % 2 = 1 then .node none (setF f .nil (n / 2) a) .nil else .node none .nil (setF f .nil (n / 2 - 1) a)
  | f + 1, .node v l r, n, a => if n = 0 then .node (some a) l r else if n % 2 = 1 then .node v (setF f l (n / 2) a) r else .node v l (setF f r (n / 2 - 1) a)

def set (t : Tr α) (n : Nat) (a : α) : Tr α := setF (n + 1) t n a

theorem get_nil (n : Nat) : (Tr.nil : Tr α).get n = none := rfl

theorem get_setF (f : Nat) : ∀ (t : Tr α) (n : Nat) (a : α) (m : Nat), n < f → (setF f t n a).get m = if m = n then some a else t.get m := by
  induction f with
  | zero => intro t n a m h; omega
  | succ f ih =>
    intro t n a m h
    have key : ∀ (v : Option α) (l r : Tr α), (setF (f + 1) (.node v l r) n a).get m = if m = n then some a else (Tr.node v l r).get m := by
      intro v l r
      by_cases h0 : n = 0
      · subst h0
        by_cases hm : m = 0 <;> simp [setF, get, hm]
      · by_cases h1 : n % 2 = 1
        · simp only [setF, h0, if_false, h1, if_true]
          by_cases hm : m = 0
          · subst hm
            have : ¬ (0 = n) := fun e => h0 e.symm
            simp [get, this]
          · by_cases hm1 : m % 2 = 1
            · have hi := ih l (n / 2) a (m / 2) (by omega)
              simp only [get, hm, if_false, hm1, if_true, hi]
              by_cases e : m = n
              · subst e; simp
              · have : ¬ m / 2 = n / 2 := by omega
                simp [e, this]
            · have e : ¬ m = n := fun e => hm1 (e ▸ h1)
              simp [get, hm, hm1, e]
        · simp only [setF, h0, if_false, h1]
          by_cases hm : m = 0
          · subst hm
            have : ¬ (0 = n) := fun e => h0 e.symm
            simp [get, this]
          · by_cases hm1 : m % 2 = 1
            · have e : ¬ m = n := fun e => h1 (e ▸ hm1)
              simp [get, hm, hm1, e]
            · have hi := ih r (n / 2 - 1) a (m / 2 - 1) (by omega)
              simp only [get, hm, if_false, hm1, hi]
              by_cases e : m = n
              · subst e; simp
              · have : ¬ m / 2 - 1 = n / 2 - 1 := by omega
                simp [e, this]
    cases t with
    | node v l r => exact key v l r
    | nil =>
      have e : setF (f + 1) (Tr.nil : Tr α) n a = setF (f + 1) (.node none .nil .nil) n a := by
        simp [setF]
      have e2 : ∀ m, (Tr.nil : Tr α).get m = (Tr.node none .nil .nil : Tr α).get m := by
        intro m; simp [get]
      rw [e, key, e2]

theorem get_set (t : Tr α) (n : Nat) (a : α) (m : Nat) : (t.set n a).get m = if m = n then some a else t.get m :=
  get_setF (n + 1) t n a m (Nat.lt_succ_self n)

theorem get_set_same (t : Tr α) (n : Nat) (a : α) : (t.set n a).get n = some a := by simp [get_set]

theorem get_set_ne (t : Tr α) {n m : Nat} (a : α) (h : m ≠ n) : (t.set n a).get m = t.get m := by simp [get_set, h]

end Tr

/-! ## Values -/

inductive VV where
  | bool (b : Bool)
  | int (k : IntKind) (n : Int)
  | str (s : List UInt8)
  | nilp
  | ptr (o off : Nat)
  | iptr (cs : List VV) (off : Nat)
  | gptr (g : Nat)
  | nils
  | vs (es : List (List VV)) (cap : Option Nat)
  | ref (o off len esz : Nat) (cap : Option Nat)
  | nilm
  | map (o : Nat)
  | fn (f : Fn) (first captured : List VV)
  | nilf
  | iface (t : TypeId) (v : VV)
  | nili
  | agg (cs : List VV)
  | tup (vs : List VV)
  | yld (o : Nat)
  deriving Inhabited

/-- What stands in a slot that was not set. -/
abbrev VV.undef : VV := .tup []

def VV.one : VV → Bool
  | .agg _ | .tup _ => false
  | _ => true

def VV.isTup : VV → Bool
  | .tup _ => true
  | _ => false

/-- The cells of a value. -/
def VV.cells : VV → List VV
  | .agg cs => cs
  | v => [v]

/-- A range over a function: its state, the jump that a round has left, and what a round runs on. -/
structure VLoop where
  st : LoopState
  pend : Option Code
  fr : Tr VV
  n : Nat
  ps : Array Tmp
  assign : Code
  body : Code
  fn : Nat

inductive VObj where
  | cells (c : List VV)
  | map (es : List (VV × VV))
  | dead
  | loop (l : VLoop)
  deriving Inhabited

structure VHeap where
  objs : Tr VObj
  next : Nat

namespace VHeap
def get (h : VHeap) (o : Nat) : Option VObj := h.objs.get o
def set (h : VHeap) (o : Nat) (x : VObj) : VHeap := { h with objs := h.objs.set o x }
/-- A new object: its number is the heap's 'next'. -/
def push (h : VHeap) (x : VObj) : VHeap := { objs := h.objs.set h.next x, next := h.next + 1 }
def empty : VHeap := { objs := .nil, next := 0 }

theorem get_set (h : VHeap) (o : Nat) (x : VObj) (m : Nat) : (h.set o x).get m = if m = o then some x else h.get m := Tr.get_set ..
theorem get_set_same (h : VHeap) (o : Nat) (x : VObj) : (h.set o x).get o = some x := by simp [get_set]
theorem get_set_ne (h : VHeap) {o m : Nat} (x : VObj) (hne : m ≠ o) : (h.set o x).get m = h.get m := by simp [get_set, hne]
theorem get_push (h : VHeap) (x : VObj) (m : Nat) : (h.push x).get m = if m = h.next then some x else h.get m := Tr.get_set ..
theorem get_push_same (h : VHeap) (x : VObj) : (h.push x).get h.next = some x := by simp [get_push]
theorem get_push_ne (h : VHeap) (x : VObj) {m : Nat} (hne : m ≠ h.next) : (h.push x).get m = h.get m := by simp [get_push, hne]
theorem next_set (h : VHeap) (o : Nat) (x : VObj) : (h.set o x).next = h.next := rfl
theorem next_push (h : VHeap) (x : VObj) : (h.push x).next = h.next + 1 := rfl
end VHeap

abbrev Fr := Tr VV

def Fr.at (fr : Fr) (t : Nat) : VV := (fr.get t).getD .undef

theorem Fr.at_set (fr : Fr) (n : Nat) (v : VV) (m : Nat) : Fr.at (Tr.set fr n v) m = if m = n then v else Fr.at fr m := by
  unfold Fr.at; rw [Tr.get_set]; split <;> rfl

/-- A constant as an abstract value (constants hold no addresses). -/
def ofValue : Value → VV
  | .bool b => .bool b
  | .int k n => .int k n
  | .string s => .str s.data.toList
  | .pointer none => .nilp
  | .slice none 0 0 => .nils
  | .map none => .nilm
  | .nilFunc => .nilf
  | .nilIface => .nili
  | .func f _ _ => .fn f [] []
  | _ => .undef

/-- Does a value hold no addresses? -/
def constCell : Value → Bool
  | .bool _ | .int .. | .string _ | .pointer none | .map none | .nilFunc | .nilIface => true
  | .slice none 0 0 => true
  | .func _ a b => a.isEmpty && b.isEmpty
  | _ => false
def constOK : Value → Bool
  | .agg cs => cs.all constCell
  | v => constCell v

/-- A zero value: cells of constants. -/
def ofZero : Value → VV
  | .agg cs => .agg (cs.toList.map ofValue)
  | v => ofValue v

def ev (fr : Fr) : Operand → VV
  | .tmp t => Fr.at fr t
  | .const v => ofZero v
  | .global g => .gptr g
  | .func f => .fn (.func f) [] []

def put (fr : Fr) (dst : Option Tmp) (v : VV) : Fr :=
  match dst with
  | some d => Tr.set fr d v
  | none => fr

/-! ## The program's tables -/

def vsz (P : Program) (t : TypeId) : Nat := ((P.info? t).map (·.size)).getD 0
def vbytes (P : Program) (t : TypeId) : Nat := ((P.info? t).map (·.bytes)).getD 0
def vzero (P : Program) (t : TypeId) : Option VV :=
  match (P.info? t).bind (·.zero) with
  | some z => if constOK z then some (ofZero z) else none
  | none => none
def vagg (P : Program) (t : TypeId) : Option Bool :=
  match P.underlying t with
  | some (.struct _) | some (.array _ _) => some true
  | some _ => some false
  | none => none
/-- A slice type's element. -/
def velem (P : Program) (t : TypeId) : Option TypeId := match P.underlying t with | some (.slice e) => some e | _ => none
/-- A struct type's field: where it begins, how many cells it has. -/
def vfield (P : Program) (t : TypeId) (i : Nat) : Option (Nat × TypeId) :=
  match P.underlying t with
  | some (.struct fs) => (fs[i]?).map fun f => (f.offset, f.type)
  | _ => none

/-! ## Plain operations -/

/-- The value of a type among cells. -/
def vpart (P : Program) (t : TypeId) (cs : List VV) (off : Nat) : Option VV :=
  match vagg P t with
  | some true => if off + vsz P t ≤ cs.length then some (.agg ((cs.drop off).take (vsz P t))) else none
  | some false => cs[off]?
  | none => none

def vload (P : Program) (t : TypeId) (p : VV) (h : VHeap) : Option VV :=
  match p with
  | .ptr o off =>
    match h.get o with
    | some (.cells c) => vpart P t c off
    | _ => none
  | .iptr c off => vpart P t c off
  | _ => none

/-- Cells with others written over them from a place on. -/
def over (c : List VV) (off : Nat) (new : List VV) : List VV := c.take off ++ new ++ c.drop (off + new.length)

def vstore (P : Program) (t : TypeId) (p v : VV) (h : VHeap) : Option VHeap :=
  match p with
  | .ptr o off =>
    match h.get o with
    | some (.cells c) =>
      if v.cells.length = vsz P t ∧ vsz P t ≠ 0 ∧ off + v.cells.length ≤ c.length ∧ v.isTup = false then some (h.set o (.cells (over c off v.cells))) else none
    | _ => none
  | _ => none

def vfieldAddr (P : Program) (t : TypeId) (p : VV) (i : Nat) : Option VV :=
  match vfield P t i with
  | some (fo, ft) =>
    if vsz P ft = 0 then none else
    match p with
    | .ptr o off => some (.ptr o (off + fo))
    | .iptr c off => some (.iptr c (off + fo))
    | _ => none
  | none => none

def vindexAddr (P : Program) (t : TypeId) (x i : VV) : Option VV :=
  match velem P t, i with
  | some e, .int _ n =>
    match x with
    | .vs es _ =>
      if 0 ≤ n then
        match es[n.toNat]? with
        | some row => if row.length = vsz P e ∧ vsz P e ≠ 0 then some (.iptr row 0) else none
        | none => none
      else none
    | .ref o off len esz _ => if 0 ≤ n ∧ n < len ∧ esz = vsz P e ∧ vsz P e ≠ 0 then some (.ptr o (off + n.toNat * esz)) else none
    | _ => none
  | _, _ => none

/-- Is it a text's index? -/
def vindex (x i : VV) : Option VV :=
  match x, i with
  | .str s, .int _ n => if 0 ≤ n then (s[n.toNat]?).map fun b => .int .u8 b.toNat else none
  | _, _ => none

def vfieldOf (P : Program) (t : TypeId) (x : VV) (i : Nat) : Option VV :=
  match vfield P t i, x with
  | some (fo, ft), .agg cs => vpart P ft cs fo
  | _, _ => none

def vfill (place : Nat → Option (Nat × Nat)) (cells : List VV) : List (Nat × VV) → Option (List VV)
  | [] => some cells
  | (i, v) :: rest =>
    match place i with
    | none => none
    | some (off, size) =>
      if v.cells.length ≠ size ∨ off + v.cells.length > cells.length ∨ v.isTup = true then none
      else vfill place (over cells off v.cells) rest

/-- A struct type's fields: where each begins, how many cells it has. -/
def vplaces (P : Program) (t : TypeId) : Option (List (Nat × Nat)) :=
  match P.underlying t with
  | some (.struct fs) => fs.toList.mapM fun f => (P.info? f.type).map fun i => (f.offset, i.size)
  | _ => none

def vbuild (P : Program) (t : TypeId) (parts : List (Nat × VV)) : Option VV :=
  match vplaces P t, vzero P t with
  | some places, some z => (vfill (fun i => places[i]?) z.cells parts).map .agg
  | _, _ => none

/-- Rows of so many cells. -/
def rows : Nat → Nat → List VV → List (List VV)
  | 0, _, _ => []
  | n + 1, k, l => l.take k :: rows n k (l.drop k)

def vbuildSlice (P : Program) (t : TypeId) (len : Nat) (parts : List (Nat × VV)) : Option VV :=
  match velem P t with
  | some e =>
    match vzero P e with
    | some z =>
      if vsz P e = 0 ∨ z.cells.length ≠ vsz P e ∨ len * vsz P e > 2 ^ 24 then none else
      match vfill (fun i => some (i * vsz P e, vsz P e)) ((List.replicate len z.cells).flatten) parts with
      | some cs => some (.vs (rows len (vsz P e) cs) (some len))
      | none => none
    | none => none
  | none => none

def vnilCheck (x : VV) : Option VV :=
  match x with
  | .ptr .. | .iptr .. => some x
  | _ => none

def vintOp (op : BinOp) (k : IntKind) (a b : Int) : Option VV :=
  match op with
  | .add => some (.int k (k.wrap (a + b)))
  | .sub => some (.int k (k.wrap (a - b)))
  | .mul => some (.int k (k.wrap (a * b)))
  | .quo => if b = 0 then none else some (.int k (k.wrap (a.tdiv b)))
  | .rem => if b = 0 then none else some (.int k (a.tmod b))
  | .and => some (.int k (k.wrap (BitVec.ofInt k.bits a &&& BitVec.ofInt k.bits b).toNat))
  | .or => some (.int k (k.wrap (BitVec.ofInt k.bits a ||| BitVec.ofInt k.bits b).toNat))
  | .eql => some (.bool (a == b))
  | .neq => some (.bool (a != b))
  | .lss => some (.bool (decide (a < b)))
  | .leq => some (.bool (decide (a ≤ b)))
  | .gtr => some (.bool (decide (a > b)))
  | .geq => some (.bool (decide (a ≥ b)))
  | _ => none

def vstrOp (op : BinOp) (x y : List UInt8) : Option VV :=
  match op with
  | .add => if x.length + y.length ≤ 9223372036854775807 then some (.str (x ++ y)) else none
  | .eql => some (.bool (x == y))
  | .neq => some (.bool (!(x == y)))
  | .lss => some (.bool (Op.bytesLess x y))
  | .leq => some (.bool (Op.bytesLess x y || x == y))
  | .gtr => some (.bool (!(Op.bytesLess x y || x == y)))
  | .geq => some (.bool (!(Op.bytesLess x y)))
  | _ => none

/-- Cells of plain data, one against the other, by their type. -/
def veqCell : TypeDesc → VV → VV → Option Bool
  | .bool, .bool a, .bool b => some (a == b)
  | .int _, .int j a, .int k b => if j = k then some (a == b) else none
  | .string, .str a, .str b => some (a == b)
  | _, _, _ => none

def veqCells : List TypeDesc → List VV → List VV → Option Bool
  | [], [], [] => some true
  | t :: ts, a :: as, b :: bs =>
    match veqCell t a b, veqCells ts as bs with
    | some x, some y => some (x && y)
    | _, _ => none
  | _, _, _ => none

/-- Of a struct all whose fields are numbers, bools or texts of one cell each, in order: their types. -/
def vkinds (P : Program) (t : TypeId) : Option (List TypeDesc) :=
  match P.underlying t with
  | some (.struct fs) =>
    if (!(P.stoodInHeld t) && !(P.eqGuardType P.depth t) && fs.toList.zipIdx.all fun (f, i) => f.name != "_" && f.offset == i) = true then
      fs.toList.mapM fun f => match P.underlying f.type with | some .bool => some .bool | some (.int k) => some (.int k) | some .string => some .string | _ => none
    else none
  | _ => none

def veqPlain : TypeDesc → VV → VV → Option Bool
  | .bool, .bool a, .bool b => some (a == b)
  | .pointer _, .nilp, .nilp => some true
  | .pointer _, .nilp, .ptr .. | .pointer _, .ptr .., .nilp => some false
  | .slice _, .nils, .nils => some true
  | .slice _, .nils, .vs .. | .slice _, .nils, .ref .. | .slice _, .vs .., .nils | .slice _, .ref .., .nils => some false
  | .map _ _, .nilm, .nilm => some true
  | .map _ _, .nilm, .map _ | .map _ _, .map _, .nilm => some false
  | .interface ms, .nili, .nili => if ms.isEmpty then some true else none
  | .interface _, .nili, .iface .. | .interface _, .iface .., .nili => some false
  | _, _, _ => none

def veqStruct (P : Program) (t : TypeId) : VV → VV → Option Bool
  | .agg a, .agg b => match vkinds P t with | some ts => veqCells ts a b | none => none
  | _, _ => none

def veq (P : Program) (t : TypeId) (x y : VV) : Option Bool :=
  match P.underlying t with
  | some (.struct _) => veqStruct P t x y
  | some u => veqPlain u x y
  | none => none

def vbinOp (P : Program) (op : BinOp) (t : TypeId) (x y : VV) : Option VV :=
  match x, y with
  | .int k a, .int k' b =>
    match op with
    | .shl => if 0 ≤ b then some (.int k (k.wrap (a * 2 ^ (min b.toNat k.bits)))) else none
    | .shr => if 0 ≤ b then some (.int k (a.fdiv (2 ^ (min b.toNat k.bits)))) else none
    | _ => if k = k' then vintOp op k a b else none
  | .str a, .str b => vstrOp op a b
  | _, _ =>
    match op with
    | .eql => (veq P t x y).map .bool
    | .neq => (veq P t x y).map fun b => .bool (!b)
    | _ => none

def vunOp (op : UnOp) (x : VV) : Option VV :=
  match op, x with
  | .not, .bool b => some (.bool (!b))
  | .neg, .int k n => some (.int k (k.wrap (0 - n)))
  | _, _ => none

def bound (v : Option VV) (most other : Nat) : Option Nat :=
  match v with
  | none => some other
  | some (.int _ n) => if 0 ≤ n ∧ n ≤ most then some n.toNat else none
  | some _ => none

/-- The bounds of x[lo:hi:max], of a slice whose room is not known as far as its length alone: from, to, and the room behind. -/
def vbounds (len : Nat) (cap : Option Nat) (lo hi mx : Option VV) : Option (Nat × Nat × Option Nat) :=
  match mx with
  | none =>
    match bound hi len len with
    | some h =>
      match bound lo h 0 with
      | some l => some (l, h, cap.map (· - l))
      | none => none
    | none => none
  | some m =>
    match hi with
    | none => none
    | some _ =>
      match bound (some m) len 0 with
      | some m =>
        match bound hi m 0 with
        | some h =>
          match bound lo h 0 with
          | some l => some (l, h, some (m - l))
          | none => none
        | none => none
      | none => none

/-- Do a slice's rows have so many cells? (They are all as long as the first one.) -/
def vfits (es : List (List VV)) (e : Nat) : Bool :=
  match es with
  | [] => true
  | r :: _ => r.length == e

def vsliceOf (x : VV) (e : Nat) (lo hi mx : Option VV) : Option VV :=
  match x with
  | .nils => (vbounds 0 (some 0) lo hi mx).map fun _ => .nils
  | .vs es cap =>
    if vfits es e then
      match vbounds es.length cap lo hi mx with
      | some (l, h, c) => some (.vs ((es.take h).drop l) c)
      | none => none
    else none
  | .ref o off len esz cap =>
    if esz = e then
      match vbounds len cap lo hi mx with
      | some (l, h, c) => some (.ref o (off + l * esz) (h - l) esz c)
      | none => none
    else none
  | _ => none

def vsliceStr (s : List UInt8) (lo hi mx : Option VV) : Option VV :=
  match mx with
  | some _ => none
  | none =>
    match bound hi s.length s.length with
    | some h =>
      match bound lo h 0 with
      | some l => some (.str ((s.take h).drop l))
      | none => none
    | none => none

def vslice (P : Program) (t : TypeId) (x : VV) (lo hi mx : Option VV) : Option VV :=
  match P.underlying t with
  | some .string => match x with | .str s => vsliceStr s lo hi mx | _ => none
  | some (.slice e) => if vsz P e = 0 then none else vsliceOf x (vsz P e) lo hi mx
  | _ => none

def vlen (P : Program) (t : TypeId) (x : VV) (h : VHeap) : Option VV :=
  match P.underlying t, x with
  | some .string, .str s => some (.int .i64 s.length)
  | some (.slice _), .nils => some (.int .i64 0)
  | some (.slice _), .vs es _ => some (.int .i64 es.length)
  | some (.slice _), .ref _ _ len _ _ => some (.int .i64 len)
  | some (.map _ _), .nilm => some (.int .i64 0)
  | some (.map _ _), .map o =>
    match h.get o with
    | some (.map es) => some (.int .i64 es.length)
    | _ => none
  | _, _ => none

/-- A slice's elements, a row each. -/
def velems (x : VV) (h : VHeap) (e : Nat) : Option (List (List VV)) :=
  match x with
  | .nils => some []
  | .vs es _ => if vfits es e then some es else none
  | .ref o off len esz _ =>
    if esz ≠ e then none else
    match h.get o with
    | some (.cells c) => if off + len * esz ≤ c.length then some (rows len esz (c.drop off)) else none
    | _ => none
  | _ => none

def vbyte : List VV → Option UInt8
  | [.int .u8 n] => if 0 ≤ n ∧ n < 256 then some (UInt8.ofNat n.toNat) else none
  | _ => none

def vconvert (P : Program) (src dst : TypeId) (x : VV) (h : VHeap) : Option VV :=
  match P.underlying src, P.underlying dst, x with
  | some _, some (.int k), .int _ n => some (.int k (k.wrap n))
  | some _, some .string, .str s => some (.str s)
  | some (.slice e), some .string, x =>
    match P.underlying e with
    | some (.int .u8) =>
      match velems x h 1 with
      | some es => (es.mapM vbyte).map .str
      | none => none
    | _ => none
  | _, _, _ => none

/-- A conversion of bytes that nobody writes to their own type (a constant text as bytes): they get a mark behind the last. -/
def vmarks (P : Program) (src dst : TypeId) (x : VV) : Bool :=
  src == dst && (match P.underlying src, x with
    | some (.slice e), .vs ((_ :: _) :: _) _ => (match P.underlying e with | some (.int .u8) => true | _ => false)
    | _, _ => false)

/-- append(s, xs...): a new object; the one behind s is dead then (but where s has no room: then nothing of it changes). -/
def vappend (P : Program) (t : TypeId) (s x : VV) (h : VHeap) : Option (VV × VHeap) :=
  match velem P t with
  | some e =>
    if vsz P e = 0 ∨ (vzero P e).map (·.cells.length) ≠ some (vsz P e) then none else
    match velems x h (vsz P e), velems s h (vsz P e) with
    | some [], some _ => some (s, h)
    | some xs, some ss =>
      if (ss.length + xs.length) * vbytes P e ≤ 140737488355328 ∧ ss.length + xs.length ≤ 9223372036854775807 then
        let new := VObj.cells ((ss ++ xs).flatten)
        let v := VV.ref h.next 0 (ss.length + xs.length) (vsz P e) none
        match s with
        | .nils => some (v, h.push new)
        | .vs _ (some c) => if c = ss.length then some (v, h.push new) else none
        | .ref o _ _ _ cap => if cap = some ss.length then some (v, h.push new) else some (v, (h.set o .dead).push new)
        | _ => none
      else none
    | _, _ => none
  | none => none

def vmakeSlice (P : Program) (t : TypeId) (len cap : VV) : Option ((Nat → VV) × VObj) :=
  match velem P t, len, cap with
  | some e, .int _ l, .int _ c =>
    match vzero P e with
    | some z =>
      if 0 ≤ l ∧ l ≤ c ∧ c ≤ 9223372036854775807 ∧ (vbytes P e : Int) * c ≤ 140737488355328 ∧ z.cells.length = vsz P e ∧ vsz P e ≠ 0 then
        some (fun o => .ref o 0 l.toNat (vsz P e) (some c.toNat), .cells ((List.replicate c.toNat z.cells).flatten))
      else none
    | none => none
  | _, _, _ => none

/-! Maps whose keys are numbers or texts. -/

/-- Is a value a key of such a type? -/
def vkeyKind : TypeDesc → VV → Bool
  | .int _, .int _ _ => true
  | .string, .str _ => true
  | _, _ => false

def vsameKey : VV → VV → Option Bool
  | .int j a, .int k b => if j = k then some (a == b) else none
  | .str a, .str b => some (a == b)
  | _, _ => none

def vfind (k : VV) : List (VV × VV) → Nat → Option (Option (Nat × VV))
  | [], _ => some none
  | e :: es, i =>
    match vsameKey k e.1 with
    | some true => some (some (i, e.2))
    | some false => vfind k es (i + 1)
    | none => none

/-- A map type whose keys are numbers or texts: its elements' type. -/
def vmapElem (P : Program) (t : TypeId) : Option TypeId :=
  match P.underlying t with
  | some (.map k e) => match P.underlying k with | some (.int _) | some .string => some e | _ => none
  | _ => none

/-- Is a value a key of such a map? -/
def vkeyFits (P : Program) (t : TypeId) (k : VV) : Bool :=
  match P.underlying t with
  | some (.map kt _) => match P.underlying kt with | some d => vkeyKind d k | none => false
  | _ => false

/-- A map's entries. -/
def ventries (m : VV) (h : VHeap) : Option (List (VV × VV)) :=
  match m with
  | .nilm => some []
  | .map o => match h.get o with | some (.map es) => some es | _ => none
  | _ => none

def vlookup (P : Program) (t : TypeId) (m k : VV) (ok : Bool) (h : VHeap) : Option VV :=
  match vmapElem P t with
  | some e =>
    if vkeyFits P t k then
      match ventries m h, vzero P e with
      | some es, some z =>
        match vfind k es 0 with
        | some (some (_, v)) => some (if ok then .tup [v, .bool true] else v)
        | some none => some (if ok then .tup [z, .bool false] else z)
        | none => none
      | _, _ => none
    else none
  | none => none

def vmapUpdate (P : Program) (t : TypeId) (m k v : VV) (h : VHeap) : Option VHeap :=
  match vmapElem P t, m with
  | some _, .map o =>
    if vkeyFits P t k then
      match h.get o with
      | some (.map es) =>
        match vfind k es 0 with
        | some (some (i, _)) => some (h.set o (.map (es.set i (k, v))))
        | some none => some (h.set o (.map (es ++ [(k, v)])))
        | none => none
      | _ => none
    else none
  | _, _ => none

def vminmax (mx : Bool) : VV → VV → Option VV
  | .int k x, .int _ y => some (.int k (if mx then (if y > x then y else x) else (if y < x then y else x)))
  | _, _ => none

def vextract (x : VV) (i : Nat) : Option VV :=
  match x with
  | .tup l => l[i]?
  | _ => none

/-- A type assertion to a concrete type. -/
def vassert (P : Program) (x : VV) (asserted : TypeId) (ok : Bool) : Option VV :=
  match P.underlying asserted, x with
  | some (.interface _), _ => none
  | some _, .iface t v => if t = asserted then some (if ok then .tup [v, .bool true] else v) else
      (if ok then (vzero P asserted).map fun z => .tup [z, .bool false] else none)
  | some _, .nili => if ok then (vzero P asserted).map fun z => .tup [z, .bool false] else none
  | _, _ => none

def vmakeInterface (P : Program) (t : TypeId) (x : VV) : Option VV :=
  match P.underlying t with
  | some (.interface _) | none => none
  | some _ => some (.iface t x)

/-- An operation that leaves the abstract heap as it is: its value. -/
def vread (P : Program) (op : Op) (fr : Fr) (h : VHeap) : Option VV :=
  match op with
  | .move x | .assign x => some (ev fr x)
  | .pick c a b => match ev fr c with | .bool c => some (if c then ev fr a else ev fr b) | _ => none
  | .build t ps => vbuild P t (ps.toList.map fun p => (p.1, ev fr p.2))
  | .buildSlice t n ps => vbuildSlice P t n (ps.toList.map fun p => (p.1, ev fr p.2))
  | .load t a => vload P t (ev fr a) h
  | .nilCheck x => vnilCheck (ev fr x)
  | .binOp op t x y _ => vbinOp P op t (ev fr x) (ev fr y)
  | .unOp op _ x => vunOp op (ev fr x)
  | .convert s d x => if vmarks P s d (ev fr x) = true then some (ev fr x) else vconvert P s d (ev fr x) h
  | .makeInterface t x => vmakeInterface P t (ev fr x)
  | .makeFunc f a b => some (.fn f (a.toList.map (ev fr)) (b.toList.map (ev fr)))
  | .slice t x lo hi mx => vslice P t (ev fr x) (lo.map (ev fr)) (hi.map (ev fr)) (mx.map (ev fr))
  | .fieldAddr t x i => vfieldAddr P t (ev fr x) i
  | .field t x i => vfieldOf P t (ev fr x) i
  | .indexAddr t x i => vindexAddr P t (ev fr x) (ev fr i)
  | .index t x i => match P.underlying t with | some .string => vindex (ev fr x) (ev fr i) | _ => none
  | .lookup t m k ok => vlookup P t (ev fr m) (ev fr k) ok h
  | .typeAssert x _ d ok => vassert P (ev fr x) d ok
  | .extract x i => vextract (ev fr x) i
  | .call { callee := .builtin .len, args := ⟨[x]⟩, argTypes := ⟨[t]⟩ } => vlen P t (ev fr x) h
  | .call { callee := .builtin .min, args := ⟨[x, y]⟩, argTypes := _ } => vminmax false (ev fr x) (ev fr y)
  | .call { callee := .builtin .max, args := ⟨[x, y]⟩, argTypes := _ } => vminmax true (ev fr x) (ev fr y)
  | _ => none

/-- An operation that makes an object: what it tells of the object's number, and the object. -/
def vnew (P : Program) (op : Op) (fr : Fr) : Option ((Nat → VV) × VObj) :=
  match op with
  | .alloc t => (vzero P t).map fun z => (fun o => .ptr o 0, .cells z.cells)
  | .box _ x => if (ev fr x).isTup = true then none else some (fun o => .ptr o 0, .cells (ev fr x).cells)
  | .makeMap _ none => some (fun o => .map o, .map [])
  | .makeSlice t l c => vmakeSlice P t (ev fr l) (ev fr c)
  | _ => none

/-- An operation that changes the heap. -/
def vwrite (P : Program) (op : Op) (fr : Fr) (h : VHeap) : Option (VV × VHeap) :=
  match op with
  | .store t a v => (vstore P t (ev fr a) (ev fr v) h).map fun h => (.undef, h)
  | .mapUpdate t m k v | .insert t m k v => (vmapUpdate P t (ev fr m) (ev fr k) (ev fr v) h).map fun h => (.undef, h)
  | .call { callee := .builtin .append, args := ⟨[s, x]⟩, argTypes := ⟨[t, t']⟩ } => if t = t' then vappend P t (ev fr s) (ev fr x) h else none
  | _ => none

/-- A plain operation (none that calls, panics or ends): its value, and the heap behind it. -/
def vop (P : Program) (op : Op) (fr : Fr) (h : VHeap) : Option (VV × VHeap) :=
  match vread P op fr h with
  | some v => some (v, h)
  | none =>
    match vnew P op fr with
    | some (f, x) => some (f h.next, h.push x)
    | none => vwrite P op fr h

end Go.Vv
