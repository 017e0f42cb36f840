/- Part of the proof of CheckTrees: plain laws and steps of its walks, for all arguments. -/
import Derived.Orders
import Derived.Laws.AppendOwn
import Derived.KernelRfl
import Derived.Laws.StructEq
set_option linter.unusedSimpArgs false
set_option linter.unusedVariables false
set_option linter.unusedSectionVars false
namespace Go.Vv
section
inductive Tr (α:Type) where
 |nil
 |node (v:Option α) (l r:Tr α)
namespace Tr
variable{α:Type}
def get:Tr α->Nat->Option α
 |.nil,_=>none
 |.node v l r,n=>if n=0 then v else if n%2=1 then l.get (n/2) else r.get (n/2-1)
def kU:Nat->Tr α->Nat->α->Tr α
 |0,t,_,_=>t
 |f+1,.nil,n,a=>if n=0 then .node (some a) .nil .nil else if n%2=1 then .node none (kU f .nil (n/2) a) .nil else .node none .nil (kU f .nil (n/2-1) a)
 |f+1,.node v l r,n,a=>if n=0 then .node (some a) l r else if n%2=1 then .node v (kU f l (n/2) a) r else .node v l (kU f r (n/2-1) a)
def set (t:Tr α) (n:Nat) (a:α):Tr α:=kU (n+1) t n a
theorem Hl (f:Nat):∀(t:Tr α) (n:Nat) (a:α) (m:Nat),n<f->(kU f t n a).get m=if m=n then some a else t.get m:=by
 induction f with
 |zero=>intro t n a m h;omega
 |succ f ih=>
  intro t n a m h
  have key:∀(v:Option α) (l r:Tr α),(kU (f+1) (.node v l r) n a).get m=if m=n then some a else(Tr.node v l r).get m:=by
   intro v l r
   by_cases h0:n=0
   ·subst h0
    by_cases hm:m=0<;>simp[kU,get,hm]
   ·by_cases h1:n%2=1
    ·simp only[kU,h0,if_false,h1,if_true]
     by_cases hm:m=0
     ·subst hm
      have:¬(0=n):=λe=>h0 e.symm
      simp[get,this]
     ·by_cases hm1:m%2=1
      ·have hi:=ih l (n/2) a (m/2) (by omega)
       simp only[get,hm,if_false,hm1,if_true,hi]
       by_cases e:m=n
       ·subst e;simp
       ·have:¬m/2=n/2:=by omega
        simp[e,this]
      ·have e:¬m=n:=λe=>hm1 (e▸h1)
       simp[get,hm,hm1,e]
    ·simp only[kU,h0,if_false,h1]
     by_cases hm:m=0
     ·subst hm
      have:¬(0=n):=λe=>h0 e.symm
      simp[get,this]
     ·by_cases hm1:m%2=1
      ·have e:¬m=n:=λe=>h1 (e▸hm1)
       simp[get,hm,hm1,e]
      ·have hi:=ih r (n/2-1) a (m/2-1) (by omega)
       simp only[get,hm,if_false,hm1,hi]
       by_cases e:m=n
       ·subst e;simp
       ·have:¬m/2-1=n/2-1:=by omega
        simp[e,this]
  cases t with
  |node v l r=>exact key v l r
  |nil=>
   have e:kU (f+1) (Tr.nil:Tr α) n a=kU (f+1) (.node none .nil .nil) n a:=by
    simp[kU]
   have e2:∀m,(Tr.nil:Tr α).get m=(Tr.node none .nil .nil:Tr α).get m:=by
    intro m;simp[get]
   rw[e,key,e2]
theorem iR (t:Tr α) (n:Nat) (a:α) (m:Nat):(t.set n a).get m=if m=n then some a else t.get m:=
 Hl (n+1) t n a m (Nat.lt_succ_self n)
theorem bQ (t:Tr α) (n:Nat) (a:α):(t.set n a).get n=some a:=by simp[iR]
theorem aO (t:Tr α) {n m:Nat} (a:α) (h:m≠n):(t.set n a).get m=t.get m:=by simp[iR,h]
end Tr
inductive VV where
 |bool (b:Bool)
 |int (k:IntKind) (n:Int)
 |str (s:List UInt8)
 |iF
 |ptr (o off:Nat)
 |fb (cs:List VV) (off:Nat)
 |qH (g:Nat)
 |da
 |vs (es:List (List VV)) (cap:Option Nat)
 |ref (o off len du:Nat) (cap:Option Nat)
 |ig
 |map (o:Nat)
 |fn (f:Fn) (first captured:List VV)
 |lJ
 |iface (t:TypeId) (v:VV)
 |ec
 |agg (cs:List VV)
 |bR (vs:List VV)
 |CS (o:Nat)
 deriving Inhabited
abbrev VV.undef:VV:=.bR []
def VV.one:VV->Bool
 |.agg _|.bR _=>false
 |_=>true
def VV.gh:VV->Bool
 |.bR _=>true
 |_=>false
def VV.cells:VV->List VV
 |.agg cs=>cs
 |v=>[v]
structure yO where
 st:LoopState
 cK:Option Code
 fr:Tr VV
 n:Nat
 ps:Array Tmp
 assign:Code
 body:Code
 fn:Nat
inductive dC where
 |cells (c:List VV)
 |map (es:List (VV×VV))
 |dead
 |loop (l:yO)
 deriving Inhabited
structure aa where
 bp:Tr dC
 next:Nat
namespace aa
def get (h:aa) (o:Nat):Option dC:=h.bp.get o
def set (h:aa) (o:Nat) (x:dC):aa:={h with bp:=h.bp.set o x}
def push (h:aa) (x:dC):aa:={bp:=h.bp.set h.next x,next:=h.next+1}
def empty:aa:={bp:=.nil,next:=0}
theorem iR (h:aa) (o:Nat) (x:dC) (m:Nat):(h.set o x).get m=if m=o then some x else h.get m:=Tr.iR ..
theorem bQ (h:aa) (o:Nat) (x:dC):(h.set o x).get o=some x:=by simp[iR]
theorem aO (h:aa) {o m:Nat} (x:dC) (hne:m≠o):(h.set o x).get m=h.get m:=by simp[iR,hne]
theorem zr (h:aa) (x:dC) (m:Nat):(h.push x).get m=if m=h.next then some x else h.get m:=Tr.iR ..
theorem dw (h:aa) (x:dC):(h.push x).get h.next=some x:=by simp[zr]
theorem dm (h:aa) (x:dC) {m:Nat} (hne:m≠h.next):(h.push x).get m=h.get m:=by simp[zr,hne]
theorem Ic (h:aa) (o:Nat) (x:dC):(h.set o x).next=h.next:=rfl
theorem cA (h:aa) (x:dC):(h.push x).next=h.next+1:=rfl
end aa
abbrev Fr:=Tr VV
def Fr.at (fr:Fr) (t:Nat):VV:=(fr.get t).getD .undef
theorem Fr.dY (fr:Fr) (n:Nat) (v:VV) (m:Nat):Fr.at (Tr.set fr n v) m=if m=n then v else Fr.at fr m:=by
 unfold Fr.at;rw[Tr.iR];split<;>rfl
def ofValue:Value->VV
 |.bool b=>.bool b
 |.int k n=>.int k n
 |.string s=>.str s.data.toList
 |.pointer none=>.iF
 |.slice none 0 0=>.da
 |.map none=>.ig
 |.nilFunc=>.lJ
 |.nilIface=>.ec
 |.func f _ _=>.fn f [] []
 |_=>.undef
def e8:Value->Bool
 |.bool _|.int .. |.string _|.pointer none|.map none|.nilFunc|.nilIface=>true
 |.slice none 0 0=>true
 |.func _ a b=>a.isEmpty&&b.isEmpty
 |_=>false
def e9:Value->Bool
 |.agg cs=>cs.all e8
 |v=>e8 v
def ju:Value->VV
 |.agg cs=>.agg (cs.toList.map ofValue)
 |v=>ofValue v
def ev (fr:Fr):Operand->VV
 |.tmp t=>Fr.at fr t
 |.const v=>ju v
 |.global g=>.qH g
 |.func f=>.fn (.func f) [] []
def put (fr:Fr) (dst:Option Tmp) (v:VV):Fr:=
 match dst with
 |some d=>Tr.set fr d v
 |none=>fr
def cE (P:Program) (t:TypeId):Nat:=((P.info? t).map (·.size)).getD 0
def dy (P:Program) (t:TypeId):Nat:=((P.info? t).map (·.bytes)).getD 0
def eA (P:Program) (t:TypeId):Option VV:=
 match(P.info? t).bind (·.zero) with
 |some z=>if e9 z then some (ju z) else none
 |none=>none
def uk (P:Program) (t:TypeId):Option Bool:=
 match P.underlying t with
 |some (.struct _)|some (.array _ _)=>some true
 |some _=>some false
 |none=>none
def iM (P:Program) (t:TypeId):Option TypeId:=match P.underlying t with|some (.slice e)=>some e|_=>none
def kA (P:Program) (t:TypeId) (i:Nat):Option (Nat×TypeId):=
 match P.underlying t with
 |some (.struct fs)=>(fs[i]?).map λf=>(f.offset,f.type)
 |_=>none
def gz (P:Program) (t:TypeId) (cs:List VV) (off:Nat):Option VV:=
 match uk P t with
 |some true=>if off+cE P t<=cs.length then some (.agg ((cs.drop off).take (cE P t))) else none
 |some false=>cs[off]?
 |none=>none
def jJ (P:Program) (t:TypeId) (p:VV) (h:aa):Option VV:=
 match p with
 |.ptr o off=>
  match h.get o with
  |some (.cells c)=>gz P t c off
  |_=>none
 |.fb c off=>gz P t c off
 |_=>none
def dQ (c:List VV) (off:Nat) (new:List VV):List VV:=c.take off++new++c.drop (off+new.length)
def nj (P:Program) (t:TypeId) (p v:VV) (h:aa):Option aa:=
 match p with
 |.ptr o off=>
  match h.get o with
  |some (.cells c)=>
   if v.cells.length=cE P t/\cE P t≠0/\off+v.cells.length<=c.length/\v.gh=false then some (h.set o (.cells (dQ c off v.cells))) else none
  |_=>none
 |_=>none
def eT (P:Program) (t:TypeId) (p:VV) (i:Nat):Option VV:=
 match kA P t i with
 |some (fo,ft)=>
  if cE P ft=0 then none else
  match p with
  |.ptr o off=>some (.ptr o (off+fo))
  |.fb c off=>some (.fb c (off+fo))
  |_=>none
 |none=>none
def dA (P:Program) (t:TypeId) (x i:VV):Option VV:=
 match iM P t,i with
 |some e,.int _ n=>
  match x with
  |.vs es _=>
   if 0<=n then
    match es[n.toNat]? with
    |some row=>if row.length=cE P e/\cE P e≠0 then some (.fb row 0) else none
    |none=>none
   else none
  |.ref o off len du _=>if 0<=n/\n<len/\du=cE P e/\cE P e≠0 then some (.ptr o (off+n.toNat*du)) else none
  |_=>none
 |_,_=>none
def rb (x i:VV):Option VV:=
 match x,i with
 |.str s,.int _ n=>if 0<=n then(s[n.toNat]?).map λb=>.int .u8 b.toNat else none
 |_,_=>none
def kX (P:Program) (t:TypeId) (x:VV) (i:Nat):Option VV:=
 match kA P t i,x with
 |some (fo,ft),.agg cs=>gz P ft cs fo
 |_,_=>none
def m7 (place:Nat->Option (Nat×Nat)) (cells:List VV):List (Nat×VV)->Option (List VV)
 |[]=>some cells
 |(i,v)::rest=>
  match place i with
  |none=>none
  |some (off,size)=>
   if v.cells.length≠size\/off+v.cells.length>cells.length\/v.gh=true then none
   else m7 place (dQ cells off v.cells) rest
def sP (P:Program) (t:TypeId):Option (List (Nat×Nat)):=
 match P.underlying t with
 |some (.struct fs)=>fs.toList.mapM λf=>(P.info? f.type).map λi=>(f.offset,i.size)
 |_=>none
def yb (P:Program) (t:TypeId) (parts:List (Nat×VV)):Option VV:=
 match sP P t,eA P t with
 |some places,some z=>(m7 (λi=>places[i]?) z.cells parts).map .agg
 |_,_=>none
def rows:Nat->Nat->List VV->List (List VV)
 |0,_,_=>[]
 |n+1,k,l=>l.take k::rows n k (l.drop k)
def iy (P:Program) (t:TypeId) (len:Nat) (parts:List (Nat×VV)):Option VV:=
 match iM P t with
 |some e=>
  match eA P e with
  |some z=>
   if cE P e=0\/z.cells.length≠cE P e\/len*cE P e>2^24 then none else
   match m7 (λi=>some (i*cE P e,cE P e)) ((List.replicate len z.cells).flatten) parts with
   |some cs=>some (.vs (rows len (cE P e) cs) (some len))
   |none=>none
  |none=>none
 |none=>none
def gS (x:VV):Option VV:=
 match x with
 |.ptr .. |.fb .. =>some x
 |_=>none
def oX (op:BinOp) (k:IntKind) (a b:Int):Option VV:=
 match op with
 |.add=>some (.int k (k.wrap (a+b)))
 |.sub=>some (.int k (k.wrap (a-b)))
 |.mul=>some (.int k (k.wrap (a*b)))
 |.quo=>if b=0 then none else some (.int k (k.wrap (a.tdiv b)))
 |.rem=>if b=0 then none else some (.int k (a.tmod b))
 |.and=>some (.int k (k.wrap (BitVec.ofInt k.bits a&&&BitVec.ofInt k.bits b).toNat))
 |.or=>some (.int k (k.wrap (BitVec.ofInt k.bits a|||BitVec.ofInt k.bits b).toNat))
 |.eql=>some (.bool (a==b))
 |.neq=>some (.bool (a !=b))
 |.lss=>some (.bool (decide (a<b)))
 |.leq=>some (.bool (decide (a<=b)))
 |.gtr=>some (.bool (decide (a>b)))
 |.geq=>some (.bool (decide (a≥b)))
 |_=>none
def uG (op:BinOp) (x y:List UInt8):Option VV:=
 match op with
 |.add=>if x.length+y.length<=9223372036854775807 then some (.str (x++y)) else none
 |.eql=>some (.bool (x==y))
 |.neq=>some (.bool (!(x==y)))
 |.lss=>some (.bool (Op.bytesLess x y))
 |.leq=>some (.bool (Op.bytesLess x y||x==y))
 |.gtr=>some (.bool (!(Op.bytesLess x y||x==y)))
 |.geq=>some (.bool (!(Op.bytesLess x y)))
 |_=>none
def j4:TypeDesc->VV->VV->Option Bool
 |.bool,.bool a,.bool b=>some (a==b)
 |.int _,.int j a,.int k b=>if j=k then some (a==b) else none
 |.string,.str a,.str b=>some (a==b)
 |_,_,_=>none
def fA:List TypeDesc->List VV->List VV->Option Bool
 |[],[],[]=>some true
 |t::ts,a::as,b::bs=>
  match j4 t a b,fA ts as bs with
  |some x,some y=>some (x&&y)
  |_,_=>none
 |_,_,_=>none
def lQ (P:Program) (t:TypeId):Option (List TypeDesc):=
 match P.underlying t with
 |some (.struct fs)=>
  if(!(P.stoodInHeld t)&&!(P.eqGuardType P.depth t)&&fs.toList.zipIdx.all fun(f,i)=>f.name != "_" &&f.offset==i)=true then
   fs.toList.mapM λf=>match P.underlying f.type with|some .bool=>some .bool|some (.int k)=>some (.int k)|some .string=>some .string|_=>none
  else none
 |_=>none
def gy:TypeDesc->VV->VV->Option Bool
 |.bool,.bool a,.bool b=>some (a==b)
 |.pointer _,.iF,.iF=>some true
 |.pointer _,.iF,.ptr .. |.pointer _,.ptr ..,.iF=>some false
 |.slice _,.da,.da=>some true
 |.slice _,.da,.vs .. |.slice _,.da,.ref .. |.slice _,.vs ..,.da|.slice _,.ref ..,.da=>some false
 |.map _ _,.ig,.ig=>some true
 |.map _ _,.ig,.map _|.map _ _,.map _,.ig=>some false
 |.interface ms,.ec,.ec=>if ms.isEmpty then some true else none
 |.interface _,.ec,.iface .. |.interface _,.iface ..,.ec=>some false
 |_,_,_=>none
def nU (P:Program) (t:TypeId):VV->VV->Option Bool
 |.agg a,.agg b=>match lQ P t with|some ts=>fA ts a b|none=>none
 |_,_=>none
def Cv (P:Program) (t:TypeId) (x y:VV):Option Bool:=
 match P.underlying t with
 |some (.struct _)=>nU P t x y
 |some u=>gy u x y
 |none=>none
def cD (P:Program) (op:BinOp) (t:TypeId) (x y:VV):Option VV:=
 match x,y with
 |.int k a,.int k' b=>
  match op with
  |.shl=>if 0<=b then some (.int k (k.wrap (a*2^(min b.toNat k.bits)))) else none
  |.shr=>if 0<=b then some (.int k (a.fdiv (2^(min b.toNat k.bits)))) else none
  |_=>if k=k' then oX op k a b else none
 |.str a,.str b=>uG op a b
 |_,_=>
  match op with
  |.eql=>(Cv P t x y).map .bool
  |.neq=>(Cv P t x y).map λb=>.bool (!b)
  |_=>none
def wi (op:UnOp) (x:VV):Option VV:=
 match op,x with
 |.not,.bool b=>some (.bool (!b))
 |.neg,.int k n=>some (.int k (k.wrap (0-n)))
 |_,_=>none
def bound (v:Option VV) (eo other:Nat):Option Nat:=
 match v with
 |none=>some other
 |some (.int _ n)=>if 0<=n/\n<=eo then some n.toNat else none
 |some _=>none
def fc (len:Nat) (cap:Option Nat) (lo hi mx:Option VV):Option (Nat×Nat×Option Nat):=
 match mx with
 |none=>
  match bound hi len len with
  |some h=>
   match bound lo h 0 with
   |some l=>some (l,h,cap.map (·-l))
   |none=>none
  |none=>none
 |some m=>
  match hi with
  |none=>none
  |some _=>
   match bound (some m) len 0 with
   |some m=>
    match bound hi m 0 with
    |some h=>
     match bound lo h 0 with
     |some l=>some (l,h,some (m-l))
     |none=>none
    |none=>none
   |none=>none
def wb (es:List (List VV)) (e:Nat):Bool:=
 match es with
 |[]=>true
 |r::_=>r.length==e
def eX (x:VV) (e:Nat) (lo hi mx:Option VV):Option VV:=
 match x with
 |.da=>(fc 0 (some 0) lo hi mx).map λ_=>.da
 |.vs es cap=>
  if wb es e then
   match fc es.length cap lo hi mx with
   |some (l,h,c)=>some (.vs ((es.take h).drop l) (if(mx.isSome&&decide (h<=l))=true then c else cap.bind λ_=>c))
   |none=>none
  else none
 |.ref o off len du cap=>
  if du=e then
   match fc len cap lo hi mx with
   |some (l,h,c)=>some (.ref o (off+l*du) (h-l) du c)
   |none=>none
  else none
 |_=>none
def k8 (s:List UInt8) (lo hi mx:Option VV):Option VV:=
 match mx with
 |some _=>none
 |none=>
  match bound hi s.length s.length with
  |some h=>
   match bound lo h 0 with
   |some l=>some (.str ((s.take h).drop l))
   |none=>none
  |none=>none
def uD (P:Program) (t:TypeId) (x:VV) (lo hi mx:Option VV):Option VV:=
 match P.underlying t with
 |some .string=>match x with|.str s=>k8 s lo hi mx|_=>none
 |some (.slice e)=>if cE P e=0 then none else eX x (cE P e) lo hi mx
 |_=>none
def lT (P:Program) (t:TypeId) (x:VV) (h:aa):Option VV:=
 match P.underlying t,x with
 |some .string,.str s=>some (.int .i64 s.length)
 |some (.slice _),.da=>some (.int .i64 0)
 |some (.slice _),.vs es _=>some (.int .i64 es.length)
 |some (.slice _),.ref _ _ len _ _=>some (.int .i64 len)
 |some (.map _ _),.ig=>some (.int .i64 0)
 |some (.map _ _),.map o=>
  match h.get o with
  |some (.map es)=>some (.int .i64 es.length)
  |_=>none
 |_,_=>none
def eS (x:VV) (h:aa) (e:Nat):Option (List (List VV)):=
 match x with
 |.da=>some []
 |.vs es _=>if wb es e then some es else none
 |.ref o off len du _=>
  if du≠e then none else
  match h.get o with
  |some (.cells c)=>if off+len*du<=c.length then some (rows len du (c.drop off)) else none
  |_=>none
 |_=>none
def rN:List VV->Option UInt8
 |[.int .u8 n]=>if 0<=n/\n<256 then some (UInt8.ofNat n.toNat) else none
 |_=>none
def ew (P:Program) (src dst:TypeId) (x:VV) (h:aa):Option VV:=
 match P.underlying src,P.underlying dst,x with
 |some _,some (.int k),.int _ n=>some (.int k (k.wrap n))
 |some _,some .string,.str s=>some (.str s)
 |some (.slice e),some .string,x=>
  match P.underlying e with
  |some (.int .u8)=>
   match eS x h 1 with
   |some es=>(es.mapM rN).map .str
   |none=>none
  |_=>none
 |_,_,_=>none
def nf (P:Program) (src dst:TypeId) (x:VV):Bool:=
 src==dst&&(match P.underlying src,x with
  |some (.slice e),.vs ((_::_)::_) (some _)=>(match P.underlying e with|some (.int .u8)=>true|_=>false)
  |_,_=>false)
def lO (P:Program) (t:TypeId) (s x:VV) (h:aa):Option (VV×aa):=
 match iM P t with
 |some e=>
  if cE P e=0\/(eA P e).map (·.cells.length)≠some (cE P e) then none else
  match eS x h (cE P e),eS s h (cE P e) with
  |some [],some _=>some (s,h)
  |some xs,some ss=>
   if(ss.length+xs.length)*dy P e<=140737488355328/\ss.length+xs.length<=9223372036854775807 then
    let new:=dC.cells ((ss++xs).flatten)
    let v:=VV.ref h.next 0 (ss.length+xs.length) (cE P e) none
    match s with
    |.da=>some (v,h.push new)
    |.vs _ (some c)=>if c=ss.length then some (v,h.push new) else none
    |.ref o _ _ _ cap=>if cap=some ss.length then some (v,h.push new) else some (v,(h.set o .dead).push new)
    |_=>none
   else none
  |_,_=>none
 |none=>none
def lV (P:Program) (t:TypeId) (len cap:VV):Option ((Nat->VV)×dC):=
 match iM P t,len,cap with
 |some e,.int _ l,.int _ c=>
  match eA P e with
  |some z=>
   if 0<=l/\l<=c/\c<=9223372036854775807/\(dy P e:Int)*c<=140737488355328/\z.cells.length=cE P e/\cE P e≠0 then
    some (λo=>.ref o 0 l.toNat (cE P e) (some c.toNat),.cells ((List.replicate c.toNat z.cells).flatten))
   else none
  |none=>none
 |_,_,_=>none
def jI:TypeDesc->VV->Bool
 |.int _,.int _ _=>true
 |.string,.str _=>true
 |_,_=>false
def fC:VV->VV->Option Bool
 |.int j a,.int k b=>if j=k then some (a==b) else none
 |.str a,.str b=>some (a==b)
 |_,_=>none
def j5 (k:VV):List (VV×VV)->Nat->Option (Option (Nat×VV))
 |[],_=>some none
 |e::es,i=>
  match fC k e.1 with
  |some true=>some (some (i,e.2))
  |some false=>j5 k es (i+1)
  |none=>none
def kZ (P:Program) (t:TypeId):Option TypeId:=
 match P.underlying t with
 |some (.map k e)=>match P.underlying k with|some (.int _)|some .string=>some e|_=>none
 |_=>none
def kY (P:Program) (t:TypeId) (k:VV):Bool:=
 match P.underlying t with
 |some (.map kt _)=>match P.underlying kt with|some d=>jI d k|none=>false
 |_=>false
def iz (m:VV) (h:aa):Option (List (VV×VV)):=
 match m with
 |.ig=>some []
 |.map o=>match h.get o with|some (.map es)=>some es|_=>none
 |_=>none
def hH (P:Program) (t:TypeId) (m k:VV) (ok:Bool) (h:aa):Option VV:=
 match kZ P t with
 |some e=>
  if kY P t k then
   match iz m h,eA P e with
   |some es,some z=>
    match j5 k es 0 with
    |some (some (_,v))=>some (if ok then .bR [v,.bool true] else v)
    |some none=>some (if ok then .bR [z,.bool false] else z)
    |none=>none
   |_,_=>none
  else none
 |none=>none
def fH (P:Program) (t:TypeId) (m k v:VV) (h:aa):Option aa:=
 match kZ P t,m with
 |some _,.map o=>
  if kY P t k then
   match h.get o with
   |some (.map es)=>
    match j5 k es 0 with
    |some (some (i,_))=>some (h.set o (.map (es.set i (k,v))))
    |some none=>some (h.set o (.map (es++[(k,v)])))
    |none=>none
   |_=>none
  else none
 |_,_=>none
def nV (mx:Bool):VV->VV->Option VV
 |.int k x,.int _ y=>some (.int k (if mx then(if y>x then y else x) else(if y<x then y else x)))
 |_,_=>none
def kW (x:VV) (i:Nat):Option VV:=
 match x with
 |.bR l=>l[i]?
 |_=>none
def nT (P:Program) (x:VV) (asserted:TypeId) (ok:Bool):Option VV:=
 match P.underlying asserted,x with
 |some (.interface _),_=>none
 |some _,.iface t v=>if t=asserted then some (if ok then .bR [v,.bool true] else v) else
   (if ok then(eA P asserted).map λz=>.bR [z,.bool false] else none)
 |some _,.ec=>if ok then(eA P asserted).map λz=>.bR [z,.bool false] else none
 |_,_=>none
def eW (P:Program) (t:TypeId) (x:VV):Option VV:=
 match P.underlying t with
 |some (.interface _)|none=>none
 |some _=>some (.iface t x)
def aK (P:Program) (op:Op) (fr:Fr) (h:aa):Option VV:=
 match op with
 |.move x|.assign x=>some (ev fr x)
 |.pick c a b=>match ev fr c with|.bool c=>some (if c then ev fr a else ev fr b)|_=>none
 |.build t ps=>yb P t (ps.toList.map λp=>(p.1,ev fr p.2))
 |.buildSlice t n ps=>iy P t n (ps.toList.map λp=>(p.1,ev fr p.2))
 |.load t a=>jJ P t (ev fr a) h
 |.nilCheck x=>gS (ev fr x)
 |.binOp op t x y _=>cD P op t (ev fr x) (ev fr y)
 |.unOp op _ x=>wi op (ev fr x)
 |.convert s d x=>if nf P s d (ev fr x)=true then some (ev fr x) else ew P s d (ev fr x) h
 |.makeInterface t x=>eW P t (ev fr x)
 |.makeFunc f a b=>some (.fn f (a.toList.map (ev fr)) (b.toList.map (ev fr)))
 |.slice t x lo hi mx=>uD P t (ev fr x) (lo.map (ev fr)) (hi.map (ev fr)) (mx.map (ev fr))
 |.fieldAddr t x i=>eT P t (ev fr x) i
 |.field t x i=>kX P t (ev fr x) i
 |.indexAddr t x i=>dA P t (ev fr x) (ev fr i)
 |.index t x i=>match P.underlying t with|some .string=>rb (ev fr x) (ev fr i)|_=>none
 |.lookup t m k ok=>hH P t (ev fr m) (ev fr k) ok h
 |.typeAssert x _ d ok=>nT P (ev fr x) d ok
 |.extract x i=>kW (ev fr x) i
 |.call {callee:=.builtin .len,args:=⟨[x]⟩,argTypes:=⟨[t]⟩}=>lT P t (ev fr x) h
 |.call {callee:=.builtin .min,args:=⟨[x,y]⟩,argTypes:=_}=>nV false (ev fr x) (ev fr y)
 |.call {callee:=.builtin .max,args:=⟨[x,y]⟩,argTypes:=_}=>nV true (ev fr x) (ev fr y)
 |_=>none
def fT (P:Program) (op:Op) (fr:Fr):Option ((Nat->VV)×dC):=
 match op with
 |.alloc t=>(eA P t).map λz=>(λo=>.ptr o 0,.cells z.cells)
 |.box _ x=>if(ev fr x).gh=true then none else some (λo=>.ptr o 0,.cells (ev fr x).cells)
 |.makeMap _ none=>some (λo=>.map o,.map [])
 |.makeSlice t l c=>lV P t (ev fr l) (ev fr c)
 |_=>none
def iI (P:Program) (op:Op) (fr:Fr) (h:aa):Option (VV×aa):=
 match op with
 |.store t a v=>(nj P t (ev fr a) (ev fr v) h).map λh=>(.undef,h)
 |.mapUpdate t m k v|.insert t m k v=>(fH P t (ev fr m) (ev fr k) (ev fr v) h).map λh=>(.undef,h)
 |.call {callee:=.builtin .append,args:=⟨[s,x]⟩,argTypes:=⟨[t,t']⟩}=>if t=t' then lO P t (ev fr s) (ev fr x) h else none
 |_=>none
def rR (P:Program) (op:Op) (fr:Fr) (h:aa):Option (VV×aa):=
 match aK P op fr h with
 |some v=>some (v,h)
 |none=>
  match fT P op fr with
  |some (f,x)=>some (f h.next,h.push x)
  |none=>iI P op fr h
end
section
structure ab where
 φ:Nat->Option (Nat×Nat×Nat)
 D:Nat->Prop
 I:Nat->Nat->Option Value
 n:Nat
 low:Nat
inductive RV (G:ab):VV->Value->Prop where
 |bool (b:Bool):RV G (.bool b) (.bool b)
 |int (k:IntKind) (n:Int):RV G (.int k n) (.int k n)
 |str (s:ByteArray):RV G (.str s.data.toList) (.string s)
 |iF:RV G .iF (.pointer none)
 |ptr {o off b base k:Nat}:G.φ o=some (b,base,k)->RV G (.ptr o off) (.pointer (some ⟨b,base+off,none⟩))
 |tS {o off:Nat} {a:Addr}:G.D o->RV G (.ptr o off) (.pointer (some a))
 |fb {cs:List VV} {off b base:Nat} (vals:Nat->Value):(∀j,j<cs.length->G.I b (base+j)=some (vals j))->
   (∀j (h:j<cs.length),RV G cs[j] (vals j))->(∀j,j<cs.length->(vals j).oneCell'=true)->RV G (.fb cs off) (.pointer (some ⟨b,base+off,none⟩))
 |qH (g:Nat):RV G (.qH g) (.pointer (some ⟨g,0,none⟩))
 |da:RV G .da (.slice none 0 0)
 |vs {es:List (List VV)} {cap:Option Nat} {b base n c:Nat} {a:Addr} (vals:Nat->Nat->Value):es.length<=c->(∀k,cap=some k->c=k/\(es=[]\/G.low<=b))->
   (∀i (h:i<es.length),es[i].length=n)->(∀i j,i<es.length->j<n->G.I b (base+i*n+j)=some (vals i j))->
   (∀i (h:i<es.length) j (h':j<es[i].length),RV G es[i][j] (vals i j))->(∀i j,i<es.length->j<n->(vals i j).oneCell'=true)->
   (es=[]\/a=⟨b,base,none⟩)->RV G (.vs es cap) (.slice (some a) es.length c)
 |ref {o off len du b base k c:Nat} {cap:Option Nat} {a:Addr}:G.φ o=some (b,base,k)->len<=c->(∀k',cap=some k'->c=k')->
   (c=0\/(a=⟨b,base+off,none⟩/\off+c*du<=k))->a.spot=none->RV G (.ref o off len du cap) (.slice (some a) len c)
 |sd {o off len du c:Nat} {cap:Option Nat} {a:Addr}:G.D o->len<=c->(∀k',cap=some k'->c=k')->RV G (.ref o off len du cap) (.slice (some a) len c)
 |ig:RV G .ig (.map none)
 |map {o b base k:Nat}:G.φ o=some (b,base,k)->RV G (.map o) (.map (some b))
 |zZ {o b:Nat}:G.D o->RV G (.map o) (.map (some b))
 |fn {f:Fn} {first captured:List VV} {a c:Array Value}:first.length=a.size->captured.length=c.size->
   (∀j (h:j<first.length) (h':j<a.size),RV G first[j] a[j])->(∀j (h:j<captured.length) (h':j<c.size),RV G captured[j] c[j])->RV G (.fn f first captured) (.func f a c)
 |lJ:RV G .lJ .nilFunc
 |iface {t:TypeId} {v:VV} {x:Value}:RV G v x->RV G (.iface t v) (.iface t x)
 |ec:RV G .ec .nilIface
 |agg {cs:List VV} {a:Array Value}:cs.length=a.size->(∀j (h:j<cs.length) (h':j<a.size),RV G cs[j] a[j])->
   (∀j (h:j<a.size),a[j].oneCell'=true)->RV G (.agg cs) (.agg a)
 |bR {cs:List VV} {a:Array Value}:cs.length=a.size->(∀j (h:j<cs.length) (h':j<a.size),RV G cs[j] a[j])->RV G (.bR cs) (.tuple a)
 |CS {o b base k:Nat}:G.φ o=some (b,base,k)->RV G (.CS o) (.func (.yield b) #[] #[])
 |F0 {o b:Nat}:G.D o->RV G (.CS o) (.func (.yield b) #[] #[])
def cO (G:ab) (l:List VV) (a:List Value):Prop:=l.length=a.length/\∀j (h:j<l.length) (h':j<a.length),RV G l[j] a[j]
theorem cO.nil (G:ab):cO G [] []:=⟨rfl,λ_ h=>absurd h (Nat.not_lt_zero _)⟩
theorem cO.cons {G:ab} {v:VV} {x:Value} {l:List VV} {a:List Value} (h:RV G v x) (ht:cO G l a):cO G (v::l) (x::a):=by
 refine⟨by simp[ht.1],λj h1 h2=>?_⟩
 cases j with
 |zero=>exact h
 |succ j=>exact ht.2 j (by simpa using h1) (by simpa using h2)
theorem cO.append {G:ab} {l l':List VV} {a a':List Value} (h:cO G l a) (h':cO G l' a'):cO G (l++l') (a++a'):=by
 refine⟨by simp[h.1,h'.1],λj h1 h2=>?_⟩
 by_cases hj:j<l.length
 ·rw[List.getElem_append_left hj,List.getElem_append_left (h.1▸hj)];exact h.2 _ _ _
 ·have e1:l.length<=j:=by omega
  have e2:a.length<=j:=by rw[<-h.1];exact e1
  rw[List.getElem_append_right e1,List.getElem_append_right e2]
  have:j-l.length=j-a.length:=by rw[h.1]
  have h3:=h'.2 (j-l.length) (by simp at h1;omega) (by simp at h2;rw[h.1];omega)
  simpa[h.1] using h3
theorem cO.take {G:ab} {l:List VV} {a:List Value} (h:cO G l a) (n:Nat):cO G (l.take n) (a.take n):=
 ⟨by simp[h.1],λj h1 h2=>by simpa using h.2 j (by simp at h1;omega) (by simp at h2;omega)⟩
theorem cO.drop {G:ab} {l:List VV} {a:List Value} (h:cO G l a) (n:Nat):cO G (l.drop n) (a.drop n):=
 ⟨by simp[h.1],λj h1 h2=>by simpa using h.2 (n+j) (by simp at h1;omega) (by simp at h2;omega)⟩
theorem cO.get {G:ab} {l:List VV} {a:List Value} (h:cO G l a) {j:Nat} {v:VV} (hv:l[j]?=some v):∃x,a[j]?=some x/\RV G v x:=by
 obtain⟨hj,rfl⟩:=List.getElem?_eq_some_iff.1 hv
 have hj':j<a.length:=h.1▸hj
 exact⟨a[j],by simp[hj'],h.2 j hj hj'⟩
theorem RV.fW {G:ab} {cs:List VV} {x:Value}:RV G (.agg cs) x↔∃a:Array Value,x=.agg a/\cO G cs a.toList/\∀v∈a.toList,v.oneCell'=true:=by
 constructor
 ·intro h;cases h with
  |agg h1 h2 h3=>
   refine⟨_,rfl,⟨by simpa using h1,λj h h'=>by simpa using h2 j h (by simpa using h')⟩,λv hv=>?_⟩
   obtain⟨j,hj,rfl⟩:=List.getElem_of_mem hv
   simpa using h3 j (by simpa using hj)
 ·rintro⟨a,rfl,h1,h2⟩
  exact .agg (by simpa using h1.1) (λj h h'=>by have:=h1.2 j h (by simpa using h');rwa [Array.getElem_toList] at this) (λj h=>h2 _ (by simp))
theorem RV.iV {G:ab} {cs:List VV} {x:Value}:RV G (.bR cs) x↔∃a:Array Value,x=.tuple a/\cO G cs a.toList:=by
 constructor
 ·intro h;cases h with
  |bR h1 h2=>exact⟨_,rfl,by simpa using h1,λj h h'=>by simpa using h2 j h (by simpa using h')⟩
 ·rintro⟨a,rfl,h1⟩
  exact .bR (by simpa using h1.1) (λj h h'=>by have:=h1.2 j h (by simpa using h');rwa [Array.getElem_toList] at this)
structure ab.Le (G G':ab):Prop where
 φ:∀o m,G.φ o=some m->G'.φ o=some m\/G'.D o
 D:∀o,G.D o->G'.D o
 I:∀b o v,G.I b o=some v->G'.I b o=some v
 low:G'.low=G.low
theorem ab.Le.refl (G:ab):G.Le G:=⟨λ_ _ h=>.inl h,λ_ h=>h,λ_ _ _ h=>h,rfl⟩
theorem ab.Le.trans {G G1 G2:ab} (h:G.Le G1) (h':G1.Le G2):G.Le G2:=
 ⟨λo m hm=>(h.φ o m hm).elim (h'.φ o m) λd=>.inr (h'.D o d),λo d=>h'.D o (h.D o d),λb o v hv=>h'.I b o v (h.I b o v hv),h'.low.trans h.low⟩
theorem RV.mono {G G':ab} (hle:G.Le G') {v:VV} {x:Value} (h:RV G v x):RV G' v x:=by
 induction h with
 |bool b=>exact .bool b
 |int k n=>exact .int k n
 |str s=>exact .str s
 |iF=>exact .iF
 |ptr h=>exact(hle.φ _ _ h).elim .ptr .tS
 |tS h=>exact .tS (hle.D _ h)
 |fb vals h1 _ h3 ih=>exact .fb vals (λj hj=>hle.I _ _ _ (h1 j hj)) ih h3
 |qH g=>exact .qH g
 |da=>exact .da
 |vs vals h1 h2 h3 h4 _ h6 h7 ih=>exact .vs vals h1 (λk hk=>by rw[hle.low];exact h2 k hk) h3 (λi j hi hj=>hle.I _ _ _ (h4 i j hi hj)) ih h6 h7
 |ref h h1 h2 h3 h4=>exact(hle.φ _ _ h).elim (λh=>.ref h h1 h2 h3 h4) λh=>.sd h h1 h2
 |sd h h1 h2=>exact .sd (hle.D _ h) h1 h2
 |ig=>exact .ig
 |map h=>exact(hle.φ _ _ h).elim .map .zZ
 |zZ h=>exact .zZ (hle.D _ h)
 |fn h1 h2 _ _ ih1 ih2=>exact .fn h1 h2 ih1 ih2
 |lJ=>exact .lJ
 |iface _ ih=>exact .iface ih
 |ec=>exact .ec
 |agg h1 _ h3 ih=>exact .agg h1 ih h3
 |bR h1 _ ih=>exact .bR h1 ih
 |CS h=>exact(hle.φ _ _ h).elim .CS .F0
 |F0 h=>exact .F0 (hle.D _ h)
theorem cO.mono {G G':ab} (hle:G.Le G') {l:List VV} {a:List Value} (h:cO G l a):cO G' l a:=⟨h.1,λj h1 h2=>(h.2 j h1 h2).mono hle⟩
theorem RV.one {G:ab} {v:VV} {x:Value} (h:RV G v x):v.one=x.oneCell':=by cases h<;>rfl
theorem RV.undef (G:ab):RV G .undef Go.undef:=.bR rfl (λ_ h=>absurd h (Nat.not_lt_zero _))
theorem RV.cells {G:ab} {v:VV} {x:Value} (h:RV G v x) (ht:v.gh=false):
 cO G v.cells x.cells.toList/\∀u∈x.cells.toList,u.oneCell'=true:=by
 by_cases hv:v.one=true
 ·have hx:x.oneCell'=true:=by rw[<-h.one];exact hv
  have e1:v.cells=[v]:=by cases v<;>first|rfl|(simp[VV.one] at hv)
  have e2:x.cells=#[x]:=by cases x<;>first|rfl|(simp[Value.oneCell'] at hx)
  rw[e1,e2]
  exact⟨.cons h (.nil G),by simpa using hx⟩
 ·cases v<;>simp[VV.one,VV.gh] at hv ht
  obtain⟨a,rfl,h1,h2⟩:=RV.fW.1 h
  exact⟨h1,h2⟩
def mo (G:ab) (w:World) (b base k:Nat):dC->Prop
 |.cells c=>∃arr t,w.heap[b]?=some (.cells arr t (0,0))/\base+k<=arr.size/\c.length<=k/\
   ∀j (h:j<c.length),∃v,arr[base+j]?=some v/\RV G c[j] v/\v.oneCell'=true
 |.map es=>∃ents clock,w.heap[b]?=some (.map ents clock)/\ents.size=es.length/\
   ∀j (h:j<es.length) (h':j<ents.size),RV G es[j].1 ents[j].key/\RV G es[j].2 ents[j].val
 |.dead=>False
 |.loop l=>∃r,w.heap[b]?=some (.loop r)/\r.state=l.st/\r.pending=l.cK/\r.params=l.ps/\r.assign=l.assign/\r.body=l.body/\r.tmps.size=l.n/\
   ∀t,RV G (Fr.at l.fr t) (r.tmps.getD t Go.undef)
structure yM (G:ab) (w:World):Prop where
 cell:∃m,w.cell? ⟨0,0,none⟩=some (.int .i64 m)
 own:∀o m,G.φ o=some m->m.1≠0
 Qm:(∀i,G.I 0 i=none)\/0<G.low
structure Rel0 (G:ab) (h:aa) (w:World):Prop where
 kq:∀b o v,G.I b o=some v->w.cell? ⟨b,o,none⟩=some v
 obj:∀o b base k,G.φ o=some (b,base,k)->∃x,h.get o=some x/\mo G w b base k x
 inj:∀o o' m m',G.φ o=some m->G.φ o'=some m'->o≠o'->m.1≠m'.1
 sep:∀o m off,G.φ o=some m->G.I m.1 off=none
 iD:∀o m,G.φ o=some m->o<h.next
 dead:∀o,G.D o->o<h.next/\h.get o=some .dead
 num:G.n=h.next
 fresh:∀o,h.next<=o->h.get o=none
 low:G.low<=w.heap.size
structure Rel (G:ab) (h:aa) (w:World):Prop extends Rel0 G h w where
 mx:yM G w
structure Ext0 (G G':ab) (w w':World):Prop where
 le:G.Le G'
 size:w.heap.size<=w'.heap.size
 Fg:∀b,b<w.heap.size->(∀o m,G.φ o=some m->m.1≠b)->((∀i,G.I b i=none)\/b<G.low)->w'.heap[b]?=w.heap[b]?
 own:∀o m,G'.φ o=some m->(∃o' m',G.φ o'=some m'/\m'.1=m.1)\/w.heap.size<=m.1
 BZ:∀b i v,G'.I b i=some v->(∃i' v',G.I b i'=some v')\/(∃o m,G.φ o=some m/\m.1=b)\/w.heap.size<=b
 os:w'.os=w.os
 tape:w'.tape=w.tape
 output:w'.output=w.output
theorem yM.lt {G:ab} {w:World} (h:yM G w):0<w.heap.size:=by
 obtain⟨m,hm⟩:=h.cell
 exact World.block_lt_of_cell? w _ hm
theorem yM.ext {G G':ab} {w w':World} (h:yM G w) (he:Ext0 G G' w w'):yM G' w':=by
 have h0:=h.lt
 have hold:=he.Fg 0 h0 h.own h.Qm
 refine⟨?_,λo m hm e=>?_,?_⟩
 ·obtain⟨m,hm⟩:=h.cell
  exact⟨m,by rw[<-hm];exact World.cell?_of_block hold⟩
 ·rcases he.own o m hm with⟨o',m',h1,h2⟩|h1
  ·exact h.own o' m' h1 (h2.trans e)
  ·omega
 ·rcases h.Qm with hi|hi
  ·left
   intro i
   cases hc:G'.I 0 i with
   |none=>rfl
   |some v=>
    rcases he.BZ 0 i v hc with⟨i',v',h1⟩|⟨o,m,h1,h2⟩|h1
    ·rw[hi i'] at h1;cases h1
    ·exact absurd h2 (h.own o m h1)
    ·omega
  ·right;rw[he.le.low];exact hi
theorem Ext0.refl (G:ab) (w:World):Ext0 G G w w:=
 ⟨.refl G,Nat.le_refl _,λ_ _ _ _=>rfl,λo m h=>.inl ⟨o,m,h,rfl⟩,λ_ i v h=>.inl ⟨i,v,h⟩,rfl,rfl,rfl⟩
theorem Ext0.trans {G G1 G2:ab} {w w1 w2:World} (h:Ext0 G G1 w w1) (h':Ext0 G1 G2 w1 w2):Ext0 G G2 w w2 where
 le:=h.le.trans h'.le
 size:=Nat.le_trans h.size h'.size
 Fg:=λb hb hn hI=>by
  have k1:∀o m,G1.φ o=some m->m.1≠b:=λo m hm=>by
   rcases h.own o m hm with⟨o',m',h1,h2⟩|h1
   ·exact h2▸hn o' m' h1
   ·omega
  have k2:(∀i,G1.I b i=none)\/b<G1.low:=by
   rcases hI with hI|hI
   ·refine .inl λi=>?_
    cases hc:G1.I b i with
    |none=>rfl
    |some v=>
     rcases h.BZ b i v hc with⟨i',v',h1⟩|⟨o,m,h1,h2⟩|h1
     ·rw[hI i'] at h1;cases h1
     ·exact absurd h2 (hn o m h1)
     ·omega
   ·exact .inr (by rw[h.le.low];exact hI)
  rw[h'.Fg b (Nat.lt_of_lt_of_le hb h.size) k1 k2,h.Fg b hb hn hI]
 own:=λo m hm=>by
  rcases h'.own o m hm with⟨o',m',h1,h2⟩|h1
  ·rcases h.own o' m' h1 with⟨o2,m2,h3,h4⟩|h3
   ·exact .inl ⟨o2,m2,h3,h4.trans h2⟩
   ·exact .inr (h2▸h3)
  ·exact .inr (Nat.le_trans h.size h1)
 BZ:=λb i v hv=>by
  rcases h'.BZ b i v hv with⟨i',v',h1⟩|⟨o,m,h1,h2⟩|h1
  ·exact h.BZ b i' v' h1
  ·rcases h.own o m h1 with⟨o',m',h3,h4⟩|h3
   ·exact .inr (.inl ⟨o',m',h3,h4.trans h2⟩)
   ·exact .inr (.inr (h2▸h3))
  ·exact .inr (.inr (Nat.le_trans h.size h1))
 os:=h'.os.trans h.os
 tape:=h'.tape.trans h.tape
 output:=h'.output.trans h.output
structure Young (G G':ab):Prop where
 num:G.n<=G'.n
 j8:∀o,o<G.n->G.φ o=none->G'.φ o=none
theorem Young.refl (G:ab):Young G G:=⟨Nat.le_refl _,λ_ _ h=>h⟩
theorem Young.trans {G G1 G2:ab} (h:Young G G1) (h':Young G1 G2):Young G G2:=
 ⟨Nat.le_trans h.num h'.num,λo ho hφ=>h'.j8 o (Nat.lt_of_lt_of_le ho h.num) (h.j8 o ho hφ)⟩
structure Ext (G G':ab) (w w':World):Prop extends Ext0 G G' w w',Young G G'
theorem Ext.mk' {G G':ab} {w w':World} (h:Ext0 G G' w w') (hy:Young G G'):Ext G G' w w':={h,hy with}
theorem Ext.refl (G:ab) (w:World):Ext G G w w:=.mk' (.refl G w) (.refl G)
theorem Ext.trans {G G1 G2:ab} {w w1 w2:World} (h:Ext G G1 w w1) (h':Ext G1 G2 w1 w2):Ext G G2 w w2:=
 .mk' (h.toExt0.trans h'.toExt0) (h.toYoung.trans h'.toYoung)
theorem Rel0.pair {G G':ab} {h':aa} {w w':World} (hm:yM G w) (h0:Rel0 G' h' w') (he:Ext G G' w w'):Rel G' h' w'/\Ext G G' w w':=⟨⟨h0,hm.ext he.toExt0⟩,he⟩
theorem Rel0.Uw {G G':ab} {h':aa} {w w':World} (hm:yM G w) (h0:Rel0 G' h' w') (he:Ext0 G G' w w'):Rel G' h' w'/\Ext0 G G' w w':=⟨⟨h0,hm.ext he⟩,he⟩
theorem Rel.drew {G:ab} {h:aa} {w:World} (hr:Rel G h w) (n:Nat):Rel G h {w with drawn:=n}:=
 ⟨⟨hr.kq,λo b base k hm=>by
  obtain⟨x,hx,hat⟩:=hr.obj o b base k hm
  exact⟨x,hx,by cases x<;>exact hat⟩,hr.inj,hr.sep,hr.iD,hr.dead,hr.num,hr.fresh,hr.low⟩,⟨hr.mx.cell,hr.mx.own,hr.mx.Qm⟩⟩
theorem Ext.drew (G:ab) (w:World) (n:Nat):Ext G G w {w with drawn:=n}:=
 .mk' ⟨.refl G,Nat.le_refl _,λ_ _ _ _=>rfl,λo m h=>.inl ⟨o,m,h,rfl⟩,λ_ i v h=>.inl ⟨i,v,h⟩,rfl,rfl,rfl⟩ (.refl G)
theorem Rel.fX {G:ab} {h:aa} {w:World} (hr:Rel G h w) {o:Nat} {m:Nat×Nat×Nat} (hm:G.φ o=some m):m.1<w.heap.size:=by
 obtain⟨b,base,k⟩:=m
 obtain⟨x,_,hat⟩:=hr.obj o b base k hm
 cases x with
 |cells c=>obtain⟨arr,t,hb,_⟩:=hat;exact(Array.getElem?_eq_some_iff.1 hb).1
 |map es=>obtain⟨ents,cl,hb,_⟩:=hat;exact(Array.getElem?_eq_some_iff.1 hb).1
 |dead=>exact hat.elim
 |loop l=>obtain⟨r,hb,_⟩:=hat;exact(Array.getElem?_eq_some_iff.1 hb).1
theorem Rel.fJ {G:ab} {h:aa} {w:World} (hr:Rel G h w) {b o:Nat} {v:Value} (hm:G.I b o=some v):b<w.heap.size:=
 World.block_lt_of_cell? w _ (hr.kq b o v hm)
theorem mo.mono {G G':ab} (hle:G.Le G') {w w':World} {b base k:Nat} {x:dC} (hb:w'.heap[b]?=w.heap[b]?) (h:mo G w b base k x):mo G' w' b base k x:=by
 cases x with
 |cells c=>
  obtain⟨arr,t,h1,h2,h3,h4⟩:=h
  exact⟨arr,t,hb.trans h1,h2,h3,λj hj=>let⟨v,a1,a2,a3⟩:=h4 j hj;⟨v,a1,a2.mono hle,a3⟩⟩
 |map es=>
  obtain⟨ents,cl,h1,h2,h3⟩:=h
  exact⟨ents,cl,hb.trans h1,h2,λj hj hj'=>⟨(h3 j hj hj').1.mono hle,(h3 j hj hj').2.mono hle⟩⟩
 |dead=>exact h.elim
 |loop l=>
  obtain⟨r,h1,h2,h3,h4,h5,h6,h7,h8⟩:=h
  exact⟨r,hb.trans h1,h2,h3,h4,h5,h6,h7,λt=>(h8 t).mono hle⟩
def ab.more (G:ab):ab:={G with n:=G.n+1}
theorem ab.nE (G:ab):G.Le G.more:=⟨λ_ _ h=>.inl h,λ_ h=>h,λ_ _ _ h=>h,rfl⟩
theorem Ext.more (G:ab) (w:World):Ext G G.more w w:=
 .mk' ⟨G.nE,Nat.le_refl _,λ_ _ _ _=>rfl,λo m h=>.inl ⟨o,m,h,rfl⟩,λ_ i v h=>.inl ⟨i,v,h⟩,rfl,rfl,rfl⟩ ⟨Nat.le_succ _,λ_ _ h=>h⟩
theorem Rel.push {G:ab} {h:aa} {w:World} (hr:Rel G h w) (x:dC):Rel G.more (h.push x) w where
 kq:=hr.kq
 obj:=λo b base k hm=>by
  obtain⟨y,hy,hat⟩:=hr.obj o b base k hm
  exact⟨y,by rw[aa.dm _ _ (Nat.ne_of_lt (hr.iD o _ hm))];exact hy,hat.mono G.nE rfl⟩
 inj:=hr.inj
 sep:=hr.sep
 iD:=λo m hm=>Nat.lt_succ_of_lt (hr.iD o m hm)
 dead:=λo hd=>⟨Nat.lt_succ_of_lt (hr.dead o hd).1,by rw[aa.dm _ _ (Nat.ne_of_lt (hr.dead o hd).1)];exact(hr.dead o hd).2⟩
 num:=by simp[ab.more,aa.cA,hr.num]
 fresh:=λo ho=>by rw[aa.cA] at ho;rw[aa.dm _ _ (by omega)];exact hr.fresh o (by omega)
 low:=hr.low
 mx:=⟨hr.mx.cell,hr.mx.own,hr.mx.Qm⟩
def ab.cp (G:ab) (o:Nat) (m:Nat×Nat×Nat):ab:={G with φ:=λi=>if i=o then some m else G.φ i}
theorem ab.lG {G:ab} {o:Nat} (m:Nat×Nat×Nat) (h:G.φ o=none):G.Le (G.cp o m):=
 ⟨λi m' hi=>.inl (by
  have:i≠o:=λe=>by subst e;rw[h] at hi;cases hi
  simp[ab.cp,this,hi]),λ_ h=>h,λ_ _ _ h=>h,rfl⟩
theorem Rel.cp {G:ab} {h:aa} {w:World} (hr:Rel G h w) {o:Nat} {x:dC} (hx:h.get o=some x) (hlt:o<h.next) (hφ:G.φ o=none)
 (B:Obj) (k:Nat) (hat:mo (G.cp o (w.heap.size,0,k)) (w.alloc B) w.heap.size 0 k x):
 Rel (G.cp o (w.heap.size,0,k)) h (w.alloc B)/\Ext0 G (G.cp o (w.heap.size,0,k)) w (w.alloc B):=by
 have hle:G.Le (G.cp o (w.heap.size,0,k)):=ab.lG _ hφ
 have hsz:(w.alloc B).heap.size=w.heap.size+1:=by simp
 refine Rel0.Uw hr.mx ⟨?_,?_,?_,?_,?_,?_,hr.num,hr.fresh,by rw[hsz];exact Nat.le_succ_of_le hr.low⟩ ⟨hle,by omega,?_,?_,λ_ i v h=>.inl ⟨i,v,h⟩,rfl,rfl,rfl⟩
 ·intro b i v hv
  have hb:=hr.fJ hv
  have h1:=hr.kq b i v hv
  rw[<-h1]
  exact World.cell?_of_block (heap_alloc_old w B b hb)
 ·intro i b base k' hm
  by_cases hi:i=o
  ·subst hi
   simp[ab.cp] at hm
   obtain⟨rfl,rfl,rfl⟩:=hm
   exact⟨x,hx,hat⟩
  ·simp[ab.cp,hi] at hm
   obtain⟨y,hy,hyt⟩:=hr.obj i b base k' hm
   exact⟨y,hy,hyt.mono hle (heap_alloc_old w B b (hr.fX hm))⟩
 ·intro i i' m m' hm hm' hne
  by_cases hi:i=o
  ·subst hi
   have hi':i'≠i:=λe=>hne e.symm
   simp[ab.cp] at hm
   simp[ab.cp,hi'] at hm'
   have:=hr.fX hm'
   subst hm
   simp;omega
  ·simp[ab.cp,hi] at hm
   by_cases hi':i'=o
   ·subst hi'
    simp[ab.cp] at hm'
    have:=hr.fX hm
    subst hm'
    simp;omega
   ·simp[ab.cp,hi'] at hm'
    exact hr.inj i i' m m' hm hm' hne
 ·intro i m off hm
  by_cases hi:i=o
  ·subst hi
   simp[ab.cp] at hm
   subst hm
   cases hI:G.I w.heap.size off with
   |none=>exact hI
   |some v=>have:=hr.fJ hI;omega
  ·simp[ab.cp,hi] at hm
   exact hr.sep i m off hm
 ·intro i m hm
  by_cases hi:i=o
  ·subst hi;exact hlt
  ·simp[ab.cp,hi] at hm
   exact hr.iD i m hm
 ·exact hr.dead
 ·intro b hb _ _
  exact heap_alloc_old w B b hb
 ·intro i m hm
  by_cases hi:i=o
  ·subst hi
   simp[ab.cp] at hm
   subst hm
   exact .inr (Nat.le_refl _)
  ·simp[ab.cp,hi] at hm
   exact .inl ⟨i,m,hm,rfl⟩
def ab.fix (G:ab) (b:Nat) (arr:List Value):ab:={G with I:=λb' o=>if b'=b then arr[o]? else G.I b' o}
theorem Rel.fix {G:ab} {h:aa} {w:World} (hr:Rel G h w) (arr:List Value) (t:TypeId):
 Rel (G.fix w.heap.size arr) h (w.alloc (.cells arr.toArray t))/\Ext G (G.fix w.heap.size arr) w (w.alloc (.cells arr.toArray t)):=by
 have hle:G.Le (G.fix w.heap.size arr):=⟨λ_ _ h=>.inl h,λ_ h=>h,λb o v hv=>by
  have:b≠w.heap.size:=Nat.ne_of_lt (hr.fJ hv)
  simp[ab.fix,this,hv],rfl⟩
 refine Rel0.pair hr.mx ⟨?_,?_,hr.inj,?_,hr.iD,hr.dead,hr.num,hr.fresh,by show G.low<=_;simpa using Nat.le_succ_of_le hr.low⟩ (.mk' ⟨hle,by simp,λb hb _ _=>heap_alloc_old w _ b hb,λo m hm=>.inl ⟨o,m,hm,rfl⟩,λb i v hv=>by
  by_cases hb:b=w.heap.size
  ·exact .inr (.inr (by omega))
  ·simp[ab.fix,hb] at hv;exact .inl ⟨i,v,hv⟩,rfl,rfl,rfl⟩ ⟨Nat.le_refl _,λ_ _ h=>h⟩)
 ·intro b o v hv
  by_cases hb:b=w.heap.size
  ·subst hb
   simp[ab.fix] at hv
   rw[cell_of_row _ _ _ _ _ _ (heap_alloc_new w _)]
   simpa using hv
  ·simp[ab.fix,hb] at hv
   rw[<-hr.kq b o v hv]
   exact World.cell?_of_block (heap_alloc_old w _ b (hr.fJ hv))
 ·intro o b base k hm
  obtain⟨y,hy,hyt⟩:=hr.obj o b base k hm
  exact⟨y,hy,hyt.mono hle (heap_alloc_old w _ b (hr.fX hm))⟩
 ·intro o m off hm
  have:m.1≠w.heap.size:=Nat.ne_of_lt (hr.fX hm)
  simp[ab.fix,this,hr.sep o m off hm]
end
section
variable{P:Program} {G:ab} {w:World}
theorem info_of_underlying {t:TypeId} {d:TypeDesc} (h:P.underlying t=some d):∃i,P.info? t=some i:=by
 unfold Program.underlying at h
 cases hi:P.info? t with
 |none=>simp[hi] at h
 |some i=>exact⟨i,rfl⟩
theorem cd {t:TypeId} {i:TypeInfo} (h:P.info? t=some i):(sizeOf t).run P w=.ok (cE P t) w:=by
 simp[sizeOf,typeInfo,h,cE]
theorem mZ {t:TypeId} {b:Bool} (h:uk P t=some b):(isAgg t).run P w=.ok b w/\∃i,P.info? t=some i:=by
 unfold uk at h
 cases hu:P.underlying t with
 |none=>simp[hu] at h
 |some d=>
  refine⟨?_,info_of_underlying hu⟩
  unfold isAgg
  rw[Sem.run_bind,run_underlying hu w]
  rw[hu] at h
  cases d<;>simp_all
def nq (w:World) (b base:Nat) (L:List Value):Prop:=∀j u,L[j]?=some u->w.cell? ⟨b,base+j,none⟩=some u
theorem dI (b o n:Nat):(⟨b,o,none⟩:Addr).add n=⟨b,o+n,none⟩:=by
 unfold Addr.add;split<;>simp_all
theorem kR {b base:Nat} {L:List Value} (h:nq w b base L) (off n:Nat) (hn:off+n<=L.length):
 (loadCells ⟨b,base+off,none⟩ n).run P w=.ok ((L.drop off).take n).toArray w:=by
 have hl:((L.drop off).take n).length=n:=by simp;omega
 have:=run_loadCells_list (P:=P) w ⟨b,base+off,none⟩ ((L.drop off).take n) (λj v hv=>by
  rw[dI,Nat.add_assoc]
  apply h
  rw[List.getElem?_take] at hv
  split at hv
  ·rw[List.getElem?_drop] at hv;exact hv
  ·cases hv)
 rw[hl] at this
 exact this
theorem rS {cs:List VV} {L:List Value} (hc:cO G cs L) (h1:∀u∈L,u.oneCell'=true) {t:TypeId} {off:Nat} {v:VV} (hv:gz P t cs off=some v)
 {b base:Nat} (hat:nq w b base L):∃x,(loadVar t ⟨b,base+off,none⟩).run P w=.ok x w/\RV G v x:=by
 unfold gz at hv
 cases ha:uk P t with
 |none=>simp[ha] at hv
 |some ag=>
  obtain⟨hrun,i,hi⟩:=mZ (w:=w) ha
  cases ag with
  |true=>
   simp only[ha] at hv
   split at hv
   ·rename_i hle
    cases hv
    refine⟨.agg ((L.drop off).take (cE P t)).toArray,?_,RV.fW.2 ⟨_,rfl,by simpa using(hc.drop off).take _,λu hu=>h1 u ?_⟩⟩
    ·unfold loadVar
     rw[Sem.run_bind,hrun]
     simp only[Result.andThen_ok,if_true]
     rw[Sem.run_bind,cd hi]
     simp only[Result.andThen_ok]
     rw[Sem.run_bind,kR hat off _ (by rw[<-hc.1];exact hle)]
     rfl
    ·exact List.mem_of_mem_drop (List.mem_of_mem_take (by simpa using hu))
   ·cases hv
  |false=>
   simp only[ha] at hv
   obtain⟨x,hx,hr⟩:=hc.get hv
   refine⟨x,?_,hr⟩
   unfold loadVar
   rw[Sem.run_bind,hrun]
   simp only[Result.andThen_ok,Bool.false_eq_true,if_false]
   simp[hat off x hx]
theorem CA {cs:List VV} {a:Array Value} (hc:cO G cs a.toList) (h1:∀u∈a.toList,u.oneCell'=true) {t:TypeId} {off:Nat} {v:VV} (hv:gz P t cs off=some v):
 ∃x,(part t a off).run P w=.ok x w/\RV G v x:=by
 unfold gz at hv
 cases ha:uk P t with
 |none=>simp[ha] at hv
 |some ag=>
  obtain⟨hrun,i,hi⟩:=mZ (w:=w) ha
  cases ag with
  |true=>
   simp only[ha] at hv
   split at hv
   ·rename_i hle
    cases hv
    have e:(a.extract off (off+cE P t)).toList=(a.toList.drop off).take (cE P t):=by
     simp
    refine⟨.agg (a.extract off (off+cE P t)),?_,RV.fW.2 ⟨_,rfl,by rw[e];exact(hc.drop off).take _,λu hu=>h1 u ?_⟩⟩
    ·unfold part
     rw[Sem.run_bind,hrun]
     simp only[Result.andThen_ok,if_true]
     rw[Sem.run_bind,cd hi]
     rfl
    ·rw[e] at hu
     exact List.mem_of_mem_drop (List.mem_of_mem_take hu)
   ·cases hv
  |false=>
   simp only[ha] at hv
   obtain⟨x,hx,hr⟩:=hc.get hv
   refine⟨x,?_,hr⟩
   unfold part
   rw[Sem.run_bind,hrun]
   have hx':a[off]?=some x:=by simpa using hx
   simp[hx']
theorem nJ {h:aa} (hr:Rel G h w) {o b base k:Nat} (hφ:G.φ o=some (b,base,k)) {c:List VV} (hg:h.get o=some (.cells c)):
 ∃arr t,w.heap[b]?=some (.cells arr t (0,0))/\base+k<=arr.size/\c.length<=k/\
  ∃L:List Value,cO G c L/\(∀u∈L,u.oneCell'=true)/\nq w b base L/\L=(arr.toList.drop base).take c.length:=by
 obtain⟨x,hx,hat⟩:=hr.obj o b base k hφ
 rw[hg] at hx;cases hx
 obtain⟨arr,t,h1,h2,h3,h4⟩:=hat
 have hlen:((arr.toList.drop base).take c.length).length=c.length:=by simp;omega
 have hget:∀j,j<c.length->((arr.toList.drop base).take c.length)[j]?=arr[base+j]?:=by
  intro j hj
  rw[List.getElem?_take,if_pos hj,List.getElem?_drop];simp
 refine⟨arr,t,h1,h2,h3,(arr.toList.drop base).take c.length,⟨hlen.symm,λj hj hj'=>?_⟩,λu hu=>?_,λj u hu=>?_,rfl⟩
 ·obtain⟨v,a1,a2,_⟩:=h4 j hj
  have:=hget j hj
  rw[a1,List.getElem?_eq_getElem hj'] at this
  cases this;exact a2
 ·obtain⟨j,hj,rfl⟩:=List.getElem_of_mem hu
  have hj':j<c.length:=by rw[hlen] at hj;exact hj
  obtain⟨v,a1,_,a3⟩:=h4 j hj'
  have:=hget j hj'
  rw[a1,List.getElem?_eq_getElem hj] at this
  cases this;exact a3
 ·have hj:j<c.length:=by
   have:=(List.getElem?_eq_some_iff.1 hu).1;rw[hlen] at this;exact this
  rw[hget j hj] at hu
  rw[cell_of_row w b (base+j) arr t (0,0) h1]
  exact hu
theorem rQ {h:aa} (hr:Rel G h w) {t:TypeId} {p v:VV} {a:Value} (hp:RV G p a) (hv:jJ P t p h=some v):
 ∃x,(Instr.loadAt t a).run P w=.ok x w/\RV G v x:=by
 unfold jJ at hv
 cases p<;>simp only[reduceCtorEq] at hv
 case ptr o off=>
  cases hg:h.get o with
  |none=>simp[hg] at hv
  |some x=>
   cases x<;>simp only[hg,reduceCtorEq] at hv
   rename_i c
   cases hp with
   |tS hd=>have:=(hr.dead o hd).2;rw[hg] at this;cases this
   |ptr hφ=>
    rename_i b base k
    obtain⟨arr,t',h1,h2,h3,L,hL,hone,hat,_⟩:=nJ hr hφ hg
    obtain⟨x,hx,hrv⟩:=rS hL hone hv hat
    exact⟨x,by simp[Instr.loadAt,Instr.sureAddr,hx],hrv⟩
 case fb cs off=>
  cases hp with
  |fb vals h1 h2 h3=>
   rename_i b base
   have hL:cO G cs ((List.range cs.length).map vals):=⟨by simp,λj hj hj'=>by simpa using h2 j hj⟩
   have hone:∀u∈(List.range cs.length).map vals,u.oneCell'=true:=by
    intro u hu
    obtain⟨j,hj,rfl⟩:=List.mem_map.1 hu
    exact h3 j (by simpa using hj)
   have hat:nq w b base ((List.range cs.length).map vals):=by
    intro j u hu
    obtain⟨hj,rfl⟩:=List.getElem?_eq_some_iff.1 hu
    simp at hj⊢
    exact hr.kq _ _ _ (h1 j hj)
   obtain⟨x,hx,hrv⟩:=rS hL hone hv hat
   exact⟨x,by simp[Instr.loadAt,Instr.sureAddr,hx],hrv⟩
theorem rO {t:TypeId} {i fo:Nat} {ft:TypeId} (h:kA P t i=some (fo,ft)):∃fs f,P.underlying t=some (.struct fs)/\fs[i]?=some f/\f.offset=fo/\f.type=ft:=by
 unfold kA at h
 cases hu:P.underlying t with
 |none=>simp[hu] at h
 |some d=>
  cases d<;>simp only[hu,reduceCtorEq] at h
  rename_i fs
  cases hf:fs[i]? with
  |none=>simp[hf] at h
  |some f=>simp[hf] at h;exact⟨fs,f,rfl,hf,h.1,h.2⟩
theorem k9 {t:TypeId} (h:cE P t≠0):∃i,P.info? t=some i:=by
 unfold cE at h
 cases hi:P.info? t with
 |none=>simp[hi] at h
 |some i=>exact⟨i,rfl⟩
theorem ra {t:TypeId} {p v:VV} {i:Nat} {a:Value} (hp:RV G p a) (hv:eT P t p i=some v):
 ∃x,(Instr.fieldAt t a i).run P w=.ok x w/\RV G v x:=by
 unfold eT at hv
 cases hf:kA P t i with
 |none=>simp[hf] at hv
 |some m=>
  obtain⟨fo,ft⟩:=m
  obtain⟨fs,f,hu,hfi,rfl,rfl⟩:=rO hf
  simp only[hf] at hv
  split at hv
  ·cases hv
  ·rename_i hz
   obtain⟨ti,hti⟩:=k9 hz
   have hs:=cd (w:=w) hti
   have key:∀b o,(Instr.fieldAt t (.pointer (some ⟨b,o,none⟩)) i).run P w=.ok (.pointer (some ⟨b,o+f.offset,none⟩)) w:=by
    intro b o
    simp[Instr.fieldAt,run_underlying hu,hfi,Instr.sureAddr,fieldPlace,hs,hz,dI]
   cases p<;>simp only[reduceCtorEq,Option.some.injEq] at hv
   case ptr o off=>
    subst hv
    cases hp with
    |tS hd=>
     rename_i a
     refine⟨.pointer (some (a.add f.offset)),?_,.tS hd⟩
     simp[Instr.fieldAt,run_underlying hu,hfi,Instr.sureAddr,fieldPlace,hs,hz]
    |ptr hφ=>rename_i b base k;exact⟨_,key _ _,by rw[Nat.add_assoc];exact .ptr hφ⟩
   case fb cs off=>
    subst hv
    cases hp with
    |fb vals h1 h2 h3=>rename_i b base;exact⟨_,key _ _,by rw[Nat.add_assoc];exact .fb vals h1 h2 h3⟩
theorem jG {t e:TypeId} (h:iM P t=some e):P.underlying t=some (.slice e):=by
 unfold iM at h
 cases hu:P.underlying t with
 |none=>simp[hu] at h
 |some d=>cases d<;>simp_all
theorem re {t:TypeId} {x i v:VV} {a n:Value} (hx:RV G x a) (hi:RV G i n) (hv:dA P t x i=some v):
 ∃y,(Instr.indexAt t a n).run P w=.ok y w/\RV G v y:=by
 unfold dA at hv
 cases he:iM P t with
 |none=>simp[he] at hv
 |some e=>
  have hu:=jG he
  cases i<;>simp only[he,reduceCtorEq] at hv
  rename_i k m
  cases hi
  cases x<;>simp only[reduceCtorEq] at hv
  case vs es cap=>
   split at hv
   ·rename_i h0
    cases hrow:es[m.toNat]? with
    |none=>simp[hrow] at hv
    |some row=>
     simp only[hrow] at hv
     split at hv
     ·rename_i hlen
      cases hv
      cases hx with
      |vs vals h1 h2 h3 h4 h5 h6 h7=>
       rename_i b base q c a
       obtain⟨hlt,hrowe⟩:=List.getElem?_eq_some_iff.1 hrow
       obtain rfl:=h7.resolve_left (by rintro rfl;simp at hlt)
       have hq:row.length=q:=by rw[<-hrowe];exact h3 _ hlt
       have hml:m<(es.length:Int):=by omega
       obtain⟨ie,hie⟩:=k9 hlen.2
       refine⟨.pointer (some ⟨b,base+m.toNat*cE P e,none⟩),?_,?_⟩
       ·simp[Instr.indexAt,asIntOf,run_underlying hu,h0,hml,cd hie,dI]
       ·have hqe:cE P e=q:=by omega
        rw[hqe]
        have:=RV.fb (G:=G) (cs:=row) (off:=0) (b:=b) (base:=base+m.toNat*q) (vals m.toNat)
         (λj hj=>h4 _ _ hlt (by omega)) (λj hj=>by subst hrowe;exact h5 _ hlt j hj) (λj hj=>h6 _ _ hlt (by omega))
        simpa using this
     ·cases hv
   ·cases hv
  case ref o off len du cap=>
   split at hv
   ·rename_i hc
    obtain⟨h0,hml,hes,hz⟩:=hc
    obtain⟨ie,hie⟩:=k9 hz
    cases hv
    cases hx with
    |ref hφ h1 h2 h3 h4=>
     rename_i b base kk c a
     rcases h3 with h3|⟨rfl,h3⟩
     ·omega
     ·refine⟨.pointer (some ⟨b,base+off+m.toNat*cE P e,none⟩),?_,?_⟩
      ·simp[Instr.indexAt,asIntOf,run_underlying hu,h0,hml,cd hie,dI]
      ·rw[hes,Nat.add_assoc];exact .ptr hφ
    |sd hd h7 h8=>
     rename_i c a
     refine⟨.pointer (some (a.add (m.toNat*cE P e))),?_,.tS hd⟩
     simp[Instr.indexAt,asIntOf,run_underlying hu,h0,hml,cd hie]
   ·cases hv
theorem yh {t:TypeId} (hu:P.underlying t=some .string) {x i v:VV} {a n:Value} (hx:RV G x a) (hi:RV G i n) (hv:rb x i=some v):
 ∃y,(Instr.index t a n).run P w=.ok y w/\RV G v y:=by
 cases x<;>cases i<;>simp only[rb,reduceCtorEq] at hv
 cases hx;cases hi
 rename_i k m s
 split at hv
 ·rename_i h0
  simp only[Option.map_eq_some_iff] at hv
  obtain⟨b,hb,rfl⟩:=hv
  have hlt:m.toNat<s.size:=by have:=(List.getElem?_eq_some_iff.1 hb).1;simpa using this
  have hb':s[m.toNat]?=some b:=by
   rw[getElem?_pos s m.toNat hlt]
   have h2:s.data[m.toNat]?=some b:=by simpa using hb
   rw[Array.getElem?_eq_getElem (by simpa using hlt)] at h2
   exact h2
  exact⟨_,by simp[Instr.index,asIntOf,run_underlying hu,h0,hb'],.int ..⟩
 ·cases hv
theorem uw {t:TypeId} {x v:VV} {i:Nat} {a:Value} (hx:RV G x a) (hv:kX P t x i=some v):
 ∃y,(Instr.field t a i).run P w=.ok y w/\RV G v y:=by
 unfold kX at hv
 cases hf:kA P t i with
 |none=>simp[hf] at hv
 |some m=>
  obtain⟨fo,ft⟩:=m
  obtain⟨fs,f,hu,hfi,rfl,rfl⟩:=rO hf
  cases x<;>simp only[hf,reduceCtorEq] at hv
  obtain⟨a,rfl,h1,h2⟩:=RV.fW.1 hx
  obtain⟨y,hy,hrv⟩:=CA (w:=w) h1 h2 hv
  exact⟨y,by simp[Instr.field,run_underlying hu,hfi,asAgg,hy],hrv⟩
theorem sm {x v:VV} {a:Value} (ρ:Operand->Value) (o:Operand) (oper:Oper) (ho:oper.op=.nilCheck o) (ha:ρ o=a) (hx:RV G x a) (hv:gS x=some v):
 (execOp ρ oper).run P w=.ok (.value a) w/\RV G v a:=by
 cases x<;>simp only[gS,reduceCtorEq,Option.some.injEq] at hv<;>subst hv<;>refine⟨?_,hx⟩<;>cases hx<;>simp[execOp,ho,ha]
theorem lr (s:ByteArray):s.data.toList.length=s.size:=by simp
theorem fY (s:ByteArray):s.toList=s.data.toList:=ByteArray.toList_eq s
theorem yi {op:BinOp} {k:IntKind} {a b:Int} {v:VV} (hv:oX op k a b=some v) (t:TypeId):
 ∃y,(binOp op t (.int k a) (.int k b)).run P w=.ok y w/\RV G v y:=by
 cases op<;>simp only[oX,reduceCtorEq,Option.some.injEq] at hv
 case quo=>
  split at hv
  ·cases hv
  ·rename_i h0;cases hv;exact⟨_,by simp[binOp,Op.intDiv,h0],.int ..⟩
 case rem=>
  split at hv
  ·cases hv
  ·rename_i h0;cases hv;exact⟨_,by simp[binOp,Op.intDiv,h0],.int ..⟩
 case and=>subst hv;exact⟨_,by simp only[binOp,ne_eq,not_true_eq_false,if_false];rfl,.int ..⟩
 case or=>subst hv;exact⟨_,by simp only[binOp,ne_eq,not_true_eq_false,if_false];rfl,.int ..⟩
 case add=>subst hv;exact⟨_,by simp[binOp,Op.intArith],.int ..⟩
 case sub=>subst hv;exact⟨_,by simp[binOp,Op.intArith],.int ..⟩
 case mul=>subst hv;exact⟨_,by simp[binOp,Op.intArith],.int ..⟩
 all_goals(subst hv;exact⟨_,by simp[binOp,Op.intCmp],.bool _⟩)
theorem yv {op:BinOp} {x y:ByteArray} {v:VV} (hv:uG op x.data.toList y.data.toList=some v) (t:TypeId):
 ∃z,(binOp op t (.string x) (.string y)).run P w=.ok z w/\RV G v z:=by
 cases op<;>simp only[uG,reduceCtorEq,Option.some.injEq] at hv
 case add=>
  split at hv
  ·rename_i hl
   cases hv
   have e:(x++y).data.toList=x.data.toList++y.data.toList:=by simp
   refine⟨.string (x++y),?_,by rw[<-e];exact .str _⟩
   have:¬((x.size+y.size:Nat):Int)>IntKind.i64.max:=by
    rw[lr,lr] at hl
    show¬((x.size+y.size:Nat):Int)>9223372036854775807
    omega
   simp only[binOp,Op.stringOp]
   rw[if_neg this]
   rfl
  ·cases hv
 all_goals
  subst hv
  exact⟨_,by simp[binOp,Op.stringOp,fY],.bool _⟩
end
end Go.Vv
