/- Part of the proof of CheckTrees: plain laws and steps of its walks, for all arguments. -/
import Derived.Test.YtdjkoddnnogejaaGreatZVk
set_option linter.unusedSimpArgs false
set_option linter.unusedVariables false
set_option linter.unusedSectionVars false
namespace Go.Ee
section
open Go.Vv
inductive PV where
 |bool (b:Bool)
 |int (k:IntKind) (n:Int)
 |str (s:List UInt8)
 |iF
 |ig
 |lJ
 |ec
 |vs (es:List (List PV)) (cap:Option Nat) (n:Bool)
 |ip (cs:List PV) (off:Nat)
 |agg (cs:List PV)
 |iface (t:TypeId) (x:PV)
 |gp (g:Nat)
inductive FC where
 |p (x:PV)
 |ptr (o off:Nat)
 |ep (o e i j:Nat)
 |ref (o len e:Nat) (cap:Option Nat)
 |mp (o:Nat)
inductive TV where
 |f (x:FC)
 |agg (cs:List FC)
inductive EV where
 |f (x:FC)
 |agg (cs:List FC)
 |fn (g:FuncId) (a c:List FC)
 |bR (l:List TV)
 |un
inductive SO where
 |cells (c:List FC)
 |arr (e:Nat) (rs:List (List PV)) (n:Bool)
 |map (es:List (List UInt8×PV))
abbrev SF:=List (Nat×EV)
structure SH where
 bp:List (Nat×SO)
 next:Nat
inductive EX where
 |normal
 |exit (id:Nat)
 |ret
 |panic (v:EV)
inductive aR where
 |ret (v:EV)
 |panic (v:EV)
abbrev EQ:=EX->SF->SH->Prop
abbrev CH:=FuncId->List EV->SH->(aR->SH->Prop)->Prop
abbrev LH:=Code->EQ->SF->SH->Prop
abbrev EV.b (b:Bool):EV:=.f (.p (.bool b))
abbrev EV.i (n:Int):EV:=.f (.p (.int .i64 n))
abbrev EV.s (s:List UInt8):EV:=.f (.p (.str s))
def ay {α:Type}:List (Nat×α)->Nat->Option α
 |[],_=>none
 |(m,a)::l,n=>cond (Nat.beq m n) (some a) (ay l n)
def EM {α:Type}:List α->Nat->Option α
 |[],_=>none
 |a::l,n=>cond (Nat.beq n 0) (some a) (EM l (n-1))
def S9 {α:Type}:List α->(List α->Prop)->Prop
 |[],k=>k []
 |a::l,k=>S9 l λl'=>k (a::l')
def MD:List Nat->Nat->(Nat->Prop)->Prop
 |[],_,_=>False
 |m::l,n,k=>cond (Nat.beq m n) (k m) (MD l n k)
abbrev lH:List Nat:=[0,1,2,3,4,5,6,7,8,9,10,11,12,13,14,15,16,17,18,19,20,21,22,23,24,25,26,27,28,29,30,31,32,33,34,35,36,37,38,39,40,41,42,43,44,45,46,47,48,49,50,51,52,53,54,55,56,57,58,59,60,61,62,63]
def nK (n:Nat) (k:Nat->Prop):Prop:=MD lH n k
def Kn {α:Type} (l:List (Nat×α)) (o:Nat) (x:α) (k:List (Nat×α)->Prop):Prop:=
 match l with
 |[]=>False
 |(m,a)::l=>cond (Nat.beq m o) (k ((m,x)::l)) (Kn l o x λl'=>k ((m,a)::l'))
def GD {α:Type} (l:List (Nat×α)) (o:Nat) (k:List (Nat×α)->Prop):Prop:=
 match l with
 |[]=>k []
 |(m,a)::l=>cond (Nat.beq m o) (GD l o k) (GD l o λl'=>k ((m,a)::l'))
@[reducible] def iK {α:Type} (o:Option α) (k:α->Prop):Prop:=match o with|some a=>k a|none=>False
@[reducible] def Mt {α:Type} (o:Option α) (k1:α->Prop) (k2:Prop):Prop:=match o with|some a=>k1 a|none=>k2
@[reducible] def Br (b:Bool) (k1 k2:Prop):Prop:=match b with|true=>k1|false=>k2
theorem br {b:Bool} {k1 k2:Prop} (h1:b=true->k1) (h2:b=false->k2):Br b k1 k2:=by cases b;exact h2 rfl;exact h1 rfl
theorem os {α:Type} {o:Option α} {k:α->Prop} (a:α) (h:o=some a) (hk:k a):iK o k:=by subst h;exact hk
structure S4 (n:Nat) (k:Nat->Prop):Prop where run:k n
structure Fold {α:Type} (l:List α) (k:List α->Prop):Prop where run:k l
def Yk:Value->Option PV
 |.bool b=>some (.bool b)
 |.int k n=>some (.int k n)
 |.string s=>some (.str s.data.toList)
 |.pointer none=>some .iF
 |.slice none 0 0=>some (.vs [] none true)
 |.map none=>some .ig
 |.nilFunc=>some .lJ
 |.nilIface=>some .ec
 |_=>none
def PV.isAgg:PV->Bool
 |.agg _=>true
 |_=>false
def Hd (x:PV) (k:PV->Prop):Prop:=
 match x with
 |.bool b=>k (.bool b)
 |.int a b=>k (.int a b)
 |.str s=>k (.str s)
 |.iF=>k .iF
 |.ig=>k .ig
 |.lJ=>k .lJ
 |.ec=>k .ec
 |.vs a b c=>k (.vs a b c)
 |.ip a b=>k (.ip a b)
 |.iface a b=>k (.iface a b)
 |.gp g=>k (.gp g)
 |.agg _=>False
def pK (v:Value) (k:PV->Prop):Prop:=
 match v with
 |.bool b=>k (.bool b)
 |.int i n=>k (.int i n)
 |.string s=>S9 s.data.toList λl=>k (.str l)
 |.pointer none=>k .iF
 |.slice none 0 0=>k (.vs [] none true)
 |.map none=>k .ig
 |.nilFunc=>k .lJ
 |.nilIface=>k .ec
 |_=>False
def Vh:List Value->(List FC->Prop)->Prop
 |[],k=>k []
 |v::l,k=>pK v λx=>Vh l λr=>k (.p x::r)
def oG (P:Program) (t:TypeId) (one:FC->Prop) (all:List FC->Prop):Prop:=
 match(P.info? t).bind (·.zero) with
 |some (.agg cs)=>Vh cs.toList all
 |some z=>pK z λx=>one (.p x)
 |none=>False
def gO (fr:SF) (n:Nat):EV:=(ay fr n).getD .un
def Hb (x:FC) (k:FC->Prop):Prop:=
 match x with
 |.p x=>k (.p x)
 |.ptr a b=>k (.ptr a b)
 |.ep a b c d=>k (.ep a b c d)
 |.ref a b c d=>k (.ref a b c d)
 |.mp a=>k (.mp a)
def mC (x:EV) (k:EV->Prop):Prop:=
 match x with
 |.f x=>k (.f x)
 |.agg cs=>k (.agg cs)
 |.fn g a c=>k (.fn g a c)
 |.bR l=>k (.bR l)
 |.un=>k .un
def wH (fr:SF) (x:Operand) (k:EV->Prop):Prop:=
 match x with
 |.tmp t=>mC (gO fr t) k
 |.const (.agg cs)=>Vh cs.toList λl=>k (.agg l)
 |.const (.func (.func f) ⟨[]⟩ ⟨[]⟩)=>k (.fn f [] [])
 |.const v=>pK v λx=>k (.f (.p x))
 |.global g=>k (.f (.p (.gp g)))
 |.func f=>k (.fn f [] [])
def Vb (fr:SF):List Operand->(List EV->Prop)->Prop
 |[],k=>k []
 |x::l,k=>wH fr x λa=>Vb fr l λr=>k (a::r)
def S8 (x:EV) (k:FC->Prop):Prop:=match x with|.f x=>Hb x k|_=>False
def qB (x:EV) (k:List FC->Prop):Prop:=match x with|.f x=>k [x]|.agg cs=>k cs|_=>False
def Bk (fr:SF) (x:Operand) (k:FC->Prop):Prop:=wH fr x λx=>S8 x k
def yF (fr:SF) (x:Operand) (k:PV->Prop):Prop:=Bk fr x λx=>match x with|.p x=>k x|_=>False
def LM (fr:SF) (x:Option Operand) (k:Option Int->Prop):Prop:=
 match x with
 |none=>k none
 |some x=>yF fr x λx=>match x with|.int _ n=>k (some n)|_=>False
def LN (fr:SF):List Operand->(List FC->Prop)->Prop
 |[],k=>k []
 |x::l,k=>Bk fr x λa=>LN fr l λr=>k (a::r)
def sy (fr:SF):List (Nat×Operand)->(List (Nat×List FC)->Prop)->Prop
 |[],k=>k []
 |(i,x)::l,k=>wH fr x λa=>qB a λa=>sy fr l λr=>k ((i,a)::r)
def kO (fr:SF) (d:Option Tmp) (v:EV) (k:SF->Prop):Prop:=match d with|some d=>k ((d,v)::fr)|none=>k fr
abbrev EK:=EV->SH->Prop
def obj (s:SH) (o:Nat) (k:SO->Prop):Prop:=iK (ay s.bp o) k
def oO (s:SH) (x:SO) (k:Nat->SH->Prop):Prop:=
 match s with
 |⟨l,n⟩=>nK (n+1) λm=>k n ⟨(n,x)::l,m⟩
def FE (s:SH) (o:Nat) (x:SO) (k:SH->Prop):Prop:=match s with|⟨l,f⟩=>Kn l o x λl=>k ⟨l,f⟩
def Tz (s:SH) (o:Nat) (k:SH->Prop):Prop:=match s with|⟨l,f⟩=>GD l o λl=>k ⟨l,f⟩
def vQ (P:Program) (t:TypeId) (cs:List FC) (off:Nat) (k:EV->Prop):Prop:=
 match uk P t with
 |some true=>Br (Nat.ble (off+cE P t) cs.length) (S9 ((cs.drop off).take (cE P t)) λl=>k (.agg l)) False
 |some false=>iK (EM cs off) λx=>k (.f x)
 |none=>False
def pmap:List PV->(List FC->Prop)->Prop
 |[],k=>k []
 |x::l,k=>Hd x λx=>pmap l λr=>k (.p x::r)
def Ve (P:Program) (t:TypeId) (p:FC) (s:SH) (k:EK):Prop:=
 match p with
 |.ptr o off=>obj s o λx=>match x with|.cells c=>vQ P t c off λv=>k v s|_=>False
 |.p (.ip c off)=>pmap c λc=>vQ P t c off λv=>k v s
 |.ep o e i j=>obj s o λx=>match x with|.arr e' rs _=>Br (Nat.beq e' e) (iK rs[i]? λr=>pmap r λc=>vQ P t c j λv=>k v s) False|_=>False
 |_=>False
def gj {α:Type} (c:List α) (off:Nat) (new:List α) (k:List α->Prop):Prop:=Br (Nat.ble (off+new.length) c.length) (S9 (over' c off new) k) False
where over' (c:List α) (off:Nat) (new:List α):List α:=c.take off++new++c.drop (off+new.length)
def u5:List FC->(List PV->Prop)->Prop
 |[],k=>k []
 |.p x::l,k=>u5 l λr=>k (x::r)
 |_,_=>False
def isStr (P:Program) (t:TypeId) (k:Prop):Prop:=match P.underlying t with|some .string=>k|_=>False
def Dw (P:Program) (t:TypeId) (k:Prop):Prop:=match P.underlying t with|some (.slice _)=>k|_=>False
def Wn (P:Program) (t:TypeId) (p:FC) (v:EV) (s:SH) (k:SH->Prop):Prop:=
 qB v λvc=>Br (Nat.beq vc.length (cE P t)&&Nat.ble 1 vc.length) (match p with
 |.ptr o off=>obj s o λx=>match x with
  |.cells c=>gj c off vc λc=>FE s o (.cells c) k
  |_=>False
 |.ep o e i j=>obj s o λx=>match x with
  |.arr e' rs n=>Br (Nat.beq e' e) (iK rs[i]? λr=>u5 vc λvc=>gj r j vc λr=>Fold (rs.set i r) λrs=>FE s o (.arr e' rs n) k) False
  |_=>False
 |_=>False) False
def W2 (P:Program) (t:TypeId) (p:FC) (i:Nat) (k:FC->Prop):Prop:=
 iK (kA P t i) fun(fo,ft)=>Br (Nat.ble 1 (cE P ft)) (match p with
 |.ptr o off=>nK (off+fo) λx=>k (.ptr o x)
 |.p (.ip c off)=>nK (off+fo) λx=>k (.p (.ip c x))
 |.ep o e i j=>nK (j+fo) λx=>k (.ep o e i x)
 |_=>False) False
def du (P:Program) (t:TypeId) (k:Nat->Prop):Prop:=iK (iM P t) λe=>nK (cE P e) λe=>Br (Nat.ble 1 e) (k e) False
def W6 (P:Program) (t:TypeId) (x i:FC) (k:FC->Prop):Prop:=
 du P t λe=>match i with
 |.p (.int _ n)=>match x with
  |.p (.vs es _ _)=>Br (decide (0<=n)) (iK es[n.toNat]? λrow=>Br (Nat.beq row.length e) (k (.p (.ip row 0))) False) False
  |.ref o len e' _=>Br (decide (0<=n/\n<len)) (Br (Nat.beq e' e) (k (.ep o e n.toNat 0)) False) False
  |_=>False
 |_=>False
def Ep (k:IntKind) (n:Int) (K:PV->Prop):Prop:=
 match k with
 |.i64=>Br (decide (-9223372036854775808<=n/\n<=9223372036854775807)) (K (.int .i64 n)) (K (.int .i64 (IntKind.i64.wrap n)))
 |k=>Br (decide (k.wrap n=n)) (K (.int k n)) (K (.int k (k.wrap n)))
def Qp (op:BinOp) (k:IntKind) (a b:Int) (K:PV->Prop):Prop:=
 match op with
 |.add=>Ep k (a+b) K
 |.sub=>Ep k (a-b) K
 |.mul=>K (.int k (k.wrap (a*b)))
 |.eql=>K (.bool (a==b))
 |.neq=>K (.bool (a !=b))
 |.lss=>K (.bool (decide (a<b)))
 |.leq=>K (.bool (decide (a<=b)))
 |.gtr=>K (.bool (decide (a>b)))
 |.geq=>K (.bool (decide (a≥b)))
 |_=>False
def Ss (op:BinOp) (x y:List UInt8) (K:PV->Prop):Prop:=
 match op with
 |.add=>Br (decide (x.length+y.length<=9223372036854775807)) (K (.str (x++y))) False
 |.eql=>K (.bool (x==y))
 |.neq=>K (.bool (!(x==y)))
 |_=>False
def sY (op:BinOp) (x y:Bool) (K:PV->Prop):Prop:=
 match op with
 |.eql=>K (.bool (x==y))
 |.neq=>K (.bool (!(x==y)))
 |_=>False
def Ql (P:Program) (t:TypeId) (op:BinOp) (b:Bool) (K:PV->Prop):Prop:=
 match P.underlying t with
 |some (.interface _)=>sY op b true K
 |_=>False
def n5 (es:List (List PV)) (n:Bool):Bool:=match n with|true=>es.isEmpty|false=>false
def O2 (P:Program) (t:TypeId) (op:BinOp) (b:Bool) (K:PV->Prop):Prop:=
 match P.underlying t with
 |some (.slice _)=>sY op b true K
 |_=>False
def PH (P:Program) (t:TypeId) (op:BinOp) (x y:FC) (K:PV->Prop):Prop:=
 match x,y with
 |.p (.int k a),.p (.int k' b)=>Br (decide (k=k')) (Qp op k a b K) False
 |.p (.str a),.p (.str b)=>Ss op a b K
 |.p (.bool a),.p (.bool b)=>(match P.underlying t with|some .bool=>sY op a b K|_=>False)
 |.p .ec,.p .ec=>(match P.underlying t with|some (.interface ⟨[]⟩)=>sY op true true K|_=>False)
 |.p .ec,.p (.iface ..)=>Ql P t op false K
 |.p (.iface ..),.p .ec=>Ql P t op false K
 |.p (.vs es _ n),.p (.vs [] _ true)=>O2 P t op (n5 es n) K
 |_,_=>False
structure Lk (P:Program) (t:TypeId) (k:List TypeDesc->Prop):Prop where run:∃ts,lQ P t=some ts/\k ts
def VB:List TypeDesc->List FC->List FC->(Bool->Prop)->Prop
 |[],[],[],k=>k true
 |t::ts,x::xs,y::ys,k=>VB ts xs ys λr=>match t,x,y with
  |.bool,.p (.bool a),.p (.bool b)=>k ((a==b)&&r)
  |.int _,.p (.int i a),.p (.int j b)=>Br (decide (i=j)) (k ((a==b)&&r)) False
  |.string,.p (.str a),.p (.str b)=>k ((a==b)&&r)
  |_,_,_=>False
 |_,_,_,_=>False
def Wy (op:UnOp) (x:PV) (K:PV->Prop):Prop:=
 match op,x with
 |.not,.bool b=>K (.bool (!b))
 |.neg,.int k n=>K (.int k (k.wrap (0-n)))
 |_,_=>False
def Q3 (P:Program) (t:TypeId) (x:FC) (K:Int->Prop):Prop:=
 match x with
 |.p (.vs es _ _)=>Dw P t (K es.length)
 |.p (.str s)=>isStr P t (K s.length)
 |.ref _ len _ _=>Dw P t (K len)
 |_=>False
def LR (e:Nat) (r:List PV):Bool:=match Nat.beq r.length e with|true=>r.all λx=>!x.isAgg|false=>false
def fits (e:Nat):List (List PV)->Bool
 |[]=>true
 |r::rs=>match LR e r with|true=>fits e rs|false=>false
theorem pG {α:Type} {f:α->List PV} {e:Nat} (hf:∀a,LR e (f a)=true) (l:List α):fits e (l.map f)=true:=by
 induction l with
 |nil=>rfl
 |cons a l ih=>simp only[List.map_cons,fits,hf,ih]
def Ke (x:FC) (e:Nat) (s:SH) (k:List (List PV)->Prop):Prop:=
 match x with
 |.p (.vs es _ _)=>Br (fits e es) (k es) False
 |.ref o len e' _=>Br (Nat.beq e' e) (obj s o λx=>match x with|.arr e'' rs _=>Br (Nat.beq e'' e') (Br (Nat.beq rs.length len) (k rs) (Br (Nat.ble len rs.length) (k (rs.take len)) False)) False|_=>False) False
 |_=>False
def Ol (P:Program) (t:TypeId) (e:Nat) (k:Prop):Prop:=oG P t (λ_=>Br (Nat.beq e 1) k False) λl=>Br (Nat.beq l.length e) k False
def WU (P:Program) (t:TypeId) (a b:FC) (s:SH) (k:EK):Prop:=
 iK (iM P t) λet=>du P t λe=>Ke b e s λxs=>Ke a e s λss=>
  Ol P et e (Br xs.isEmpty (k (.f a) s) (Br (decide ((ss.length+xs.length)*dy P et<=140737488355328/\ss.length+xs.length<=9223372036854775807)) (Fold (ss++xs) λrs=>S4 rs.length λm=>match a with
   |.p (.vs es c n)=>Br (n5 es n) (oO s (.arr e rs true) λn s=>k (.f (.ref n m e none)) s)
     (match c with|some c=>Br (Nat.beq c ss.length) (oO s (.arr e rs true) λn s=>k (.f (.ref n m e none)) s) False|none=>False)
   |.ref o _ _ _=>Tz s o λs=>oO s (.arr e rs true) λn s=>k (.f (.ref n m e none)) s
   |_=>False) False))
def UE (P:Program):List Field->Option (List (Nat×Nat))
 |[]=>some []
 |f::l=>match P.info? f.type,UE P l with|some i,some r=>some ((f.offset,i.size)::r)|_,_=>none
def xD (P:Program) (t:TypeId):Option (List (Nat×Nat)):=
 match P.underlying t with
 |some (.struct fs)=>UE P fs.toList
 |_=>none
def vw (pl:Nat->Option (Nat×Nat)):List (Nat×List FC)->List FC->(List FC->Prop)->Prop
 |[],c,k=>k c
 |(i,v)::l,c,k=>iK (pl i) fun(o,z)=>Br (Nat.beq v.length z) (gj c o v λc=>vw pl l c k) False
def rowsOf:Nat->Nat->List PV->(List (List PV)->Prop)->Prop
 |0,_,_,k=>k []
 |n+1,e,l,k=>S9 (l.take e) λr=>rowsOf n e (l.drop e) λrs=>k (r::rs)
def mr (v:Option Int) (eo other:Nat) (k:Nat->Prop):Prop:=
 match v with
 |none=>k other
 |some n=>Br (decide (0<=n/\n<=eo)) (k n.toNat) False
def Kp (s:List UInt8) (lo hi:Option Int) (k:List UInt8->Prop):Prop:=
 mr hi s.length s.length λh=>mr lo h 0 λl=>match lo,hi with
  |none,none=>k s
  |none,some _=>k (s.take h)
  |some _,none=>k (s.drop l)
  |some _,some _=>k ((s.take h).drop l)
def UQ (x:FC) (e:Nat) (lo hi mx:Option Int) (k:FC->Prop):Prop:=
 match x with
 |.p (.vs es cap n)=>Br (fits e es) (match mx with
  |none=>mr hi es.length es.length λh=>mr lo h 0 λl=>match lo,hi with
   |none,none=>k (.p (.vs es cap n))
   |none,some _=>k (.p (.vs (es.take h) cap (n5 es n)))
   |some _,none=>k (.p (.vs (es.drop l) (cap.map (·-l)) (n5 es n)))
   |some _,some _=>k (.p (.vs ((es.take h).drop l) (cap.map (·-l)) (n5 es n)))
  |some _=>False) False
 |.ref o len e' cap=>Br (Nat.beq e' e) (match lo with
  |none=>match mx with
   |none=>mr hi len len λh=>k (.ref o h e cap)
   |some _=>(match hi with|none=>False|some _=>mr mx len 0 λm=>mr hi m 0 λh=>k (.ref o h e (some m)))
  |some _=>False) False
 |_=>False
def C1:List (List PV)->Option (List UInt8)
 |[]=>some []
 |[.int .u8 n]::l=>match C1 l with|some r=>cond (decide (0<=n/\n<256)) (some (UInt8.ofNat n.toNat::r)) none|none=>none
 |_=>none
def bS (key:List UInt8):List (List UInt8×PV)->Option PV
 |[]=>none
 |(a,v)::l=>match key==a with|true=>some v|false=>bS key l
def fk (key:List UInt8) (v:PV):List (List UInt8×PV)->List (List UInt8×PV)
 |[]=>[(key,v)]
 |(a,w)::l=>match key==a with|true=>(key,v)::l|false=>(a,w)::fk key v l
def Mq (P:Program) (t:TypeId) (k:TypeId->Prop):Prop:=
 match P.underlying t with
 |some (.map kt e)=>(match P.underlying kt with|some .string=>k e|_=>False)
 |_=>False
def P5 (m:FC) (s:SH) (k:List (List UInt8×PV)->Prop):Prop:=
 match m with
 |.p .ig=>k []
 |.mp o=>obj s o λx=>match x with|.map es=>k es|_=>False
 |_=>False
def Rq (v:PV) (k:TV->Prop):Prop:=match v with|.agg cs=>pmap cs λcs=>k (.agg cs)|v=>k (.f (.p v))
def UU (ok b:Bool) (x:TV) (k:EV->Prop):Prop:=
 match ok,x with
 |true,x=>k (.bR [x,.f (.p (.bool b))])
 |false,.f x=>k (.f x)
 |false,.agg cs=>k (.agg cs)
def Vf (P:Program) (e:TypeId) (key:List UInt8) (es:List (List UInt8×PV)) (ok:Bool) (k:EV->Prop):Prop:=Mt (bS key es) (λv=>Rq v λv=>UU ok true v k) (oG P e (λz=>UU ok false (.f z) k) λz=>UU ok false (.agg z) k)
def W7 (P:Program) (t:TypeId) (m:FC) (key:PV) (ok:Bool) (s:SH) (k:EV->Prop):Prop:=
 Mq P t λe=>match key with
 |.str key=>P5 m s λes=>oG P e (λ_=>Vf P e key es ok k) λ_=>Vf P e key es ok k
 |_=>False
def W9 (P:Program) (t:TypeId) (m:FC) (key:PV) (v:EV) (s:SH) (k:SH->Prop):Prop:=
 Mq P t λ_=>match key,m with
 |.str key,.mp o=>obj s o λx=>match x with
  |.map es=>qB v λc=>u5 c λc=>(match v with
   |.f _=>(match c with|[x]=>Fold (fk key x es) λes=>FE s o (.map es) k|_=>False)
   |_=>Fold (fk key (.agg c) es) λes=>FE s o (.map es) k)
  |_=>False
 |_,_=>False
def Vc:List FC->(List EV->Prop)->Prop
 |[],k=>k []
 |x::l,k=>Vc l λr=>k (.f x::r)
def Lx:List EV->List EV->(List EV->Prop)->Prop
 |[],m,k=>k m
 |x::l,m,k=>Lx l m λr=>k (x::r)
def PB (a:List FC) (l:List EV) (c:List FC) (k:List EV->Prop):Prop:=Vc a λa=>Vc c λc=>Lx l c λl=>Lx a l k
def VN (x i:PV) (k:PV->Prop):Prop:=
 match x,i with
 |.str b,.int _ n=>Br (decide (0<=n)) (iK b[n.toNat]? λc=>k (.int .u8 c.toNat)) False
 |_,_=>False
def Vx (P:Program) (sr d:TypeId) (x:PV) (k:PV->Prop):Prop:=
 match x with
 |.int _ n=>(match P.underlying sr,P.underlying d with|some _,some (.int kk)=>Br (decide (kk.wrap n=n)) (k (.int kk n)) (k (.int kk (kk.wrap n)))|_,_=>False)
 |.str b=>(match P.underlying sr,P.underlying d with|some .string,some .string=>k (.str b)|_,_=>False)
 |.vs es _ _=>(match P.underlying sr,P.underlying d with
  |some (.slice e),some .string=>(match P.underlying e with|some (.int .u8)=>Br (fits 1 es) (iK (C1 es) λb=>k (.str b)) False|_=>False)
  |_,_=>False)
 |_=>False
def xE (P:Program) (t:TypeId) (k:Prop):Prop:=match P.underlying t with|some (.interface _)=>False|none=>False|some _=>k
def Wq (P:Program) (x:PV) (d:TypeId) (ok:Bool) (k:EV->Prop):Prop:=
 match x with
 |.iface t v=>xE P d<|Br (Nat.beq t d) (match ok,v with
  |false,.agg cs=>pmap cs λcs=>k (.agg cs)
  |false,v=>k (.f (.p v))
  |true,.agg cs=>pmap cs λcs=>k (.bR [.agg cs,.f (.p (.bool true))])
  |true,v=>k (.bR [.f (.p v),.f (.p (.bool true))])) False
 |_=>False
def EP (P:Program) (C:CH) (op:Op) (fr:SF) (s:SH) (Q:EQ) (k:EK):Prop:=
 match op with
 |.move x|.assign x=>wH fr x λx=>k x s
 |.pick c a b=>yF fr c λc=>match c with|.bool c=>Br c (wH fr a λx=>k x s) (wH fr b λx=>k x s)|_=>False
 |.build t ps=>sy fr ps.toList λl=>iK (xD P t) λpl=>oG P t (λ_=>False) λz=>vw (λi=>EM pl i) l z λl=>k (.agg l) s
 |.buildSlice t n ps=>sy fr ps.toList λl=>iK (iM P t) λet=>du P t λe=>Br (Nat.ble (n*e) 16777216) (Ol P et e (
   oG P et (λz=>vw (λi=>some (i*e,e)) l (List.replicate n z) λcs=>u5 cs λcs=>rowsOf n e cs λes=>k (.f (.p (.vs es (some n) false))) s)
    λz=>vw (λi=>some (i*e,e)) l (List.replicate n z).flatten λcs=>u5 cs λcs=>rowsOf n e cs λes=>k (.f (.p (.vs es (some n) false))) s)) False
 |.alloc t=>oG P t (λz=>oO s (.cells [z]) λn s=>k (.f (.ptr n 0)) s) λz=>oO s (.cells z) λn s=>k (.f (.ptr n 0)) s
 |.makeSlice t l c=>iK (iM P t) λet=>du P t λe=>yF fr l λl=>yF fr c λc=>(match l,c with
  |.int _ l,.int _ c=>Ol P et e (Br (decide (l=c/\0<=l/\c<=9223372036854775807/\(dy P et:Int)*c<=140737488355328)) (oG P et
    (λz=>u5 [z] λr=>Fold (List.replicate l.toNat r) λrs=>oO s (.arr e rs false) λn s=>k (.f (.ref n l.toNat e (some l.toNat))) s)
    λz=>u5 z λr=>Fold (List.replicate l.toNat r) λrs=>oO s (.arr e rs false) λn s=>k (.f (.ref n l.toNat e (some l.toNat))) s) False)
  |_,_=>False)
 |.box _ x=>wH fr x λx=>qB x λc=>oO s (.cells c) λn s=>k (.f (.ptr n 0)) s
 |.load t a=>Bk fr a λa=>Ve P t a s k
 |.store t a v=>Bk fr a λa=>wH fr v λv=>Wn P t a v s λs=>k .un s
 |.nilCheck x=>Bk fr x λx=>match x with|.ptr a b=>k (.f (.ptr a b)) s|.ep a b c d=>k (.f (.ep a b c d)) s|.p (.ip a b)=>k (.f (.p (.ip a b))) s|_=>False
 |.binOp op t x y _=>wH fr x λx=>wH fr y λy=>match x,y with
  |.agg a,.agg b=>Lk P t λts=>VB ts a b λr=>sY op r true λv=>k (.f (.p v)) s
  |x,y=>S8 x λx=>S8 y λy=>PH P t op x y λv=>k (.f (.p v)) s
 |.unOp op _ x=>yF fr x λx=>Wy op x λv=>k (.f (.p v)) s
 |.makeInterface t x=>xE P t<|wH fr x λx=>match x with|.f (.p x)=>k (.f (.p (.iface t x))) s|.agg cs=>u5 cs λcs=>k (.f (.p (.iface t (.agg cs)))) s|_=>False
 |.makeFunc (.func f) a b=>LN fr a.toList λa=>LN fr b.toList λb=>k (.fn f a b) s
 |.fieldAddr t x i=>Bk fr x λx=>W2 P t x i λv=>k (.f v) s
 |.field t x i=>wH fr x λx=>match x with|.agg cs=>iK (kA P t i) fun(fo,ft)=>vQ P ft cs fo λv=>k v s|_=>False
 |.indexAddr t x i=>Bk fr x λx=>Bk fr i λi=>W6 P t x i λv=>k (.f v) s
 |.index t x i=>isStr P t<|yF fr x λx=>yF fr i λi=>VN x i λv=>k (.f (.p v)) s
 |.slice t x lo hi mx=>Bk fr x λx=>LM fr lo λlo=>LM fr hi λhi=>LM fr mx λmx=>match x with
  |.p (.str b)=>(match mx with|none=>isStr P t (Kp b lo hi λr=>k (.f (.p (.str r))) s)|some _=>False)
  |x=>du P t λe=>UQ x e lo hi mx λr=>k (.f r) s
 |.convert sr d x=>yF fr x λx=>Vx P sr d x λv=>k (.f (.p v)) s
 |.typeAssert x _ d ok=>yF fr x λx=>Wq P x d ok λv=>k v s
 |.makeMap _ none=>oO s (.map []) λn s=>k (.f (.mp n)) s
 |.lookup t m x ok=>Bk fr m λm=>yF fr x λx=>W7 P t m x ok s λv=>k v s
 |.mapUpdate t m x v|.insert t m x v=>Bk fr m λm=>yF fr x λx=>wH fr v λv=>W9 P t m x v s λs=>k .un s
 |.extract x i=>wH fr x λx=>match x with|.bR l=>iK (EM l i) λv=>(match v with|.f v=>k (.f v) s|.agg cs=>k (.agg cs) s)|_=>False
 |.panic x=>yF fr x λx=>match x with|.iface t v=>Q (.panic (.f (.p (.iface t v)))) fr s|_=>False
 |.call {callee:=.builtin .len,args:=⟨[x]⟩,argTypes:=⟨[t]⟩}=>Bk fr x λx=>Q3 P t x λn=>k (.i n) s
 |.call {callee:=.builtin .max,args:=⟨[x,y]⟩,argTypes:=⟨[t,t']⟩}=>yF fr x λx=>yF fr y λy=>match x,y with|.int .i64 a,.int .i64 b=>k (.i (max a b)) s|_,_=>False
 |.call {callee:=.builtin .min,args:=⟨[x,y]⟩,argTypes:=⟨[t,t']⟩}=>yF fr x λx=>yF fr y λy=>match x,y with|.int .i64 a,.int .i64 b=>k (.i (min a b)) s|_,_=>False
 |.call {callee:=.builtin .append,args:=⟨[a,b]⟩,argTypes:=⟨[t,t']⟩}=>Br (Nat.beq t t') (Bk fr a λa=>Bk fr b λb=>WU P t a b s k) False
 |.call {callee:=.value f,args,.. }=>wH fr f λf=>match f with
  |.fn id a c=>Vb fr args.toList λl=>PB a l c λl=>C id l s λe s=>match e with|.ret v=>mC v λv=>k v s|.panic v=>Q (.panic v) fr s
  |_=>False
 |_=>False
def wW (ops:List Oper) (g:Option (Nat×Bool)) (fr:SF) (k1 k2:SF->Prop):Prop:=
 match g with
 |none=>k1 fr
 |some (j,b)=>iK (EM ops j) λo=>iK o.dst λt=>match gO fr t with
  |.f (.p (.bool v))=>(match b with|true=>Br v (k1 ((t,.b true)::fr)) (k2 ((t,.b false)::fr))|false=>Br v (k2 ((t,.b true)::fr)) (k1 ((t,.b false)::fr)))
  |.bR []=>k2 fr
  |_=>False
def GK (P:Program) (C:CH) (ops:List Oper) (Q:EQ) (l:List Oper):SF->SH->Prop:=
 List.rec (motive:=λ_=>SF->SH->Prop) (λfr s=>Q .normal fr s) (λo _ ih fr s=>match o with
  |⟨d,op,_,_,_,g⟩=>wW ops g fr (λfr=>EP P C op fr s Q λv s=>kO fr d v λfr=>ih fr s) λfr=>kO fr d (.bR []) λfr=>ih fr s) l
def LF (s:SH):FC->Bool
 |.p _=>true
 |.ptr o _|.ep o _ _ _|.ref o _ _ _|.mp o=>(ay s.bp o).isSome
def my (s:SH):List FC->Bool
 |[]=>true
 |x::l=>match LF s x with|true=>my s l|false=>false
def PW (s:SH):EV->Bool
 |.f x=>LF s x
 |.agg cs=>my s cs
 |_=>false
def TB (s:SH):SO->Bool
 |.cells c=>my s c
 |.arr _ _ n=>!n
 |.map _=>true
def m6 (P:Program) (C:CH) (ops:List Oper) (ids:List (Nat×Nat)) (s:SH) (fr':SF) (s':SH) (l:List Nat):Prop->Prop:=
 List.rec (motive:=λ_=>Prop->Prop) (λk=>k) (λp _ ih k=>iK (EM ops p) λo=>wW ops o.guard fr'
  (λ_=>match cR o.op with
  |true=>iK (ay ids p) λn=>iK (ay s'.bp n) λx=>(ay s.bp n=some x)/\Br (TB s' x) (ih k) False
  |false=>match bU o.op with
   |true=>EP P C o.op fr' s' (λ_ _ _=>False) λv s2=>match o.dst with
    |some d=>(v=gO fr' d)/\Br (PW s2 v) (ih k) False
    |none=>ih k
   |false=>False)
  λ_=>ih k) l
def W1 (P:Program) (C:CH) (ops:List Oper) (Q:EQ) (l:az):List (Nat×Nat)->SF->SH->Prop:=
 List.rec (motive:=λ_=>List (Nat×Nat)->SF->SH->Prop) (λ_ fr s=>Q .normal fr s) (λp _ ih ids fr s=>match p with
  |(i,cK)=>iK (EM ops i) λo=>match o with
   |⟨d,op,_,_,_,g⟩=>wW ops g fr
    (λfr=>match bU op with
    |true=>match cR op with
     |true=>EP P C op fr s Q λv s=>match v with
      |.f (.ptr n _)|.f (.ref n _ _ _)|.f (.mp n)=>kO fr d v λfr=>ih ((i,n)::ids) fr s
      |_=>False
     |false=>EP P C op fr s Q λv s=>kO fr d v λfr=>ih ids fr s
    |false=>EP P C op fr s Q λv s'=>kO fr d v λfr'=>m6 P C ops ids s fr' s' cK (ih ids fr' s'))
    λfr=>kO fr d (.bR []) λfr=>ih ids fr s) l
def Mu (o:Nat):FC->Bool
 |.p _=>false
 |.ptr n _|.ep n _ _ _|.ref n _ _ _|.mp n=>Nat.beq n o
def og (o:Nat):List FC->Bool
 |[]=>false
 |x::l=>match Mu o x with|true=>true|false=>og o l
def VT (o:Nat):TV->Bool
 |.f x=>Mu o x
 |.agg cs=>og o cs
def H3 (o:Nat):List TV->Bool
 |[]=>false
 |x::l=>match VT o x with|true=>true|false=>H3 o l
def VL (x:SO) (e len:Nat) (k:PV->Prop):Prop:=
 match x with
 |.arr e' rs n=>Br (Nat.beq e' e) (Br (Nat.beq rs.length len) (k (.vs rs none n)) (Br (Nat.ble len rs.length) (k (.vs (rs.take len) none false)) False)) False
 |_=>False
def Tc (o:Nat) (a:SO) (x:FC) (k:FC->Prop):Prop:=
 match x with
 |.ref n len e cap=>cond (Nat.beq n o) (VL a e len λv=>k (.p v)) (k (.ref n len e cap))
 |.ep n e i j=>cond (Nat.beq n o) False (k (.ep n e i j))
 |.ptr n off=>cond (Nat.beq n o) False (k (.ptr n off))
 |.mp n=>cond (Nat.beq n o) False (k (.mp n))
 |.p x=>k (.p x)
def LY (o:Nat) (a:SO):List FC->(List FC->Prop)->Prop
 |[],k=>k []
 |x::l,k=>Tc o a x λx=>LY o a l λr=>k (x::r)
def VK (s:SH) (o:Nat) (a:SO) (x:EV) (k:EV->Prop):Prop:=
 match x with
 |.f (.ref n len e cap)=>cond (Nat.beq n o) (VL a e len λv=>k (.f (.p v))) (k (.f (.ref n len e cap)))
 |.f x=>cond (Mu o x) (k .un) (k (.f x))
 |.agg cs=>cond (og o cs) (cond (my s cs) (LY o a cs λr=>k (.agg r)) (k .un)) (k (.agg cs))
 |.fn g l c=>cond (og o l) (k .un) (cond (og o c) (k .un) (k (.fn g l c)))
 |.bR l=>cond (H3 o l) (k .un) (k (.bR l))
 |.un=>k .un
def oJ (s:SH) (o:Nat) (a:SO):SF->(SF->Prop)->Prop
 |[],k=>k []
 |(t,x)::l,k=>VK s o a x λx=>oJ s o a l λr=>k ((t,x)::r)
def uT (s:SH) (o:Nat) (a:SO):List (Nat×SO)->(List (Nat×SO)->Prop)->Prop
 |[],k=>k []
 |(n,x)::l,k=>cond (Nat.beq n o) (uT s o a l k) (match x with
  |.cells c=>cond (og o c) (cond (my s c) (LY o a c λc=>uT s o a l λr=>k ((n,.cells c)::r)) False) (uT s o a l λr=>k ((n,.cells c)::r))
  |x=>uT s o a l λr=>k ((n,x)::r))
def TK (o:Nat) (fr:SF) (s:SH) (k:SF->SH->Prop):Prop:=obj s o λa=>match a,s with|.cells _,_=>False|.map _,_=>False|a,⟨os,f⟩=>oJ ⟨os,f⟩ o a fr λfr=>uT ⟨os,f⟩ o a os λos=>k fr ⟨os,f⟩
def OF:List (Nat×Option Nat)->SF->SH->(SF->SH->Prop)->Prop
 |[],fr,s,k=>k fr s
 |(t,c)::l,fr,s,k=>match gO fr t,c with
  |.f (.ref o _ _ _),none=>TK o fr s λfr s=>OF l fr s k
  |.f (.ptr o off),some j=>obj s o λx=>match x with
   |.cells c=>iK (EM c (off+j)) λy=>match y with|.ref o _ _ _=>TK o fr s λfr s=>OF l fr s k|_=>OF l fr s k
   |_=>False
  |_,_=>OF l fr s k
def hd:Code->Nat
 |.region id _ _=>id
 |.seq a _=>hd a
 |.block _ c=>hd c
 |_=>1000
abbrev vn:=List (Nat×List (Nat×Option Nat))
def VJ (pol:vn) (c:Code):List (Nat×Option Nat):=match ay pol (hd c) with|some l=>l|none=>[]
abbrev fI:=List (Nat×az)
def Hs:List Oper->List Nat->az
 |_::l,n::m=>(n,[])::Hs l m
 |_,_=>[]
def Iw (T:fI) (id:Nat) (ops:Array Oper):az:=match ay T id with|some p=>p|none=>Hs ops.toList lH
def KG (fr:SF) (c:Operand) (b:Bool) (k:SF->Prop):Prop:=match c with|.tmp t=>k ((t,.b b)::fr)|_=>k fr
def er (P:Program) (C:CH) (L:LH) (T:fI) (pol:vn) (c:Code):EQ->SF->SH->Prop:=
 Code.rec (motive:=λ_=>EQ->SF->SH->Prop)
  (λQ=>Q .normal)
  (λid ops d Q=>match d with
    |false=>GK P C ops.toList Q ops.toList
    |true=>λfr s=>(sx ops (Iw T id ops)=true)/\W1 P C ops.toList Q (Iw T id ops) [] fr s)
  (λ_ b ia ib Q=>ia λx=>match x with|.normal=>λfr s=>OF (VJ pol b) fr s (ib Q)|x=>Q x)
  (λc _ _ ia ib Q fr s=>yF fr c λx=>match x with
    |.bool t=>Br t (KG fr c true λfr=>ia Q fr s) (KG fr c false λfr=>ib Q fr s)
    |_=>False)
  (λid _ ic Q=>ic λx=>match x with|.exit i=>cond (Nat.beq i id) (Q .normal) (Q (.exit i))|x=>Q x)
  (λc _ Q=>L c Q)
  (λ_ _ _ _ _ _ _ _ _=>False)
  (λid Q=>Q (.exit id))
  (λ_ _ _ _ _=>False)
  (λ_ _ _ _=>False)
  (λ_ _ _ _=>False)
  (λQ=>Q .ret)
  (λ_ _ _ _=>False) c
theorem ET {P:Program} {C:CH} {ops:List Oper} {Q:EQ} {l:List Oper} {o:Oper} {fr:SF} {s:SH}:GK P C ops Q (o::l) fr s=(match o with
 |⟨d,op,_,_,_,g⟩=>wW ops g fr (λfr=>EP P C op fr s Q λv s=>kO fr d v λfr=>GK P C ops Q l fr s) λfr=>kO fr d (.bR []) λfr=>GK P C ops Q l fr s):=rfl
theorem AB {P:Program} {C:CH} {ops:List Oper} {ids:List (Nat×Nat)} {s:SH} {fr':SF} {s':SH} {l:List Nat} {p:Nat} {k:Prop}:m6 P C ops ids s fr' s' (p::l) k=(iK (EM ops p) λo=>wW ops o.guard fr'
 (λ_=>match cR o.op with
 |true=>iK (ay ids p) λn=>iK (ay s'.bp n) λx=>(ay s.bp n=some x)/\Br (TB s' x) (m6 P C ops ids s fr' s' l k) False
 |false=>match bU o.op with
  |true=>EP P C o.op fr' s' (λ_ _ _=>False) λv s2=>match o.dst with
   |some d=>(v=gO fr' d)/\Br (PW s2 v) (m6 P C ops ids s fr' s' l k) False
   |none=>m6 P C ops ids s fr' s' l k
  |false=>False)
 λ_=>m6 P C ops ids s fr' s' l k):=rfl
end
end Go.Ee
namespace Go.Vv
section
variable{P:Program} {G:ab} {w:World}
theorem j6 {op:Op} {fr fr':Fr} (h:aa) (hx:∀x∈op.operands,ev fr x=ev fr' x):aK P op fr h=aK P op fr' h:=by
 unfold aK
 split
 case h_1=>rw[hx _ (by simp[Op.operands])]
 case h_2=>rw[hx _ (by simp[Op.operands])]
 case h_3 c a b=>simp only[hx c (by simp[Op.operands]),hx a (by simp[Op.operands]),hx b (by simp[Op.operands])]
 case h_4 t ps=>
  rw[show(ps.toList.map λp=>(p.1,ev fr p.2))=ps.toList.map λp=>(p.1,ev fr' p.2) from List.map_congr_left λp hp=>by
   rw[hx p.2 (by simp only[Op.operands];exact Array.mem_def.2 (List.mem_map.2 ⟨p,hp,rfl⟩))]]
 case h_5 t n ps=>
  rw[show(ps.toList.map λp=>(p.1,ev fr p.2))=ps.toList.map λp=>(p.1,ev fr' p.2) from List.map_congr_left λp hp=>by
   rw[hx p.2 (by simp only[Op.operands];exact Array.mem_def.2 (List.mem_map.2 ⟨p,hp,rfl⟩))]]
 case h_12 f a b=>
  rw[show a.toList.map (ev fr)=a.toList.map (ev fr') from List.map_congr_left λp hp=>hx p (by simp[Op.operands,Array.mem_toList_iff.1 hp]),
   show b.toList.map (ev fr)=b.toList.map (ev fr') from List.map_congr_left λp hp=>hx p (by simp[Op.operands,Array.mem_toList_iff.1 hp])]
 case h_13 t x lo hi mx=>
  have hlo:lo.map (ev fr)=lo.map (ev fr'):=by
   cases lo with
   |none=>rfl
   |some l=>simp only[Option.map_some];rw[hx l (by simp[Op.operands])]
  have hhi:hi.map (ev fr)=hi.map (ev fr'):=by
   cases hi with
   |none=>rfl
   |some l=>simp only[Option.map_some];rw[hx l (by simp[Op.operands])]
  have hmx:mx.map (ev fr)=mx.map (ev fr'):=by
   cases mx with
   |none=>rfl
   |some l=>simp only[Option.map_some];rw[hx l (by simp[Op.operands])]
  rw[hx x (by simp[Op.operands]),hlo,hhi,hmx]
 all_goals first
  |rfl
  |(rw[hx _ (by simp[Op.operands,Call.operands])];done)
  |(rw[hx _ (by simp[Op.operands,Call.operands]),hx _ (by simp[Op.operands,Call.operands])];done)
theorem rU {op:Op} (fr:Fr) (h h':aa) (hn:fO op=false):aK P op fr h=aK P op fr h':=by
 unfold aK
 split<;>first|rfl|(simp[fO] at hn;done)
theorem oZ {op:Op} {fr fr':Fr} (hx:∀x∈op.operands,ev fr x=ev fr' x):fT P op fr=fT P op fr':=by
 unfold fT
 split
 case h_2=>rw[hx _ (by simp[Op.operands])]
 case h_4=>rw[hx _ (by simp[Op.operands]),hx _ (by simp[Op.operands])]
 all_goals rfl
theorem FV {op:Op} (fr:Fr) (h:aa) (hn:cR op=true):aK P op fr h=none:=by
 unfold aK
 split<;>first|rfl|(simp[cR] at hn;done)
theorem uU {op:Op} {fr:Fr} {r:(Nat->VV)×dC} (h:fT P op fr=some r):cR op=true:=by
 unfold fT at h
 split at h<;>first|rfl|(simp at h;done)
def aa.Sub (h h':aa):Prop:=∀o y,h.get o=some y->h'.get o=some y
theorem FT {h h':aa} (hs:h.Sub h') {t:TypeId} {p v:VV} (hv:jJ P t p h=some v):jJ P t p h'=some v:=by
 unfold jJ at hv⊢
 split at hv
 ·split at hv
  ·rename_i c hg;simp only[hs _ _ hg];exact hv
  ·cases hv
 ·exact hv
 ·cases hv
theorem ye {h h':aa} (hs:h.Sub h') {m:VV} {es:List (VV×VV)} (hv:iz m h=some es):iz m h'=some es:=by
 unfold iz at hv⊢
 split at hv
 ·exact hv
 ·split at hv
  ·rename_i o _ es' hg;cases hv;simp only[hs _ _ hg]
  ·cases hv
 ·cases hv
theorem Cu {h h':aa} (hs:h.Sub h') {x:VV} {e:Nat} {es:List (List VV)} (hv:eS x h e=some es):eS x h' e=some es:=by
 unfold eS at hv⊢
 split at hv
 ·exact hv
 ·exact hv
 ·split at hv
  ·cases hv
  ·rename_i hq
   split at hv
   ·rename_i c hg;simp only[if_neg hq,hs _ _ hg];exact hv
   ·cases hv
 ·cases hv
theorem AK {h h':aa} (hs:h.Sub h') {t:TypeId} {m k v:VV} {ok:Bool} (hv:hH P t m k ok h=some v):hH P t m k ok h'=some v:=by
 unfold hH at hv⊢
 split at hv
 ·split at hv
  ·rename_i hfit
   split at hv
   ·rename_i es z hes hz
    simp only[if_pos hfit,ye hs hes,hz];exact hv
   ·cases hv
  ·cases hv
 ·cases hv
theorem qk {h h':aa} (hs:h.Sub h') {s d:TypeId} {x v:VV} (hv:ew P s d x h=some v):ew P s d x h'=some v:=by
 unfold ew at hv⊢
 split at hv
 ·exact hv
 ·exact hv
 ·split at hv
  ·rename_i he
   split at hv
   ·rename_i es hes
    simp only[Cu hs hes];exact hv
   ·cases hv
  ·cases hv
 ·cases hv
theorem K0 {h h':aa} (hs:h.Sub h') {t:TypeId} {x v:VV} (hv:lT P t x h=some v):lT P t x h'=some v:=by
 unfold lT at hv⊢
 split at hv<;>first
  |exact hv
  |(cases hv;done)
  |(split at hv
    ·rename_i hg;simp only[hs _ _ hg];exact hv
    ·cases hv)
theorem wh {h h':aa} (hs:h.Sub h') {op:Op} {fr:Fr} {v:VV} (hv:aK P op fr h=some v):aK P op fr h'=some v:=by
 cases hn:fO op with
 |false=>rw[<-rU fr h h' hn];exact hv
 |true=>
  unfold aK at hv⊢
  split at hv<;>first
   |exact FT hs hv
   |exact AK hs hv
   |exact qk hs hv
   |(split at hv
     ·rename_i hmk;rw[if_pos hmk];exact hv
     ·rename_i hmk;rw[if_neg hmk];exact qk hs hv)
   |exact K0 hs hv
   |(simp[fO] at hn;done)
   |(cases hv;done)
end
section
variable{P:Program} {G:ab} {w:World}
def gA (P:Program) (ops:Array Oper) (ids:List (Nat×Nat)) (h:aa) (fr':Fr) (h':aa) (p:Nat):Prop:=
 if cf ops fr' (aA ops p)=true then
  if cR (aA ops p).op=true then
   match ids.lookup p with
   |some i=>h'.get i=h.get i
   |none=>False
  else
   match aK P (aA ops p).op fr' h' with
   |some v=>match(aA ops p).dst with
    |some d=>v=fr'.at d
    |none=>True
   |none=>False
 else True
def ni (P:Program) (ops:Array Oper) (ids:List (Nat×Nat)) (h:aa) (fr':Fr) (h':aa):List Nat->Prop
 |[]=>True
 |p::l=>gA P ops ids h fr' h' p/\ni P ops ids h fr' h' l
theorem yr {ops:Array Oper} {ids:List (Nat×Nat)} {h h':aa} {fr':Fr}:∀{l:List Nat},ni P ops ids h fr' h' l->∀p∈l,gA P ops ids h fr' h' p:=by
 intro l
 induction l with
 |nil=>intro _ p hp;simp at hp
 |cons q l ih=>
  intro hv p hp
  rcases List.mem_cons.1 hp with rfl|hp
  ·exact hv.1
  ·exact ih hv.2 p hp
def Ct (P:Program) (ops:Array Oper) (Q:VX->Fr->aa->Prop):az->List (Nat×Nat)->Fr->aa->Prop
 |[],_,fr,h=>Q .normal fr h
 |(i,cK)::rest,ids,fr,h=>
  if cf ops fr (aA ops i)=true then
   if bU (aA ops i).op=true then
    if cR (aA ops i).op=true then
     match fT P (aA ops i).op fr with
     |some (f,x)=>Ct P ops Q rest ((i,h.next)::ids) (put fr (aA ops i).dst (f h.next)) (h.push x)
     |none=>False
    else
     match aK P (aA ops i).op fr h with
     |some v=>Ct P ops Q rest ids (put fr (aA ops i).dst v) h
     |none=>False
   else ez P (aA ops i) fr h (λfr' h'=>ni P ops ids h fr' h' cK/\Ct P ops Q rest ids fr' h') Q
  else Ct P ops Q rest ids (put fr (aA ops i).dst .undef) h
theorem fL {ops:Array Oper} {b:Array Nat} (hm:ga ops b=true) (S:Nat->Prop) (hS:∀j,S j->∀k∈waits (aA ops j),S k):
 ∀(n j:Nat),j<n->j<ops.size->∀i,i<ops.size->gP b j i=true->S j->S i:=by
 intro n
 induction n with
 |zero=>intro j h;omega
 |succ n ih=>
  intro j hjn hj i hi hb hSj
  simp only[ga,List.all_eq_true,Bool.and_eq_true,List.mem_range,decide_eq_true_eq,Bool.or_eq_true,Bool.not_eq_true',List.contains_iff_mem,List.any_eq_true] at hm
  obtain⟨h1,h2⟩:=hm j hj
  rcases h2 i hi with(h3|h3)|⟨k,hk,hkb⟩
  ·rw[h3] at hb;cases hb
  ·exact hS j hSj i h3
  ·have hkj:=h1 k hk
   exact ih k (by omega) (by omega) i hi hkb (hS j hSj k hk)
theorem K5 {ops:Array Oper} {b:Array Nat} (hm:ga ops b=true) {j:Nat} (hj:j<ops.size):∀k∈waits (aA ops j),k<j:=by
 simp only[ga,List.all_eq_true,Bool.and_eq_true,List.mem_range,decide_eq_true_eq] at hm
 exact(hm j hj).1
structure rh (ops:Array Oper) (b:Array Nat):Prop where
 look:∀i j d,i<ops.size->j<ops.size->(aA ops i).dst=some d->d∈cg ops (aA ops j)->
  (i=j/\bU (aA ops i).op=false)\/(i≠j/\(gP b j i=true\/(bU (aA ops i).op=false/\gP b i j=true)))
 apart:∀i j d,i<ops.size->j<ops.size->i≠j->(aA ops i).dst=some d->(aA ops j).dst≠some d
 LJ:∀i j,i<ops.size->j<ops.size->i≠j->bU (aA ops i).op=false->bU (aA ops j).op=false->gP b j i=true\/gP b i j=true
theorem xQ {ops:Array Oper} {b:Array Nat} (hc:s5 ops b=true):rh ops b:=by
 simp only[s5,List.all_eq_true,List.mem_range,Bool.and_eq_true] at hc
 refine⟨λi j d hi hj hd hr=>?_,λi j d hi hj hne hd=>?_,λi j hi hj hne h1 h2=>?_⟩
 ·have h:=(hc i hi j hj).1
  rw[hd] at h
  simp only[Bool.and_eq_true,Bool.or_eq_true,Bool.not_eq_true',beq_iff_eq,bne_iff_ne,ne_eq] at h
  have hr':(cg ops (aA ops j)).contains d=true:=List.contains_iff_mem.2 hr
  rcases h.1 with(h3|h3)|h3
  ·rw[hr'] at h3;cases h3
  ·exact .inl h3
  ·exact .inr h3
 ·have h:=(hc i hi j hj).1
  rw[hd] at h
  simp only[Bool.and_eq_true,Bool.or_eq_true,beq_iff_eq,bne_iff_ne,ne_eq] at h
  exact h.2.resolve_left hne
 ·have h:=(hc i hi j hj).2
  simp only[Bool.or_eq_true,beq_iff_eq] at h
  rcases h with(((h|h)|h)|h)|h
  ·exact absurd h hne
  ·rw[h1] at h;cases h
  ·rw[h2] at h;cases h
  ·exact .inl h
  ·exact .inr h
theorem pZ {ops:Array Oper} {i:Nat} (hi:i<ops.size):ops[i]?=some (aA ops i):=by
 simp[aA,hi]
theorem tF {op:Op} {t:Tmp} (h:Operand.tmp t∈op.operands):t∈BY op:=by
 unfold BY
 exact List.mem_filterMap.2 ⟨.tmp t,Array.mem_toList_iff.2 h,rfl⟩
theorem tP {ops:Array Oper} {o:Oper} {N:Fm} (hc:bd N o=true) {fr:Fr} {a:Act} (hs:∀t∈cg ops o,RV G (fr.at t) (a.tmps.getD t Go.undef)):
 ∀x∈o.op.operands,RV G (ev fr x) (a.eval x):=by
 intro x hx
 cases x with
 |tmp t=>exact hs t (List.mem_append.2 (.inl (tF hx)))
 |const v=>
  simp only[bd,Bool.and_eq_true,List.all_eq_true] at hc
  exact lK G (hc.2 _ (Array.mem_toList_iff.2 hx))
 |global g=>exact .qH g
 |func f=>exact .fn rfl rfl (λj h=>absurd h (Nat.not_lt_zero _)) (λj h=>absurd h (Nat.not_lt_zero _))
theorem CF {ops:Array Oper} {o:Oper} {N:Fm} (hops:∀(j:Nat) (o:Oper),ops[j]?=some o->bd N o=true) {fr:Fr} {a:Act} (hN:a.tmps.size=N.n)
 (hs:∀t∈cg ops o,RV G (fr.at t) (a.tmps.getD t Go.undef)):Region.wanted o (yielded ops a.tmps)=cf ops fr o:=by
 unfold cf Region.wanted
 cases hg:o.guard with
 |none=>rfl
 |some g=>
  obtain⟨j,want⟩:=g
  simp only
  congr 1
  unfold yielded rf
  cases ho:ops[j]? with
  |none=>rfl
  |some oj=>
   simp only[Option.bind_some]
   cases hd:oj.dst with
   |none=>rfl
   |some d=>
    have hlt:d<N.n:=by have:=hops j oj ho;simp[bd,hd] at this;exact this.1.1
    have hlt':d<a.tmps.size:=by rw[hN];exact hlt
    have h2:=hs d (List.mem_append.2 (.inr (by simp[hg,ho,hd])))
    have e:a.tmps.getD d Go.undef=a.tmps[d]:=by simp[hlt']
    rw[e] at h2
    simp only[Option.bind_some,Array.getElem?_eq_getElem hlt']
    generalize a.tmps[d]=x at h2
    generalize fr.at d=v at h2
    cases h2<;>rfl
theorem P9 {ops:Array Oper} {o:Oper} {fr:Fr} {d:Tmp} {v:VV} (hd:d∉cg ops o):∀x∈o.op.operands,ev fr x=ev (Tr.set fr d v) x:=by
 intro x hx
 cases x with
 |tmp t=>
  have:t≠d:=λe=>hd (by subst e;exact List.mem_append.2 (.inl (tF hx)))
  show fr.at t=Fr.at (Tr.set fr d v) t
  rw[Fr.dY,if_neg this]
 |_=>rfl
theorem K6 {ops:Array Oper} {o:Oper} {fr:Fr} {d:Tmp} {v:VV} (hd:d∉cg ops o):cf ops (Tr.set fr d v) o=cf ops fr o:=by
 unfold cf Region.wanted
 cases hg:o.guard with
 |none=>rfl
 |some g=>
  obtain⟨j,want⟩:=g
  simp only
  congr 1
  unfold rf
  cases ho:(ops[j]?).bind (·.dst) with
  |none=>rfl
  |some d'=>
   have:d'≠d:=λe=>hd (by subst e;exact List.mem_append.2 (.inr (by simp[hg,ho])))
   simp only[Fr.dY,if_neg this]
structure iN (P:Program) (ops:Array Oper) (N:Fm) (G0:ab) (w0:World) (a0:Act) (listed:Array Bool) (done:List Nat) (ids:List (Nat×Nat)) (fr:Fr) (h:aa) (G:ab) (a:Act) (w:World):Prop where
 rel:Rel G h w
 ext:Ext0 G0 G w0 w
 j8:Young G0 G
 same:pc N a0 a
 size:a.tmps.size=N.n
 ir:∀t,(∀p∈done,(aA ops p).dst=some t->listed.getD p false=true)->RV G (fr.at t) (a.tmps.getD t Go.undef)
 OX:listed.size=ops.size
 rB:∀p,listed.getD p false=true->p∈done
 P0:∀p∈done,bU (aA ops p).op=false->listed.getD p false=true
 lF:∀j,listed.getD j false=true->∀k∈waits (aA ops j),listed.getD k false=true
 pB:∀j∈done,∀k∈waits (aA ops j),k∈done
 PZ:∀j∈done,j<ops.size
 JK:∀p∈done,listed.getD p false=false->cf ops fr (aA ops p)=true->cR (aA ops p).op=true->
  ∃f x i,fT P (aA ops p).op fr=some (f,x)/\ids.lookup p=some i/\h.get i=some x/\G0.n<=i/\i<h.next/\G.φ i=none/\∀d,(aA ops p).dst=some d->fr.at d=f i
 pread:∀p∈done,listed.getD p false=false->cf ops fr (aA ops p)=true->cR (aA ops p).op=false->
  ∃v,aK P (aA ops p).op fr h=some v/\∀d,(aA ops p).dst=some d->fr.at d=v
 Nw:∀p∈done,listed.getD p false=false->cf ops fr (aA ops p)=false->∀d,(aA ops p).dst=some d->fr.at d=.undef
 inj:∀p q i,ids.lookup p=some i->ids.lookup q=some i->p=q
 vB:∀p i,ids.lookup p=some i->p∈done/\i<h.next
section
variable{ops:Array Oper} {N:Fm} {G0:ab} {w0:World} {a0:Act} {listed:Array Bool} {done:List Nat} {ids:List (Nat×Nat)} {fr:Fr} {h:aa} {a:Act} {b:Array Nat}
theorem iN.q7 (hi:iN P ops N G0 w0 a0 listed done ids fr h G a w) (hm:ga ops b=true) (hs:rh ops b) {i:Nat} (hin:i<ops.size) (hnd:i∉done)
 {d:Tmp} (hd:(aA ops i).dst=some d) {p:Nat} (hp:p∈done) (hpl:listed.getD p false=false) (hw:∀k∈waits (aA ops i),k∈done)
 (hwl:bU (aA ops i).op=false->∀k∈waits (aA ops i),listed.getD k false=true):d∉cg ops (aA ops p)/\(aA ops p).dst≠some d:=by
 have hpn:=hi.PZ p hp
 have hne:i≠p:=λe=>hnd (e▸hp)
 refine⟨λhr=>?_,hs.apart i p d hin hpn hne hd⟩
 rcases hs.look i p d hin hpn hd hr with⟨e,_⟩|⟨_,h1|⟨h1,h2⟩⟩
 ·exact hne e
 ·exact hnd (fL hm (·∈done) hi.pB (p+1) p (Nat.lt_succ_self p) hpn i hin h1 hp)
 ·
   have:=fL hm (λj=>j=i\/listed.getD j false=true) (λj hj k hk=>by
    rcases hj with rfl|hj
    ·exact .inr (hwl h1 k hk)
    ·exact .inr (hi.lF j hj k hk)) (i+1) i (Nat.lt_succ_self i) hin p hpn h2 (.inl rfl)
   rcases this with e|e
   ·exact hne e.symm
   ·rw[hpl] at e;cases e
theorem oS (fr:Fr) (dst:Option Tmp) (v:VV) (t:Nat):Fr.at (put fr dst v) t=if dst=some t then v else fr.at t:=by
 cases dst with
 |none=>simp[put]
 |some d=>
  simp only[put,Fr.dY,Option.some.injEq]
  by_cases h:t=d
  ·simp[h]
  ·rw[if_neg h,if_neg (λe=>h e.symm)]
theorem lA {o:Oper} {dst:Option Tmp} {v:VV} (hd:∀d,dst=some d->d∉cg ops o):∀x∈o.op.operands,ev fr x=ev (put fr dst v) x:=by
 cases dst with
 |none=>intro x _;rfl
 |some d=>exact P9 (hd d rfl)
theorem eF {o:Oper} {dst:Option Tmp} {v:VV} (hd:∀d,dst=some d->d∉cg ops o):cf ops (put fr dst v) o=cf ops fr o:=by
 cases dst with
 |none=>rfl
 |some d=>exact K6 (hd d rfl)
theorem iN.OY (hi:iN P ops N G0 w0 a0 listed done ids fr h G a w) (hm:ga ops b=true) (hs:rh ops b) {i:Nat} (hin:i<ops.size) (hnd:i∉done)
 (hw:∀k∈waits (aA ops i),k∈done) (hmov:bU (aA ops i).op=true) {v:VV} {ids':List (Nat×Nat)} {h':aa} {G':ab}
 (hrel:Rel G' h' w) (hext:Ext G G' w w) (hφ:G'.φ=G.φ) (hsub:h.Sub h') (hnext:h.next<=h'.next)
 (hids:∀p,p≠i->ids'.lookup p=ids.lookup p) (hidi:∀j,ids'.lookup i=some j->h.next<=j/\j<h'.next)
 (hnew:cf ops fr (aA ops i)=true->cR (aA ops i).op=true->∃f x j,fT P (aA ops i).op fr=some (f,x)/\ids'.lookup i=some j/\h'.get j=some x/\v=f j)
 (hread:cf ops fr (aA ops i)=true->cR (aA ops i).op=false->aK P (aA ops i).op fr h=some v)
 (hnot:cf ops fr (aA ops i)=false->v=.undef):iN P ops N G0 w0 a0 listed (i::done) ids' (put fr (aA ops i).dst v) h' G' a w:=by
 have hnl:listed.getD i false=false:=by
  cases hl:listed.getD i false with
  |false=>rfl
  |true=>exact absurd (hi.rB i hl) hnd
 have hself:∀d,(aA ops i).dst=some d->d∉cg ops (aA ops i):=by
  intro d hd hr
  rcases hs.look i i d hin hin hd hr with⟨_,h1⟩|⟨h1,_⟩
  ·rw[hmov] at h1;cases h1
  ·exact h1 rfl
 have hfree:∀p∈done,listed.getD p false=false->∀d,(aA ops i).dst=some d->d∉cg ops (aA ops p)/\(aA ops p).dst≠some d:=λp hp hpl d hd=>
  hi.q7 hm hs hin hnd hd hp hpl hw (λe=>by rw[hmov] at e;cases e)
 have hkeep:∀p∈done,listed.getD p false=false->∀d,(aA ops p).dst=some d->Fr.at (put fr (aA ops i).dst v) d=fr.at d:=by
  intro p hp hpl d hd
  rw[oS,if_neg (λe=>(hfree p hp hpl d e).2 hd)]
 have hown:∀d,(aA ops i).dst=some d->Fr.at (put fr (aA ops i).dst v) d=v:=λd hd=>by rw[oS,if_pos hd]
 have hne:∀p∈done,p≠i:=λp hp e=>hnd (e▸hp)
 refine⟨hrel,hi.ext.trans hext.toExt0,hi.j8.trans hext.toYoung,hi.same,hi.size,?_,hi.OX,λp hp=>List.mem_cons_of_mem _ (hi.rB p hp),?_,hi.lF,?_,?_,?_,?_,?_,?_,?_⟩
 ·intro t ht
  have hnt:(aA ops i).dst≠some t:=λe=>by
   have:=ht i (by simp) e
   rw[hnl] at this;cases this
  rw[oS,if_neg hnt]
  exact(hi.ir t λp hp hd=>ht p (List.mem_cons_of_mem _ hp) hd).mono hext.le
 ·intro p hp he
  rcases List.mem_cons.1 hp with rfl|hp
  ·rw[hmov] at he;cases he
  ·exact hi.P0 p hp he
 ·intro j hj k hk
  rcases List.mem_cons.1 hj with rfl|hj
  ·exact List.mem_cons_of_mem _ (hw k hk)
  ·exact List.mem_cons_of_mem _ (hi.pB j hj k hk)
 ·intro j hj
  rcases List.mem_cons.1 hj with rfl|hj
  ·exact hin
  ·exact hi.PZ j hj
 ·intro p hp hpl hwant hn
  rcases List.mem_cons.1 hp with rfl|hp
  ·rw[eF hself] at hwant
   obtain⟨f,x,j,h1,h2,h3,h4⟩:=hnew hwant hn
   refine⟨f,x,j,by rw[<-oZ (lA hself)];exact h1,h2,h3,?_,(hidi j h2).2,?_,λd hd=>by rw[hown d hd,h4]⟩
   ·have:=hi.rel.num;have:=hi.j8.num;have:=(hidi j h2).1;omega
   ·rw[hφ]
    cases hc:G.φ j with
    |none=>rfl
    |some m=>have:=hi.rel.iD _ _ hc;have:=(hidi j h2).1;omega
  ·have hf:=λd hd=>(hfree p hp hpl d hd).1
   rw[eF hf] at hwant
   obtain⟨f,x,j,h1,h2,h3,h4,h5,h6,h7⟩:=hi.JK p hp hpl hwant hn
   exact⟨f,x,j,by rw[<-oZ (lA hf)];exact h1,by rw[hids p (hne p hp)];exact h2,hsub _ _ h3,h4,by omega,by rw[hφ];exact h6,λd hd=>by rw[hkeep p hp hpl d hd];exact h7 d hd⟩
 ·intro p hp hpl hwant hn
  rcases List.mem_cons.1 hp with rfl|hp
  ·rw[eF hself] at hwant
   have h1:=hread hwant hn
   exact⟨v,wh hsub (by rw[<-j6 h (lA hself)];exact h1),hown⟩
  ·have hf:=λd hd=>(hfree p hp hpl d hd).1
   rw[eF hf] at hwant
   obtain⟨v',h1,h2⟩:=hi.pread p hp hpl hwant hn
   exact⟨v',wh hsub (by rw[<-j6 h (lA hf)];exact h1),λd hd=>by rw[hkeep p hp hpl d hd];exact h2 d hd⟩
 ·intro p hp hpl hwant d hd
  rcases List.mem_cons.1 hp with rfl|hp
  ·rw[eF hself] at hwant
   rw[hown d hd,hnot hwant]
  ·have hf:=λd hd=>(hfree p hp hpl d hd).1
   rw[eF hf] at hwant
   rw[hkeep p hp hpl d hd]
   exact hi.Nw p hp hpl hwant d hd
 ·intro p q j hp hq
  by_cases hpi:p=i
  ·subst hpi
   by_cases hqi:q=p
   ·exact hqi.symm
   ·rw[hids q hqi] at hq
    have h1:=(hidi j hp).1
    have h2:=(hi.vB q j hq).2
    omega
  ·rw[hids p hpi] at hp
   by_cases hqi:q=i
   ·subst hqi
    have h1:=(hidi j hq).1
    have h2:=(hi.vB p j hp).2
    omega
   ·rw[hids q hqi] at hq
    exact hi.inj p q j hp hq
 ·intro p j hp
  by_cases hpi:p=i
  ·subst hpi
   exact⟨by simp,(hidi j hp).2⟩
  ·rw[hids p hpi] at hp
   have:=hi.vB p j hp
   exact⟨List.mem_cons_of_mem _ this.1,by omega⟩
theorem getD_set_true {l:Array Bool} {i p:Nat} (hi:i<l.size):(l.setIfInBounds i true).getD p false=true↔p=i\/l.getD p false=true:=by
 simp only[Array.getD_eq_getD_getElem?,Array.getElem?_setIfInBounds]
 by_cases h:i=p
 ·subst h;simp[hi]
 ·rw[if_neg h]
  constructor
  ·intro h2;exact .inr h2
  ·rintro(rfl|h2)
   ·exact absurd rfl h
   ·exact h2
theorem iN.look (hi:iN P ops N G0 w0 a0 listed done ids fr h G a w) (hm:ga ops b=true) (hs:rh ops b) {i:Nat} (hin:i<ops.size) (hnl:listed.getD i false=false)
 (hwl:∀k∈waits (aA ops i),listed.getD k false=true):∀t∈cg ops (aA ops i),RV G (fr.at t) (a.tmps.getD t Go.undef):=by
 intro t ht
 refine hi.ir t λp hp hd=>?_
 have hpn:=hi.PZ p hp
 rcases hs.look p i t hpn hin hd ht with⟨e,h1⟩|⟨hne,h1|⟨h1,_⟩⟩
 ·exact hi.P0 p hp h1
 ·have:=fL hm (λj=>j=i\/listed.getD j false=true) (λj hj k hk=>by
   rcases hj with rfl|hj
   ·exact .inr (hwl k hk)
   ·exact .inr (hi.lF j hj k hk)) (i+1) i (Nat.lt_succ_self i) hin p hpn h1 (.inl rfl)
  rcases this with e|e
  ·exact absurd e hne
  ·exact e
 ·exact hi.P0 p hp h1
theorem Ag (a:Act) (dst:Option Tmp) (y:Value) (t:Nat) (ht:dst≠some t):(a.put dst y).tmps.getD t Go.undef=a.tmps.getD t Go.undef:=by
 cases dst with
 |none=>rfl
 |some d=>
  have:d≠t:=λe=>ht (by rw[e])
  simp only[Act.put,Array.getD_eq_getD_getElem?,Array.getElem?_setIfInBounds,if_neg this]
theorem oo (a:Act) (y:Value) (t:Nat) (ht:t<a.tmps.size):(a.put (some t) y).tmps.getD t Go.undef=y:=by
 simp[Act.put,ht]
theorem Af (a:Act) (dst:Option Tmp) (y:Value):(a.put dst y).tmps.size=a.tmps.size:=by cases dst<;>simp[Act.put]
theorem iN.PN (hi:iN P ops N G0 w0 a0 listed done ids fr h G a w) (_hs:rh ops b) {i:Nat} (hin:i<ops.size) (hp:i∈done) (hc:bd N (aA ops i)=true)
 (hwl:∀k∈waits (aA ops i),listed.getD k false=true) {y:Value} {G':ab} {w':World} (hrel:Rel G' h w') (hext:Ext0 G G' w w') (hyoung:Young G0 G')
 (hφ:∀p j,p≠i->ids.lookup p=some j->G.φ j=none->G'.φ j=none) (hy:∀d,(aA ops i).dst=some d->RV G' (fr.at d) y):
 iN P ops N G0 w0 a0 (listed.setIfInBounds i true) done ids fr h G' (a.put (aA ops i).dst y) w':=by
 have hli:i<listed.size:=by rw[hi.OX];exact hin
 have hback:∀p,(listed.setIfInBounds i true).getD p false=false->p≠i/\listed.getD p false=false:=by
  intro p hp
  have h1:¬(p=i\/listed.getD p false=true):=λe=>by rw[(getD_set_true hli).2 e] at hp;cases hp
  simp only[not_or,Bool.not_eq_true] at h1
  exact h1
 refine⟨hrel,hi.ext.trans hext,hyoung,hi.same.trans (.put a y hc),by rw[Af];exact hi.size,?_,by simp[hi.OX],?_,?_,?_,hi.pB,hi.PZ,?_,?_,?_,hi.inj,hi.vB⟩
 ·intro t ht
  by_cases hd:(aA ops i).dst=some t
  ·have hlt:t<a.tmps.size:=by rw[hi.size];simp[bd,hd] at hc;exact hc.1.1
   have h1:=hy t hd
   rw[hd,oo a y t hlt]
   exact h1
  ·rw[Ag a _ y t hd]
   refine(hi.ir t λp hp hpd=>?_).mono hext.le
   rcases(getD_set_true hli).1 (ht p hp hpd) with rfl|e
   ·exact absurd hpd hd
   ·exact e
 ·intro p hpl
  rcases(getD_set_true hli).1 hpl with rfl|e
  ·exact hp
  ·exact hi.rB p e
 ·intro p hpd he
  exact(getD_set_true hli).2 (.inr (hi.P0 p hpd he))
 ·intro j hj k hk
  rcases(getD_set_true hli).1 hj with rfl|e
  ·exact(getD_set_true hli).2 (.inr (hwl k hk))
  ·exact(getD_set_true hli).2 (.inr (hi.lF j e k hk))
 ·intro p hpd hpl hwant hn
  obtain⟨hne,hpl⟩:=hback p hpl
  obtain⟨f,x,j,h1,h2,h3,h4,h5,h6,h7⟩:=hi.JK p hpd hpl hwant hn
  exact⟨f,x,j,h1,h2,h3,h4,h5,hφ p j hne h2 h6,h7⟩
 ·intro p hpd hpl
  exact hi.pread p hpd (hback p hpl).2
 ·intro p hpd hpl
  exact hi.Nw p hpd (hback p hpl).2
end
end
end Go.Vv
