/- Part of the proof of CheckTrees: plain laws and steps of its walks, for all arguments. -/
import Derived.IntWalk
import Derived.Test.YtdjkoddnnogejaaGreatZVzc
set_option linter.unusedSimpArgs false
set_option linter.unusedVariables false
set_option linter.unusedSectionVars false
namespace Go.Vv
section
theorem fV.Uj {P:Program} {o:Nat} {args:List VV} {h:aa} {R R':VV->aa->Prop} (hR:∀r h',R r h'->R' r h') (hc:fV P o args h R):fV P o args h R':=hc.mono hR
theorem rT {P:Program} {o:Oper} {fr:Fr} {h:aa} {K K':Fr->aa->Prop} (hK:∀f h,K f h->K' f h) (hv:dB P o fr h K):dB P o fr h K':=by
 unfold dB at hv⊢
 split
 ·rename_i v h' hop;rw[hop] at hv;exact hK _ _ hv
 ·rename_i hop;rw[hop] at hv;exact hv
theorem o8 {P:Program} {o:Oper} {fr:Fr} {h:aa} {K K':Fr->aa->Prop} {Q:VX->Fr->aa->Prop} (hK:∀f h,K f h->K' f h) (hv:ez P o fr h K Q):ez P o fr h K' Q:=by
 unfold ez at hv⊢
 split
 ·rename_i x hop;rw[hop] at hv;exact hv
 ·rename_i c hop
  rw[hop] at hv
  simp only at hv
  split
  ·rename_i f args hc
   rw[hc] at hv
   exact hv.mono λr h' hh=>by
    cases r with
    |ret v=>exact hK _ _ hh
    |panic v=>exact hh
  ·rename_i hc
   rw[hc] at hv
   simp only at hv
   split
   ·rename_i l args hy
    rw[hy] at hv
    exact hv.mono λr h' hh=>hK _ _ hh
   ·rename_i hy
    rw[hy] at hv
    exact rT hK hv
 ·rename_i hn1 hn2
  split at hv
  ·rename_i x hop;exact absurd hop (hn1 x)
  ·rename_i c hop;exact absurd hop (hn2 c)
  ·exact rT hK hv
section steps
variable{P:Program} {N:Fm} {Q:VX->Fr->aa->Prop} {fr:Fr} {h:aa}
theorem Ej {id:Nat} {c:Code} (hv:gB P N c (VX.inBlock id Q) fr h):gB P N (.block id c) Q fr h:=hv
theorem S1 {c:Operand} {a b:Code} (t:Bool) (hc:ev fr c=.bool t) (h1:t=true->gB P N a Q fr h) (h2:t=false->gB P N b Q fr h):gB P N (.cond c a b) Q fr h:=by
 simp only[gB,hc]
 cases t with
 |true=>exact h1 rfl
 |false=>exact h2 rfl
theorem Pm (hv:Q .ret fr h):gB P N .ret Q fr h:=hv
theorem K4 (hv:Q .normal fr h):gB P N .skip Q fr h:=hv
theorem K3 {id:Nat} (hv:Q (.exit id) fr h):gB P N (.exit id) Q fr h:=hv
theorem CD {a b:Code} (hv:∀K:Fr->aa->Prop,(∀f h,gB P N b Q f h->K f h)->gB P N a (VX.then K Q) fr h):gB P N (.seq a b) Q fr h:=hv _ λ_ _ h=>Fz.of h
theorem SS {f:FuncId} {fn:Func} {c:Code} {args:List VV} {R:fQ->aa->Prop} (hf:P.funcs[f]?=some fn) (hb:fn.body=some c)
 (hv:∀Q:VX->Fr->aa->Prop,(∀fr h v,cT P fn.results.toList fr h=some v->R (.ret v) h->Q .ret fr h)->(∀fr h v,cT P fn.results.toList fr h=some v->R (.ret v) h->Q .normal fr h)->
   (∀v fr h,R (.panic v) h->Q (.panic v) fr h)->gB P ⟨fn.ntmps,[]⟩ c Q (fp args) h):qi P f args h R:=by
 unfold qi
 simp only[hf,hb]
 exact hv _ (λfr h v h1 h2=>by simp only[jf,h1];exact h2) (λfr h v h1 h2=>by simp only[jf,h1];exact h2) (λv fr h h1=>h1)
def l7 (h h':aa):Prop:=h.next<=h'.next/\∀o,o<h.next->h'.get o=h.get o
theorem l7.refl (h:aa):l7 h h:=⟨Nat.le_refl _,λ_ _=>rfl⟩
theorem l7.trans {h h1 h2:aa} (a:l7 h h1) (b:l7 h1 h2):l7 h h2:=⟨Nat.le_trans a.1 b.1,λo ho=>(b.2 o (Nat.lt_of_lt_of_le ho a.1)).trans (a.2 o ho)⟩
theorem l7.push (h:aa) (x:dC):l7 h (h.push x):=⟨by rw[aa.cA];omega,λo ho=>aa.dm _ _ (by omega)⟩
theorem l7.set {h h1:aa} (a:l7 h h1) {o:Nat} (x:dC) (ho:h.next<=o):l7 h (h1.set o x):=⟨a.1,λo' ho'=>by rw[aa.aO _ _ (by omega)];exact a.2 o' ho'⟩
def Gb (P:Program) (f:FuncId) (args:List VV) (h:aa) (v:VV):Prop:=bA P f args h λr h'=>r=.ret v/\l7 h h'
theorem Gb.of {f:FuncId} {args:List VV} {v:VV} (hc:bA P f args h λr h'=>r=.ret v/\h'=h):Gb P f args h v:=
 hc.mono λr h' hh=>by obtain⟨rfl,rfl⟩:=hh;exact⟨rfl,.refl _⟩
end steps
theorem bA.vy {P:Program} {f:FuncId} {args:List VV} {h:aa} {R R':fQ->aa->Prop} (hc:bA P f args h R)
 (hp:∀v h',R (.panic v) h'->R' (.panic v) h') (hR:∀v h',R (.ret v) h'->∃fr2 h2,uO (Tr.set .nil 0 v) h' fr2 h2/\R' (.ret (fr2.at 0)) h2):bA P f args h R':=by
 intro F n hF G w vargs hr ha o a K Q hK hQ
 refine hc F n hF G w vargs hr ha o a K Q (λG' w' h' y v hv hy hr' he=>?_) (λG' w' h' y v hv=>hQ G' w' h' y v (hp _ _ hv))
 obtain⟨fr2,h2,hz,hR2⟩:=hR _ _ hv
 have hf:lf G' ⟨1,[]⟩ (Tr.set .nil 0 v) #[y]:=by
  refine⟨rfl,λt=>?_⟩
  rw[Fr.dY]
  by_cases e:t=0
  ·subst e;simpa using hy
  ·rw[if_neg e]
   have e1:(#[y]:Array Value).getD t Go.undef=Go.undef:=by simp[Array.getD];omega
   rw[e1]
   have e2:Fr.at (Tr.nil:Fr) t=.undef:=rfl
   rw[e2]
   exact .undef G'
 obtain⟨G2,a1,a2,a3⟩:=hz.sound hr' hf
 exact hK G2 w' h2 y _ hR2 (by simpa using a2.2 0) a1 (he.trans a3)
def mf (P:Program) (Q:VX->Fr->aa->Prop):List (Option (Nat×Bool)×Oper)->Fr->aa->Prop
 |[],fr,h=>Q .normal fr h
 |(none,o)::rest,fr,h=>ez P o fr h (mf P Q rest) Q
 |(some (d,b),o)::rest,fr,h=>if(match fr.at d with|.bool t=>t==b|_=>false)=true then ez P o fr h (mf P Q rest) Q else mf P Q rest (put fr o.dst .undef) h
def mI (ops:Array Oper):List Oper->Option (List (Option (Nat×Bool)×Oper))
 |[]=>some []
 |o::l=>match s6 ops o,mI ops l with
  |some g,some r=>some ((g,o)::r)
  |_,_=>none
theorem AM {P:Program} {ops:Array Oper} {Q:VX->Fr->aa->Prop}:∀(l:List Oper) (r:List (Option (Nat×Bool)×Oper)),mI ops l=some r->∀(fr:Fr) (h:aa),mf P Q r fr h->o6 P ops Q l fr h:=by
 intro l
 induction l with
 |nil=>intro r hr fr h hv;cases hr;exact hv
 |cons o l ih=>
  intro r hr fr h hv
  simp only[mI] at hr
  split at hr
  ·rename_i g r' hg hr'
   cases hr
   have hw:=pS hg fr
   simp only[o6]
   cases g with
   |none=>
    have hv:ez P o fr h (mf P Q r') Q:=hv
    have hw2:cf ops fr o=true:=by rw[<-hw];rfl
    rw[if_pos hw2]
    exact o8 (λf h hh=>ih r' hr' f h hh) hv
   |some db=>
    obtain⟨d,b⟩:=db
    have hw2:cf ops fr o=(match fr.at d with|.bool t=>t==b|_=>false):=by
     rw[<-hw]
     show @Option.rec Bool (λ_=>Bool) false _ (gO fr d).bool?=_
     rw[wJ]
     cases hb:(fr.at d).bool? with
     |none=>
      generalize fr.at d=x at hb
      cases x<;>first|rfl|(exact absurd hb (by intro e;cases e))
     |some b'=>
      rw[VV.bool?_some hb]
      cases b<;>cases b'<;>rfl
    simp only[mf] at hv
    rw[<-hw2] at hv
    split at hv
    ·rename_i hc
     rw[if_pos hc]
     exact o8 (λf h hh=>ih r' hr' f h hh) hv
    ·rename_i hc
     rw[if_neg hc]
     exact ih r' hr' _ _ hv
  ·cases hr
def Pk (P:Program) (Q:VX->Fr->aa->Prop):List Oper->Fr->aa->Prop
 |[],fr,h=>Q .normal fr h
 |o::rest,fr,h=>ez P o fr h (Pk P Q rest) Q
section steps
variable{P:Program} {N:Fm} {Q:VX->Fr->aa->Prop} {fr:Fr} {h:aa}
theorem U2 {id:Nat} {ops:Array Oper} (r:List (Option (Nat×Bool)×Oper)) (hr:mI ops ops.toList=some r) (hv:mf P Q r fr h):gB P N (.region id ops false) Q fr h:=AM _ _ hr _ _ hv
def K1 (P:Program) (Q:VX->Fr->aa->Prop) (r:Option (List (Option (Nat×Bool)×Oper))) (fr:Fr) (h:aa):Prop:=
 match r with
 |some r=>mf P Q r fr h
 |none=>False
theorem CE {r:List (Option (Nat×Bool)×Oper)} (hv:mf P Q r fr h):K1 P Q (some r) fr h:=hv
theorem CC {id:Nat} {ops:Array Oper} (hv:K1 P Q (mI ops ops.toList) fr h):gB P N (.region id ops false) Q fr h:=by
 unfold K1 at hv
 split at hv
 ·rename_i r hr;exact U2 r hr hv
 ·exact hv.elim
theorem Kj (hv:Q .normal fr h):mf P Q [] fr h:=hv
theorem Sf {o:Oper} {rest:List (Option (Nat×Bool)×Oper)} (hv:∀K:Fr->aa->Prop,(∀f h,mf P Q rest f h->K f h)->ez P o fr h K Q):mf P Q ((none,o)::rest) fr h:=hv _ λ_ _ h=>h
theorem Au {d:Nat} {v:VV} (hv:fr.at d=v) (hn:v.gh=false):Tr.set fr d v=fr:=by
 have hg:fr.get d=some v:=by
  unfold Fr.at at hv
  cases h:Tr.get fr d with
  |none=>rw[h] at hv;subst hv;cases hn
  |some u=>rw[h] at hv;exact congrArg some hv
 have key:∀(t:Tr VV) (n f:Nat),n<f->t.get n=some v->Tr.kU f t n v=t:=by
  intro t
  induction t with
  |nil=>intro n f _ h;cases h
  |node w l r ihl ihr=>
   intro n f hf h
   cases f with
   |zero=>omega
   |succ f=>
    simp only[Tr.get] at h
    simp only[Tr.kU]
    split at h
    ·rename_i h0
     rw[if_pos h0,h]
    ·rename_i h0
     rw[if_neg h0]
     split at h
     ·rename_i h1;rw[if_pos h1,ihl _ _ (by omega) h]
     ·rename_i h1;rw[if_neg h1,ihr _ _ (by omega) h]
 exact key fr d (d+1) (Nat.lt_succ_self d) hg
theorem Og {c:Code} (n:Nat) (I:Nat->Fr->aa->Prop) (h0:I 0 fr h) (step:∀i fr h,i<n->I i fr h->∀L:Fr->aa->Prop,(∀f h,I (i+1) f h->L f h)->gB P N c (VX.then L Q) fr h)
 (last:∀fr h,I n fr h->∀L:Fr->aa->Prop,gB P N c (VX.then L Q) fr h):gB P N (.loop c) Q fr h:=by
 refine⟨n+1,?_⟩
 have key:∀m i fr h,i+m=n->I i fr h->na (gB P N c) Q (m+1) fr h:=by
  intro m
  induction m with
  |zero=>
   intro i fr h hi hI
   have:i=n:=by omega
   subst this
   exact last fr h hI _
  |succ m ih=>
   intro i fr h hi hI
   exact step i fr h (by omega) hI _ λf h' hI'=>ih (i+1) f h' (by omega) hI'
 exact key n 0 fr h (by omega) h0
theorem U1 {d:Nat} {a b:Code} (hb:∃t,fr.at d=.bool t) (h1:fr.at d=.bool true->gB P N a Q (Tr.set fr d (.bool true)) h) (h2:fr.at d=.bool false->gB P N b Q (Tr.set fr d (.bool false)) h):
 gB P N (.cond (.tmp d) a b) Q fr h:=by
 obtain⟨t,ht⟩:=hb
 refine S1 t ht (λe=>?_) (λe=>?_)
 ·subst e;have:=h1 ht;rwa [Au ht rfl] at this
 ·subst e;have:=h2 ht;rwa [Au ht rfl] at this
end steps
def tQ (k:FuncId):jg:=λf args h=>match Nat.beq f k with
 |true=>match tR args with
  |some v=>some (.ret v,h)
  |none=>none
 |false=>none
theorem xx {P:Program} {k:FuncId} {fn:Func} (hf:P.funcs[k]?=some fn) (hn:(fn.name== "runtime.NumGoroutine")=false) (hb:fn.body=none)
 (hnx:Extern.findNext fn=none) (he:Extern.find fn=some Extern.BytealgIndexByte.indexByte):kf P (tQ k):=by
 intro f args h r h' hx
 unfold tQ at hx
 split at hx
 ·rename_i hk
  have hfk:f=k:=Nat.eq_of_beq_eq_true hk
  subst hfk
  split at hx
  ·rename_i v hv
   cases hx
   exact(jw hf hn hb hnx he hv).mono λr' h'' hh=>hh
  ·cases hx
 ·cases hx
theorem BD {P:Program} {T:FuncId->Nat->az} {a b c d s:Tr Unit} (ha:Tr.jh (fZ P T) a=true) (hb:Tr.jh (fZ P T) b=true) (hc:Tr.jh (fZ P T) c=true) (hd:Tr.jh (fZ P T) d=true)
 (hs:Tr.jh (py P T) s=true):sT P T ⟨λf=>iH a f||iH b f||iH c f||iH d f,iH s⟩:=
 ⟨λf hf=>by
  simp only[Bool.or_eq_true] at hf
  rcases hf with((hf|hf)|hf)|hf
  ·exact jC ha f hf
  ·exact jC hb f hf
  ·exact jC hc f hf
  ·exact jC hd f hf,λf hf=>jC hs f hf⟩
end
section
abbrev PE:=Nat×Option (Option (Nat×Bool))×Oper
def TL (g:Option (Nat×Bool)) (fr:Fr):Bool:=
 match g with
 |none=>true
 |some (d,b)=>match fr.at d with|.bool t=>t==b|_=>false
theorem Qg {ops:Array Oper} {o:Oper} {g:Option (Nat×Bool)} (hg:s6 ops o=some g) (fr:Fr):cf ops fr o=TL g fr:=by
 have hw:=pS hg fr
 cases g with
 |none=>rw[<-hw];rfl
 |some db=>
  obtain⟨d,b⟩:=db
  rw[<-hw]
  show @Option.rec Bool (λ_=>Bool) false _ (gO fr d).bool?=(match fr.at d with|.bool t=>t==b|_=>false)
  rw[wJ]
  cases hb:(fr.at d).bool? with
  |none=>
   generalize fr.at d=x at hb
   cases x<;>first|rfl|(exact absurd hb (by intro e;cases e))
  |some b'=>
   rw[VV.bool?_some hb]
   cases b<;>cases b'<;>rfl
section steps
variable{P:Program} {N:Fm} {Q:VX->Fr->aa->Prop} {fr:Fr} {h:aa} {ops:Array Oper} {ids:List (Nat×Nat)}
end steps
end
end Go.Vv
namespace Go.Ee
section
open Go.Vv
def yI (l:List (List VV)) (cap:Option Nat) (n:Bool):VV:=
 match l,n with
 |[],true=>.da
 |l,_=>.vs l cap
theorem jt (l:List (List VV)) (cap:Option Nat) (n:Bool):(l=[]/\n=true/\yI l cap n=.da)\/(yI l cap n=.vs l cap/\(l=[]->n=false)):=by
 cases l with
 |nil=>cases n;exact .inr ⟨rfl,λ_=>rfl⟩;exact .inl ⟨rfl,rfl,rfl⟩
 |cons a l=>cases n<;>exact .inr ⟨rfl,λh=>(by cases h)⟩
theorem nI (l:List (List VV)) (cap:Option Nat):yI l cap false=.vs l cap:=by cases l<;>rfl
mutual
def PV.v:PV->VV
 |.bool b=>.bool b
 |.int k n=>.int k n
 |.str s=>.str s
 |.iF=>.iF
 |.ig=>.ig
 |.lJ=>.lJ
 |.ec=>.ec
 |.vs es cap n=>yI (PV.n7 es) cap n
 |.ip cs off=>.fb (PV.vl cs) off
 |.agg cs=>.agg (PV.vl cs)
 |.iface t x=>.iface t x.v
 |.gp g=>.qH g
def PV.vl:List PV->List VV
 |[]=>[]
 |x::l=>x.v::PV.vl l
def PV.n7:List (List PV)->List (List VV)
 |[]=>[]
 |r::l=>PV.vl r::PV.n7 l
end
theorem lR (l:List PV):PV.vl l=l.map PV.v:=by induction l with|nil=>rfl|cons x l ih=>simp[PV.vl,ih]
theorem fF (l:List (List PV)):PV.n7 l=l.map (·.map PV.v):=by induction l with|nil=>rfl|cons x l ih=>simp[PV.n7,ih,lR]
inductive NS where
 |un
 |dead
 |MH
 |at(i:Nat)
abbrev NM:=Nat->NS
def NM.eY (ρ:NM) (o:Nat) (x:NS):NM:=λn=>if n=o then x else ρ n
def FR (ρ:NM):FC->VV->Prop
 |.p x,v=>v=x.v/\x.isAgg=false
 |.ptr o off,v=>(match ρ o with|.at i=>v=.ptr i off|.dead=>∃i,v=.ptr i off|_=>False)
 |.ep o e i j,v=>(match ρ o with|.at n=>v=.ptr n (i*e+j)|.dead=>∃n,v=.ptr n (i*e+j)|_=>False)
 |.mp o,v=>(match ρ o with|.at i=>v=.map i|.dead=>∃i,v=.map i|_=>False)
 |.ref o len e cap,v=>(match ρ o with|.at i=>v=.ref i 0 len e cap|.MH=>v=.da/\len=0|.dead=>(∃i,v=.ref i 0 len e cap)\/(v=.da/\len=0)|.un=>False)
def dP (ρ:NM):List FC->List VV->Prop
 |[],[]=>True
 |x::l,v::m=>FR ρ x v/\dP ρ l m
 |_,_=>False
def TR (ρ:NM):TV->VV->Prop
 |.f x,v=>FR ρ x v
 |.agg cs,v=>∃l,v=.agg l/\dP ρ cs l
def A4 (ρ:NM):List TV->List VV->Prop
 |[],[]=>True
 |x::l,v::m=>TR ρ x v/\A4 ρ l m
 |_,_=>False
def ER (ρ:NM):EV->VV->Prop
 |.f x,v=>FR ρ x v
 |.agg cs,v=>∃l,v=.agg l/\dP ρ cs l
 |.fn g a c,v=>∃la lc,v=.fn (.func g) la lc/\dP ρ a la/\dP ρ c lc
 |.bR l,v=>∃m,v=.bR m/\A4 ρ l m
 |.un,_=>True
def qu (ρ:NM):List EV->List VV->Prop
 |[],[]=>True
 |x::l,v::m=>ER ρ x v/\qu ρ l m
 |_,_=>False
def EE (ρ:NM):aR->fQ->Prop
 |.ret x,.ret v=>ER ρ x v
 |.panic x,.panic v=>ER ρ x v
 |_,_=>False
def NM.Le (ρ ρ':NM):Prop:=∀o,ρ o=.un\/ρ' o=ρ o\/ρ' o=.dead
theorem NM.Le.refl (ρ:NM):ρ.Le ρ:=λ_=>.inr (.inl rfl)
theorem NM.Le.trans {ρ ρ1 ρ2:NM} (h:ρ.Le ρ1) (h':ρ1.Le ρ2):ρ.Le ρ2:=λo=>by
 rcases h o with h|h|h
 ·exact .inl h
 ·rcases h' o with h2|h2|h2
  ·exact .inl (h▸h2)
  ·exact .inr (.inl (h2.trans h))
  ·exact .inr (.inr h2)
 ·rcases h' o with h2|h2|h2
  ·rw[h] at h2;cases h2
  ·exact .inr (.inr (h2.trans h))
  ·exact .inr (.inr h2)
theorem NM.Le.eY {ρ:NM} {o:Nat} {x:NS} (h:ρ o=.un\/x=.dead):ρ.Le (ρ.eY o x):=λn=>by
 by_cases e:n=o
 ·subst e
  rcases h with h|h
  ·exact .inl h
  ·exact .inr (.inr (by simp[NM.eY,h]))
 ·exact .inr (.inl (by simp[NM.eY,e]))
section mono
variable{ρ ρ':NM} (hl:ρ.Le ρ')
include hl
theorem FR.mono {x:FC} {v:VV} (h:FR ρ x v):FR ρ' x v:=by
 cases x with
 |p x=>exact h
 |ptr o off|ep o e i j|ref o len e cap|mp o=>
  simp only[FR] at h⊢
  rcases hl o with h1|h1|h1
  ·rw[h1] at h;exact h.elim
  ·rw[h1];exact h
  ·rw[h1]
   cases hr:ρ o<;>rw[hr] at h<;>first|exact h.elim|exact h|exact⟨_,h⟩|exact .inl ⟨_,h⟩|exact .inr h
theorem dP.mono:∀{l:List FC} {m:List VV},dP ρ l m->dP ρ' l m
 |[],[],_=>trivial
 |_::_,_::_,h=>⟨h.1.mono hl,dP.mono h.2⟩
theorem TR.mono {x:TV} {v:VV} (h:TR ρ x v):TR ρ' x v:=by
 cases x with
 |f x=>exact FR.mono hl h
 |agg cs=>obtain⟨l,e,h⟩:=h;exact⟨l,e,h.mono hl⟩
theorem A4.mono:∀{l:List TV} {m:List VV},A4 ρ l m->A4 ρ' l m
 |[],[],_=>trivial
 |_::_,_::_,h=>⟨h.1.mono hl,A4.mono h.2⟩
theorem ER.mono {x:EV} {v:VV} (h:ER ρ x v):ER ρ' x v:=by
 cases x with
 |f x=>exact FR.mono hl h
 |agg cs=>obtain⟨l,e,h⟩:=h;exact⟨l,e,h.mono hl⟩
 |fn g a c=>obtain⟨l,m,e,h,h'⟩:=h;exact⟨l,m,e,h.mono hl,h'.mono hl⟩
 |bR l=>obtain⟨m,e,h⟩:=h;exact⟨m,e,h.mono hl⟩
 |un=>trivial
theorem qu.mono:∀{l:List EV} {m:List VV},qu ρ l m->qu ρ' l m
 |[],[],_=>trivial
 |_::_,_::_,h=>⟨h.1.mono hl,qu.mono h.2⟩
end mono
theorem FR.one {ρ:NM} {x:FC} {v:VV} (h:FR ρ x v):v.one=true:=by
 cases x with
 |p x=>
  obtain⟨rfl,h2⟩:=h
  cases x with
  |agg=>simp[PV.isAgg] at h2
  |vs es cap n=>rcases jt (PV.n7 es) cap n with⟨_,_,h⟩|⟨h,_⟩<;>simp only[PV.v,h]<;>rfl
  |_=>rfl
 |ptr o off|ep o e i j|ref o len e cap|mp o=>
  simp only[FR] at h
  split at h<;>first|exact h.elim|(subst h;rfl)|(obtain⟨rfl,_⟩:=h;rfl)|(rcases h with⟨_,rfl⟩|⟨rfl,_⟩<;>rfl)|(obtain⟨_,rfl⟩:=h;rfl)
theorem jc {v:VV} (h:v.one=true):v.cells=[v]:=by cases v<;>first|rfl|(simp[VV.one] at h)
theorem MM {v:VV} (h:v.one=true):v.gh=false:=by cases v<;>first|rfl|(simp[VV.one] at h)
theorem dP.len {ρ:NM}:∀{l:List FC} {m:List VV},dP ρ l m->l.length=m.length
 |[],[],_=>rfl
 |_::_,_::_,h=>congrArg (·+1) (dP.len h.2)
theorem dP.V7 {ρ:NM}:∀{l:List FC} {m:List VV},dP ρ l m->∀v∈m,v.one=true
 |[],[],_=>λ_ h=>by cases h
 |_::_,_::_,h=>λv hv=>by
  rcases List.mem_cons.1 hv with rfl|hv
  ·exact h.1.one
  ·exact dP.V7 h.2 v hv
theorem dP.get {ρ:NM}:∀{l:List FC} {m:List VV},dP ρ l m->∀{i:Nat} {x:FC},l[i]?=some x->∃v,m[i]?=some v/\FR ρ x v
 |_::_,_::_,h,0,x,e=>by cases e;exact⟨_,rfl,h.1⟩
 |_::_,_::_,h,i+1,x,e=>dP.get h.2 (i:=i) (by simpa using e)
 |[],[],_,i,x,e=>by simp at e
theorem dP.append {ρ:NM}:∀{l:List FC} {m:List VV} {l':List FC} {m':List VV},dP ρ l m->dP ρ l' m'->dP ρ (l++l') (m++m')
 |[],[],_,_,_,h=>h
 |_::_,_::_,_,_,h,h'=>⟨h.1,dP.append h.2 h'⟩
theorem dP.take {ρ:NM}:∀{l:List FC} {m:List VV} (n:Nat),dP ρ l m->dP ρ (l.take n) (m.take n)
 |[],[],_,_=>by simp[dP]
 |_::_,_::_,0,_=>by simp[dP]
 |_::_,_::_,n+1,h=>by simpa[dP] using⟨h.1,dP.take n h.2⟩
theorem dP.drop {ρ:NM}:∀{l:List FC} {m:List VV} (n:Nat),dP ρ l m->dP ρ (l.drop n) (m.drop n)
 |[],[],_,_=>by simp[dP]
 |_::_,_::_,0,h=>by simpa using h
 |_::_,_::_,n+1,h=>by simpa using dP.drop n h.2
theorem dP.ov {ρ:NM} {c n:List FC} {c' n':List VV} (h:dP ρ c c') (h':dP ρ n n') (off:Nat):dP ρ (gj.over' c off n) (dQ c' off n'):=by
 unfold gj.over' dQ
 rw[<-h'.len]
 exact(h.take off|>.append h').append (h.drop _)
def sW (l:List PV):Prop:=∀x∈l,x.isAgg=false
theorem dP.pure (ρ:NM):∀{l:List PV},sW l->dP ρ (l.map .p) (l.map PV.v)
 |[],_=>trivial
 |x::l,h=>⟨⟨rfl,h x (by simp)⟩,dP.pure ρ λy hy=>h y (by simp[hy])⟩
def ck (rs:List (List PV)):List VV:=(rs.map (·.map PV.v)).flatten
def lg (e:Nat) (rs:List (List PV)):Prop:=1<=e/\∀r∈rs,r.length=e/\sW r
def OR (ρ:NM) (h:aa) (o:Nat):SO->Prop
 |.cells c=>∃i l,ρ o=.at i/\h.get i=some (.cells l)/\dP ρ c l
 |.arr e rs n=>lg e rs/\((rs=[]/\n=true/\ρ o=.MH)\/((rs=[]->n=false)/\∃i,ρ o=.at i/\h.get i=some (.cells (ck rs))))
 |.map es=>∃i,ρ o=.at i/\h.get i=some (.map (es.map λp=>(.str p.1,p.2.v)))
theorem OR.move {ρ ρ':NM} {h h':aa} {o:Nat} {x:SO} (ho:OR ρ h o x) (hg:∀i,ρ o=.at i->h'.get i=h.get i) (hl:ρ.Le ρ') (he:ρ' o=ρ o):OR ρ' h' o x:=by
 cases x with
 |cells c=>obtain⟨i,l,h1,h2,h3⟩:=ho;exact⟨i,l,he.trans h1,(hg i h1).trans h2,h3.mono hl⟩
 |arr e rs n=>
  obtain⟨h0,⟨h1,h2,h3⟩|⟨h1,i,h2,h3⟩⟩:=ho
  ·exact⟨h0,.inl ⟨h1,h2,he.trans h3⟩⟩
  ·exact⟨h0,.inr ⟨h1,i,he.trans h2,(hg i h2).trans h3⟩⟩
 |map es=>obtain⟨i,h1,h2⟩:=ho;exact⟨i,he.trans h1,(hg i h1).trans h2⟩
theorem OR.born {ρ:NM} {h:aa} {o:Nat} {x:SO} (ho:OR ρ h o x):ρ o≠.un/\ρ o≠.dead:=by
 cases x with
 |cells c=>obtain⟨i,l,h1,h2,h3⟩:=ho;rw[h1];simp
 |arr e rs n=>
  obtain⟨h0,⟨h1,h2,h3⟩|⟨h1,i,h2,h3⟩⟩:=ho
  ·rw[h3];simp
  ·rw[h2];simp
 |map es=>obtain⟨i,h1,h2⟩:=ho;rw[h1];simp
structure SR (ρ:NM) (s:SH) (h:aa):Prop where
 obj:∀o x,ay s.bp o=some x->OR ρ h o x
 inj:∀o o' i,ρ o=.at i->ρ o'=.at i->o=o'
 iD:∀o i,ρ o=.at i->i<h.next
 free:∀n,s.next<=n->ρ n=.un
structure ch (ρ:NM) (h:aa) (ρ':NM) (h':aa):Prop where
 le:ρ.Le ρ'
 new:∀o i,ρ' o=.at i->(∃o',ρ o'=.at i)\/h.next<=i
 next:h.next<=h'.next
 gE:∀i,i<h.next->(∀o,ρ o≠.at i)->h'.get i=h.get i
theorem ch.refl (ρ:NM) (h:aa):ch ρ h ρ h:=⟨.refl ρ,λ_ _ h=>.inl ⟨_,h⟩,Nat.le_refl _,λ_ _ _=>rfl⟩
theorem ch.trans {ρ ρ1 ρ2:NM} {h h1 h2:aa} (a:ch ρ h ρ1 h1) (b:ch ρ1 h1 ρ2 h2):ch ρ h ρ2 h2 where
 le:=a.le.trans b.le
 new:=λo i hi=>by
  rcases b.new o i hi with⟨o',h⟩|h
  ·exact a.new o' i h
  ·exact .inr (Nat.le_trans a.next h)
 next:=Nat.le_trans a.next b.next
 gE:=λi hi hn=>by
  rw[b.gE i (Nat.lt_of_lt_of_le hi a.next) (λo ho=>?_),a.gE i hi hn]
  rcases a.new o i ho with⟨o',h⟩|h
  ·exact hn o' h
  ·omega
def jN (ρ:NM) (fr:SF) (vfr:Fr):Prop:=∀t,ER ρ (gO fr t) (vfr.at t)
theorem jN.mono {ρ ρ':NM} (hl:ρ.Le ρ') {fr:SF} {vfr:Fr} (h:jN ρ fr vfr):jN ρ' fr vfr:=λt=>(h t).mono hl
theorem al {α:Type} (m:Nat) (a:α) (l:List (Nat×α)) (n:Nat):ay ((m,a)::l) n=if n=m then some a else ay l n:=by
 simp only[ay]
 by_cases e:n=m
 ·subst e;simp
 ·have:Nat.beq m n=false:=by
   cases hb:Nat.beq m n with
   |false=>rfl
   |true=>exact absurd (Nat.eq_of_beq_eq_true hb).symm e
  simp[e,this]
theorem dT {m n:Nat} (h:Nat.beq m n=true):m=n:=Nat.eq_of_beq_eq_true h
theorem pq {m n:Nat} (h:Nat.beq m n=false):m≠n:=Nat.ne_of_beq_eq_false h
theorem jN.put {ρ:NM} {fr:SF} {vfr:Fr} (h:jN ρ fr vfr) {x:EV} {v:VV} (hx:ER ρ x v) {d:Option Tmp} {k:SF->Prop} (hk:kO fr d x k):∃fr',jN ρ fr' (Vv.put vfr d v)/\k fr':=by
 cases d with
 |none=>exact⟨fr,h,hk⟩
 |some d=>
  refine⟨_,λt=>?_,hk⟩
  simp only[Vv.put,Fr.dY,gO,al]
  by_cases e:t=d
  ·simpa[e] using hx
  ·simpa[e,gO] using h t
end
section
open Go.Vv
theorem zo {α:Type}:∀{l:List α} {k:List α->Prop},S9 l k->k l
 |[],_,h=>h
 |a::l,k,h=>zo (l:=l) (k:=λr=>k (a::r)) h
theorem Ia:∀{l:List Nat} {n:Nat} {k:Nat->Prop},MD l n k->k n
 |[],_,_,h=>h.elim
 |m::l,n,k,h=>by
  simp only[MD] at h
  cases hb:Nat.beq m n with
  |true=>rw[hb] at h;rw[<-dT hb];exact h
  |false=>rw[hb] at h;exact Ia h
theorem uX {n:Nat} {k:Nat->Prop} (h:nK n k):k n:=Ia h
theorem sR {b:Bool} {k1 k2:Prop} (h:Br b k1 k2):(b=true/\k1)\/(b=false/\k2):=by cases b;exact .inr ⟨rfl,h⟩;exact .inl ⟨rfl,h⟩
theorem eZ {b:Bool} {k:Prop} (h:Br b k False):b=true/\k:=by cases b;exact h.elim;exact⟨rfl,h⟩
theorem wq {p:Prop} [Decidable p] {k:Prop} (h:Br (decide p) k False):p/\k:=(eZ h).imp of_decide_eq_true id
theorem bV {α:Type} {o:Option α} {k:α->Prop} (h:iK o k):∃a,o=some a/\k a:=by cases o;exact h.elim;exact⟨_,rfl,h⟩
theorem lz {α:Type}:∀(l:List α) (n:Nat),EM l n=l[n]?
 |[],_=>rfl
 |a::l,0=>rfl
 |a::l,n+1=>by simp only[EM,Nat.beq,cond_false,Nat.add_sub_cancel,List.getElem?_cons_succ];exact lz l n
theorem xP {α:Type}:∀{l:List (Nat×α)} {o:Nat} {x:α} {k:List (Nat×α)->Prop},Kn l o x k->∃l',k l'/\∀n,ay l' n=if n=o then some x else ay l n
 |[],_,_,_,h=>h.elim
 |(m,a)::l,o,x,k,h=>by
  simp only[Kn] at h
  cases hb:Nat.beq m o with
  |true=>
   rw[hb] at h
   refine⟨_,h,λn=>?_⟩
   rw[al,al,<-dT hb]
   split<;>simp_all
  |false=>
   rw[hb] at h
   obtain⟨l',h1,h2⟩:=xP h
   refine⟨_,h1,λn=>?_⟩
   rw[al,al,h2]
   have:=pq hb
   by_cases e:n=m
   ·subst e;simp[this]
   ·simp[e]
theorem Bd {α:Type}:∀{l:List (Nat×α)} {o:Nat} {k:List (Nat×α)->Prop},GD l o k->∃l',k l'/\∀n,ay l' n=if n=o then none else ay l n
 |[],_,_,h=>⟨[],h,λn=>by simp[ay]⟩
 |(m,a)::l,o,k,h=>by
  simp only[GD] at h
  cases hb:Nat.beq m o with
  |true=>
   rw[hb] at h
   obtain⟨l',h1,h2⟩:=Bd h
   refine⟨_,h1,λn=>?_⟩
   rw[al,h2,<-dT hb]
   split<;>simp_all
  |false=>
   rw[hb] at h
   obtain⟨l',h1,h2⟩:=Bd h
   refine⟨_,h1,λn=>?_⟩
   rw[al,al,h2]
   have:=pq hb
   by_cases e:n=m
   ·subst e;simp[this]
   ·simp[e]
theorem He {x:PV} {k:PV->Prop} (h:Hd x k):k x/\x.isAgg=false:=by cases x<;>first|exact h.elim|exact⟨h,rfl⟩
theorem Hc {x:FC} {k:FC->Prop} (h:Hb x k):k x:=by cases x<;>exact h
theorem mD {x:EV} {k:EV->Prop} (h:mC x k):k x:=by cases x<;>exact h
theorem Ry {v:Value} {k:PV->Prop} (h:pK v k):∃x:PV,k x/\x.v=ofValue v/\x.isAgg=false/\e8 v=true:=by
 unfold pK at h
 split at h<;>first|exact h.elim|exact⟨_,h,rfl,rfl,rfl⟩|exact⟨_,zo h,rfl,rfl,rfl⟩
theorem JL:∀{vs:List Value} {k:List FC->Prop},Vh vs k->∃l:List PV,k (l.map .p)/\l.map PV.v=vs.map ofValue/\sW l/\vs.all e8=true
 |[],_,h=>⟨[],h,rfl,(λ_ h=>(by cases h)),rfl⟩
 |v::vs,k,h=>by
  obtain⟨x,h1,h2,h3,h4⟩:=Ry h
  obtain⟨l,h5,h6,h7,h8⟩:=JL h1
  refine⟨x::l,h5,by simp[h2,h6],λy hy=>?_,by simp[h4,h8]⟩
  rcases List.mem_cons.1 hy with rfl|hy
  ·exact h3
  ·exact h7 y hy
theorem l6 {P:Program} {t:TypeId} {one:FC->Prop} {all:List FC->Prop} (h:oG P t one all):
 (∃x:PV,one (.p x)/\eA P t=some x.v/\x.isAgg=false)\/(∃l:List PV,all (l.map .p)/\eA P t=some (.agg (l.map PV.v))/\sW l):=by
 unfold oG at h
 unfold eA
 split at h
 ·rename_i cs hz
  obtain⟨l,h1,h2,h3,h4⟩:=JL h
  refine .inr ⟨l,h1,?_,h3⟩
  rw[hz]
  have:e9 (.agg cs)=true:=by simp only[e9];simpa using h4
  simp only[this,if_true,ju,h2]
 ·rename_i z hne hz
  obtain⟨x,h1,h2,h3,h4⟩:=Ry h
  refine .inl ⟨x,h1,?_,h3⟩
  rw[hz]
  have h5:e9 z=true:=by cases z<;>first|exact h4|exact absurd rfl (hne _)
  have h6:ju z=ofValue z:=by cases z<;>first|rfl|exact absurd rfl (hne _)
  simp only[h5,if_true,h6,h2]
 ·exact h.elim
theorem w7 {P:Program} {t:TypeId} {k:Prop} (h:isStr P t k):P.underlying t=some .string/\k:=by
 unfold isStr at h;split at h;exact⟨by assumption,h⟩;exact h.elim
theorem Dx {P:Program} {t:TypeId} {k:Prop} (h:Dw P t k):(∃e,P.underlying t=some (.slice e))/\k:=by
 unfold Dw at h;split at h;exact⟨⟨_,by assumption⟩,h⟩;exact h.elim
theorem Ae {P:Program} {t:TypeId} {k:Prop} (h:xE P t k):(∃d,P.underlying t=some d/\∀ms,d≠.interface ms)/\k:=by
 unfold xE at h;split at h
 ·exact h.elim
 ·exact h.elim
 ·rename_i d hne hd;exact⟨⟨_,hd,λms e=>hne ms e⟩,h⟩
theorem qU:∀{l:List PV} {k:List FC->Prop},pmap l k->k (l.map .p)/\sW l
 |[],_,h=>⟨h,λ_ h=>by cases h⟩
 |x::l,k,h=>by
  obtain⟨h1,h2⟩:=He h
  obtain⟨h3,h4⟩:=qU h1
  refine⟨h3,λy hy=>?_⟩
  rcases List.mem_cons.1 hy with rfl|hy
  ·exact h2
  ·exact h4 y hy
theorem oR {ρ:NM}:∀{l:List FC} {m:List VV} {k:List PV->Prop},u5 l k->dP ρ l m->∃r,k r/\l=r.map .p/\m=r.map PV.v/\sW r
 |[],[],_,h,_=>⟨[],h,rfl,rfl,λ_ h=>by cases h⟩
 |.p x::l,v::m,k,h,hr=>by
  obtain⟨r,h1,h2,h3,h4⟩:=oR (l:=l) h hr.2
  refine⟨x::r,h1,by simp[h2],by simp[h3,hr.1.1],λy hy=>?_⟩
  rcases List.mem_cons.1 hy with rfl|hy
  ·exact hr.1.2
  ·exact h4 y hy
theorem p7 {α:Type} {c:List α} {off:Nat} {new:List α} {k:List α->Prop} (h:gj c off new k):off+new.length<=c.length/\k (gj.over' c off new):=by
 obtain⟨h1,h2⟩:=eZ h
 exact⟨Nat.le_of_ble_eq_true h1,zo h2⟩
def bv (n:Option Int) (i:Option IntKind):Option VV:=match n,i with|some n,some i=>some (.int i n)|_,_=>none
section ir
variable{ρ:NM} {fr:SF} {vfr:Fr} (hf:jN ρ fr vfr)
include hf
theorem gH {x:Operand} {k:EV->Prop} (h:wH fr x k):∃y,k y/\ER ρ y (ev vfr x):=by
 unfold wH at h
 split at h
 ·exact⟨_,mD h,hf _⟩
 ·rename_i cs
  obtain⟨l,h1,h2,h3,_⟩:=JL h
  refine⟨_,h1,l.map PV.v,?_,.pure ρ h3⟩
  simp[ev,ju,h2]
 ·exact⟨_,h,[],[],rfl,trivial,trivial⟩
 ·rename_i v hn1 hn2
  obtain⟨x,h1,h2,h3,_⟩:=Ry h
  refine⟨_,h1,?_,h3⟩
  simp only[ev]
  rw[h2]
  cases v<;>first|rfl|exact absurd rfl (hn1 _)
 ·exact⟨_,h,rfl,rfl⟩
 ·exact⟨_,h,[],[],rfl,trivial,trivial⟩
omit hf in
theorem C4 {x:EV} {k:FC->Prop} (h:S8 x k):∃y,x=.f y/\k y:=by
 unfold S8 at h
 split at h
 ·exact⟨_,rfl,Hc h⟩
 ·exact h.elim
theorem jr {x:Operand} {k:FC->Prop} (h:Bk fr x k):∃y,k y/\FR ρ y (ev vfr x):=by
 obtain⟨y,h1,h2⟩:=gH hf h
 obtain⟨z,rfl,h3⟩:=C4 h1
 exact⟨z,h3,h2⟩
theorem gI {x:Operand} {k:PV->Prop} (h:yF fr x k):∃y:PV,k y/\ev vfr x=y.v/\y.isAgg=false:=by
 obtain⟨y,h1,h2⟩:=jr hf h
 cases y with
 |p y=>exact⟨y,h1,h2⟩
 |_=>exact h1.elim
theorem Bl {x:Option Operand} {k:Option Int->Prop} (h:LM fr x k):∃n,k n/\∃i:Option IntKind,x.map (ev vfr)=bv n i/\i.isSome=n.isSome:=by
 cases x with
 |none=>exact⟨none,h,none,rfl,rfl⟩
 |some x=>
  obtain⟨y,h1,h2,_⟩:=gI hf h
  cases y with
  |int i n=>exact⟨some n,h1,some i,by simp[h2,PV.v,bv],rfl⟩
  |_=>exact h1.elim
omit hf in
theorem pw {x:EV} {v:VV} {k:List FC->Prop} (h:qB x k) (hx:ER ρ x v):∃c,k c/\dP ρ c v.cells/\v.gh=false:=by
 unfold qB at h
 split at h
 ·have h1:FR ρ _ v:=hx
  exact⟨_,h,by rw[jc h1.one];exact⟨h1,trivial⟩,MM h1.one⟩
 ·obtain⟨l,rfl,h1⟩:=hx
  exact⟨_,h,h1,rfl⟩
 ·exact h.elim
theorem Bm:∀{l:List Operand} {k:List FC->Prop},LN fr l k->∃r,k r/\dP ρ r (l.map (ev vfr))
 |[],_,h=>⟨[],h,trivial⟩
 |x::l,k,h=>by
  obtain⟨y,h1,h2⟩:=jr hf h
  obtain⟨r,h3,h4⟩:=Bm h1
  exact⟨_,h3,h2,h4⟩
theorem GM:∀{l:List Operand} {k:List EV->Prop},Vb fr l k->∃r,k r/\qu ρ r (l.map (ev vfr))
 |[],_,h=>⟨[],h,trivial⟩
 |x::l,k,h=>by
  obtain⟨y,h1,h2⟩:=gH hf h
  obtain⟨r,h3,h4⟩:=GM h1
  exact⟨_,h3,h2,h4⟩
omit hf in
def _root_.Go.Ee.U7 (ρ:NM):List (Nat×List FC)->List (Nat×VV)->Prop
 |[],[]=>True
 |(i,c)::l,(j,v)::m=>i=j/\dP ρ c v.cells/\v.gh=false/\U7 ρ l m
 |_,_=>False
theorem qF:∀{l:List (Nat×Operand)} {k:List (Nat×List FC)->Prop},sy fr l k->∃r,k r/\U7 ρ r (l.map λp=>(p.1,ev vfr p.2))
 |[],_,h=>⟨[],h,trivial⟩
 |(i,x)::l,k,h=>by
  obtain⟨y,h1,h2⟩:=gH hf h
  obtain⟨c,h3,h4,h5⟩:=pw h1 h2
  obtain⟨r,h6,h7⟩:=qF h3
  exact⟨_,h6,rfl,h4,h5,h7⟩
end ir
theorem GR {ρ:NM}:∀{l:List FC} {m:List VV} {k:List EV->Prop},Vc l k->dP ρ l m->∃r,k r/\qu ρ r m
 |[],[],_,h,_=>⟨[],h,trivial⟩
 |x::l,v::m,k,h,hr=>by
  obtain⟨r,h1,h2⟩:=GR (l:=l) h hr.2
  exact⟨_,h1,hr.1,h2⟩
theorem A8 {ρ:NM}:∀{l m:List EV} {a b:List VV} {k:List EV->Prop},Lx l m k->qu ρ l a->qu ρ m b->∃r,k r/\qu ρ r (a++b)
 |[],m,[],b,k,h,_,h2=>⟨m,h,h2⟩
 |x::l,m,v::a,b,k,h,h1,h2=>by
  obtain⟨r,h3,h4⟩:=A8 (l:=l) h h1.2 h2
  exact⟨_,h3,h1.1,h4⟩
theorem Gj {ρ:NM} {a c:List FC} {l:List EV} {a' c' l':List VV} {k:List EV->Prop} (h:PB a l c k) (ha:dP ρ a a') (hl:qu ρ l l') (hc:dP ρ c c'):∃r,k r/\qu ρ r (a'++l'++c'):=by
 obtain⟨r1,h1,e1⟩:=GR h ha
 obtain⟨r2,h2,e2⟩:=GR h1 hc
 obtain⟨r3,h3,e3⟩:=A8 h2 hl e2
 obtain⟨r4,h4,e4⟩:=A8 h3 e1 e3
 exact⟨r4,h4,by rw[List.append_assoc];exact e4⟩
end
section
open Go.Vv
variable{P:Program} {ρ:NM} {s:SH} {h:aa}
theorem sH {t:TypeId} {c:List FC} {l:List VV} {off:Nat} {k:EV->Prop} (hk:vQ P t c off k) (hc:dP ρ c l):∃y v,k y/\gz P t l off=some v/\ER ρ y v:=by
 unfold vQ at hk
 unfold gz
 split at hk
 ·rename_i hg
  obtain⟨h1,h2⟩:=eZ hk
  have h3:=Nat.le_of_ble_eq_true h1
  rw[hc.len] at h3
  refine⟨_,_,zo h2,?_,_,rfl,(hc.drop off).take _⟩
  simp only[hg,h3,if_true]
 ·rename_i hg
  obtain⟨x,h1,h2⟩:=bV hk
  rw[lz] at h1
  obtain⟨v,h3,h4⟩:=hc.get h1
  exact⟨_,v,h2,by simp only[hg,h3],h4⟩
 ·exact hk.elim
theorem eU (r:List PV) (rs:List (List PV)):ck (r::rs)=r.map PV.v++ck rs:=by simp[ck]
theorem je {e:Nat}:∀{rs:List (List PV)},(∀r∈rs,r.length=e)->(ck rs).length=rs.length*e
 |[],_=>by simp[ck]
 |r::rs,h=>by
  rw[eU,List.length_append,List.length_map,je λr hr=>h r (by simp[hr]),h r (by simp),List.length_cons,Nat.succ_mul,Nat.add_comm]
theorem ux {e:Nat}:∀{rs:List (List PV)} (i:Nat),(∀r∈rs,r.length=e)->(ck rs).drop (i*e)=ck (rs.drop i)
 |[],i,_=>by simp[ck]
 |r::rs,0,_=>by simp
 |r::rs,i+1,h=>by
  rw[eU,Nat.succ_mul,Nat.add_comm,<-List.drop_drop]
  have:(r.map PV.v).length=e:=by simpa using h r (by simp)
  rw[<-this,List.drop_left,this,List.drop_succ_cons]
  exact ux i λr hr=>h r (by simp[hr])
theorem wc {e i:Nat} {r:List PV} {rs:List (List PV)} (h:∀r∈rs,r.length=e) (hr:rs[i]?=some r):∃m,(ck rs).drop (i*e)=r.map PV.v++m:=by
 rw[ux i h]
 obtain⟨hi,rfl⟩:=List.getElem?_eq_some_iff.1 hr
 rw[List.drop_eq_getElem_cons hi,eU]
 exact⟨_,rfl⟩
theorem Ip {e i j:Nat} {t:TypeId} {r:List PV} {rs:List (List PV)} {v:VV} (h:∀r∈rs,r.length=e) (hr:rs[i]?=some r) (hv:gz P t (r.map PV.v) j=some v):gz P t (ck rs) (i*e+j)=some v:=by
 obtain⟨m,hm⟩:=wc h hr
 have hre:=h r (List.mem_of_getElem? hr)
 have hl:i*e+(r.length+m.length)=(ck rs).length:=by
  have:=congrArg List.length hm
  simp at this
  have h1:i*e<=(ck rs).length:=by
   rw[je h]
   exact Nat.mul_le_mul_right _ (Nat.le_of_lt (List.getElem?_eq_some_iff.1 hr).1)
  omega
 unfold gz at hv⊢
 split at hv
 ·rename_i hg
  split at hv
  ·rename_i hlt
   cases hv
   simp at hlt
   rw[if_pos (by omega),<-List.drop_drop,hm,List.drop_append_of_le_length (by simp;omega),List.take_append_of_le_length (by simp;omega)]
  ·cases hv
 ·rename_i hg
  have hj:j<r.length:=by simpa using(List.getElem?_eq_some_iff.1 hv).1
  rw[<-List.getElem?_drop,hm,List.getElem?_append_left (by simpa using hj)]
  exact hv
 ·cases hv
theorem FP {e i j:Nat} {r n:List PV} {rs:List (List PV)} (h:∀r∈rs,r.length=e) (hr:rs[i]?=some r) (hj:j+n.length<=r.length):
 dQ (ck rs) (i*e+j) (n.map PV.v)=ck (rs.set i (gj.over' r j n)):=by
 induction rs generalizing i with
 |nil=>simp at hr
 |cons a rs ih=>
  have ha:=h a (by simp)
  have hl:(a.map PV.v).length=e:=by simpa using ha
  cases i with
  |zero=>
   simp at hr
   subst hr
   rw[List.set_cons_zero,eU,eU]
   unfold dQ gj.over'
   have e1:j<=(a.map PV.v).length:=by simp;omega
   have e2:j+n.length<=(a.map PV.v).length:=by simp;omega
   simp only[Nat.zero_mul,Nat.zero_add,List.length_map]
   rw[List.take_append_of_le_length e1,List.drop_append_of_le_length e2]
   simp
  |succ i=>
   rw[List.set_cons_succ,eU,eU,<-ih (λr hr=>h r (by simp[hr])) (by simpa using hr)]
   unfold dQ
   rw[Nat.succ_mul]
   have e1:i*e+e+j=(a.map PV.v).length+(i*e+j):=by omega
   rw[e1,List.take_length_add_append,Nat.add_assoc,List.drop_length_add_append]
   simp[List.append_assoc]
theorem SR.cells (hs:SR ρ s h) {o i:Nat} {c:List FC} (ho:ay s.bp o=some (.cells c)) (hi:ρ o=.at i):∃l,h.get i=some (.cells l)/\dP ρ c l:=by
 obtain⟨i',l,h1,h2,h3⟩:=hs.obj _ _ ho
 rw[hi] at h1;cases h1
 exact⟨l,h2,h3⟩
theorem SR.arr (hs:SR ρ s h) {o i e:Nat} {rs:List (List PV)} {n:Bool} (ho:ay s.bp o=some (.arr e rs n)) (hi:ρ o=.at i):h.get i=some (.cells (ck rs))/\lg e rs:=by
 obtain⟨h0,⟨_,_,h1⟩|⟨_,i',h1,h2⟩⟩:=hs.obj _ _ ho
 ·rw[hi] at h1;cases h1
 ·rw[hi] at h1;cases h1;exact⟨h2,h0⟩
theorem SR.live (hs:SR ρ s h) {o:Nat} {x:SO} (ho:ay s.bp o=some x):ρ o≠.dead:=(hs.obj _ _ ho).born.2
theorem FR.JM (hs:SR ρ s h) {o off:Nat} {x:SO} {v:VV} (hp:FR ρ (.ptr o off) v) (ho:ay s.bp o=some x):∃i,ρ o=.at i/\v=.ptr i off:=by
 have:=hs.live ho
 simp only[FR] at hp
 split at hp<;>first|exact⟨_,by assumption,hp⟩|(rename_i h1;exact absurd h1 this)|exact hp.elim
theorem FR.OB (hs:SR ρ s h) {o e i j:Nat} {x:SO} {v:VV} (hp:FR ρ (.ep o e i j) v) (ho:ay s.bp o=some x):∃n,ρ o=.at n/\v=.ptr n (i*e+j):=by
 have:=hs.live ho
 simp only[FR] at hp
 split at hp<;>first|exact⟨_,by assumption,hp⟩|(rename_i h1;exact absurd h1 this)|exact hp.elim
theorem OU {t:TypeId} {p:FC} {v:VV} {k:EK} (hk:Ve P t p s k) (hs:SR ρ s h) (hp:FR ρ p v):∃y w,k y s/\jJ P t v h=some w/\ER ρ y w:=by
 unfold Ve at hk
 split at hk
 ·rename_i o off
  obtain⟨x,h1,h2⟩:=bV hk
  split at h2
  ·rename_i c
   obtain⟨i,hi,rfl⟩:=hp.JM hs h1
   obtain⟨l,h3,h4⟩:=hs.cells h1 hi
   obtain⟨y,w,h5,h6,h7⟩:=sH h2 h4
   exact⟨y,w,h5,by simp only[jJ,h3,h6],h7⟩
  ·exact h2.elim
 ·rename_i c off
  obtain⟨rfl,_⟩:=hp
  obtain⟨h1,h2⟩:=qU hk
  obtain⟨y,w,h5,h6,h7⟩:=sH h1 (.pure ρ h2)
  exact⟨y,w,h5,by simp only[PV.v,jJ,lR,h6],h7⟩
 ·rename_i o e i j
  obtain⟨x,h1,h2⟩:=bV hk
  split at h2
  ·rename_i e' rs _
   obtain⟨h3,h4⟩:=eZ h2
   have h3:=dT h3;subst h3
   obtain⟨r,h5,h6⟩:=bV h4
   obtain⟨h7,h8⟩:=qU h6
   obtain⟨n,hn,rfl⟩:=hp.OB hs h1
   obtain⟨h9,h10⟩:=hs.arr h1 hn
   obtain⟨y,w,h11,h12,h13⟩:=sH h7 (.pure ρ h8)
   exact⟨y,w,h11,by simp only[jJ,h9,Ip (λr hr=>(h10.2 r hr).1) h5 h12],h13⟩
  ·exact h2.elim
 ·exact hk.elim
theorem SR.set (hs:SR ρ s h) {o i:Nat} {x:SO} {y:dC} {k:SH->Prop} (hk:FE s o x k) (hi:ρ o=.at i)
 (hx:∀h':aa,h'.get i=some y->OR ρ h' o x):∃s',k s'/\SR ρ s' (h.set i y)/\ch ρ h ρ (h.set i y):=by
 obtain⟨l,f⟩:=s
 obtain⟨l',h1,h2⟩:=xP hk
 refine⟨_,h1,⟨λn z hz=>?_,hs.inj,hs.iD,hs.free⟩,⟨.refl ρ,λ_ _ h=>.inl ⟨_,h⟩,Nat.le_refl _,λj _ hn=>aa.aO _ _ λe=>hn o (e▸hi)⟩⟩
 simp only[h2] at hz
 by_cases e:n=o
 ·subst e
  simp at hz
  subst hz
  exact hx _ (aa.bQ ..)
 ·rw[if_neg e] at hz
  exact(hs.obj n z hz).move (λj hj=>aa.aO _ _ λe2=>e (hs.inj n o j hj (by rw[e2];exact hi))) (.refl ρ) rfl
theorem UR {t:TypeId} {p:FC} {pv:VV} {x:EV} {v:VV} {k:SH->Prop} (hk:Wn P t p x s k) (hs:SR ρ s h) (hp:FR ρ p pv) (hx:ER ρ x v):
 ∃s' h',k s'/\nj P t pv v h=some h'/\SR ρ s' h'/\ch ρ h ρ h':=by
 unfold Wn at hk
 obtain⟨vc,h1,h2,h3⟩:=pw hk hx
 obtain⟨h4,h5⟩:=eZ h1
 simp only[Bool.and_eq_true] at h4
 have h6:=dT h4.1
 have h7:=Nat.le_of_ble_eq_true h4.2
 rw[h2.len] at h6 h7
 have h8:cE P t≠0:=by omega
 split at h5
 ·rename_i o off
  obtain⟨y,h9,h10⟩:=bV h5
  split at h10
  ·rename_i c
   obtain⟨h11,h12⟩:=p7 h10
   obtain⟨i,hi,rfl⟩:=hp.JM hs h9
   obtain⟨l,h13,h14⟩:=hs.cells h9 hi
   obtain⟨s',h15,h16,h17⟩:=hs.set h12 hi (y:=.cells (dQ l off v.cells)) λh' hg=>⟨i,_,hi,hg,h14.ov h2 off⟩
   refine⟨s',_,h15,?_,h16,h17⟩
   rw[h2.len,h14.len] at h11
   simp only[nj,h13]
   rw[if_pos ⟨h6,h8,h11,h3⟩]
  ·exact h10.elim
 ·rename_i o e i j
  obtain⟨y,h9,h10⟩:=bV h5
  split at h10
  ·rename_i e' rs nn
   obtain⟨a1,a2⟩:=eZ h10
   have a1:=dT a1;subst a1
   obtain⟨r,a3,a4⟩:=bV a2
   obtain⟨n,a5,rfl,a7,a8⟩:=oR a4 h2
   obtain⟨a9,a10⟩:=p7 a5
   replace a10:=a10.run;try dsimp only at a10
   obtain⟨m,hm,rfl⟩:=hp.OB hs h9
   obtain⟨b1,b2,b3⟩:=hs.arr h9 hm
   have hr:=b3 r (List.mem_of_getElem? a3)
   obtain⟨s',h15,h16,h17⟩:=hs.set a10 hm (y:=.cells (ck (rs.set i (gj.over' r j n)))) λh' hg=>⟨⟨b2,λq hq=>by
    rcases List.mem_or_eq_of_mem_set hq with hq|rfl
    ·exact b3 q hq
    ·refine⟨?_,λz hz=>?_⟩
     ·unfold gj.over';simp;omega
     ·unfold gj.over' at hz
      simp only[List.mem_append] at hz
      rcases hz with(hz|hz)|hz
      ·exact hr.2 z (List.mem_of_mem_take hz)
      ·exact a8 z hz
      ·exact hr.2 z (List.mem_of_mem_drop hz)⟩,.inr ⟨λe=>by
     have:=congrArg List.length e
     have h3:i<rs.length:=(List.getElem?_eq_some_iff.1 a3).1
     simp at this;subst this;simp at h3,m,hm,hg⟩⟩
   refine⟨s',_,h15,?_,h16,h17⟩
   simp only[nj,b1]
   have e1:=FP (λr hr=>(b3 r hr).1) a3 a9
   rw[<-a7] at e1
   have e2:v.cells.length=n.length:=by rw[a7];simp
   have e3:i*e'+j+v.cells.length<=(ck rs).length:=by
    rw[je λr hr=>(b3 r hr).1]
    have h3:i<rs.length:=(List.getElem?_eq_some_iff.1 a3).1
    have h4:(i+1)*e'<=rs.length*e':=Nat.mul_le_mul_right _ h3
    rw[Nat.succ_mul] at h4
    omega
   rw[if_pos ⟨h6,h8,e3,h3⟩,e1]
  ·exact h10.elim
 ·exact h5.elim
theorem SR.new (hs:SR ρ s h) {x:SO} {y:dC} {k:Nat->SH->Prop} (hk:oO s x k) (hx:∀(ρ':NM) (h':aa) (n:Nat),ρ.Le ρ'->ρ' n=.at h.next->h'.get h.next=some y->OR ρ' h' n x):
 ∃n s' ρ',k n s'/\ρ' n=.at h.next/\SR ρ' s' (h.push y)/\ch ρ h ρ' (h.push y):=by
 obtain⟨l,n⟩:=s
 have hk:=uX hk
 ·have hn:=hs.free n (Nat.le_refl _)
  have hl:ρ.Le (ρ.eY n (.at h.next)):=.eY (.inl hn)
  have hsame:∀o i,(ρ.eY n (.at h.next)) o=.at i->(o=n/\i=h.next)\/(o≠n/\ρ o=.at i):=λo i ho=>by
   by_cases e:o=n
   ·subst e;simp[NM.eY] at ho;exact .inl ⟨rfl,ho.symm⟩
   ·simp[NM.eY,e] at ho;exact .inr ⟨e,ho⟩
  refine⟨n,_,ρ.eY n (.at h.next),hk,by simp[NM.eY],⟨λo z hz=>?_,λo o' i ho ho'=>?_,λo i ho=>?_,λm hm=>?_⟩,⟨hl,λo i ho=>?_,by rw[aa.cA];omega,λi hi _=>aa.dm _ _ (by omega)⟩⟩
  ·simp only[al] at hz
   by_cases e:o=n
   ·subst e
    simp at hz;subst hz
    exact hx _ _ _ hl (by simp[NM.eY]) (aa.dw ..)
   ·rw[if_neg e] at hz
    exact(hs.obj o z hz).move (λi hi=>aa.dm _ _ (Nat.ne_of_lt (hs.iD o i hi))) hl (by simp[NM.eY,e])
  ·rcases hsame o i ho with⟨rfl,rfl⟩|⟨e,h1⟩<;>rcases hsame o' _ ho' with⟨rfl,h2⟩|⟨e',h2⟩
   ·rfl
   ·exact absurd (hs.iD _ _ h2) (Nat.lt_irrefl _)
   ·subst h2;exact absurd (hs.iD _ _ h1) (Nat.lt_irrefl _)
   ·exact hs.inj _ _ _ h1 h2
  ·rw[aa.cA]
   rcases hsame o i ho with⟨_,rfl⟩|⟨_,h1⟩
   ·omega
   ·have:=hs.iD o i h1;omega
  ·have h1:n+1<=m:=hm
   have:m≠n:=by omega
   simp[NM.eY,this];exact hs.free m (by simp only;omega)
  ·rcases hsame o i ho with⟨_,rfl⟩|⟨_,h1⟩
   ·exact .inr (Nat.le_refl _)
   ·exact .inl ⟨_,h1⟩
theorem SR.del (hs:SR ρ s h) {o:Nat} {x:SO} (ho:ay s.bp o=some x) {k:SH->Prop} (hk:Tz s o k):∃s',k s'/\SR (ρ.eY o .dead) s' h/\ch ρ h (ρ.eY o .dead) h:=by
 have hu:ρ o≠.un:=(hs.obj _ _ ho).born.1
 obtain⟨l,f⟩:=s
 obtain⟨l',h1,h2⟩:=Bd hk
 have hl:ρ.Le (ρ.eY o .dead):=.eY (.inr rfl)
 have hat:∀n i,(ρ.eY o .dead) n=.at i->ρ n=.at i:=λn i hn=>by
  by_cases e:n=o
  ·subst e;simp[NM.eY] at hn
  ·simpa[NM.eY,e] using hn
 refine⟨_,h1,⟨λn z hz=>?_,λn n' i a b=>hs.inj n n' i (hat n i a) (hat n' i b),λn i a=>hs.iD n i (hat n i a),λn hn=>?_⟩,⟨hl,λn i a=>.inl ⟨_,hat n i a⟩,Nat.le_refl _,λ_ _ _=>rfl⟩⟩
 ·simp only[h2] at hz
  by_cases e:n=o
  ·simp[e] at hz
  ·rw[if_neg e] at hz
   exact(hs.obj n z hz).move (λ_ _=>rfl) hl (by simp[NM.eY,e])
 ·have h1:=hs.free n hn
  have:n≠o:=λe=>hu (e▸h1)
  simp[NM.eY,this,h1]
theorem SR.kI (hs:SR ρ s h) {i:Nat} (y:dC) (hi:∀o,ρ o≠.at i):SR ρ s (h.set i y)/\(i<h.next->∀ρ0:NM,∀h0:aa,ch ρ0 h0 ρ h->(∃o,ρ0 o=.at i)->ch ρ0 h0 ρ (h.set i y)):=by
 refine⟨⟨λn z hz=>?_,hs.inj,hs.iD,hs.free⟩,λhlt ρ0 h0 he ⟨o,ho⟩=>⟨he.le,he.new,he.next,λj hj hn=>?_⟩⟩
 ·exact(hs.obj n z hz).move (λj hj=>aa.aO _ _ λe=>hi n (by rw[hj,e])) (.refl ρ) rfl
 ·rw[aa.aO _ _ λe=>hn o (by rw[ho,e])]
  exact he.gE j hj hn
end
section
open Go.Vv
variable{P:Program} {ρ:NM} {s:SH} {h:aa}
theorem pr {op:BinOp} {a b:Bool} {K:PV->Prop} (hk:sY op a b K):∃r:Bool,K (.bool r)/\((op=.eql/\r=(a==b))\/(op=.neq/\r=!(a==b))):=by
 unfold sY at hk
 split at hk
 ·exact⟨_,hk,.inl ⟨rfl,rfl⟩⟩
 ·exact⟨_,hk,.inr ⟨rfl,rfl⟩⟩
 ·exact hk.elim
theorem Er {k:IntKind} {n:Int} {K:PV->Prop} (hk:Ep k n K):K (.int k (k.wrap n)):=by
 unfold Ep at hk
 split at hk
 ·rcases sR hk with⟨h1,h2⟩|⟨h1,h2⟩
  ·rw[Go.IntWalk.i64_in n (of_decide_eq_true h1)];exact h2
  ·exact h2
 ·rcases sR hk with⟨h1,h2⟩|⟨h1,h2⟩
  ·rw[of_decide_eq_true h1];exact h2
  ·exact h2
theorem Qq {op:BinOp} {k:IntKind} {a b:Int} {K:PV->Prop} (hk:Qp op k a b K):∃r:PV,K r/\oX op k a b=some r.v/\r.isAgg=false/\op≠.shl/\op≠.shr:=by
 unfold Qp at hk
 split at hk
 ·have h:=Er hk;exact⟨_,h,rfl,rfl,by simp,by simp⟩
 ·have h:=Er hk;exact⟨_,h,rfl,rfl,by simp,by simp⟩
 all_goals first|exact hk.elim|exact⟨_,hk,rfl,rfl,by simp,by simp⟩
theorem Su {op:BinOp} {x y:List UInt8} {K:PV->Prop} (hk:Ss op x y K):∃r:PV,K r/\uG op x y=some r.v/\r.isAgg=false:=by
 unfold Ss at hk
 split at hk
 ·obtain⟨h1,h2⟩:=wq hk
  exact⟨_,h2,by simp only[uG,h1,if_true,PV.v],rfl⟩
 ·exact⟨_,hk,rfl,rfl⟩
 ·exact⟨_,hk,rfl,rfl⟩
 ·exact hk.elim
theorem lU (es:List (List PV)):(PV.n7 es).length=es.length:=by simp[fF]
theorem PI {t:TypeId} {op:BinOp} {x y:FC} {a b:VV} {K:PV->Prop} (hk:PH P t op x y K) (hx:FR ρ x a) (hy:FR ρ y b):∃r:PV,K r/\cD P op t a b=some r.v/\r.isAgg=false:=by
 unfold PH at hk
 split at hk
 ·obtain⟨h1,h2⟩:=wq hk
  obtain⟨r,h3,h4,h5,h6,h7⟩:=Qq h2
  obtain⟨rfl,_⟩:=hx
  obtain⟨rfl,_⟩:=hy
  refine⟨r,h3,?_,h5⟩
  subst h1
  simp only[cD,PV.v]
  cases op<;>first|exact absurd rfl h6|exact absurd rfl h7|(simp only[if_true];exact h4)
 ·obtain⟨r,h3,h4,h5⟩:=Su hk
  obtain⟨rfl,_⟩:=hx
  obtain⟨rfl,_⟩:=hy
  exact⟨r,h3,h4,h5⟩
 ·split at hk
  ·rename_i hu
   obtain⟨r,h3,h4⟩:=pr hk
   obtain⟨rfl,_⟩:=hx
   obtain⟨rfl,_⟩:=hy
   refine⟨_,h3,?_,rfl⟩
   rcases h4 with⟨rfl,rfl⟩|⟨rfl,rfl⟩<;>simp[cD,PV.v,Cv,hu,gy]
  ·exact hk.elim
 rotate_right
 ·exact hk.elim
 rotate_right
 ·rename_i es c n c'
  unfold O2 at hk
  split at hk
  ·rename_i e hu
   obtain⟨r,h3,h4⟩:=pr hk
   obtain⟨rfl,_⟩:=hx
   obtain⟨rfl,_⟩:=hy
   have hl:=lU es
   refine⟨_,h3,?_,rfl⟩
   rcases jt (PV.n7 es) c n with⟨h5,rfl,h6⟩|⟨h5,h6⟩
   ·rw[h5] at hl
    have:es=[]:=List.eq_nil_of_length_eq_zero hl.symm
    subst this
    rcases h4 with⟨rfl,rfl⟩|⟨rfl,rfl⟩<;>simp[cD,PV.v,PV.n7,yI,Cv,hu,gy,n5]
   ·have:n5 es n=false:=by
     cases n with
     |false=>rfl
     |true=>cases es with
      |nil=>exact absurd (h6 rfl) (by simp)
      |cons=>rfl
    rw[this] at h4
    have a1:(PV.vs es c n).v=.vs (PV.n7 es) c:=h5
    have a2:(PV.vs [] c' true).v=.da:=rfl
    rw[a1,a2]
    rcases h4 with⟨rfl,rfl⟩|⟨rfl,rfl⟩<;>simp[cD,Cv,hu,gy,PV.v]
  ·exact hk.elim
 all_goals first
  |exact hk.elim
  |(unfold Ql at hk
    split at hk
    ·rename_i hu
     obtain⟨r,h3,h4⟩:=pr hk
     obtain⟨rfl,_⟩:=hx
     obtain⟨rfl,_⟩:=hy
     refine⟨_,h3,?_,rfl⟩
     rcases h4 with⟨rfl,rfl⟩|⟨rfl,rfl⟩<;>simp[cD,PV.v,Cv,hu,gy]
    ·exact hk.elim)
  |(split at hk
    ·rename_i hu
     obtain⟨r,h3,h4⟩:=pr hk
     obtain⟨rfl,_⟩:=hx
     obtain⟨rfl,_⟩:=hy
     refine⟨_,h3,?_,rfl⟩
     rcases h4 with⟨rfl,rfl⟩|⟨rfl,rfl⟩<;>simp[cD,PV.v,Cv,hu,gy]
    ·exact hk.elim)
theorem OC:∀{ts:List TypeDesc} {xs ys:List FC} {as bs:List VV} {k:Bool->Prop},VB ts xs ys k->dP ρ xs as->dP ρ ys bs->∃r,k r/\fA ts as bs=some r
 |[],[],[],[],[],k,h,_,_=>⟨true,h,rfl⟩
 |t::ts,x::xs,y::ys,a::as,b::bs,k,h,hx,hy=>by
  obtain⟨r,h1,h2⟩:=OC (ts:=ts) h hx.2 hy.2
  have hx:=hx.1
  have hy:=hy.1
  split at h1
  ·obtain⟨rfl,_⟩:=hx;obtain⟨rfl,_⟩:=hy
   exact⟨_,h1,by simp[fA,h2,PV.v,j4]⟩
  ·obtain⟨rfl,_⟩:=hx;obtain⟨rfl,_⟩:=hy
   obtain⟨h3,h4⟩:=wq h1
   exact⟨_,h4,by simp[fA,h2,PV.v,j4,h3]⟩
  ·obtain⟨rfl,_⟩:=hx;obtain⟨rfl,_⟩:=hy
   exact⟨_,h1,by simp[fA,h2,PV.v,j4]⟩
  ·exact h1.elim
theorem UX {op:UnOp} {x:PV} {K:PV->Prop} (hk:Wy op x K):∃r:PV,K r/\wi op x.v=some r.v/\r.isAgg=false:=by
 unfold Wy at hk
 split at hk
 ·exact⟨_,hk,rfl,rfl⟩
 ·exact⟨_,hk,rfl,rfl⟩
 ·exact hk.elim
theorem Q4 {t:TypeId} {x:FC} {v:VV} {K:Int->Prop} (hk:Q3 P t x K) (hx:FR ρ x v):∃n,K n/\lT P t v h=some (.int .i64 n):=by
 unfold Q3 at hk
 split at hk
 ·rename_i es cap n
  obtain⟨⟨e,h1⟩,h2⟩:=Dx hk;obtain⟨rfl,_⟩:=hx
  have hl:=lU es
  rcases jt (PV.n7 es) cap n with⟨h3,_,h4⟩|⟨h4,_⟩
  ·rw[h3] at hl;exact⟨_,h2,by simp[lT,h1,PV.v,h4,<-hl]⟩
  ·exact⟨_,h2,by simp[lT,h1,PV.v,h4,hl]⟩
 ·obtain⟨h1,h2⟩:=w7 hk;obtain⟨rfl,_⟩:=hx;exact⟨_,h2,by simp[lT,h1,PV.v]⟩
 ·obtain⟨⟨e,h1⟩,h2⟩:=Dx hk
  refine⟨_,h2,?_⟩
  simp only[FR] at hx
  split at hx
  ·subst hx;simp[lT,h1]
  ·obtain⟨rfl,rfl⟩:=hx;simp[lT,h1]
  ·rcases hx with⟨i,rfl⟩|⟨rfl,rfl⟩<;>simp[lT,h1]
  ·exact hx.elim
 ·exact hk.elim
theorem zh {t:TypeId} {k:Nat->Prop} (hk:du P t k):∃e,iM P t=some e/\k (cE P e)/\cE P e≠0:=by
 obtain⟨e,h1,h2⟩:=bV hk
 obtain⟨h3,h4⟩:=eZ (uX h2)
 exact⟨e,h1,h4,by have:=Nat.le_of_ble_eq_true h3;omega⟩
theorem TD {t:TypeId} {x:FC} {v:VV} {i:Nat} {k:FC->Prop} (hk:W2 P t x i k) (hx:FR ρ x v):∃y w,k y/\eT P t v i=some w/\FR ρ y w:=by
 obtain⟨⟨fo,ft⟩,h1,h2⟩:=bV hk
 obtain⟨h3,h4⟩:=eZ h2
 have h5:cE P ft≠0:=by have:=Nat.le_of_ble_eq_true h3;omega
 have hv:∀n o,eT P t (.ptr n o) i=some (.ptr n (o+fo)):=λn o=>by simp only[eT,h1,if_neg h5]
 split at h4
 ·have h6:=uX h4
  simp only[FR] at hx
  split at hx
  ·rename_i hr
   subst hx;exact⟨_,_,h6,hv _ _,by simp only[FR,hr]⟩
  ·rename_i hr
   obtain⟨n,rfl⟩:=hx;exact⟨_,_,h6,hv _ _,by simp only[FR,hr];exact⟨_,rfl⟩⟩
  ·exact hx.elim
 ·obtain⟨rfl,_⟩:=hx
  refine⟨_,.fb (PV.vl _) (_+fo),uX h4,?_,rfl,rfl⟩
  simp only[PV.v,eT,h1,if_neg h5]
 ·have h6:=uX h4
  simp only[FR] at hx
  split at hx
  ·rename_i hr
   subst hx;exact⟨_,_,h6,hv _ _,by simp only[FR,hr,Nat.add_assoc]⟩
  ·rename_i hr
   obtain⟨n,rfl⟩:=hx;exact⟨_,_,h6,hv _ _,by simp only[FR,hr];exact⟨_,by rw[Nat.add_assoc]⟩⟩
  ·exact hx.elim
 ·exact h4.elim
theorem TT {t:TypeId} {x i:FC} {v w:VV} {k:FC->Prop} (hk:W6 P t x i k) (hx:FR ρ x v) (hi:FR ρ i w):∃y u,k y/\dA P t v w=some u/\FR ρ y u:=by
 obtain⟨e,h1,h2,h0⟩:=zh hk
 split at h2
 ·obtain⟨rfl,_⟩:=hi
  split at h2
  ·obtain⟨h3,h4⟩:=wq h2
   obtain⟨row,h5,h6⟩:=bV h4
   obtain⟨h7,h8⟩:=eZ h6
   have h7:=dT h7
   obtain⟨rfl,_⟩:=hx
   refine⟨_,.fb (PV.vl row) 0,h8,?_,rfl,rfl⟩
   rename_i es cap nn _ _
   have h9:yI (PV.n7 es) cap nn=.vs (PV.n7 es) cap:=by
    rcases jt (PV.n7 es) cap nn with⟨h9,_⟩|⟨h9,_⟩
    ·have:=lU es;rw[h9] at this
     have:es=[]:=List.eq_nil_of_length_eq_zero this.symm
     subst this;simp at h5
    ·exact h9
   simp only[dA,h1,PV.v,h9]
   simp only[fF,h3,if_true,List.getElem?_map,h5,Option.map_some,List.length_map]
   rw[if_pos ⟨h7,h0⟩,lR]
  ·obtain⟨⟨h3,h3'⟩,h4⟩:=wq h2
   obtain⟨h5,h6⟩:=eZ h4
   have h5:=dT h5;subst h5
   rename_i kk n _ _ o len cap
   have hv:∀i,dA P t (.ref i 0 len (cE P e) cap) (.int kk n)=some (.ptr i (0+n.toNat*cE P e)):=λi=>by
    simp[dA,h1,h3,h3',h0]
   simp only[FR] at hx
   split at hx
   ·rename_i hr
    subst hx
    exact⟨_,.ptr _ _,h6,hv _,by simp only[FR,hr,Nat.zero_add,Nat.add_zero]⟩
   ·obtain⟨_,rfl⟩:=hx;omega
   ·rename_i hr
    rcases hx with⟨n,rfl⟩|⟨rfl,rfl⟩
    ·exact⟨_,.ptr _ _,h6,hv _,by simp only[FR,hr,Nat.zero_add,Nat.add_zero];exact⟨_,rfl⟩⟩
    ·omega
   ·exact hx.elim
  ·exact h2.elim
 ·exact h2.elim
theorem Qc {e:Nat} {r:List PV} (h:LR e r=true):r.length=e/\sW r:=by
 unfold LR at h
 split at h
 ·rename_i h1;exact⟨dT h1,λx hx=>by simpa using List.all_eq_true.1 h x hx⟩
 ·cases h
theorem wN {e:Nat}:∀{rs:List (List PV)},fits e rs=true->∀r∈rs,r.length=e/\sW r
 |[],_=>λ_ h=>(by cases h)
 |r::rs,h=>by
  simp only[fits] at h
  split at h
  ·rename_i h1
   intro q hq
   rcases List.mem_cons.1 hq with rfl|hq
   ·exact Qc h1
   ·exact wN h q hq
  ·cases h
theorem G4 {e:Nat} {rs:List (List PV)} (hf:fits e rs=true):∀r∈rs,r.length=e:=λr hr=>(wN hf r hr).1
theorem Bs {e:Nat} {rs:List (List PV)} (hf:fits e rs=true):wb (PV.n7 rs) e=true:=by
 cases rs with
 |nil=>rfl
 |cons r rs=>simp[PV.n7,wb,lR,G4 hf r (by simp)]
theorem q6 {e:Nat}:∀{rs:List (List PV)} (n:Nat),(∀r∈rs,r.length=e)->n<=rs.length->rows n e (ck rs)=(rs.take n).map (·.map PV.v)
 |rs,0,_,_=>by simp[rows]
 |[],n+1,_,h=>by simp at h
 |r::rs,n+1,h,hn=>by
  have hl:(r.map PV.v).length=e:=by simpa using h r (by simp)
  rw[rows,eU,<-hl,List.take_left,List.drop_left,hl,q6 n (λr hr=>h r (by simp[hr])) (by simpa using hn)]
  simp
theorem DZ {x:FC} {v:VV} {e:Nat} {k:List (List PV)->Prop} (hk:Ke x e s k) (hs:SR ρ s h) (hx:FR ρ x v):
 ∃rs,k rs/\eS v h e=some (rs.map (·.map PV.v))/\(∀r∈rs,r.length=e/\sW r)/\∀o len e' cap,x=.ref o len e' cap->(∃y,ay s.bp o=some y)/\(v=.da\/∃i,ρ o=.at i/\v=.ref i 0 len e' cap)/\rs.length<=len:=by
 cases x with
 |p x=>
  cases x with
  |vs es cap n=>
   obtain⟨h1,h2⟩:=eZ hk
   obtain⟨rfl,_⟩:=hx
   refine⟨_,h2,?_,wN h1,λ_ _ _ _ h=>(by cases h)⟩
   rcases jt (PV.n7 es) cap n with⟨h3,_,h4⟩|⟨h4,_⟩
   ·rw[fF] at h3;simp only[PV.v,h4,eS,h3]
   ·simp only[PV.v,h4,eS,Bs h1,if_true];rw[fF]
  |_=>exact hk.elim
 |ref o len e' cap=>
  obtain⟨h1,h2⟩:=eZ hk
  have h1:=dT h1;subst h1
  obtain⟨y,h3,h4⟩:=bV h2
  have ho:=hs.obj _ _ h3
  cases y with
  |arr e2 rs nn=>
   obtain⟨a3,alt⟩:=ho
   have hall:∀r∈rs,r.length=e2:=λr hr=>(a3.2 r hr).1
   obtain⟨h5,h6⟩:=eZ h4
   have h5:=dT h5;subst h5
   rcases alt with⟨rfl,_,a1⟩|⟨_,i,a1,a2⟩
   ·simp only[FR,a1] at hx
    obtain⟨rfl,rfl⟩:=hx
    exact⟨[],h6,rfl,(λ_ h=>(by cases h)),λ_ _ _ _ h=>by cases h;exact⟨⟨_,h3⟩,.inl rfl,Nat.le_refl _⟩⟩
   simp only[FR,a1] at hx
   subst hx
   have key:∀q:List (List PV),q=rs.take len->len<=rs.length->eS (.ref i 0 len e2 cap) h e2=some (q.map (·.map PV.v)):=λq hq hle=>by
    have:0+len*e2<=(ck rs).length:=by
     rw[je hall]
     have:=Nat.mul_le_mul_right e2 hle
     omega
    simp only[eS,a2,ne_eq,not_true_eq_false,if_false,List.drop_zero]
    rw[if_pos this,q6 len hall hle,hq]
   rcases sR h6 with⟨b1,b2⟩|⟨b1,b2⟩
   ·have b1:=dT b1
    exact⟨rs,b2,key rs (by rw[<-b1,List.take_length]) (by omega),a3.2,λ_ _ _ _ hh=>by cases hh;exact⟨⟨_,h3⟩,.inr ⟨_,a1,rfl⟩,by omega⟩⟩
   ·obtain⟨b3,b4⟩:=eZ b2
    exact⟨_,b4,key _ rfl (Nat.le_of_ble_eq_true b3),(λr hr=>a3.2 r (List.mem_of_mem_take hr)),λ_ _ _ _ hh=>by cases hh;exact⟨⟨_,h3⟩,.inr ⟨_,a1,rfl⟩,by simp;omega⟩⟩
  |cells c=>exact h4.elim
  |map es=>exact h4.elim
 |_=>exact hk.elim
theorem lg.take {e:Nat} {rs:List (List PV)} (hr:lg e rs) (n:Nat):lg e (rs.take n):=⟨hr.1,λr h=>hr.2 r (List.mem_of_mem_take h)⟩
end
end Go.Ee
