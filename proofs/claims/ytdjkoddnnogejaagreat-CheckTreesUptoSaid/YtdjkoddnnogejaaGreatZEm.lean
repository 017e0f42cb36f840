/- Part of the proof of CheckTrees: plain laws and steps of its walks, for all arguments. -/
import Derived.Test.YtdjkoddnnogejaaGreatZEl
set_option linter.unusedSimpArgs false
set_option linter.unusedVariables false
set_option linter.unusedSectionVars false
namespace Go.Ee
section
open Go.Vv
variable{P:Program}
def z1 (n:Nat):List Nat->Bool
 |[]=>false
 |m::l=>match Nat.beq m n with|true=>true|false=>z1 n l
def vF (s:SH) (mv:List Nat) (kN:Nat):List Nat->j9->(j9->Prop)->Prop
 |[],st,k=>k st
 |n::l,st,k=>match Nat.ble kN n with
  |true=>k st
  |false=>match z1 n mv,ay s.bp n,st with
   |false,some a,⟨σ,m,os⟩=>(match ay σ n with
    |some _=>vF s mv kN l ⟨σ,m,os⟩ k
    |none=>vF s mv kN l ⟨(n,n)::σ,m,(n,a)::os⟩ k)
   |_,_,st=>vF s mv kN l st k
def KZ (s:SH):List (Nat×SO)->j9->(j9->Prop)->Prop
 |[],st,k=>k st
 |(_,x)::l,st,k=>match x with
  |.cells c=>KZ s l st λst=>AJ (yk s 6) c st k
  |_=>KZ s l st k
def Gg (mv:List Nat) (kN:Nat) (s:SH) (k:j9->Prop):Prop:=
 vF s mv kN lH ⟨[],kN,[]⟩ λst=>match st with|⟨σ,m,os⟩=>KZ s os ⟨σ,m,os⟩ k
def Fs (mv:List Nat) (kN:Nat) (e:aR) (s:SH) (K:aR->SH->Prop):Prop:=
 match e with
 |.panic v=>R7 [] v λv=>K (.panic v) ⟨[],kN⟩
 |.ret v=>Gg mv kN s λst=>(match v with
  |.bR l=>Eh s l st
  |v=>SW s v st) λst=>match st with
   |⟨σ,m,os⟩=>R7 σ v λv=>FA σ os λos=>K (.ret v) ⟨os,m⟩
def Ll (kN:Nat) (st:j9):Prop:=kN<=st.next/\∀o m,ay st.σ o=some m->m<kN->o=m
theorem Ll.le {kN:Nat} {a b:j9} (h:Ll kN a) (hl:a.Le b):Ll kN b:=⟨Nat.le_trans h.1 hl.1,λo m e hm=>by
 rcases hl.2.2 o m e with e|e
 ·exact h.2 o m e hm
 ·have:=h.1;omega⟩
theorem sE {s:SH} {mv:List Nat} {kN:Nat}:∀{l:List Nat} {st:j9} {k:j9->Prop},vF s mv kN l st k->VI s st->Ll kN st->∃st',k st'/\VI s st'/\Ll kN st'
 |[],st,k,hk,hv,ho=>⟨st,hk,hv,ho⟩
 |n::l,st,k,hk,hv,ho=>by
  simp only[vF] at hk
  split at hk
  ·exact⟨st,hk,hv,ho⟩
  ·rename_i hb
   have hlt:n<kN:=Nat.lt_of_not_le λh=>by rw[Nat.ble_eq_true_of_le h] at hb;cases hb
   split at hk
   ·rename_i a σ m os hmem ha
    split at hk
    ·exact sE hk hv ho
    ·rename_i hn
     refine sE hk ⟨λp q h=>?_,λp p' q h h'=>?_,λq b h=>?_,λp hp=>?_⟩ ⟨ho.1,λp q h hq=>?_⟩
     ·simp only[al] at h⊢
      by_cases e:p=n
      ·rw[if_pos e] at h;cases h
       have:=ho.1;simp only at this
       exact⟨by omega,a,by rw[e];exact ha,by simp⟩
      ·rw[if_neg e] at h
       obtain⟨h1,b,h2,h3⟩:=hv.fwd p q h
       refine⟨h1,b,h2,?_⟩
       have:q≠n:=λe2=>by
        have:=ho.2 p q h (by omega)
        exact e (this.trans e2)
       rw[if_neg this];exact h3
     ·simp only[al] at h h'
      have key:∀p q,ay σ p=some q->p≠n->q≠n:=λp q h e e2=>e ((ho.2 p q h (by omega)).trans e2)
      by_cases e:p=n<;>by_cases e':p'=n
      ·exact e.trans e'.symm
      ·rw[if_pos e] at h;rw[if_neg e'] at h';cases h;exact absurd rfl (key _ _ h' e')
      ·rw[if_neg e] at h;rw[if_pos e'] at h';cases h';exact absurd rfl (key _ _ h e)
      ·rw[if_neg e] at h;rw[if_neg e'] at h';exact hv.inj p p' q h h'
     ·simp only[al] at h
      by_cases e:q=n
      ·subst e
       simp at h;subst h
       exact⟨q,by simp[al],ha⟩
      ·rw[if_neg e] at h
       obtain⟨p,h1,h2⟩:=hv.bwd q b h
       exact⟨p,by simp only[al];rw[if_neg (λe=>by subst e;rw[h1] at hn;cases hn)];exact h1,h2⟩
     ·simp only[al]
      rcases List.mem_cons.1 hp with rfl|hp
      ·simp
      ·have:=hv.uniq p hp
       rw[if_neg (λe=>by simp only at this;rw[e,hn] at this;cases this)]
       exact this
     ·simp only[al] at h
      by_cases e:p=n
      ·rw[if_pos e] at h;cases h;exact e
      ·rw[if_neg e] at h;exact ho.2 p q h hq
   ·exact sE hk hv ho
theorem Cw {s:SH}:∀{l:List (Nat×SO)} {st:j9} {k:j9->Prop},KZ s l st k->VI s st->∃st',k st'/\VI s st'/\st.Le st'
 |[],st,k,hk,hv=>⟨st,hk,hv,.refl st⟩
 |(n,x)::l,st,k,hk,hv=>by
  simp only[KZ] at hk
  split at hk
  ·obtain⟨st1,h1,h2,h3⟩:=Cw hk hv
   obtain⟨st2,h4,h5,h6⟩:=oY (m9 s 6) h1 h2
   exact⟨st2,h4,h5,h3.trans h6⟩
  ·exact Cw hk hv
theorem CY {mv:List Nat} {kN:Nat} {s:SH} {k:j9->Prop} (hk:Gg mv kN s k):∃st,k st/\VI s st/\Ll kN st:=by
 obtain⟨⟨σ,m,os⟩,h1,h2,h3⟩:=sE hk ⟨λo m h=>by simp[ay] at h,λo o' m h=>by simp[ay] at h,λm a h=>by simp[ay] at h,λp h=>(by cases h)⟩ ⟨Nat.le_refl _,λo m h=>by simp[ay] at h⟩
 obtain⟨st',h4,h5,h6⟩:=Cw h1 h2
 exact⟨st',h4,h5,h3.le h6⟩
noncomputable def NM.nX (ρ1:NM) (σ:List (Nat×Nat)) (kN:Nat):NM:=ρ1.via σ λm=>if m<kN then .dead else .un
theorem wx {ρ ρ1:NM} {s s1:SH} {h h':aa} (hs:SR ρ s h) (hs1:SR ρ1 s1 h') (he:ch ρ h ρ1 h') {st:j9} (hv:VI s1 st) (ho:Ll s.next st) {os:List (Nat×SO)}
 (hos:∀n y,ay os n=some y->∃x,ay st.bp n=some x/\∀h m o,ay st.σ m=some o->OR ρ1 h m x->OR (ρ1.nX st.σ s.next) h o y):
 SR (ρ1.nX st.σ s.next) ⟨os,st.next⟩ h'/\ch ρ h (ρ1.nX st.σ s.next) h':=by
 have hat:∀m,(∃o,ay st.σ o=some m/\ρ1.nX st.σ s.next m=ρ1 o)\/((∀o,ay st.σ o≠some m)/\ρ1.nX st.σ s.next m=if m<s.next then .dead else .un):=λm=>NM.yg hv.inj m
 have hat2:∀m i,ρ1.nX st.σ s.next m=.at i->∃o,ay st.σ o=some m/\ρ1 o=.at i:=λm i hm=>by
  rcases hat m with⟨o,e1,e2⟩|⟨_,e2⟩
  ·exact⟨o,e1,e2▸hm⟩
  ·rw[e2] at hm;split at hm<;>cases hm
 refine⟨⟨λn y hy=>?_,λn n' i a b=>?_,λn i a=>?_,λn hn=>?_⟩,⟨λm=>?_,λm i a=>?_,he.next,he.gE⟩⟩
 ·obtain⟨x,h6,h7⟩:=hos n y hy
  obtain⟨o,h8,h9⟩:=hv.bwd n x h6
  exact h7 h' o n h8 (hs1.obj o x h9)
 ·obtain⟨o,e1,e2⟩:=hat2 n i a
  obtain⟨o',e3,e4⟩:=hat2 n' i b
  have:=hs1.inj _ _ _ e2 e4
  subst this
  rw[e1] at e3;cases e3;rfl
 ·obtain⟨o,e1,e2⟩:=hat2 n i a
  exact hs1.iD _ _ e2
 ·rcases hat n with⟨o,e1,e2⟩|⟨_,e2⟩
  ·have:=(hv.fwd o n e1).1
   simp only at hn;omega
  ·rw[e2,if_neg (by have:=ho.1;simp only at hn;omega)]
 ·rcases hat m with⟨o,e1,e2⟩|⟨_,e2⟩
  ·by_cases hm:m<s.next
   ·have:=ho.2 o m e1 hm
    subst this
    rw[e2];exact he.le o
   ·exact .inl (hs.free m (Nat.le_of_not_lt hm))
  ·rw[e2]
   split
   ·exact .inr (.inr rfl)
   ·rename_i hm;exact .inl (hs.free m (Nat.le_of_not_lt hm))
 ·obtain⟨o,e1,e2⟩:=hat2 m i a
  exact he.new o i e2
theorem SC.nX (mv:List Nat) {f:FuncId} {args:List EV} {s:SH} {K:aR->SH->Prop} (hk:SC P f args s λe s1=>Fs mv s.next e s1 K):SC P f args s K:=by
 refine⟨λρ h vargs hs ha=>?_⟩
 refine(hk.run ρ h vargs hs ha).mono ?_
 rintro r h' ⟨e,s1,ρ1,h1,h2,h3,h4⟩
 have nil:VI s1 ⟨[],s.next,[]⟩/\Ll s.next ⟨[],s.next,[]⟩:=⟨⟨λo m h=>by simp[ay] at h,λo o' m h=>by simp[ay] at h,λm a h=>by simp[ay] at h,λp h=>(by cases h)⟩,Nat.le_refl _,λo m h=>by simp[ay] at h⟩
 cases e with
 |panic v=>
  have ht:∀m o,ay [] m=some o->ρ1.nX [] s.next o=ρ1 m:=λm o h=>by simp[ay] at h
  obtain⟨e',h11,h12⟩:=Ao ht (k:=λv=>K (.panic v) ⟨[],s.next⟩) h1
  obtain⟨a1,a2⟩:=wx hs h3 h4 nil.1 nil.2 (os:=[]) λn y hy=>by simp[ay] at hy
  cases r with
  |ret=>exact h2.elim
  |panic w=>exact⟨.panic e',_,_,h11,h12 _ h2,a1,a2⟩
 |ret v=>
 obtain⟨st,h5,h6,h7⟩:=CY h1
 have hvis:∃st',VI s1 st'/\Ll s.next st'/\R7 st'.σ v λv=>FA st'.σ st'.bp λos=>K (.ret v) ⟨os,st'.next⟩:=by
  split at h5
  ·obtain⟨st',a1,a2,a3⟩:=yl h5 h6;exact⟨st',a2,h7.le a3,a1⟩
  ·obtain⟨st',a1,a2,a3⟩:=KY h5 h6;exact⟨st',a2,h7.le a3,a1⟩
 obtain⟨st',h8,h9,h10⟩:=hvis
 have ht:∀m o,ay st'.σ m=some o->ρ1.nX st'.σ s.next o=ρ1 m:=λm o hm=>NM.uy h8.inj hm
 obtain⟨e',h11,h12⟩:=Ao ht h10
 obtain⟨os,h13,h14⟩:=xI ht h11
 obtain⟨a1,a2⟩:=wx hs h3 h4 h8 h9 h14
 cases r with
 |ret w=>exact⟨.ret e',_,_,h13,h12 _ h2,a1,a2⟩
 |panic=>exact h2.elim
def Ri (o j e:Nat) (s:SH) (k:SH->Prop):Prop:=
 obj s o λx=>match x,s with
  |.cells c,⟨l,n⟩=>iK (EM c j) λy=>(match y with
   |.p (.vs [] _ true)=>Br (Nat.ble 1 e) (gj c j [.ref n 0 e none] λc=>nK (n+1) λm=>Kn l o (.cells c) λl=>k ⟨(n,.arr e [] true)::l,m⟩) False
   |_=>False)
  |_,_=>False
theorem dP.SQ {ρ ρ':NM} (hl:ρ.Le ρ'):∀{c:List FC} {l:List VV} {j:Nat} {x:FC} {y:FC},dP ρ c l->c[j]?=some x->(∀v,FR ρ x v->FR ρ' y v)->dP ρ' (gj.over' c j [y]) l
 |a::c,v::l,0,x,y,h,hx,hy=>by
  simp at hx;subst hx
  have e:gj.over' (a::c) 0 [y]=y::c:=by simp[gj.over']
  rw[e]
  exact⟨hy v h.1,h.2.mono hl⟩
 |a::c,v::l,j+1,x,y,h,hx,hy=>by
  have:=dP.SQ hl (c:=c) (l:=l) (j:=j) h.2 (by simpa using hx) hy
  have e:gj.over' (a::c) (j+1) [y]=a::gj.over' c j [y]:=by
   simp[gj.over',Nat.add_right_comm j 1 1]
  rw[e]
  exact⟨h.1.mono hl,this⟩
theorem SC.nil (o j e:Nat) {f:FuncId} {args:List EV} {s:SH} {K:aR->SH->Prop} (hk:Ri o j e s λs=>SC P f args s K):SC P f args s K:=by
 refine⟨λρ h vargs hs ha=>?_⟩
 obtain⟨x,h1,h2⟩:=bV hk
 obtain⟨l,n⟩:=s
 cases x with
 |cells c=>
  obtain⟨y,h3,h4⟩:=bV h2
  rw[lz] at h3
  split at h4
  ·rename_i cap
   obtain⟨h5,h6⟩:=eZ h4
   obtain⟨h7,h8⟩:=p7 h6
   obtain⟨l',h9,h10⟩:=xP (uX h8)
   have hn:=hs.free n (Nat.le_refl _)
   let ρ':=ρ.eY n .MH
   have hl:ρ.Le ρ':=.eY (.inl hn)
   have hne:∀m,m≠n->ρ' m=ρ m:=λm e=>by simp[ρ',NM.eY,e]
   have hnn:ρ' n=.MH:=by simp[ρ',NM.eY]
   have hat:∀m i,ρ' m=.at i->ρ m=.at i:=λm i hm=>by
    by_cases e:m=n
    ·rw[e,hnn] at hm;cases hm
    ·rw[<-hne m e];exact hm
   have hlt:∀m x,ay l m=some x->m≠n:=λm x hm e=>(hs.xq (s:=⟨l,n⟩) hm).1 (e▸hn)
   have hs':SR ρ' ⟨(n,.arr e [] true)::l',n+1⟩ h:=by
    refine⟨λm z hz=>?_,λm m' i a b=>hs.inj m m' i (hat m i a) (hat m' i b),λm i a=>hs.iD m i (hat m i a),λm hm=>?_⟩
    ·simp only[al,h10] at hz
     by_cases e1:m=n
     ·rw[if_pos e1] at hz;cases hz
      exact⟨⟨Nat.le_of_ble_eq_true h5,λr hr=>(by cases hr)⟩,.inl ⟨rfl,rfl,by rw[e1];exact hnn⟩⟩
     ·rw[if_neg e1] at hz
      by_cases e2:m=o
      ·rw[if_pos e2] at hz;cases hz
       subst e2
       obtain⟨i,lv,a1,a2,a3⟩:=hs.obj m _ h1
       refine⟨i,lv,(hne m e1).trans a1,a2,a3.SQ hl h3 λv hv=>?_⟩
       obtain⟨rfl,_⟩:=hv
       simp only[FR,hnn]
       exact⟨rfl,trivial⟩
      ·rw[if_neg e2] at hz
       exact(hs.obj m z hz).move (λ_ _=>rfl) hl (hne m e1)
    ·have h11:n+1<=m:=hm
     rw[hne m (by omega)];exact hs.free m (by simp only;omega)
   have he:ch ρ h ρ' h:=⟨hl,λm i a=>.inl ⟨m,hat m i a⟩,Nat.le_refl _,λ_ _ _=>rfl⟩
   refine(h9.run ρ' h vargs hs' (ha.mono hl)).mono ?_
   rintro r h' ⟨e,s1,ρ1,b1,b2,b3,b4⟩
   exact⟨e,s1,ρ1,b1,b2,b3,he.trans b4⟩
  ·exact h4.elim
 |_=>exact h2.elim
def vU:List FC->(List Nat->Prop)->Prop
 |[],k=>k []
 |.ref o _ _ _::l,k=>vU l λr=>k (o::r)
 |_::l,k=>vU l k
def mG:List Nat->SF->SH->(SF->SH->Prop)->Prop
 |[],fr,s,k=>k fr s
 |o::l,fr,s,k=>match ay s.bp o with
  |some _=>TK o fr s λfr s=>mG l fr s k
  |none=>mG l fr s k
def zp (e:aR) (s:SH) (K:aR->SH->Prop):Prop:=
 match e with
 |.ret (.f (.ref o a b c))=>mG [o] [(0,.f (.ref o a b c))] s λfr s=>mC (gO fr 0) λv=>K (.ret v) s
 |.ret (.agg cs)=>vU cs λl=>mG l [(0,.agg cs)] s λfr s=>mC (gO fr 0) λv=>K (.ret v) s
 |e=>K e s
theorem pL:∀{l:List Nat} {ρ:NM} {s:SH} {h:aa} {fr:SF} {vfr:Fr} {k:SF->SH->Prop},mG l fr s k->SR ρ s h->jN ρ fr vfr->
 ∃fr' s' ρ' vfr' h',k fr' s'/\uO vfr h vfr' h'/\SR ρ' s' h'/\jN ρ' fr' vfr'/\ch ρ h ρ' h'
 |[],ρ,s,h,fr,vfr,k,hk,hs,hf=>⟨fr,s,ρ,vfr,h,hk,.refl _ _,hs,hf,.refl ρ h⟩
 |o::l,ρ,s,h,fr,vfr,k,hk,hs,hf=>by
  simp only[mG] at hk
  split at hk
  ·obtain⟨fr1,s1,ρ1,vfr1,h1,a1,a2,a3,a4,a5⟩:=OG hk hs hf
   obtain⟨fr2,s2,ρ2,vfr2,h2,b1,b2,b3,b4,b5⟩:=pL a1 a3 a4
   exact⟨fr2,s2,ρ2,vfr2,h2,b1,uO.trans a2 b2,b3,b4,a5.trans b5⟩
  ·exact pL hk hs hf
theorem lM:∀{l:List FC} {k:List Nat->Prop},vU l k->∃r,k r
 |[],k,hk=>⟨[],hk⟩
 |.ref o _ _ _::l,k,hk=>let⟨r,h⟩:=lM (l:=l) (k:=λr=>k (o::r)) hk;⟨_,h⟩
 |.p _::l,k,hk=>lM (l:=l) hk
 |.ptr _ _::l,k,hk=>lM (l:=l) hk
 |.ep _ _ _ _::l,k,hk=>lM (l:=l) hk
 |.mp _::l,k,hk=>lM (l:=l) hk
theorem SC.vy {f:FuncId} {args:List EV} {s:SH} {K:aR->SH->Prop} (hk:SC P f args s λe s1=>zp e s1 K):SC P f args s K:=by
 refine⟨λρ h vargs hs ha=>?_⟩
 refine(hk.run ρ h vargs hs ha).vy (λv h' ⟨e,s1,ρ1,h1,h2,h3,h4⟩=>?_) λv h' ⟨e,s1,ρ1,h1,h2,h3,h4⟩=>?_
 ·cases e with
  |ret x=>exact h2.elim
  |panic x=>exact⟨_,s1,ρ1,h1,h2,h3,h4⟩
 ·have hf:∀x,ER ρ1 x v->jN ρ1 [(0,x)] (Tr.set .nil 0 v):=λx hx t=>by
   simp only[gO,al,Fr.dY]
   by_cases e:t=0
   ·simpa[e] using hx
   ·simp[e,ay];trivial
  have go:∀x l,e=.ret x->(mG l [(0,x)] s1 λfr s=>mC (gO fr 0) λv=>K (.ret v) s)->∃fr2 h2,uO (Tr.set .nil 0 v) h' fr2 h2/\∃e s' ρ',K e s'/\EE ρ' e (.ret (fr2.at 0))/\SR ρ' s' h2/\ch ρ h ρ' h2:=λx l he hh=>by
   subst he
   obtain⟨fr',s',ρ',vfr',h2',a1,a2,a3,a4,a5⟩:=pL hh h3 (hf x h2)
   exact⟨vfr',h2',a2,_,s',ρ',mD a1,a4 0,a3,h4.trans a5⟩
  have h1:zp e s1 K:=h1
  unfold zp at h1
  split at h1
  ·exact go _ _ rfl h1
  ·obtain⟨l,h5⟩:=lM h1
   exact go _ l rfl h5
  ·exact⟨_,h',.refl _ _,e,s1,ρ1,h1,by simpa[Fr.dY] using h2,h3,h4⟩
def H5:List Oper->List Nat
 |[]=>[]
 |o::l=>match o.dst with|some d=>d::H5 l|none=>H5 l
def uW:Code->List Nat
 |.region _ ops _=>H5 ops.toList
 |.seq a b=>uW a++uW b
 |.cond _ a b=>uW a++uW b
 |.block _ c=>uW c
 |.loop c=>uW c
 |_=>[]
def ph (m:List Nat):SF->(SF->Prop)->Prop
 |[],k=>k []
 |(t,x)::l,k=>match z1 t m with
  |true=>ph m l k
  |false=>ph (t::m) l λr=>k ((t,x)::r)
def Sj (fr:SF):List Nat->(List EV->Prop)->Prop
 |[],k=>k []
 |t::l,k=>mC (gO fr t) λx=>Sj fr l λr=>k (x::r)
def vz (ls mv:List Nat) (kN:Nat) (fr:SF) (s:SH) (k:List EV->SH->Prop):Prop:=
 Sj fr ls λus=>Gg mv kN s λst=>Eg s us st λst=>match st with
  |⟨σ,m,os⟩=>NJ σ us λus=>FA σ os λos=>k us ⟨os,m⟩
def Ok:List Nat->List EV->SF->(SF->Prop)->Prop
 |t::l,x::m,b,k=>Ok l m b λr=>k ((t,x)::r)
 |_,_,b,k=>k b
def D2 (fr b:SF):Prop:=(b.map λp=>gO fr p.1)=b.map Prod.snd
theorem FR.hZ {ρ ρ1 ρ2:NM} (hl:∀o,ρ o=.un\/ρ1 o=.un\/ρ2 o=ρ1 o\/ρ2 o=.dead) {x:FC} {v w:VV} (h:FR ρ x w) (h1:FR ρ1 x v):FR ρ2 x v:=by
 cases x with
 |p x=>exact h1
 |ptr o off|ep o e i j|ref o len e cap|mp o=>
  simp only[FR] at h h1⊢
  rcases hl o with e|e|e|e
  ·rw[e] at h;exact h.elim
  ·rw[e] at h1;exact h1.elim
  ·rw[e];exact h1
  ·rw[e]
   cases hr:ρ1 o<;>rw[hr] at h1<;>first|exact h1.elim|exact h1|exact⟨_,h1⟩|exact .inl ⟨_,h1⟩|exact .inr h1
theorem dP.hZ {ρ ρ1 ρ2:NM} (hl:∀o,ρ o=.un\/ρ1 o=.un\/ρ2 o=ρ1 o\/ρ2 o=.dead):∀{x:List FC} {v w:List VV},dP ρ x w->dP ρ1 x v->dP ρ2 x v
 |[],[],_,_,_=>trivial
 |_::_,_::_,_::_,h,h1=>⟨h.1.hZ hl h1.1,dP.hZ hl h.2 h1.2⟩
theorem TR.hZ {ρ ρ1 ρ2:NM} (hl:∀o,ρ o=.un\/ρ1 o=.un\/ρ2 o=ρ1 o\/ρ2 o=.dead) {x:TV} {v w:VV} (h:TR ρ x w) (h1:TR ρ1 x v):TR ρ2 x v:=by
 cases x with
 |f x=>exact FR.hZ hl h h1
 |agg cs=>obtain⟨l,_,h⟩:=h;obtain⟨m,e,h1⟩:=h1;exact⟨m,e,h.hZ hl h1⟩
theorem A4.hZ {ρ ρ1 ρ2:NM} (hl:∀o,ρ o=.un\/ρ1 o=.un\/ρ2 o=ρ1 o\/ρ2 o=.dead):∀{x:List TV} {v w:List VV},A4 ρ x w->A4 ρ1 x v->A4 ρ2 x v
 |[],[],_,_,_=>trivial
 |_::_,_::_,_::_,h,h1=>⟨h.1.hZ hl h1.1,A4.hZ hl h.2 h1.2⟩
theorem ER.hZ {ρ ρ1 ρ2:NM} (hl:∀o,ρ o=.un\/ρ1 o=.un\/ρ2 o=ρ1 o\/ρ2 o=.dead) {x:EV} {v w:VV} (h:ER ρ x w) (h1:ER ρ1 x v):ER ρ2 x v:=by
 cases x with
 |f x=>exact FR.hZ hl h h1
 |agg cs=>obtain⟨l,_,h⟩:=h;obtain⟨m,e,h1⟩:=h1;exact⟨m,e,h.hZ hl h1⟩
 |fn g a c=>obtain⟨l,l',_,h,h'⟩:=h;obtain⟨m,m',e,h1,h1'⟩:=h1;exact⟨m,m',e,h.hZ hl h1,h'.hZ hl h1'⟩
 |bR l=>obtain⟨l',_,h⟩:=h;obtain⟨m,e,h1⟩:=h1;exact⟨m,e,h.hZ hl h1⟩
 |un=>trivial
theorem wB:∀{fr:SF} {m:List Nat} {k:SF->Prop},ph m fr k->∃b,k b/\∀t,(z1 t m=true->gO b t=.un)/\(z1 t m=false->gO b t=gO fr t)
 |[],m,k,hk=>⟨[],hk,λt=>⟨λ_=>rfl,λ_=>rfl⟩⟩
 |(t,x)::l,m,k,hk=>by
  simp only[ph] at hk
  split at hk
  ·rename_i hm
   obtain⟨b,h1,h2⟩:=wB hk
   refine⟨b,h1,λt'=>⟨(h2 t').1,λhf=>?_⟩⟩
   rw[(h2 t').2 hf]
   simp only[gO,al]
   rw[if_neg (λe=>by subst e;rw[hm] at hf;cases hf)]
  ·rename_i hm
   obtain⟨b,h1,h2⟩:=wB (fr:=l) (m:=t::m) (k:=λr=>k ((t,x)::r)) hk
   refine⟨_,h1,λt'=>?_⟩
   simp only[gO,al]
   by_cases e:t'=t
   ·subst e;simp[hm]
   ·rw[if_neg e,if_neg e]
    have h3:=h2 t'
    have e2:Nat.beq t t'=false:=by cases h4:Nat.beq t t';rfl;exact absurd (Nat.eq_of_beq_eq_true h4).symm e
    simp only[z1,e2] at h3
    exact h3
theorem Km {ρ:NM} {fr:SF} {vfr:Fr} (hf:jN ρ fr vfr):∀{l:List Nat} {k:List EV->Prop},Sj fr l k->∃us,k us/\qu ρ us (l.map vfr.at)
 |[],k,hk=>⟨[],hk,trivial⟩
 |t::l,k,hk=>by
  obtain⟨us,h1,h2⟩:=Km hf (l:=l) (mD hk)
  exact⟨_,h1,hf t,h2⟩
theorem Li {ρ:NM} {b:SF} {vfr:Fr} (hb:∀t,ER ρ (gO b t) (vfr.at t)):∀{l:List Nat} {us:List EV} {k:SF->Prop},Ok l us b k->qu ρ us (l.map vfr.at)->∃fr,k fr/\jN ρ fr vfr
 |[],[],k,hk,_=>⟨b,hk,hb⟩
 |t::l,x::m,k,hk,h=>by
  obtain⟨fr,h1,h2⟩:=Li hb (l:=l) (us:=m) (k:=λr=>k ((t,x)::r)) hk h.2
  refine⟨_,h1,λt'=>?_⟩
  simp only[gO,al]
  by_cases e:t'=t
  ·subst e;simpa using h.1
  ·rw[if_neg e];exact h2 t'
theorem D3 {fr:SF}:∀{b:SF},D2 fr b->∀t x,ay b t=some x->gO fr t=x
 |[],_,t,x,h=>by simp[ay] at h
 |(n,y)::l,hk,t,x,h=>by
  simp only[D2,List.map_cons,List.cons.injEq] at hk
  rw[al] at h
  by_cases e:t=n
  ·rw[if_pos e] at h;cases h;rw[e];exact hk.1
  ·rw[if_neg e] at h;exact D3 (b:=l) hk.2 t x h
theorem wY {ls mv:List Nat} {ρ ρ1:NM} {s s1:SH} {h h':aa} {fr:SF} {vfr:Fr} {k:List EV->SH->Prop} (hs:SR ρ s h) (hs1:SR ρ1 s1 h') (hf:jN ρ1 fr vfr) (he:ch ρ h ρ1 h') (hk:vz ls mv s.next fr s1 k):
 ∃us s2 ρ2,k us s2/\SR ρ2 s2 h'/\ch ρ h ρ2 h'/\qu ρ2 us (ls.map vfr.at)/\∀o,ρ o=.un\/ρ1 o=.un\/ρ2 o=ρ1 o\/ρ2 o=.dead:=by
 obtain⟨us,h1,h2⟩:=Km hf hk
 obtain⟨st,h3,h4,h5⟩:=CY h1
 obtain⟨st',h6,h7,h8⟩:=yj h3 h4
 have ho:=h5.le h8
 obtain⟨σ,m,os⟩:=st'
 have ht:∀m o,ay σ m=some o->ρ1.nX σ s.next o=ρ1 m:=λm o hm=>NM.uy h7.inj hm
 obtain⟨us',h9,h10⟩:=B8 ht h6
 obtain⟨os',h11,h12⟩:=xI ht h9
 obtain⟨a1,a2⟩:=wx hs hs1 he h7 ho h12
 refine⟨us',_,_,h11,a1,a2,h10 _ h2,λo=>?_⟩
 rcases NM.yg (ρ:=ρ1) (ρd:=λm=>if m<s.next then .dead else .un) h7.inj o with⟨p,e1,e2⟩|⟨_,e2⟩
 ·by_cases hlt:o<s.next
  ·have:=ho.2 p o e1 hlt
   subst this
   exact .inr (.inr (.inl e2))
  ·exact .inl (hs.free o (Nat.le_of_not_lt hlt))
 ·by_cases hlt:o<s.next
  ·rw[if_pos hlt] at e2;exact .inr (.inr (.inr e2))
  ·exact .inl (hs.free o (Nat.le_of_not_lt hlt))
theorem SL.loop (hmix:P.follows .mixedOrders=true) {N:Fm} {c:Code} {Q:EQ} {fr:SF} {s:SH} (T:fI) (pol:vn) (hc:aT N c=true) {α:Type} (ls mv:List Nat) (U:α->List EV) (H:α->SH) (μ:α->Nat) (a0:α)
 (h0:vz ls mv s.next fr s λus s'=>us=U a0/\s'=H a0)
 (hk:ph (uW c) fr λbase=>∀a,Ok ls (U a) base λfra=>er P (SC P) (SL P N) T pol c (λx fr' s'=>match x with
   |.normal=>(vz ls mv s.next fr' s' λus s2=>∃a',μ a'<μ a/\us=U a'/\s2=H a')/\D2 fr' base
   |x=>Q x fr' s') fra (H a)):SL P N c Q fr s:=by
 refine⟨λρ h vfr hs hf=>?_⟩
 obtain⟨base,hk,hb⟩:=wB hk
 have key:∀(m:Nat) (a:α) (ρ2:NM) (h2:aa) (vfr2:Fr),μ a<m->SR ρ2 (H a) h2->ch ρ h ρ2 h2->qu ρ2 (U a) (ls.map vfr2.at)->(∀t,ER ρ2 (gO base t) (vfr2.at t))->na (gB P N c) (VQ ρ h Q) m vfr2 h2:=by
  intro m
  induction m with
  |zero=>intro a ρ2 h2 vfr2 hlt;omega
  |succ m ih=>
   intro a ρ2 h2 vfr2 hlt hs2 he2 hu hbase
   obtain⟨fra,h3,h4⟩:=Li hbase (hk a) hu
   show gB P N c (VX.then (na (gB P N c) (VQ ρ h Q) m) (VQ ρ h Q)) vfr2 h2
   refine dO c (λx f h' hx=>?_) _ _ (hU hmix c hc h3 hs2 h4 he2)
   obtain⟨e,fr',s',ρ',b1,b2,b3,b4,b5⟩:=hx
   cases e<;>cases x<;>first|exact b2.elim|skip
   ·obtain⟨b6,b7⟩:=b1
    obtain⟨us,s3,ρ3,⟨a',c1,rfl,rfl⟩,c4,c5,c6,c7⟩:=wY hs b4 b3 b5 b6
    refine ih a' ρ3 h' f (by omega) c4 c5 c6 λt=>?_
    cases hg:ay base t with
    |none=>simp only[gO,hg];trivial
    |some x=>
     have e1:=D3 b7 t x hg
     have e2:gO base t=x:=by simp[gO,hg]
     have e3:gO base t=.un\/gO base t=gO fr t:=by
      cases hm:z1 t (uW c) with
      |true=>exact .inl ((hb t).1 hm)
      |false=>exact .inr ((hb t).2 hm)
     rcases e3 with e3|e3
     ·rw[e3];trivial
     ·have d1:=hf t
      rw[<-e3] at d1
      have d2:=b3 t
      rw[e1,<-e2] at d2
      exact ER.hZ c7 d1 d2
   all_goals exact⟨_,fr',s',ρ',b1,b2,b3,b4,b5⟩
 obtain⟨us,s3,ρ3,⟨rfl,rfl⟩,c4,c5,c6,c7⟩:=wY hs hs hf (.refl ρ h) h0
 refine⟨μ a0+1,key _ a0 ρ3 h vfr (Nat.lt_succ_self _) c4 c5 c6 λt=>?_⟩
 cases hm:z1 t (uW c) with
 |true=>rw[(hb t).1 hm];trivial
 |false=>rw[(hb t).2 hm];exact ER.hZ c7 (hf t) (hf t)
end
end Go.Ee
