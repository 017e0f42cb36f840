/- Part of the proof of CheckTrees: plain laws and steps of its walks, for all arguments. -/
import Derived.Test.YtdjkoddnnogejaaGreatZEj
set_option linter.unusedSimpArgs false
set_option linter.unusedVariables false
set_option linter.unusedSectionVars false
namespace Go.Ee
section
open Go.Vv
variable{P:Program}
theorem hU (hmix:P.follows .mixedOrders=true) {N:Fm} {T:fI} {pol:vn}:∀(c:Code),aT N c=true->∀{Q:EQ} {fr:SF} {s:SH} {ρ0 ρ:NM} {h0 h:aa} {vfr:Fr},
 er P (SC P) (SL P N) T pol c Q fr s->SR ρ s h->jN ρ fr vfr->ch ρ0 h0 ρ h->gB P N c (VQ ρ0 h0 Q) vfr h:=by
 intro c
 induction c with
 |skip=>intro _ Q fr s ρ0 ρ h0 h vfr hk hs hf he;exact⟨_,fr,s,ρ,hk,trivial,hf,hs,he⟩
 |exit id=>intro _ Q fr s ρ0 ρ h0 h vfr hk hs hf he;exact⟨_,fr,s,ρ,hk,rfl,hf,hs,he⟩
 |ret=>intro _ Q fr s ρ0 ρ h0 h vfr hk hs hf he;exact⟨_,fr,s,ρ,hk,trivial,hf,hs,he⟩
 |label=>intro _ Q fr s ρ0 ρ h0 h vfr hk;exact hk.elim
 |rangeFunc=>intro _ Q fr s ρ0 ρ h0 h vfr hk;exact hk.elim
 |goto=>intro _ Q fr s ρ0 ρ h0 h vfr hk;exact hk.elim
 |refuse=>intro _ Q fr s ρ0 ρ h0 h vfr hk;exact hk.elim
 |scope=>intro _ Q fr s ρ0 ρ h0 h vfr hk;exact hk.elim
 |region id ops d=>
  intro hc Q fr s ρ0 ρ h0 h vfr hk hs hf he
  have hops:∀o∈ops.toList,bd N o=true:=by simp only[aT,List.all_eq_true] at hc;exact hc
  cases d with
  |false=>exact Bj _ _ _ _ _ _ hk hs hf he
  |true=>
   refine oA hmix (λj o ho=>hops o ?_) hk.1 (EN _ [] [] _ _ _ _ _ hk.2 hs hf he λp n hn=>by simp[ay] at hn)
   obtain⟨hj,rfl⟩:=Array.getElem?_eq_some_iff.1 ho
   simp
 |seq a b iha ihb=>
  intro hc Q fr s ρ0 ρ h0 h vfr hk hs hf he
  simp only[aT,Bool.and_eq_true] at hc
  refine dO a (λx f h hx=>?_) _ _ (iha hc.1 hk hs hf he)
  obtain⟨e,fr',s',ρ',h1,h2,h3,h4,h5⟩:=hx
  cases e<;>cases x<;>first|exact h2.elim|skip
  ·obtain⟨fr2,s2,ρ2,vfr2,h2',a1,a2,a3,a4,a5⟩:=Dm _ h1 h4 h3
   exact⟨vfr2,h2',a2,ihb hc.2 a1 a3 a4 (h5.trans a5)⟩
  all_goals exact⟨_,fr',s',ρ',h1,h2,h3,h4,h5⟩
 |cond c a b iha ihb=>
  intro hc Q fr s ρ0 ρ h0 h vfr hk hs hf he
  simp only[aT,Bool.and_eq_true] at hc
  obtain⟨y,h1,h2,_⟩:=gI hf hk
  have ht:∀b (k:SF->Prop),ev vfr c=.bool b->KG fr c b k->∃fr',jN ρ fr' vfr/\k fr':=λb k hb hk=>by
   cases c with
   |tmp t=>exact⟨_,hf.tell hb,hk⟩
   |_=>exact⟨fr,hf,hk⟩
  split at h1
  ·simp only[gB,h2,PV.v]
   rcases sR h1 with⟨rfl,h3⟩|⟨rfl,h3⟩
   ·obtain⟨fr',h4,h5⟩:=ht _ _ h2 h3
    rw[if_pos rfl];exact iha hc.1.2 h5 hs h4 he
   ·obtain⟨fr',h4,h5⟩:=ht _ _ h2 h3
    rw[if_neg (by simp)];exact ihb hc.2 h5 hs h4 he
  ·exact h1.elim
 |block id c ih=>
  intro hc Q fr s ρ0 ρ h0 h vfr hk hs hf he
  refine dO c (λx f h hx=>?_) _ _ (ih hc hk hs hf he)
  obtain⟨e,fr',s',ρ',h1,h2,h3,h4,h5⟩:=hx
  cases e<;>cases x<;>first|exact h2.elim|skip
  case exit.exit i j=>
   have h2:i=j:=h2
   subst h2
   simp only[VX.inBlock]
   cases hb:Nat.beq i id with
   |true=>simp only[hb,cond_true] at h1;rw[if_pos (dT hb)];exact⟨_,fr',s',ρ',h1,trivial,h3,h4,h5⟩
   |false=>simp only[hb,cond_false] at h1;rw[if_neg (pq hb)];exact⟨_,fr',s',ρ',h1,rfl,h3,h4,h5⟩
  all_goals exact⟨_,fr',s',ρ',h1,h2,h3,h4,h5⟩
 |loop c ih=>
  intro hc Q fr s ρ0 ρ h0 h vfr hk hs hf he
  exact dO (.loop c) (λx f h' hx=>VQ.trans he hx) _ _ (hk.run ρ h vfr hs hf)
def J0 (P:Program) (fr:SF) (s:SH) (r:ResultVar) (k:EV->Prop):Prop:=
 match r with
 |.tmp t=>mC (gO fr t) k
 |.cell a t=>S8 (gO fr a) λp=>Ve P t p s λv _=>k v
def Tf (x:EV) (k:TV->Prop):Prop:=match x with|.f x=>k (.f x)|.agg cs=>k (.agg cs)|_=>False
def J1 (P:Program) (fr:SF) (s:SH):List ResultVar->(List TV->Prop)->Prop
 |[],k=>k []
 |r::l,k=>J0 P fr s r λv=>Tf v λv=>J1 P fr s l λm=>k (v::m)
def Ai (P:Program) (fr:SF) (s:SH) (l:List ResultVar) (k:EV->Prop):Prop:=
 match l with
 |[r]=>J0 P fr s r k
 |l=>J1 P fr s l λm=>k (.bR m)
def QB (P:Program) (rs:List ResultVar) (K:aR->SH->Prop):EQ:=λx fr s=>match x with
 |.normal|.ret=>Ai P fr s rs λv=>K (.ret v) s
 |.panic v=>K (.panic v) s
 |.exit _=>False
def zn:List Nat->List EV->(SF->Prop)->Prop
 |_,[],k=>k []
 |i::l,x::m,k=>zn l m λr=>k ((i,x)::r)
 |[],_::_,_=>False
section res
variable{ρ:NM} {s:SH} {h:aa} {fr:SF} {vfr:Fr} (hs:SR ρ s h) (hf:jN ρ fr vfr)
include hs hf
theorem DU {r:ResultVar} {k:EV->Prop} (hk:J0 P fr s r k):∃y v,k y/\ng P vfr h r=some v/\ER ρ y v:=by
 cases r with
 |tmp t=>exact⟨_,_,mD hk,rfl,hf t⟩
 |cell a t=>
  obtain⟨p,h1,h2⟩:=C4 hk
  have h3:=hf a
  rw[h1] at h3
  obtain⟨y,w,h4,h5,h6⟩:=OU h2 hs h3
  exact⟨y,w,h4,h5,h6⟩
theorem xH:∀{l:List ResultVar} {k:List TV->Prop},J1 P fr s l k->∃m vs,k m/\fB P vfr h l=some vs/\A4 ρ m vs/\m.length=l.length
 |[],k,hk=>⟨[],[],hk,rfl,trivial,rfl⟩
 |r::l,k,hk=>by
  obtain⟨y,v,h1,h2,h3⟩:=DU hs hf hk
  unfold Tf at h1
  split at h1
  ·obtain⟨m,vs,h4,h5,h6,h7⟩:=xH (l:=l) (k:=λm=>k (_::m)) h1
   exact⟨_,v::vs,h4,by simp only[fB,h2,h5],⟨h3,h6⟩,by simp[h7]⟩
  ·obtain⟨m,vs,h4,h5,h6,h7⟩:=xH (l:=l) (k:=λm=>k (_::m)) h1
   exact⟨_,v::vs,h4,by simp only[fB,h2,h5],⟨h3,h6⟩,by simp[h7]⟩
  ·exact h1.elim
theorem tU {l:List ResultVar} {k:EV->Prop} (hk:Ai P fr s l k):∃y v,k y/\cT P l vfr h=some v/\ER ρ y v:=by
 unfold Ai at hk
 split at hk
 ·obtain⟨y,v,h1,h2,h3⟩:=DU hs hf hk
  exact⟨y,v,h1,by simp[cT,fB,h2],h3⟩
 ·rename_i hn
  obtain⟨m,vs,h1,h2,h3,h4⟩:=xH hs hf hk
  refine⟨_,.bR vs,h1,?_,vs,rfl,h3⟩
  have hl:∀v,vs≠[v]:=λv e=>by
   subst e
   match m,h3 with
   |[x],_=>
    match l,h4 with
    |[r],_=>exact hn r rfl
  unfold cT
  rw[h2]
  split
  ·rename_i v hv;cases hv;exact absurd rfl (hl v)
  ·rename_i hv;cases hv;rfl
  ·rename_i hv;cases hv
end res
theorem Hf {ρ:NM}:∀{l:List Nat} {xs:List EV} {vs:List VV} {i:Nat} {vfr:Fr} {k:SF->Prop},zn l xs k->qu ρ xs vs->(∀j,j<xs.length->l[j]?=some (i+j))->
 ∃fr,k fr/\∀t,ER ρ (gO fr t) ((eV i vs vfr).at t)
 |l,[],[],i,vfr,k,hk,_,_=>⟨[],by simpa[zn] using hk,λt=>trivial⟩
 |[],_::_,_,_,_,_,hk,_,_=>by simp[zn] at hk
 |m::l,x::xs,v::vs,i,vfr,k,hk,hx,hl=>by
  obtain⟨fr,h1,h2⟩:=Hf (l:=l) (xs:=xs) (vs:=vs) (i:=i+1) (vfr:=Tr.set vfr i v) (k:=λr=>k ((m,x)::r)) hk hx.2 (λj hj=>by
   have:=hl (j+1) (by simpa using hj)
   simp at this⊢
   rw[this];congr 1;omega)
  have hm:m=i:=by simpa using hl 0 (by simp)
  subst hm
  refine⟨_,h1,λt=>?_⟩
  simp only[gO,al]
  by_cases e:t=m
  ·subst e
   rw[if_pos rfl,eV,oB,if_neg (by omega),Fr.dY,if_pos rfl]
   exact hx.1
  ·rw[if_neg e]
   exact h2 t
theorem SC.body (hmix:P.follows .mixedOrders=true) {f:FuncId} {fn:Func} {c:Code} {args:List EV} {s:SH} {K:aR->SH->Prop} (T:fI) (pol:vn) (hf:P.funcs[f]?=some fn) (hb:fn.body=some c) (hc:fD P f args.length=true)
 (hk:zn lH args λfr=>er P (SC P) (SL P ⟨fn.ntmps,[]⟩) T pol c (QB P fn.results.toList K) fr s):SC P f args s K:=by
 refine⟨λρ h vargs hs ha=>?_⟩
 have hlen:∀(a:List EV) (b:List VV),qu ρ a b->a.length=b.length:=by
  intro a
  induction a with
  |nil=>intro b hb;cases b with|nil=>rfl|cons=>exact hb.elim
  |cons x a ih=>intro b hb;cases b with|nil=>exact hb.elim|cons y b=>simp[ih b hb.2]
 have hl:=hlen _ _ ha
 rw[hl] at hc
 have hcc:aT ⟨fn.ntmps,[]⟩ c=true:=by
  unfold fD at hc
  simp only[hf,hb,Bool.and_eq_true] at hc
  exact hc.1.2
 refine jF hc ?_
 unfold qi
 simp only[hf,hb]
 have hlt:∀(l:List Nat) (a:List EV) (k:SF->Prop),zn l a k->a.length<=l.length:=by
  intro l
  induction l with
  |nil=>intro a k hk;cases a with|nil=>simp|cons=>exact hk.elim
  |cons m l ih=>intro a k hk;cases a with|nil=>simp|cons x a=>simpa using ih a _ hk
 obtain⟨fr,h1,h2⟩:=Hf (i:=0) (vfr:=.nil) hk ha (λj hj=>by
  have:=hlt _ _ _ hk
  have hj':j<lH.length:=by omega
  have key:∀j,j<lH.length->lH[j]?=some (0+j):=by decide
  exact key j hj')
 refine dO c (λx vfr' h' hx=>?_) _ _ (hU hmix c hcc h1 hs h2 (.refl ρ h))
 obtain⟨e,fr',s',ρ',a1,a2,a3,a4,a5⟩:=hx
 cases e<;>cases x<;>first|exact a2.elim|exact a1.elim|skip
 ·obtain⟨y,v,b1,b2,b3⟩:=tU a4 a3 a1
  simp only[jf,b2]
  exact⟨_,s',ρ',b1,b3,a4,a5⟩
 ·obtain⟨y,v,b1,b2,b3⟩:=tU a4 a3 a1
  simp only[jf,b2]
  exact⟨_,s',ρ',b1,b3,a4,a5⟩
 ·exact⟨_,s',ρ',a1,a2,a4,a5⟩
end
end Go.Ee
