/- Part of the proof of CheckTrees: plain laws and steps of its walks, for all arguments. -/
import Derived.Test.YtdjkoddnnogejaaGreatZEh
set_option linter.unusedSimpArgs false
set_option linter.unusedVariables false
set_option linter.unusedSectionVars false
namespace Go.Ee
section
open Go.Vv
variable{P:Program} {ρ ρ0:NM} {s:SH} {h h0:aa}
theorem dO {N:Fm}:∀(c:Code) {Q Q':VX->Fr->aa->Prop},(∀x f h,Q x f h->Q' x f h)->∀f h,gB P N c Q f h->gB P N c Q' f h:=by
 intro c
 induction c with
 |skip=>intro Q Q' hq f h hv;exact hq _ _ _ hv
 |label=>intro Q Q' hq f h hv;exact hq _ _ _ hv
 |exit=>intro Q Q' hq f h hv;exact hq _ _ _ hv
 |ret=>intro Q Q' hq f h hv;exact hq _ _ _ hv
 |rangeFunc=>intro Q Q' hq f h hv;exact hv.elim
 |goto=>intro Q Q' hq f h hv;exact hv.elim
 |refuse=>intro Q Q' hq f h hv;exact hv.elim
 |scope=>intro Q Q' hq f h hv;exact hv.elim
 |region id ops d=>
  intro Q Q' hq f h hv
  cases d with
  |true=>
   intro F n hF G w a t hr hf
   refine qs ?_ _ _ _ (hv F n hF G w a t hr hf)
   rintro e a w' ⟨h1,x,fr',h',G',h2,h3⟩
   exact⟨h1,x,fr',h',G',hq _ _ _ h2,h3⟩
  |false=>
   have key:∀(l:List Oper) f h,o6 P ops Q l f h->o6 P ops Q' l f h:=by
    intro l
    induction l with
    |nil=>intro f h hv;exact hq _ _ _ hv
    |cons o l ih=>
     intro f h hv
     simp only[o6] at hv⊢
     split
     ·rename_i hw
      rw[if_pos hw] at hv
      have h1:=o8 (K':=o6 P ops Q' l) ih hv
      revert h1
      unfold ez
      split
      ·rintro⟨h2,h3⟩;exact⟨h2,hq _ _ _ h3⟩
      ·split
       ·intro h2;exact h2.mono λr h' hh=>by cases r;exact hh;exact hq _ _ _ hh
       ·exact λh=>h
      ·exact λh=>h
     ·rename_i hw
      rw[if_neg hw] at hv
      exact ih _ _ hv
   exact key _ _ _ hv
 |seq a b iha ihb=>
  intro Q Q' hq f h hv
  refine iha (λx f h hx=>?_) f h hv
  cases x with
  |normal=>obtain⟨fr2,h2,hz,hk⟩:=hx;exact⟨fr2,h2,hz,ihb hq _ _ hk⟩
  |_=>exact hq _ _ _ hx
 |cond c a b iha ihb=>
  intro Q Q' hq f h hv
  simp only[gB] at hv⊢
  split
  ·rename_i t ht
   rw[ht] at hv
   simp only at hv
   split
   ·rename_i h1;rw[if_pos h1] at hv;exact iha hq _ _ hv
   ·rename_i h1;rw[if_neg h1] at hv;exact ihb hq _ _ hv
  ·rename_i hn
   split at hv
   ·rename_i t ht;exact absurd ht (hn t)
   ·exact hv
 |block id c ih=>
  intro Q Q' hq f h hv
  refine ih (λx f h hx=>?_) f h hv
  cases x with
  |exit i=>
   simp only[VX.inBlock] at hx⊢
   split
   ·rename_i h1;rw[if_pos h1] at hx;exact hq _ _ _ hx
   ·rename_i h1;rw[if_neg h1] at hx;exact hq _ _ _ hx
  |_=>exact hq _ _ _ hx
 |loop c ih=>
  intro Q Q' hq f h hv
  obtain⟨n,hn⟩:=hv
  refine⟨n,?_⟩
  have key:∀n f h,na (gB P N c) Q n f h->na (gB P N c) Q' n f h:=by
   intro n
   induction n with
   |zero=>intro f h hh;exact hh
   |succ n ih2=>
    intro f h hh
    refine ih (λx f h hx=>?_) f h hh
    cases x with
    |normal=>exact ih2 _ _ hx
    |_=>exact hq _ _ _ hx
  exact key n f h hn
def XE (ρ:NM):EX->VX->Prop
 |.normal,.normal=>True
 |.exit i,.exit j=>i=j
 |.ret,.ret=>True
 |.panic y,.panic v=>ER ρ y v
 |_,_=>False
def VQ (ρ0:NM) (h0:aa) (Q:EQ):VX->Fr->aa->Prop:=λx vfr h=>∃e fr s ρ,Q e fr s/\XE ρ e x/\jN ρ fr vfr/\SR ρ s h/\ch ρ0 h0 ρ h
theorem VQ.trans {Q:EQ} (he:ch ρ0 h0 ρ h) {x:VX} {f:Fr} {h':aa} (hq:VQ ρ h Q x f h'):VQ ρ0 h0 Q x f h':=by
 obtain⟨e,fr,s,ρ',h1,h2,h3,h4,h5⟩:=hq
 exact⟨e,fr,s,ρ',h1,h2,h3,h4,he.trans h5⟩
structure SL (P:Program) (N:Fm) (c:Code) (Q:EQ) (fr:SF) (s:SH):Prop where
 run:∀ρ h vfr,SR ρ s h->jN ρ fr vfr->gB P N (.loop c) (VQ ρ h Q) vfr h
theorem jN.tell {fr:SF} {vfr:Fr} (hf:jN ρ fr vfr) {t:Nat} {b:Bool} (ht:vfr.at t=.bool b):jN ρ ((t,.b b)::fr) vfr:=λn=>by
 simp only[gO,al]
 by_cases e:n=t
 ·subst e;rw[if_pos rfl,ht];exact⟨rfl,rfl⟩
 ·rw[if_neg e];exact hf n
theorem wX {ops:Array Oper} {o:Oper} {fr:SF} {vfr:Fr} {k1 k2:SF->Prop} (hf:jN ρ fr vfr) (hk:wW ops.toList o.guard fr k1 k2):∃fr',jN ρ fr' vfr/\((cf ops vfr o=true/\k1 fr')\/(cf ops vfr o=false/\k2 fr')):=by
 unfold wW at hk
 split at hk
 ·rename_i hg;exact⟨fr,hf,.inl ⟨by simp[cf,Region.wanted,hg],hk⟩⟩
 ·rename_i j b hg
  obtain⟨o',h1,h2⟩:=bV hk
  obtain⟨d,h3,h4⟩:=bV h2
  rw[lz] at h1
  have hc:s6 ops o=some (some (d,b)):=by
   unfold s6
   have:ops[j]?=some o':=by simpa using h1
   simp[hg,this,h3]
  rw[Qg hc]
  have hd:=hf d
  have hw:∀t,vfr.at d=.bool t->TL (some (d,b)) vfr=(t==b):=λt ht=>by simp only[TL,ht]
  split at h4
  ·rename_i v ht
   rw[ht] at hd
   have hd:vfr.at d=.bool v:=hd.1
   rw[hw v hd]
   cases b<;>rcases sR h4 with⟨rfl,h6⟩|⟨rfl,h6⟩
   ·exact⟨_,hf.tell hd,.inr ⟨rfl,h6⟩⟩
   ·exact⟨_,hf.tell hd,.inl ⟨rfl,h6⟩⟩
   ·exact⟨_,hf.tell hd,.inl ⟨rfl,h6⟩⟩
   ·exact⟨_,hf.tell hd,.inr ⟨rfl,h6⟩⟩
  ·rename_i ht
   rw[ht] at hd
   obtain⟨m,hd,_⟩:=hd
   have:TL (some (d,b)) vfr=false:=by simp only[TL,hd]
   rw[this]
   exact⟨fr,hf,.inr ⟨rfl,h4⟩⟩
  ·exact h4.elim
theorem x3 {fr:SF} {vfr:Fr} (hf:jN ρ fr vfr) {d:Option Tmp} {k:SF->Prop} (hk:kO fr d (.bR []) k):∃fr',jN ρ fr' (put vfr d .undef)/\k fr':=hf.put (x:=.bR []) ⟨[],rfl,trivial⟩ hk
theorem Bj {ops:Array Oper} {Q:EQ}:∀(l:List Oper) (fr:SF) (s:SH) (ρ:NM) (h:aa) (vfr:Fr),GK P (SC P) ops.toList Q l fr s->SR ρ s h->jN ρ fr vfr->ch ρ0 h0 ρ h->o6 P ops (VQ ρ0 h0 Q) l vfr h:=by
 intro l
 induction l with
 |nil=>intro fr s ρ h vfr hk hs hf he;exact⟨.normal,fr,s,ρ,hk,trivial,hf,hs,he⟩
 |cons o l ih=>
  intro fr s ρ h vfr hk hs hf he
  obtain⟨d,op,ty,pos,af,gd⟩:=o
  simp only[o6]
  rw[ET] at hk
  obtain⟨fr,hf,⟨h1,h2⟩|⟨h1,h2⟩⟩:=wX (o:=⟨d,op,ty,pos,af,gd⟩) hf hk
  ·rw[if_pos h1]
   refine kD (o:=⟨d,op,ty,pos,af,gd⟩) h2 hs hf (λy s' ρ' v h' a1 a2 a3 a4=>?_) λy s' ρ' v h' a1 a2 a3 a4=>?_
   ·obtain⟨fr',b1,b2⟩:=(hf.mono a4.le).put a2 a1
    exact ih fr' s' ρ' h' _ b2 a3 b1 (he.trans a4)
   ·exact⟨_,fr,s',ρ',a1,a2,hf.mono a4.le,a3,he.trans a4⟩
  ·rw[if_neg (by simp[h1])]
   obtain⟨fr',b1,b2⟩:=x3 hf h2
   exact ih fr' s ρ h _ b2 hs b1 he
theorem rF {op:Op} {vfr:Fr} {v:VV} {h':aa} (hm:bU op=true) (hn:cR op=false) (hv:rR P op vfr h=some (v,h')):aK P op vfr h=some v/\h'=h:=by
 unfold rR at hv
 split at hv
 ·rename_i u hu;cases hv;exact⟨hu,rfl⟩
 ·exfalso
  split at hv
  ·rename_i f x hx
   have:=uU hx
   rw[hn] at this;cases this
  ·unfold iI at hv
   split at hv<;>first|(simp[bU,cR] at hm;done)|(cases hv;done)|skip
   all_goals simp[bU,cR] at hm
theorem BW {op:Op} {vfr:Fr} {v:VV} {h':aa} (hn:cR op=true) (hv:rR P op vfr h=some (v,h')):∃f x,fT P op vfr=some (f,x)/\v=f h.next/\h'=h.push x:=by
 unfold rR at hv
 rw[FV _ _ hn] at hv
 simp only at hv
 split at hv
 ·rename_i f x hx;cases hv;exact⟨f,x,hx,rfl,rfl⟩
 ·exfalso
  unfold iI at hv
  split at hv<;>first|(simp[cR] at hn;done)|(cases hv;done)|skip
  all_goals simp[cR] at hn
theorem Fa {o:Oper} {vfr:Fr} {K:Fr->aa->Prop} {Q:VX->Fr->aa->Prop} (hm:bU o.op=true) (hv:ez P o vfr h K Q):dB P o vfr h K:=by
 unfold ez at hv
 split at hv
 ·rename_i x hop;rw[hop] at hm;simp[bU,cR] at hm
 ·rename_i c hop
  have hcal:∀f,c.callee≠.value f:=λf e=>by
   rw[hop] at hm
   obtain⟨cl,as,ts⟩:=c
   simp only at e
   subst e
   simp[bU,cR] at hm
  have e1:dH vfr c=none:=by
   unfold dH
   split
   ·rename_i f hf;exact absurd hf (hcal f)
   ·rfl
  have e2:jK vfr c=none:=by
   unfold jK
   split
   ·rename_i f hf;exact absurd hf (hcal f)
   ·rfl
  simp only[e1,e2] at hv
  exact hv
 ·exact hv
theorem qO {o:Oper} {fr:SF} {vfr:Fr} {Q:EQ} {k:EK} (hm:bU o.op=true) (hk:EP P (SC P) o.op fr s Q k) (hs:SR ρ s h) (hf:jN ρ fr vfr):
 ∃y s' ρ' v h',k y s'/\rR P o.op vfr h=some (v,h')/\ER ρ' y v/\SR ρ' s' h'/\ch ρ h ρ' h':=by
 obtain⟨d,op,ty,pos,af,gd⟩:=o
 have h1:=Fa (o:=⟨some 0,op,ty,pos,af,gd⟩) hm (kD (o:=⟨some 0,op,ty,pos,af,gd⟩) (K:=λf' h'=>∃y s' ρ',k y s'/\ER ρ' y (f'.at 0)/\SR ρ' s' h'/\ch ρ h ρ' h') (Qv:=λ_ _ _=>True) hk hs hf
  (λy s' ρ' v h' a1 a2 a3 a4=>⟨y,s',ρ',a1,by simpa[put,Fr.dY] using a2,a3,a4⟩) (λ_ _ _ _ _ _ _ _ _=>trivial))
 unfold dB at h1
 split at h1
 ·rename_i v h' hop
  obtain⟨y,s',ρ',a1,a2,a3⟩:=h1
  exact⟨y,s',ρ',v,h',a1,hop,by simpa[put,Fr.dY] using a2,a3⟩
 ·exact h1.elim
theorem GH (hs:SR ρ s h) {x:FC} {v w:VV} (hd:LF s x=true) (hv:FR ρ x v) (hw:FR ρ x w):v=w:=by
 have key:∀o,(ay s.bp o).isSome=true->ρ o≠.dead:=λo ho=>by
  obtain⟨y,hy⟩:=Option.isSome_iff_exists.1 ho
  exact hs.live hy
 cases x with
 |p x=>exact hv.1.trans hw.1.symm
 |ptr o off|ep o e i j|ref o len e cap|mp o=>
  have:=key _ hd
  simp only[FR] at hv hw
  split at hv<;>first|exact hv.elim|(exact absurd ‹_› this)|(rename_i h1;simp only[h1] at hw;first|exact hv.trans hw.symm|exact hv.1.trans hw.1.symm)
theorem wD (hs:SR ρ s h):∀{l:List FC} {m n:List VV},my s l=true->dP ρ l m->dP ρ l n->m=n
 |[],[],[],_,_,_=>rfl
 |x::l,v::m,w::n,hd,h1,h2=>by
  simp only[my] at hd
  split at hd
  ·rename_i h3;rw[GH hs h3 h1.1 h2.1,wD hs hd h1.2 h2.2]
  ·cases hd
theorem PX (hs:SR ρ s h) {x:EV} {v w:VV} (hd:PW s x=true) (hv:ER ρ x v) (hw:ER ρ x w):v=w:=by
 cases x with
 |f x=>exact GH hs hd hv hw
 |agg cs=>obtain⟨l,rfl,h1⟩:=hv;obtain⟨m,rfl,h2⟩:=hw;rw[wD hs hd h1 h2]
 |_=>cases hd
def yL (ρ:NM) (ids:List (Nat×Nat)) (vids:List (Nat×Nat)):Prop:=∀p n,ay ids p=some n->∃i,vids.lookup p=some i/\(ρ n=.at i\/ρ n=.dead)
theorem yL.mono {ρ':NM} {ids vids:List (Nat×Nat)} (hl:ρ.Le ρ') (hi:yL ρ ids vids):yL ρ' ids vids:=λp n hn=>by
 obtain⟨i,h1,h2⟩:=hi p n hn
 refine⟨i,h1,?_⟩
 rcases hl n with h3|h3|h3
 ·rcases h2 with h2|h2<;>rw[h3] at h2<;>cases h2
 ·rcases h2 with h2|h2
  ·exact .inl (h3.trans h2)
  ·exact .inr (h3.trans h2)
 ·exact .inr h3
theorem ue {ops:Array Oper} {ids vids:List (Nat×Nat)} {fr':SF} {vfr':Fr} {ρ':NM} {s':SH} {h':aa} {k:Prop} (hs:SR ρ s h) (hs':SR ρ' s' h') (hf':jN ρ' fr' vfr') (hl:ρ.Le ρ') (hi:yL ρ ids vids):
 ∀l:List Nat,m6 P (SC P) ops.toList ids s fr' s' l k->ni P ops vids h vfr' h' l/\k
 |[],hk=>⟨trivial,hk⟩
 |p::l,hk=>by
  rw[AB] at hk
  obtain⟨o,h1,h2⟩:=bV hk
  rw[lz] at h1
  have ho:aA ops p=o:=by
   have:ops[p]?=some o:=by simpa using h1
   simp[aA,Array.getD_eq_getD_getElem?,this]
  obtain⟨_,_,⟨h3,h4⟩|⟨h3,h4⟩⟩:=wX (o:=o) hf' h2
  ·have hv:gA P ops vids h vfr' h' p/\m6 P (SC P) ops.toList ids s fr' s' l k:=by
    unfold gA
    rw[ho,if_pos h3]
    split at h4
    ·rename_i hn
     rw[if_pos hn]
     obtain⟨n,a1,a2⟩:=bV h4
     obtain⟨x,a3,a4,a5⟩:=bV a2
     obtain⟨a6,a7⟩:=eZ a5
     refine⟨?_,a7⟩
     obtain⟨i,b1,b2⟩:=hi _ _ a1
     simp only[b1]
     have hlv:=hs.live a4
     have b2:=b2.resolve_right hlv
     have b3:ρ' n=.at i:=by
      rcases hl n with c|c|c
      ·rw[c] at b2;cases b2
      ·exact c.trans b2
      ·exact absurd c (hs'.live a3)
     cases x with
     |cells c=>
      obtain⟨m,d1,d2⟩:=hs.cells a4 b2
      obtain⟨m',d3,d4⟩:=hs'.cells a3 b3
      rw[d1,d3,wD hs' a6 (d2.mono hl) d4]
     |arr e rs n=>rw[(hs.arr a4 b2).1,(hs'.arr a3 b3).1]
     |map es=>
      obtain⟨j,d1,d2⟩:=hs.obj _ _ a4
      obtain⟨j',d3,d4⟩:=hs'.obj _ _ a3
      rw[b2] at d1;cases d1
      rw[b3] at d3;cases d3
      rw[d2,d4]
    ·rename_i hn
     split at h4
     ·rename_i hm
      rw[if_neg (by simp[hn])]
      obtain⟨y,s2,ρ2,v,h2',c1,c2,c3,c4,c5⟩:=qO hm h4 hs' hf'
      obtain⟨c6,rfl⟩:=rF hm hn c2
      simp only[c6]
      split at c1
      ·rename_i d hd
       obtain⟨c7,c8⟩:=c1
       obtain⟨c9,c10⟩:=eZ c8
       refine⟨?_,c10⟩
       try simp only[hd]
       subst c7
       exact PX c4 c9 c3 ((hf' d).mono c5.le)
      ·rename_i hd
       try simp only[hd]
       exact⟨trivial,c1⟩
     ·exact h4.elim
   obtain⟨h5,h6⟩:=ue hs hs' hf' hl hi l hv.2
   exact⟨⟨hv.1,h5⟩,h6⟩
  ·obtain⟨h5,h6⟩:=ue hs hs' hf' hl hi l h4
   refine⟨⟨?_,h5⟩,h6⟩
   unfold gA
   rw[ho,if_neg (by simp[h3])]
   trivial
theorem yL.cons {ids vids:List (Nat×Nat)} (hi:yL ρ ids vids) {i n j:Nat} (hn:ρ n=.at j\/ρ n=.dead):yL ρ ((i,n)::ids) ((i,j)::vids):=λp m hm=>by
 rw[al] at hm
 by_cases e:p=i
 ·subst e
  simp at hm;subst hm
  exact⟨j,by simp[List.lookup],hn⟩
 ·rw[if_neg e] at hm
  obtain⟨k,h1,h2⟩:=hi p m hm
  exact⟨k,by simp[List.lookup,show(p==i)=false from by simpa using e,h1],h2⟩
theorem FU {op:Op} {vfr:Fr} {f:Nat->VV} {x:dC} (hv:fT P op vfr=some (f,x)):∀o,f o=.ptr o 0\/f o=.map o\/∃a b c,f o=.ref o 0 a b c:=by
 unfold fT at hv
 intro o
 split at hv
 ·cases hz:eA P _<;>rw[hz] at hv<;>simp at hv
  exact .inl (by rw[<-hv.1])
 ·split at hv
  ·cases hv
  ·cases hv;exact .inl rfl
 ·cases hv;exact .inr (.inl rfl)
 ·unfold lV at hv
  split at hv
  ·split at hv
   ·split at hv
    ·cases hv;exact .inr (.inr ⟨_,_,_,rfl⟩)
    ·cases hv
   ·cases hv
  ·cases hv
 ·cases hv
theorem EN {ops:Array Oper} {Q:EQ}:∀(l:az) (ids vids:List (Nat×Nat)) (fr:SF) (s:SH) (ρ:NM) (h:aa) (vfr:Fr),W1 P (SC P) ops.toList Q l ids fr s->SR ρ s h->jN ρ fr vfr->ch ρ0 h0 ρ h->yL ρ ids vids->
 Ct P ops (VQ ρ0 h0 Q) l vids vfr h:=by
 intro l
 induction l with
 |nil=>intro ids vids fr s ρ h vfr hk hs hf he hi;exact⟨.normal,fr,s,ρ,hk,trivial,hf,hs,he⟩
 |cons ip l ih=>
  obtain⟨i,cK⟩:=ip
  intro ids vids fr s ρ h vfr hk hs hf he hi
  obtain⟨o,h1,h2⟩:=bV hk
  rw[lz] at h1
  have ho:aA ops i=o:=by
   have:ops[i]?=some o:=by simpa using h1
   simp[aA,Array.getD_eq_getD_getElem?,this]
  obtain⟨d,op,ty,pos,af,gd⟩:=o
  simp only at h2
  simp only[Ct,ho]
  obtain⟨fr,hf,⟨h3,h4⟩|⟨h3,h4⟩⟩:=wX (o:=⟨d,op,ty,pos,af,gd⟩) hf h2
  ·rw[if_pos h3]
   split at h4
   ·rename_i hm
    rw[if_pos hm]
    split at h4
    ·rename_i hn
     rw[if_pos hn]
     obtain⟨y,s',ρ',v,h',a1,a2,a3,a4,a5⟩:=qO (o:=⟨d,op,ty,pos,af,gd⟩) hm h4 hs hf
     obtain⟨f,x,b1,rfl,rfl⟩:=BW hn a2
     simp only[b1]
     have hnm:=FU b1 h.next
     split at a1
     ·rename_i n off
      obtain⟨fr',c1,c2⟩:=(hf.mono a5.le).put a3 a1
      refine ih _ _ _ _ _ _ _ c2 a4 c1 (he.trans a5) ((hi.mono a5.le).cons ?_)
      simp only[ER,FR] at a3
      split at a3
      ·rename_i j hj
       rcases hnm with e|e|⟨_,_,_,e⟩<;>rw[e] at a3<;>cases a3
       exact .inl hj
      ·rename_i hj;exact .inr hj
      ·exact a3.elim
     ·rename_i n a b c
      obtain⟨fr',c1,c2⟩:=(hf.mono a5.le).put a3 a1
      refine ih _ _ _ _ _ _ _ c2 a4 c1 (he.trans a5) ((hi.mono a5.le).cons ?_)
      simp only[ER,FR] at a3
      split at a3
      ·rename_i j hj
       rcases hnm with e|e|⟨_,_,_,e⟩<;>rw[e] at a3<;>cases a3
       exact .inl hj
      ·obtain⟨a3,_⟩:=a3
       rcases hnm with e|e|⟨_,_,_,e⟩<;>rw[e] at a3<;>cases a3
      ·rename_i hj;exact .inr hj
      ·exact a3.elim
     ·rename_i n
      obtain⟨fr',c1,c2⟩:=(hf.mono a5.le).put a3 a1
      refine ih _ _ _ _ _ _ _ c2 a4 c1 (he.trans a5) ((hi.mono a5.le).cons ?_)
      simp only[ER,FR] at a3
      split at a3
      ·rename_i j hj
       rcases hnm with e|e|⟨_,_,_,e⟩<;>rw[e] at a3<;>cases a3
       exact .inl hj
      ·rename_i hj;exact .inr hj
      ·exact a3.elim
     ·exact a1.elim
    ·rename_i hn
     rw[if_neg (by simp[hn])]
     obtain⟨y,s',ρ',v,h',a1,a2,a3,a4,a5⟩:=qO (o:=⟨d,op,ty,pos,af,gd⟩) hm h4 hs hf
     obtain⟨b1,rfl⟩:=rF hm hn a2
     simp only[b1]
     obtain⟨fr',c1,c2⟩:=(hf.mono a5.le).put a3 a1
     exact ih _ _ _ _ _ _ _ c2 a4 c1 (he.trans a5) (hi.mono a5.le)
   ·rename_i hm
    rw[if_neg (by simp[hm])]
    refine kD (o:=⟨d,op,ty,pos,af,gd⟩) h4 hs hf (λy s' ρ' v h' a1 a2 a3 a4=>?_) λy s' ρ' v h' a1 a2 a3 a4=>?_
    ·obtain⟨fr',b1,b2⟩:=(hf.mono a4.le).put a2 a1
     obtain⟨c1,c2⟩:=ue hs a3 b1 a4.le hi _ b2
     exact⟨c1,ih _ _ _ _ _ _ _ c2 a3 b1 (he.trans a4) (hi.mono a4.le)⟩
    ·exact⟨_,fr,s',ρ',a1,a2,hf.mono a4.le,a3,he.trans a4⟩
  ·rw[if_neg (by simp[h3])]
   obtain⟨fr',b1,b2⟩:=x3 hf h4
   exact ih _ _ _ _ _ _ _ b2 hs b1 he hi
end
end Go.Ee
