/- Part of the proof of CheckTrees: plain laws and steps of its walks, for all arguments. -/
import Derived.Test.YtdjkoddnnogejaaGreatZEg
set_option linter.unusedSimpArgs false
set_option linter.unusedVariables false
set_option linter.unusedSectionVars false
namespace Go.Ee
section
open Go.Vv
structure SC (P:Program) (f:FuncId) (args:List EV) (s:SH) (R:aR->SH->Prop):Prop where
 run:∀ρ h vargs,SR ρ s h->qu ρ args vargs->bA P f vargs h λr h'=>∃e s' ρ',R e s'/\EE ρ' e r/\SR ρ' s' h'/\ch ρ h ρ' h'
variable{P:Program} {ρ:NM} {s:SH} {h:aa}
theorem dh {o:Oper} {vfr:Fr} {v:VV} {h':aa} {K:Fr->aa->Prop} (hop:rR P o.op vfr h=some (v,h')) (hK:K (put vfr o.dst v) h'):dB P o vfr h K:=by
 unfold dB;rw[hop];exact hK
theorem qn {op:Op} {vfr:Fr} {v:VV} (hr:aK P op vfr h=some v):rR P op vfr h=some (v,h):=by unfold rR;rw[hr]
theorem kD {o:Oper} {fr:SF} {vfr:Fr} {Q:EQ} {k:EK} {K:Fr->aa->Prop} {Qv:VX->Fr->aa->Prop} (hk:EP P (SC P) o.op fr s Q k) (hs:SR ρ s h) (hf:jN ρ fr vfr)
 (hK:∀y s' ρ' v h',k y s'->ER ρ' y v->SR ρ' s' h'->ch ρ h ρ' h'->K (put vfr o.dst v) h')
 (hQ:∀y s' ρ' v h',Q (.panic y) fr s'->ER ρ' y v->SR ρ' s' h'->ch ρ h ρ' h'->Qv (.panic v) vfr h'):ez P o vfr h K Qv:=by
 obtain⟨d,op,ty,pos,af,gd⟩:=o
 simp only at hk hK hQ
 have rd:∀{v:VV} {y:EV},aK P op vfr h=some v->k y s->ER ρ y v->dB P ⟨d,op,ty,pos,af,gd⟩ vfr h K:=λhr hk hy=>
  dh (o:=⟨d,op,ty,pos,af,gd⟩) (qn hr) (hK _ _ _ _ _ hk hy hs (.refl ρ h))
 cases op with
 |move x=>obtain⟨y,h1,h2⟩:=gH hf hk;exact rd rfl h1 h2
 |assign x=>obtain⟨y,h1,h2⟩:=gH hf hk;exact rd rfl h1 h2
 |pick c a b=>
  obtain⟨y,h1,h2,_⟩:=gI hf hk
  cases y with
  |bool t=>
   rcases sR h1 with⟨rfl,h3⟩|⟨rfl,h3⟩<;>obtain⟨y,h4,h5⟩:=gH hf h3
   ·exact rd (by simp[aK,h2,PV.v]) h4 h5
   ·exact rd (by simp[aK,h2,PV.v]) h4 h5
  |_=>exact h1.elim
 |alloc t=>
  have key:∀(c:List FC) (z:VV),eA P t=some z->dP ρ c z.cells->(oO s (.cells c) λn s=>k (.f (.ptr n 0)) s)->dB P ⟨d,.alloc t,ty,pos,af,gd⟩ vfr h K:=λc z hz hc hn=>by
   obtain⟨n,s',ρ',h1,h2,h3,h4⟩:=hs.new hn (y:=.cells z.cells) λρ' h' n hl hn hg=>⟨_,_,hn,hg,hc.mono hl⟩
   exact dh (o:=⟨d,.alloc t,ty,pos,af,gd⟩) (v:=.ptr h.next 0) (h':=h.push (.cells z.cells)) (by simp[rR,aK,fT,hz]) (hK _ _ _ _ _ h1 (by simp only[ER,FR,h2]) h3 h4)
  rcases l6 (by exact hk:oG P t (λz=>oO s (.cells [z]) λn s=>k (.f (.ptr n 0)) s) λz=>oO s (.cells z) λn s=>k (.f (.ptr n 0)) s) with⟨x,h1,h2,h3⟩|⟨l,h1,h2,h3⟩
  ·have:FR ρ (.p x) x.v:=⟨rfl,h3⟩
   exact key [.p x] _ h2 (by rw[jc this.one];exact⟨this,trivial⟩) h1
  ·exact key _ _ h2 (.pure ρ h3) h1
 |makeSlice t l c=>
  obtain⟨et,h1,h2⟩:=bV hk
  obtain⟨e',h3,h4,h5⟩:=zh h2
  rw[h1] at h3;cases h3
  obtain⟨lv,h6,h7,_⟩:=gI hf h4
  obtain⟨cv,h8,h9,_⟩:=gI hf h6
  cases lv with
  |int kl l'=>
   cases cv with
   |int kc c'=>
     obtain⟨h10,z,hz1,hz2⟩:=CT h8
     obtain⟨⟨b0,b1,b2,b3⟩,h11⟩:=wq h10
     subst b0
     have key:∀r:List PV,r.map PV.v=z.cells->sW r->(oO s (.arr (cE P et) (List.replicate l'.toNat r) false) λn s=>k (.f (.ref n l'.toNat (cE P et) (some l'.toNat))) s)->dB P ⟨d,.makeSlice t l c,ty,pos,af,gd⟩ vfr h K:=λr hr hp hn=>by
      have hlen:r.length=cE P et:=by rw[<-hz2,<-hr,List.length_map]
      obtain⟨n,s',ρ',a1,a2,a3,a4⟩:=hs.new hn (y:=.cells (ck (List.replicate l'.toNat r))) λρ' h' n hl hn hg=>⟨⟨by omega,λq hq=>by rw[(List.mem_replicate.1 hq).2];exact⟨hlen,hp⟩⟩,.inr ⟨λ_=>rfl,_,hn,hg⟩⟩
      refine dh (o:=⟨d,.makeSlice t l c,ty,pos,af,gd⟩) (v:=.ref h.next 0 l'.toNat (cE P et) (some l'.toNat)) (h':=h.push (.cells (ck (List.replicate l'.toNat r)))) ?_ (hK _ _ _ _ _ a1 (by simp only[ER,FR,a2]) a3 a4)
      simp only[rR,aK,fT,lV,h1,h7,h9,PV.v,hz1]
      rw[if_pos ⟨b1,Int.le_refl _,b2,b3,hz2,h5⟩]
      simp[ck,hr]
     rcases l6 h11 with⟨x,a1,a2,a3⟩|⟨r,a1,a2,a3⟩
     ·rw[hz1] at a2;cases a2
      have hx:FR ρ (.p x) x.v:=⟨rfl,a3⟩
      obtain⟨r,c1,c2,c3,c4⟩:=oR a1 (show dP ρ [.p x] [x.v] from⟨hx,trivial⟩)
      replace c1:=c1.run;try dsimp only at c1
      exact key r (by rw[jc hx.one,c3]) c4 c1
     ·rw[hz1] at a2;cases a2
      obtain⟨q,c1,c2,c3,c4⟩:=oR a1 (dP.pure ρ a3)
      replace c1:=c1.run;try dsimp only at c1
      exact key q (by rw[<-c3];rfl) c4 c1
   |_=>exact h8.elim
  |_=>exact h8.elim
 |box t x=>
  obtain⟨y,h1,h2⟩:=gH hf hk
  obtain⟨c,h3,h4,h5⟩:=pw h1 h2
  obtain⟨n,s',ρ',a1,a2,a3,a4⟩:=hs.new h3 (y:=.cells (ev vfr x).cells) λρ' h' n hl hn hg=>⟨_,_,hn,hg,h4.mono hl⟩
  exact dh (o:=⟨d,.box t x,ty,pos,af,gd⟩) (v:=.ptr h.next 0) (h':=h.push (.cells (ev vfr x).cells)) (by simp[rR,aK,fT,h5]) (hK _ _ _ _ _ a1 (by simp only[ER,FR,a2]) a3 a4)
 |build t ps=>
  obtain⟨r,h1,h2⟩:=qF hf hk
  obtain⟨pl,h3,h4⟩:=bV h1
  rcases l6 h4 with⟨x,h5,_⟩|⟨l,h5,h6,h7⟩
  ·exact h5.elim
  ·obtain⟨c',l',a1,a2,a3⟩:=wL h5 h2 (dP.pure ρ h7)
   rw[B2] at h3
   refine rd (v:=.agg l') ?_ a1 ⟨l',rfl,a3⟩
   simp only[aK,yb,h3,h6,VV.cells]
   have e:(λi=>EM pl i)=λi=>pl[i]?:=funext λi=>lz pl i
   rw[e] at a2
   rw[a2];rfl
 |buildSlice t n ps=>
  obtain⟨r,h1,h2⟩:=qF hf hk
  obtain⟨et,h3,h4⟩:=bV h1
  obtain⟨e',h5,h6,h7⟩:=zh h4
  rw[h3] at h5;cases h5
  obtain⟨h8,h9⟩:=eZ h6
  have h8:=Nat.le_of_ble_eq_true h8
  obtain⟨h10,z,hz1,hz2⟩:=CT h9
  rcases l6 h10 with⟨x,a1,a2,a3⟩|⟨l,a1,a2,a3⟩
  ·rw[hz1] at a2;cases a2
   have hx:FR ρ (.p x) x.v:=⟨rfl,a3⟩
   have hc:∀n,dP ρ (List.replicate n (.p x)) (List.replicate n (x.v).cells).flatten:=λn=>by
    rw[jc hx.one]
    induction n with
    |zero=>trivial
    |succ n ih=>simp only[List.replicate_succ,List.flatten_cons,List.singleton_append];exact⟨hx,ih⟩
   obtain⟨es,b1,b2⟩:=Ov h3 hz1 hz2 h7 h8 (hc n) h2 a1
   exact rd (v:=.vs (PV.n7 es) (some n)) (by simpa[aK] using b2) b1 ⟨(nI _ _).symm,rfl⟩
  ·rw[hz1] at a2;cases a2
   have hc:∀n,dP ρ (List.replicate n (l.map .p)).flatten (List.replicate n (VV.agg (l.map PV.v)).cells).flatten:=λn=>by
    induction n with
    |zero=>trivial
    |succ n ih=>simpa[List.replicate_succ,VV.cells] using(dP.pure ρ a3).append ih
   obtain⟨es,b1,b2⟩:=Ov h3 hz1 hz2 h7 h8 (hc n) h2 a1
   exact rd (v:=.vs (PV.n7 es) (some n)) (by simpa[aK] using b2) b1 ⟨(nI _ _).symm,rfl⟩
 |load t a=>
  obtain⟨p,h1,h2⟩:=jr hf hk
  obtain⟨y,w,h3,h4,h5⟩:=OU h1 hs h2
  exact rd (by simpa[aK] using h4) h3 h5
 |store t a v=>
  obtain⟨p,h1,h2⟩:=jr hf hk
  obtain⟨x,h3,h4⟩:=gH hf h1
  obtain⟨s',h',h5,h6,h7,h8⟩:=UR h3 hs h2 h4
  exact dh (o:=⟨d,.store t a v,ty,pos,af,gd⟩) (v:=.undef) (h':=h') (by simp[rR,aK,fT,iI,h6]) (hK _ _ _ _ _ h5 trivial h7 h8)
 |nilCheck x=>
  obtain⟨y,h1,h2⟩:=jr hf hk
  split at h1
  ·rename_i a b
   have:∃i,ev vfr x=.ptr i b:=by
    simp only[FR] at h2;split at h2<;>first|exact⟨_,h2⟩|exact h2|exact h2.elim
   obtain⟨i,hi⟩:=this
   exact rd (v:=ev vfr x) (by simp[aK,gS,hi]) h1 h2
  ·rename_i a b c e
   have:∃i,ev vfr x=.ptr i (c*b+e):=by
    simp only[FR] at h2;split at h2<;>first|exact⟨_,h2⟩|exact h2|exact h2.elim
   obtain⟨i,hi⟩:=this
   exact rd (v:=ev vfr x) (by simp[aK,gS,hi]) h1 h2
  ·obtain⟨h3,h4⟩:=h2
   exact rd (v:=ev vfr x) (by simp[aK,gS,h3,PV.v]) h1 ⟨h3,h4⟩
  ·exact h1.elim
 |binOp op t x y t'=>
  obtain⟨a,h1,h2⟩:=gH hf hk
  obtain⟨b,h3,h4⟩:=gH hf h1
  split at h3
  ·obtain⟨la,e1,f1⟩:=h2
   obtain⟨lb,e2,f2⟩:=h4
   obtain⟨ts,h5,h6⟩:=h3.run
   obtain⟨r,h7,h8⟩:=OC h6 f1 f2
   obtain⟨r',h9,h10⟩:=pr h7
   have hu:∃fs,P.underlying t=some (.struct fs):=by
    unfold lQ at h5;split at h5
    ·exact⟨_,by assumption⟩
    ·cases h5
   obtain⟨fs,hu⟩:=hu
   refine rd (v:=.bool r') ?_ h9 ⟨rfl,rfl⟩
   rcases h10 with⟨rfl,rfl⟩|⟨rfl,rfl⟩<;>simp[aK,e1,e2,cD,Cv,hu,nU,h5,h8]
  ·obtain⟨x,rfl,h5⟩:=C4 h3
   obtain⟨y,rfl,h6⟩:=C4 h5
   obtain⟨r,h5,h6,h7⟩:=PI h6 h2 h4
   exact rd (by simpa[aK] using h6) h5 ⟨rfl,h7⟩
 |unOp op t x=>
  obtain⟨a,h1,h2,_⟩:=gI hf hk
  obtain⟨r,h5,h6,h7⟩:=UX h1
  exact rd (by simpa[aK,h2] using h6) h5 ⟨rfl,h7⟩
 |convert a b x=>
  obtain⟨y,h1,h2,_⟩:=gI hf hk
  obtain⟨r,h3,h4,h5,h6⟩:=Ty (h:=h) h1
  exact rd (by simp only[aK,h2,h4,h5];rfl) h3 ⟨rfl,h6⟩
 |makeInterface t x=>
  obtain⟨⟨dd,h1,h2⟩,h3⟩:=Ae hk
  have hm:∀v,eW P t v=some (.iface t v):=λv=>by
   unfold eW;rw[h1]
   cases dd<;>first|exact absurd rfl (h2 _)|rfl
  obtain⟨y,h4,h5⟩:=gH hf h3
  split at h4
  ·obtain⟨h6,_⟩:=h5
   exact rd (hm _) h4 ⟨by rw[h6];rfl,rfl⟩
  ·obtain⟨l,h6,h7⟩:=h5
   obtain⟨r,h8,rfl,rfl,h9⟩:=oR h4 h7
   exact rd (hm _) h8 ⟨by rw[h6,<-lR];rfl,rfl⟩
  ·exact h4.elim
 |makeFunc f a b=>
  cases f with
  |func f=>
   obtain⟨x,h1,h2⟩:=Bm hf hk
   obtain⟨y,h3,h4⟩:=Bm hf h1
   exact rd rfl h3 ⟨_,_,rfl,h2,h4⟩
  |_=>exact hk.elim
 |slice t x lo hi mx=>
  obtain⟨y,h1,h2⟩:=jr hf hk
  obtain⟨l,h3,i,e1,e2⟩:=Bl hf h1
  obtain⟨hh,h4,j,e3,e4⟩:=Bl hf h3
  obtain⟨m,h5,n,e5,e6⟩:=Bl hf h4
  split at h5
  ·obtain⟨h6,_⟩:=h2
   split at h5
   ·obtain⟨h7,h8⟩:=w7 h5
    obtain⟨r,h9,h10⟩:=Kq h8 e2 e4
    have e7:n=none:=by cases n<;>simp_all
    subst e7
    exact rd (v:=.str r) (by simp only[aK,uD,h7,e1,e3,e5,h6,PV.v];exact h10) h9 ⟨rfl,rfl⟩
   ·exact h5.elim
  ·obtain⟨et,h7,h8,h9⟩:=zh h5
   obtain⟨y',w,h10,h11,h12⟩:=Sn h8 h2 e2 e4 e6
   refine rd (v:=w) ?_ h10 h12
   have hu:P.underlying t=some (.slice et):=by
    unfold iM at h7
    split at h7
    ·rename_i hu;cases h7;exact hu
    ·cases h7
   simp only[aK,uD,hu,e1,e3,e5]
   rw[if_neg h9];exact h11
 |fieldAddr t x i=>
  obtain⟨y,h1,h2⟩:=jr hf hk
  obtain⟨z,w,h3,h4,h5⟩:=TD h1 h2
  exact rd (by simpa[aK] using h4) h3 h5
 |field t x i=>
  obtain⟨y,h1,h2⟩:=gH hf hk
  split at h1
  ·obtain⟨⟨fo,ft⟩,h3,h4⟩:=bV h1
   obtain⟨l,h5,h6⟩:=h2
   obtain⟨z,v,h7,h8,h9⟩:=sH h4 h6
   exact rd (by simp only[aK,kX,h3,h5,h8]) h7 h9
  ·exact h1.elim
 |indexAddr t x i=>
  obtain⟨y,h1,h2⟩:=jr hf hk
  obtain⟨z,h3,h4⟩:=jr hf h1
  obtain⟨a,w,h5,h6,h7⟩:=TT h3 h2 h4
  exact rd (by simpa[aK] using h6) h5 h7
 |index t x i=>
  obtain⟨h0,h1⟩:=w7 hk
  obtain⟨y,h2,h3,_⟩:=gI hf h1
  obtain⟨z,h4,h5,_⟩:=gI hf h2
  obtain⟨r,h6,h7,h8⟩:=T3 h4
  exact rd (by simp only[aK,h0,h3,h5,h7]) h6 ⟨rfl,h8⟩
 |typeAssert x a b ok=>
  obtain⟨y,h2,h3,_⟩:=gI hf hk
  obtain⟨z,v,h4,h5,h6⟩:=US h2
  exact rd (by simp only[aK,h3,h5]) h4 h6
 |makeMap t r=>
  cases r with
  |some _=>exact hk.elim
  |none=>
   obtain⟨n,s',ρ',a1,a2,a3,a4⟩:=hs.new (k:=λn s=>k (.f (.mp n)) s) (x:=.map []) hk (y:=.map []) λρ' h' n hl hn hg=>⟨_,hn,hg⟩
   exact dh (P:=P) (o:=⟨d,.makeMap t none,ty,pos,af,gd⟩) (v:=.map h.next) (h':=h.push (.map [])) (by simp[rR,aK,fT]) (hK _ _ _ _ _ a1 (by simp only[ER,FR,a2]) a3 a4)
 |lookup t m x ok=>
  obtain⟨y,h1,h2⟩:=jr hf hk
  obtain⟨z,h3,h4,_⟩:=gI hf h1
  obtain⟨a,w,h5,h6,h7⟩:=Ub h3 hs h2
  exact rd (by simp only[aK,h4,h6]) h5 h7
 |mapUpdate t m x v=>
  obtain⟨y,h1,h2⟩:=jr hf hk
  obtain⟨z,h3,h4,_⟩:=gI hf h1
  obtain⟨u,h5,h6⟩:=gH hf h3
  obtain⟨s',h',a1,a2,a3,a4⟩:=O0 h5 hs h2 h6
  exact dh (o:=⟨d,.mapUpdate t m x v,ty,pos,af,gd⟩) (v:=.undef) (h':=h') (by simp[rR,aK,fT,iI,h4,a2]) (hK _ _ _ _ _ a1 trivial a3 a4)
 |insert t m x v=>
  obtain⟨y,h1,h2⟩:=jr hf hk
  obtain⟨z,h3,h4,_⟩:=gI hf h1
  obtain⟨u,h5,h6⟩:=gH hf h3
  obtain⟨s',h',a1,a2,a3,a4⟩:=O0 h5 hs h2 h6
  exact dh (o:=⟨d,.insert t m x v,ty,pos,af,gd⟩) (v:=.undef) (h':=h') (by simp[rR,aK,fT,iI,h4,a2]) (hK _ _ _ _ _ a1 trivial a3 a4)
 |extract x i=>
  obtain⟨y,h1,h2⟩:=gH hf hk
  split at h1
  ·obtain⟨v,h3,h4⟩:=bV h1
   rw[lz] at h3
   obtain⟨m,h5,h6⟩:=h2
   have key:∀(l:List TV) (m:List VV) (i:Nat),A4 ρ l m->l[i]?=some v->∃w,m[i]?=some w/\TR ρ v w:=by
    intro l
    induction l with
    |nil=>intro m i _ h;simp at h
    |cons a l ih=>
     intro m i hm hi
     cases m with
     |nil=>exact hm.elim
     |cons b m=>
      cases i with
      |zero=>simp at hi;subst hi;exact⟨b,rfl,hm.1⟩
      |succ i=>exact ih m i hm.2 (by simpa using hi)
   obtain⟨w,h7,h8⟩:=key _ _ _ h6 h3
   cases v with
   |f v=>exact rd (v:=w) (by simp only[aK,kW,h5,h7]) h4 h8
   |agg cs=>exact rd (v:=w) (by simp only[aK,kW,h5,h7]) h4 h8
  ·exact h1.elim
 |panic x=>
  obtain⟨y,h1,h2,h3⟩:=gI hf hk
  cases y with
  |iface t v=>
   refine⟨by rw[h2];rfl,hQ _ _ _ _ _ h1 ?_ hs (.refl ρ h)⟩
   exact⟨h2,rfl⟩
  |_=>exact h1.elim
 |call c=>
  obtain⟨callee,args,tys⟩:=c
  cases callee with
  |invoke r m=>exact hk.elim
  |builtin b=>
   cases b with
   |len=>
    obtain⟨args⟩:=args
    obtain⟨tys⟩:=tys
    match args,tys,hk with
    |[x],[t],hk=>
     obtain⟨y,h1,h2⟩:=jr hf hk
     obtain⟨n,h3,h4⟩:=Q4 (h:=h) h1 h2
     exact dh (o:=⟨d,.call ⟨.builtin .len,⟨[x]⟩,⟨[t]⟩⟩,ty,pos,af,gd⟩) (v:=.int .i64 n) (qn (by simpa[aK] using h4)) (hK _ _ _ _ _ h3 ⟨rfl,rfl⟩ hs (.refl ρ h))
   |max=>
    obtain⟨args⟩:=args
    obtain⟨tys⟩:=tys
    match args,tys,hk with
    |[a,b],[t,t'],hk=>
     obtain⟨x,h1,h2,_⟩:=gI hf hk
     obtain⟨y,h3,h4,_⟩:=gI hf h1
     match x,y,h3,h2,h4 with
     |.int .i64 m,.int .i64 n,h3,h2,h4=>
      exact dh (o:=⟨d,.call ⟨.builtin .max,⟨[a,b]⟩,⟨[t,t']⟩⟩,ty,pos,af,gd⟩) (v:=.int .i64 (max m n)) (qn (by
       have hm:(if n>m then n else m)=max m n:=by rw[Int.max_def];split<;>split<;>omega
       simp only[aK,h2,h4,PV.v,nV,if_true,hm])) (hK _ _ _ _ _ h3 ⟨rfl,rfl⟩ hs (.refl ρ h))
   |min=>
    obtain⟨args⟩:=args
    obtain⟨tys⟩:=tys
    match args,tys,hk with
    |[a,b],[t,t'],hk=>
     obtain⟨x,h1,h2,_⟩:=gI hf hk
     obtain⟨y,h3,h4,_⟩:=gI hf h1
     match x,y,h3,h2,h4 with
     |.int .i64 m,.int .i64 n,h3,h2,h4=>
      exact dh (o:=⟨d,.call ⟨.builtin .min,⟨[a,b]⟩,⟨[t,t']⟩⟩,ty,pos,af,gd⟩) (v:=.int .i64 (min m n)) (qn (by
       have hm:(if n<m then n else m)=min m n:=by rw[Int.min_def];split<;>split<;>omega
       simp only[aK,h2,h4,PV.v,nV,Bool.false_eq_true,if_false,hm])) (hK _ _ _ _ _ h3 ⟨rfl,rfl⟩ hs (.refl ρ h))
   |append=>
    obtain⟨args⟩:=args
    obtain⟨tys⟩:=tys
    match args,tys,hk with
    |[a,b],[t,t'],hk=>
     obtain⟨h0,h1⟩:=eZ hk
     have h0:=dT h0;subst h0
     obtain⟨x,h2,h3⟩:=jr hf h1
     obtain⟨y,h4,h5⟩:=jr hf h2
     obtain⟨z,s',ρ',v,h',h6,h7,h8,h9,h10⟩:=Ts h4 hs h3 h5
     exact dh (o:=⟨d,.call ⟨.builtin .append,⟨[a,b]⟩,⟨[t,t]⟩⟩,ty,pos,af,gd⟩) (v:=v) (h':=h') (by simp[rR,aK,fT,iI,h7]) (hK _ _ _ _ _ h6 h8 h9 h10)
   |_=>exact hk.elim
  |value f=>
   obtain⟨y,h1,h2⟩:=gH hf hk
   split at h1
   ·rename_i id a c
    obtain⟨la,lc,h3,h4,h5⟩:=h2
    obtain⟨l,h6,h7⟩:=GM hf h1
    obtain⟨r,h8,h9⟩:=Gj h6 h4 h7 h5
    have h10:=h8.run ρ h _ hs h9
    have hc:dH vfr ⟨.value f,args,tys⟩=some (id,la++args.toList.map (ev vfr)++lc):=by unfold dH;simp only[h3]
    show ez P ⟨d,.call ⟨.value f,args,tys⟩,ty,pos,af,gd⟩ vfr h K Qv
    unfold ez
    simp only[hc]
    refine h10.mono ?_
    rintro e h' ⟨x,s',ρ',a1,a2,a3,a4⟩
    cases x<;>cases e<;>first|exact a2.elim|skip
    ·exact hK _ _ _ _ _ (mD a1) a2 a3 a4
    ·exact hQ _ _ _ _ _ a1 a2 a3 a4
   ·exact h1.elim
 |_=>exact hk.elim
end
end Go.Ee
