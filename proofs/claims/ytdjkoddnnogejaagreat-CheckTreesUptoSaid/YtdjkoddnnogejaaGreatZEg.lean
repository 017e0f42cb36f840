/- Part of the proof of CheckTrees: plain laws and steps of its walks, for all arguments. -/
import Derived.Test.YtdjkoddnnogejaaGreatZVx
set_option linter.unusedSimpArgs false
set_option linter.unusedVariables false
set_option linter.unusedSectionVars false
namespace Go.Ee
section
open Go.Vv
variable{P:Program} {ρ:NM} {s:SH} {h:aa}
theorem CT {t:TypeId} {e:Nat} {k:Prop} (hk:Ol P t e k):k/\∃z,eA P t=some z/\z.cells.length=e:=by
 rcases l6 hk with⟨x,h1,h2,h3⟩|⟨l,h1,h2,_⟩
 ·obtain⟨h4,h5⟩:=eZ h1
  have h4:=dT h4;subst h4
  refine⟨h5,_,h2,?_⟩
  have:FR (λ_=>.un) (.p x) x.v:=⟨rfl,h3⟩
  rw[jc this.one];rfl
 ·obtain⟨h4,h5⟩:=eZ h1
  have h4:=dT h4;subst h4
  exact⟨h5,_,h2,by simp[VV.cells]⟩
theorem FO (a b:List (List PV)):ck (a++b)=(a.map (·.map PV.v)++b.map (·.map PV.v)).flatten:=by simp[ck]
theorem SR.tM (hs:SR ρ s h) {e len:Nat} {rs:List (List PV)} {b:Bool} {y:dC} {k:EK} (hk:oO s (.arr e rs b) λn s=>k (.f (.ref n len e none)) s) (hy:y=.cells (ck rs)) (hr:lg e rs) (hb:rs=[]->b=false):
 ∃z s' ρ',k z s'/\ER ρ' z (.ref h.next 0 len e none)/\SR ρ' s' (h.push y)/\ch ρ h ρ' (h.push y):=by
 subst hy
 obtain⟨n,s',ρ',h1,h2,h3,h4⟩:=hs.new hk (y:=.cells (ck rs)) λρ' h' n hl hn hg=>⟨hr,.inr ⟨hb,_,hn,hg⟩⟩
 exact⟨_,s',ρ',h1,by simp only[ER,FR,h2],h3,h4⟩
theorem Ts {t:TypeId} {a b:FC} {va vb:VV} {k:EK} (hk:WU P t a b s k) (hs:SR ρ s h) (ha:FR ρ a va) (hb:FR ρ b vb):
 ∃y s' ρ' v h',k y s'/\lO P t va vb h=some (v,h')/\ER ρ' y v/\SR ρ' s' h'/\ch ρ h ρ' h':=by
 obtain⟨et,h1,h2⟩:=bV hk
 obtain⟨e2,h3,h4,h5⟩:=zh h2
 rw[h1] at h3;cases h3
 obtain⟨xs,h6,h7,h8,_⟩:=DZ h4 hs hb
 obtain⟨ss,a1,a2,a3,a4⟩:=DZ h6 hs ha
 obtain⟨a7,z,hz1,hz2⟩:=CT a1
 rcases sR a7 with⟨a5,a6⟩|⟨a5,a6⟩
 ·have:xs=[]:=by simpa using a5
  subst this
  refine⟨_,s,ρ,va,h,a6,?_,ha,hs,.refl ρ h⟩
  unfold lO
  simp only[h1,h7,a2,List.map_nil]
  rw[if_neg (by simp[hz1,hz2,h5])]
 ·obtain⟨a8,a9⟩:=wq a6
  replace a9:=a9.run;try dsimp only at a9
  replace a9:=a9.run;rw[List.length_append] at a9;try dsimp only at a9
  have hne:xs≠[]:=λe=>by simp[e] at a5
  obtain⟨x0,xs',rfl⟩:∃x0 xs',xs=x0::xs':=by cases xs with|nil=>exact absurd rfl hne|cons a b=>exact⟨a,b,rfl⟩
  have hok:lg (cE P et) (ss++x0::xs'):=⟨by omega,λr hr=>by
   rcases List.mem_append.1 hr with hr|hr
   ·exact a3 r hr
   ·exact h8 r hr⟩
  have hnn:ss++x0::xs'=[]->true=false:=λe=>by simp at e
  have hfl:=(FO ss (x0::xs')).symm
  have hv:∀r,(match va with
   |.da=>some (VV.ref h.next 0 (ss.length+(x0::xs').length) (cE P et) none,h.push (.cells (ck (ss++x0::xs'))))
   |.vs _ (some c)=>if c=ss.length then some (VV.ref h.next 0 (ss.length+(x0::xs').length) (cE P et) none,h.push (.cells (ck (ss++x0::xs')))) else none
   |.ref o _ _ _ cap=>if cap=some ss.length then some (VV.ref h.next 0 (ss.length+(x0::xs').length) (cE P et) none,h.push (.cells (ck (ss++x0::xs')))) else some (VV.ref h.next 0 (ss.length+(x0::xs').length) (cE P et) none,(h.set o .dead).push (.cells (ck (ss++x0::xs'))))
   |_=>none)=some r->lO P t va vb h=some r:=λr hr=>by
   unfold lO
   simp only[h1,h7,a2,List.map_cons]
   rw[if_neg (by simp[hz1,hz2,h5])]
   simp only[List.length_map,List.length_cons] at a8⊢
   rw[if_pos a8]
   simp only[List.map_cons] at hfl
   simp only[hfl]
   exact hr
  cases a with
  |p x=>
   obtain⟨rfl,_⟩:=ha
   cases x with
   |vs es cap n=>
    rcases sR a9 with⟨b0,a9⟩|⟨b0,a9⟩
    ·obtain⟨y,s',ρ',b1,b2,b3,b4⟩:=hs.tM a9 rfl hok hnn
     have:es=[]/\n=true:=by cases n<;>simp_all[n5]
     obtain⟨rfl,rfl⟩:=this
     exact⟨y,s',ρ',_,_,b1,hv _ rfl,b2,b3,b4⟩
    ·cases cap with
     |none=>exact a9.elim
     |some c=>
      obtain⟨b5,c9⟩:=eZ a9
      obtain⟨y,s',ρ',b1,b2,b3,b4⟩:=hs.tM c9 rfl hok hnn
      refine⟨y,s',ρ',_,_,b1,hv _ ?_,b2,b3,b4⟩
      have h9:yI (PV.n7 es) (some c) n=.vs (PV.n7 es) (some c):=by
       rcases jt (PV.n7 es) (some c) n with⟨h9,rfl,_⟩|⟨h9,_⟩
       ·have:=lU es;rw[h9] at this
        have:es=[]:=List.eq_nil_of_length_eq_zero this.symm
        subst this;cases b0
       ·exact h9
      simp only[PV.v,h9];rw[if_pos (dT b5)]
   |_=>exact a9.elim
  |ref o len e' cap=>
   obtain⟨⟨y0,c1⟩,c2,c3⟩:=a4 _ _ _ _ rfl
   obtain⟨s1,d1,d2,d3⟩:=hs.del c1 a9
   rcases c2 with rfl|⟨i,hi,rfl⟩
   ·obtain⟨y,s',ρ',b1,b2,b3,b4⟩:=d2.tM d1 rfl hok hnn
    exact⟨y,s',ρ',_,_,b1,hv _ rfl,b2,b3,d3.trans b4⟩
   ·by_cases hc:cap=some ss.length
    ·obtain⟨y,s',ρ',b1,b2,b3,b4⟩:=d2.tM d1 rfl hok hnn
     exact⟨y,s',ρ',_,_,b1,hv _ (by simp[hc]),b2,b3,d3.trans b4⟩
    ·have hno:∀n,(ρ.eY o .dead) n≠.at i:=λn hn=>by
      by_cases e:n=o
      ·subst e;simp[NM.eY] at hn
      ·simp[NM.eY,e] at hn;exact e (hs.inj _ _ _ hn hi)
     obtain⟨f1,f2⟩:=d2.kI (y:=.dead) hno
     have f3:=f2 (hs.iD _ _ hi) ρ h d3 ⟨o,hi⟩
     obtain⟨y,s',ρ',b1,b2,b3,b4⟩:=f1.tM d1 rfl hok hnn
     exact⟨y,s',ρ',_,_,b1,hv _ (by simp only;rw[if_neg hc];rfl),b2,b3,f3.trans b4⟩
  |_=>exact a9.elim
theorem wL {pl:Nat->Option (Nat×Nat)}:∀{ps:List (Nat×List FC)} {m:List (Nat×VV)} {c:List FC} {l:List VV} {k:List FC->Prop},vw pl ps c k->U7 ρ ps m->dP ρ c l->
 ∃c' l',k c'/\m7 pl l m=some l'/\dP ρ c' l'
 |[],[],c,l,k,h,_,hc=>⟨c,l,h,rfl,hc⟩
 |(i,v)::ps,(j,w)::m,c,l,k,h,hp,hc=>by
  obtain⟨rfl,h1,h2,h3⟩:=hp
  obtain⟨⟨o,z⟩,h4,h5⟩:=bV h
  obtain⟨h6,h7⟩:=eZ h5
  have h6:=dT h6
  obtain⟨h8,h9⟩:=p7 h7
  obtain⟨c',l',h10,h11,h12⟩:=wL (ps:=ps) h9 h3 (hc.ov h1 o)
  refine⟨c',l',h10,?_,h12⟩
  simp only[m7,h4]
  rw[h1.len] at h6 h8
  rw[hc.len] at h8
  rw[if_neg (by simp[h6,h2];omega)]
  exact h11
theorem JJ:∀(fs:List Field),UE P fs=fs.mapM λf=>(P.info? f.type).map λi=>(f.offset,i.size)
 |[]=>rfl
 |f::fs=>by
  rw[List.mapM_cons,<-JJ fs,UE]
  cases P.info? f.type<;>cases UE P fs<;>rfl
theorem B2 (t:TypeId):xD P t=sP P t:=by
 unfold xD sP
 cases P.underlying t with
 |none=>rfl
 |some d=>cases d<;>first|exact JJ _|rfl
def DO:Nat->Nat->List PV->List (List PV)
 |0,_,_=>[]
 |n+1,e,l=>l.take e::DO n e (l.drop e)
theorem Aq:∀{n e:Nat} {l:List PV} {k:List (List PV)->Prop},rowsOf n e l k->k (DO n e l)
 |0,_,_,_,h=>h
 |n+1,e,l,k,h=>Aq (n:=n) (l:=l.drop e) (k:=λrs=>k (l.take e::rs)) (zo h)
theorem DP:∀(n e:Nat) (l:List PV),(DO n e l).map (·.map PV.v)=rows n e (l.map PV.v)
 |0,_,_=>rfl
 |n+1,e,l=>by simp[DO,rows,DP n e]
theorem Ov {t et:TypeId} {n:Nat} {ps:List (Nat×List FC)} {m:List (Nat×VV)} {z:VV} {zc:List FC} {k:List (List PV)->Prop} (hv:iM P t=some et) (hz:eA P et=some z) (hl:z.cells.length=cE P et) (h0:cE P et≠0)
 (hn:n*cE P et<=16777216) (hc:dP ρ zc (List.replicate n z.cells).flatten) (hp:U7 ρ ps m)
 (hk:vw (λi=>some (i*cE P et,cE P et)) ps zc λcs=>u5 cs λcs=>rowsOf n (cE P et) cs k):∃es,k es/\iy P t n m=some (.vs (PV.n7 es) (some n)):=by
 obtain⟨c',l',h1,h2,h3⟩:=wL hk hp hc
 obtain⟨r,h4,rfl,rfl,h5⟩:=oR h1 h3
 refine⟨_,Aq h4,?_⟩
 simp only[iy,hv,hz]
 rw[if_neg (by simp[h0,hl];omega),h2]
 simp only[fF,DP]
theorem jm {v:Option Int} {i:Option IntKind} {eo other:Nat} {k:Nat->Prop} (hk:mr v eo other k) (hi:i.isSome=v.isSome):
 ∃n,k n/\bound (bv v i) eo other=some n/\(v=none->n=other)/\(v≠none->n<=eo):=by
 cases v with
 |none=>exact⟨other,hk,rfl,λ_=>rfl,λh=>absurd rfl h⟩
 |some n=>
  cases i with
  |none=>cases hi
  |some i=>
   obtain⟨⟨h1,h2⟩,h3⟩:=wq hk
   exact⟨_,h3,by simp[bound,bv,h1,h2],(λh=>(by cases h)),λ_=>by omega⟩
theorem Kq {b:List UInt8} {lo hi:Option Int} {i j:Option IntKind} {k:List UInt8->Prop} (hk:Kp b lo hi k) (h1:i.isSome=lo.isSome) (h2:j.isSome=hi.isSome):
 ∃r,k r/\k8 b (bv lo i) (bv hi j) none=some (.str r):=by
 obtain⟨h,a1,a2,a3,_⟩:=jm hk h2
 obtain⟨l,b1,b2,b3,_⟩:=jm a1 h1
 refine⟨(b.take h).drop l,?_,by simp only[k8,a2,b2]⟩
 cases lo<;>cases hi<;>simp only at b1<;>(try(have:=a3 rfl;subst this))<;>(try(have:=b3 rfl;subst this))<;>simpa using b1
theorem lq (m o:Nat):bound none m o=some o:=rfl
theorem Sn {x:FC} {v:VV} {e:Nat} {lo hi mx:Option Int} {i j m:Option IntKind} {k:FC->Prop} (hk:UQ x e lo hi mx k) (hx:FR ρ x v) (h1:i.isSome=lo.isSome) (h2:j.isSome=hi.isSome) (h3:m.isSome=mx.isSome):
 ∃y w,k y/\eX v e (bv lo i) (bv hi j) (bv mx m)=some w/\FR ρ y w:=by
 cases x with
 |p x=>
  obtain⟨rfl,_⟩:=hx
  cases x with
  |vs es cap nn=>
   obtain⟨h4,h5⟩:=eZ hk
   cases mx with
   |some mm=>exact h5.elim
   |none=>
    obtain⟨hh,a1,a2,a3,_⟩:=jm h5 h2
    obtain⟨l,b1,b2,b3,_⟩:=jm a1 h1
    have e1:m=none:=by cases m<;>simp_all
    subst e1
    have e2:bv none (none:Option IntKind)=none:=rfl
    have hes:=lU es
    rcases jt (PV.n7 es) cap nn with⟨h6,rfl,h7⟩|⟨h7,h8⟩
    ·rw[h6] at hes
     have:es=[]:=List.eq_nil_of_length_eq_zero hes.symm
     subst this
     refine⟨.p (.vs ((([]:List (List PV)).take hh).drop l) (cap.map (·-l)) true),.da,?_,?_,?_,rfl⟩
     ·cases lo<;>cases hi<;>simp only at b1<;>(try(have:=a3 rfl;subst this))<;>(try(have:=b3 rfl;subst this))<;>simpa[n5] using b1
     ·simp only[PV.v,h7,eX,fc,e2]
      simp only[List.length_nil] at a2
      simp only[a2,b2];rfl
     ·simp[PV.v,yI,fF]
    ·have hw:eX (PV.vs es cap nn).v e (bv lo i) (bv hi j) (bv none none)=some (.vs (PV.n7 ((es.take hh).drop l)) (cap.map (·-l))):=by
      simp only[PV.v,h7,eX,Bs h4,if_true,fc,e2,lU,a2,b2]
      simp[fF]
      cases cap<;>rfl
     have h9:(n5 es nn)=false:=by
      cases nn
      ·rfl
      ·cases es with
       |nil=>exact absurd (h8 rfl) (by simp)
       |cons a es=>rfl
     have h10:FR ρ (.p (.vs ((es.take hh).drop l) (cap.map (·-l)) (n5 es nn))) (.vs (PV.n7 ((es.take hh).drop l)) (cap.map (·-l))):=by
      refine⟨?_,rfl⟩
      simp only[PV.v,h9]
      rcases jt (PV.n7 ((es.take hh).drop l)) (cap.map (·-l)) false with⟨_,h,_⟩|⟨h,_⟩
      ·cases h
      ·rw[h]
     have h11:cap.map (·-0)=cap:=by cases cap<;>rfl
     cases lo<;>cases hi<;>simp only at b1
     ·have:=a3 rfl;subst this
      have:=b3 rfl;subst this
      refine⟨_,_,b1,hw,?_,rfl⟩
      simp only[PV.v,h7,List.take_length,List.drop_zero,h11]
     ·have:=b3 rfl;subst this
      rw[List.drop_zero,h11] at h10
      exact⟨_,_,b1,by rw[hw,List.drop_zero,h11],h10⟩
     ·have:=a3 rfl;subst this
      rw[List.take_length] at h10
      exact⟨_,_,b1,by rw[hw,List.take_length],h10⟩
     ·exact⟨_,_,b1,hw,h10⟩
  |_=>exact hk.elim
 |ref o len e' cap=>
  obtain⟨h4,h5⟩:=eZ hk
  have h4:=dT h4;subst h4
  cases lo with
  |some _=>exact h5.elim
  |none=>
   have e1:i=none:=by cases i<;>simp_all
   subst e1
   have e2:bv none (none:Option IntKind)=none:=rfl
   have hfr:∀(n:Nat) (c:Option Nat),n<=len->∃w,(match v with
    |.da=>if n=0 then some VV.da else none
    |.ref o off _ du _=>some (VV.ref o (off+0*du) (n-0) du c)
    |_=>none)=some w/\FR ρ (.ref o n e' c) w/\(v=.da\/∃i,v=.ref i 0 len e' cap):=λn c hn=>by
    simp only[FR] at hx⊢
    split at hx
    ·subst hx;exact⟨_,rfl,by simp,.inr ⟨_,rfl⟩⟩
    ·obtain⟨rfl,rfl⟩:=hx;have:n=0:=by omega
     subst this;exact⟨_,rfl,⟨rfl,rfl⟩,.inl rfl⟩
    ·rcases hx with⟨q,rfl⟩|⟨rfl,rfl⟩
     ·exact⟨_,rfl,.inl ⟨q,by simp⟩,.inr ⟨_,rfl⟩⟩
     ·have:n=0:=by omega
      subst this;exact⟨_,rfl,.inr ⟨rfl,rfl⟩,.inl rfl⟩
    ·exact hx.elim
   cases mx with
   |none=>
    have e3:m=none:=by cases m<;>simp_all
    subst e3
    obtain⟨hh,a1,a2,a3,a4⟩:=jm h5 h2
    have hle:hh<=len:=by cases hi with
     |none=>exact Nat.le_of_eq (a3 rfl)
     |some _=>exact a4 (by simp)
    obtain⟨w,b1,b2,b3⟩:=hfr hh cap hle
    refine⟨_,w,a1,?_,b2⟩
    rcases b3 with rfl|⟨q,rfl⟩
    ·have:len=0:=by
      simp only[FR] at hx
      split at hx<;>first|(cases hx;done)|exact hx.2|exact hx.elim|(rcases hx with⟨_,hx⟩|hx;cases hx;exact hx.2)
     subst this
     simp only[eX,fc,e2,a2,lq,Option.map_some]
     simp only at b1
     split at b1
     ·exact b1
     ·cases b1
    ·simp only[eX,if_true,fc,e2,a2,lq]
     rw[<-b1]
     cases cap<;>simp
   |some mv=>
    cases hi with
    |none=>exact h5.elim
    |some hv=>
     cases j with
     |none=>cases h2
     |some j0=>
      cases m with
      |none=>cases h3
      |some m0=>
       obtain⟨mm,a1,a2,a3,a4⟩:=jm (i:=some m0) h5 rfl
       obtain⟨hh,b1,b2,b3,b4⟩:=jm (i:=some j0) a1 rfl
       have hle:=b4 (by simp)
       have hle2:=a4 (by simp)
       obtain⟨w,c1,c2,c3⟩:=hfr hh (some mm) (by omega)
       refine⟨_,w,b1,?_,c2⟩
       simp only[bv] at a2 b2
       rcases c3 with rfl|⟨q,rfl⟩
       ·have:len=0:=by
         simp only[FR] at hx
         split at hx<;>first|(cases hx;done)|exact hx.2|exact hx.elim|(rcases hx with⟨_,hx⟩|hx;cases hx;exact hx.2)
        subst this
        simp only[eX,fc,bv,a2,b2,lq,Option.map_some]
        simp only at c1
        split at c1
        ·exact c1
        ·cases c1
       ·simp only[eX,if_true,fc,bv,a2,b2,lq]
        rw[<-c1]
        simp
 |_=>exact hk.elim
abbrev mv (es:List (List UInt8×PV)):List (VV×VV):=es.map λp=>(.str p.1,p.2.v)
theorem DF (key:List UInt8):∀(es:List (List UInt8×PV)) (i:Nat),∃j,j5 (.str key) (mv es) i=some ((bS key es).map λv=>(j,v.v))
 |[],i=>⟨i,rfl⟩
 |(a,v)::es,i=>by
  obtain⟨j,hj⟩:=DF key es (i+1)
  simp only[mv,List.map_cons,j5,fC,bS]
  cases hb:key==a with
  |true=>exact⟨i,rfl⟩
  |false=>exact⟨j,hj⟩
theorem H6 (key:List UInt8) (v:PV):∀(es:List (List UInt8×PV)) (i:Nat),(j5 (.str key) (mv es) i=some none/\mv es++[(.str key,v.v)]=mv (fk key v es))\/∃j w,j5 (.str key) (mv es) i=some (some (i+j,w))/\(mv es).set j (.str key,v.v)=mv (fk key v es)
 |[],i=>.inl ⟨rfl,rfl⟩
 |(a,w)::es,i=>by
  simp only[mv,List.map_cons,j5,fC,fk]
  cases hb:key==a with
  |true=>exact .inr ⟨0,w.v,rfl,rfl⟩
  |false=>
   rcases H6 key v es (i+1) with⟨h1,h2⟩|⟨j,w',h1,h2⟩
   ·exact .inl ⟨h1,by simpa[mv] using h2⟩
   ·exact .inr ⟨j+1,w',by rw[Nat.add_right_comm] at h1;exact h1,by simpa[mv] using h2⟩
theorem HZ {t:TypeId} {k:TypeId->Prop} (hk:Mq P t k):∃e,k e/\kZ P t=some e/\∀s,kY P t (.str s)=true:=by
 unfold Mq at hk
 split at hk
 ·rename_i kt e hu
  split at hk
  ·rename_i hs
   exact⟨e,hk,by simp[kZ,hu,hs],λs=>by simp[kY,hu,hs,jI]⟩
  ·exact hk.elim
 ·exact hk.elim
theorem SR.map (hs:SR ρ s h) {o i:Nat} {es:List (List UInt8×PV)} (ho:ay s.bp o=some (.map es)) (hi:ρ o=.at i):h.get i=some (.map (mv es)):=by
 obtain⟨i',h1,h2⟩:=hs.obj _ _ ho
 rw[hi] at h1;cases h1;exact h2
theorem FR.OZ (hs:SR ρ s h) {o:Nat} {x:SO} {v:VV} (hp:FR ρ (.mp o) v) (ho:ay s.bp o=some x):∃i,ρ o=.at i/\v=.map i:=by
 have:=hs.live ho
 simp only[FR] at hp
 split at hp<;>first|exact⟨_,by assumption,hp⟩|(rename_i h1;exact absurd h1 this)|exact hp.elim
theorem P6 {m:FC} {v:VV} {k:List (List UInt8×PV)->Prop} (hk:P5 m s k) (hs:SR ρ s h) (hm:FR ρ m v):∃es,k es/\iz v h=some (mv es):=by
 unfold P5 at hk
 split at hk
 ·obtain⟨rfl,_⟩:=hm;exact⟨[],hk,rfl⟩
 ·obtain⟨x,h1,h2⟩:=bV hk
  split at h2
  ·obtain⟨i,h3,rfl⟩:=hm.OZ hs h1
   exact⟨_,h2,by simp only[iz,hs.map h1 h3]⟩
  ·exact h2.elim
 ·exact hk.elim
theorem Rr {v:PV} {k:TV->Prop} (hk:Rq v k):∃y,k y/\TR ρ y v.v:=by
 unfold Rq at hk
 split at hk
 ·obtain⟨h1,h2⟩:=qU hk
  exact⟨_,h1,_,rfl,by rw[lR];exact .pure ρ h2⟩
 ·rename_i hn
  exact⟨_,hk,rfl,by cases v<;>first|rfl|exact(hn _ rfl).elim⟩
theorem KQ {ok b:Bool} {x:TV} {v:VV} {k:EV->Prop} (hk:UU ok b x k) (hx:TR ρ x v):∃y,k y/\ER ρ y (if ok=true then .bR [v,.bool b] else v):=by
 unfold UU at hk
 split at hk
 ·exact⟨_,hk,[v,.bool b],rfl,hx,⟨rfl,rfl⟩,trivial⟩
 ·exact⟨_,hk,hx⟩
 ·exact⟨_,hk,hx⟩
theorem Ub {t:TypeId} {m:FC} {v:VV} {key:PV} {ok:Bool} {k:EV->Prop} (hk:W7 P t m key ok s k) (hs:SR ρ s h) (hm:FR ρ m v):∃y w,k y/\hH P t v key.v ok h=some w/\ER ρ y w:=by
 obtain⟨e,h1,h2,h3⟩:=HZ hk
 split at h1
 ·rename_i key
  obtain⟨es,h4,h5⟩:=P6 h1 hs hm
  obtain⟨j,h6⟩:=DF key es 0
  have hz:∀z,eA P e=some z->hH P t v (PV.str key).v ok h=some (match bS key es with|some w=>(if ok=true then .bR [w.v,.bool true] else w.v)|none=>(if ok=true then .bR [z,.bool false] else z)):=λz hz=>by
   simp only[hH,h2,PV.v,h3,if_true,h5,hz,h6]
   cases bS key es<;>rfl
  have fin:∀z,eA P e=some z->Vf P e key es ok k->∃y w,k y/\hH P t v (PV.str key).v ok h=some w/\ER ρ y w:=λz0 hz0 h4=>by
   unfold Vf at h4
   cases hf:bS key es with
   |some w=>
    rw[hf] at h4
    obtain⟨x,a1,a2⟩:=Rr (ρ:=ρ) h4
    obtain⟨y,a3,a4⟩:=KQ a1 a2
    exact⟨y,_,a3,by rw[hz _ hz0,hf],a4⟩
   |none=>
    rw[hf] at h4
    rcases l6 h4 with⟨z,a1,a2,a3⟩|⟨l,a1,a2,a3⟩
    ·obtain⟨y,a4,a5⟩:=KQ (ρ:=ρ) (v:=z.v) a1 ⟨rfl,a3⟩
     exact⟨y,_,a4,by rw[hz _ a2,hf],a5⟩
    ·obtain⟨y,a4,a5⟩:=KQ (ρ:=ρ) (v:=.agg (l.map PV.v)) a1 ⟨_,rfl,.pure ρ a3⟩
     exact⟨y,_,a4,by rw[hz _ a2,hf],a5⟩
  rcases l6 h4 with⟨z,a1,a2,a3⟩|⟨l,a1,a2,a3⟩
  ·exact fin _ a2 a1
  ·exact fin _ a2 a1
 ·exact h1.elim
theorem O0 {t:TypeId} {m:FC} {v w:VV} {key:PV} {x:EV} {k:SH->Prop} (hk:W9 P t m key x s k) (hs:SR ρ s h) (hm:FR ρ m v) (hx:ER ρ x w):
 ∃s' h',k s'/\fH P t v key.v w h=some h'/\SR ρ s' h'/\ch ρ h ρ h':=by
 obtain⟨e,h1,h2,h3⟩:=HZ hk
 split at h1
 ·rename_i key o
  obtain⟨a,h4,h5⟩:=bV h1
  split at h5
  ·rename_i es
   obtain⟨c,h6,h7,h8⟩:=pw h5 hx
   obtain⟨r,h9,rfl,h10,h11⟩:=oR h6 h7
   obtain⟨i,hi,rfl⟩:=hm.OZ hs h4
   have go:∀y:PV,y.v=w->(Fold (fk key y es) λes=>FE s o (.map es) k)->∃s' h',k s'/\fH P t (.map i) (PV.str key).v w h=some h'/\SR ρ s' h'/\ch ρ h ρ h':=λy hy hf=>by
    replace hf:=hf.run;try dsimp only at hf
    subst hy
    obtain⟨s',b1,b2,b3⟩:=hs.set hf hi (y:=.map (mv (fk key y es))) λh' hg=>⟨i,hi,hg⟩
    refine⟨s',_,b1,?_,b2,b3⟩
    rcases H6 key y es 0 with⟨c1,c2⟩|⟨j,w',c1,c2⟩
    ·simp only[fH,h2,PV.v,h3,if_true,hs.map h4 hi,c1,c2]
    ·simp only[Nat.zero_add] at c1
     simp only[fH,h2,PV.v,h3,if_true,hs.map h4 hi,c1,c2]
   split at h9
   ·split at h9
    ·rename_i y
     have hw:FR ρ _ w:=hx
     rw[jc hw.one] at h10
     exact go y (by simpa using h10.symm) h9
    ·exact h9.elim
   ·rename_i hne
    refine go _ ?_ h9
    cases x with
    |agg cs=>
     obtain⟨l,rfl,_⟩:=hx
     simp only[VV.cells] at h10
     rw[h10,PV.v,lR]
    |f y=>exact absurd rfl (hne _)
    |_=>exact h5.elim
  ·exact h5.elim
 ·exact h1.elim
theorem T3 {x i:PV} {k:PV->Prop} (hk:VN x i k):∃r:PV,k r/\rb x.v i.v=some r.v/\r.isAgg=false:=by
 unfold VN at hk
 split at hk
 ·obtain⟨h1,h2⟩:=wq hk
  obtain⟨c,h3,h4⟩:=bV h2
  exact⟨_,h4,by simp[rb,PV.v,h1,h3],rfl⟩
 ·exact hk.elim
theorem C2:∀{es:List (List PV)} {b:List UInt8},C1 es=some b->(es.map (·.map PV.v)).mapM rN=some b
 |[],b,h=>by cases h;rfl
 |r::es,b,h=>by
  unfold C1 at h
  split at h
  ·rename_i h1;cases h1
  ·rename_i n l h1
   cases h1
   split at h
   ·rename_i r' hr
    have ih:=C2 hr
    cases hb:decide (0<=n/\n<256) with
    |false=>rw[hb] at h;cases h
    |true=>
     rw[hb] at h
     cases h
     have hd:=of_decide_eq_true hb
     rw[List.map_cons,List.mapM_cons,ih]
     simp[rN,PV.v,hd]
   ·cases h
  ·cases h
theorem Ty {sr d:TypeId} {x:PV} {k:PV->Prop} (hk:Vx P sr d x k):∃r:PV,k r/\nf P sr d x.v=false/\ew P sr d x.v h=some r.v/\r.isAgg=false:=by
 unfold Vx at hk
 split at hk
 ·split at hk
  ·rename_i hs hd
   rcases sR hk with⟨h1,h2⟩|⟨h1,h2⟩
   ·exact⟨_,h2,by simp[nf,PV.v,hs],by simp[ew,PV.v,hs,hd,of_decide_eq_true h1],rfl⟩
   ·exact⟨_,h2,by simp[nf,PV.v,hs],by simp[ew,PV.v,hs,hd],rfl⟩
  ·exact hk.elim
 ·split at hk
  ·rename_i hs hd;exact⟨_,hk,by simp[nf,PV.v,hs],by simp[ew,PV.v,hs,hd],rfl⟩
  ·exact hk.elim
 ·split at hk
  ·rename_i hs hd
   split at hk
   ·rename_i he
    obtain⟨h1,h2⟩:=eZ hk
    obtain⟨b,h3,h4⟩:=bV h2
    refine⟨_,h4,?_,?_,rfl⟩
    ·unfold nf
     by_cases e:sr=d
     ·subst e;rw[hs] at hd;cases hd
     ·simp[e]
    ·rename_i es cap n _ _ _ _
     have h5:=C2 h3
     rw[<-fF] at h5
     rcases jt (PV.n7 es) cap n with⟨h6,_,h7⟩|⟨h7,_⟩
     ·rw[h6] at h5;simp only[ew,PV.v,hs,hd,he,h7,eS,h5];rfl
     ·simp only[ew,PV.v,hs,hd,he,h7,eS,Bs h1,if_true,h5];rfl
   ·exact hk.elim
  ·exact hk.elim
 ·exact hk.elim
theorem US {x:PV} {d:TypeId} {ok:Bool} {k:EV->Prop} (hk:Wq P x d ok k):∃y v,k y/\nT P x.v d ok=some v/\ER ρ y v:=by
 unfold Wq at hk
 split at hk
 ·obtain⟨⟨dd,h1,h2⟩,h3⟩:=Ae hk
  obtain⟨h4,h5⟩:=eZ h3
  have h4:=dT h4;subst h4
  rename_i t v
  have ha:nT P (PV.iface t v).v t ok=some (if ok=true then .bR [v.v,.bool true] else v.v):=by
   unfold nT
   rw[h1]
   cases dd<;>first|exact absurd rfl (h2 _)|simp[PV.v]
  split at h5
  ·obtain⟨h6,h7⟩:=qU h5
   exact⟨_,_,h6,ha,_,rfl,by rw[lR];exact .pure ρ h7⟩
  ·rename_i hne
   exact⟨_,_,h5,ha,rfl,by rename_i v _ _;cases v<;>first|rfl|exact(hne _ rfl).elim⟩
  ·obtain⟨h6,h7⟩:=qU h5
   exact⟨_,_,h6,ha,_,rfl,⟨_,rfl,by rw[lR];exact .pure ρ h7⟩,⟨rfl,rfl⟩,trivial⟩
  ·rename_i hne
   exact⟨_,_,h5,ha,_,rfl,⟨rfl,by rename_i v _ _;cases v<;>first|rfl|exact(hne _ rfl).elim⟩,⟨rfl,rfl⟩,trivial⟩
 ·exact hk.elim
end
end Go.Ee
