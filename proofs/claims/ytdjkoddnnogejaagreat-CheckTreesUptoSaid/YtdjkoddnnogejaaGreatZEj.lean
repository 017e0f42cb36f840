/- Part of the proof of CheckTrees: plain laws and steps of its walks, for all arguments. -/
import Derived.Test.YtdjkoddnnogejaaGreatZEi
set_option linter.unusedSimpArgs false
set_option linter.unusedVariables false
set_option linter.unusedSectionVars false
namespace Go.Ee
section
open Go.Vv
variable{P:Program} {ρ:NM} {s:SH} {h:aa}
theorem kE (o:Nat) (c:List VV) (v:VV):gK o c (gK o c v)=gK o c v:=by
 cases v with
 |ref o' off len du cap=>by_cases e:o'=o/\off+len*du<=c.length<;>simp[gK,e]
 |ptr o' off=>by_cases e:o'=o<;>simp[gK,e]
 |_=>rfl
theorem wV (o:Nat) (c:List VV) {v:VV} (h:v.one=true):r6 o c v=gK o c v:=by
 cases v<;>first|rfl|(simp[VV.one] at h)
theorem tu (o:Nat) (c:List VV) (v:VV):r6 o c (r6 o c v)=r6 o c v:=by
 cases v with
 |agg cs=>simp[r6,kE]
 |bR l=>rfl
 |ref o' off len du cap=>
  rw[wV o c (v:=.ref o' off len du cap) rfl]
  by_cases e:o'=o/\off+len*du<=c.length<;>simp[gK,r6,e]
 |ptr o' off=>
  rw[wV o c (v:=.ptr o' off) rfl]
  by_cases e:o'=o<;>simp[gK,r6,e]
 |_=>rfl
theorem Dl (o:Nat) (c:List VV):∀(l:List Nat) (fr:Fr) (t:Nat),(Vv.oJ o c l fr).at t=if t∈l then r6 o c (fr.at t) else fr.at t
 |[],fr,t=>by simp[Vv.oJ]
 |a::l,fr,t=>by
  simp only[Vv.oJ,Dl o c l,Fr.dY,List.mem_cons]
  by_cases e:t=a
  ·subst e;simp[tu]
  ·simp[e]
theorem pM (o:Nat) (c:List VV):∀(l:List Nat) (h:aa) (j:Nat),(uS o c l h).get j=if j∈l then(match h.get j with|some (.cells c1)=>some (.cells (c1.map (gK o c)))|x=>x) else h.get j
 |[],h,j=>by simp[uS]
 |a::l,h,j=>by
  simp only[uS]
  split
  ·rename_i c1 hc
   rw[pM o c l,aa.iR]
   by_cases e:j=a
   ·subst e
    simp only[if_true,List.mem_cons,true_or,hc]
    have:∀l:List VV,l.map (gK o c∘gK o c)=l.map (gK o c):=λl=>List.map_congr_left λx _=>kE o c x
    simp[this]
   ·simp[e]
  ·rename_i hn
   rw[pM o c l]
   by_cases e:j=a
   ·subst e
    cases hg:h.get j with
    |none=>simp
    |some x=>cases x<;>first|exact absurd hg (hn _)|simp
   ·simp[e]
theorem qG (o:Nat) (c:List VV):∀(l:List Nat) (h:aa),(uS o c l h).next=h.next
 |[],h=>rfl
 |a::l,h=>by simp only[uS];split<;>rw[qG o c l];rfl
theorem JN (o:Nat) (c:List VV) (x:PV):gK o c x.v=x.v:=by
 cases x with
 |vs es cap n=>rcases jt (PV.n7 es) cap n with⟨_,_,h⟩|⟨h,_⟩<;>simp only[PV.v,h]<;>rfl
 |_=>rfl
structure F1 (ρ:NM) (s:SH) (h:aa) (o:Nat) (a:SO) (i:Nat) (c:List VV):Prop where
 obj:ay s.bp o=some a
 arr:(∃e rs n,a=.arr e rs n/\ρ o=.at i/\h.get i=some (.cells c)/\c=ck rs/\lg e rs/\(rs=[]->n=false))\/(∃e,a=.arr e [] true/\ρ o=.MH/\∀n,ρ n≠.at i)
def SO.tw:SO->Bool
 |.arr _ rs n=>n5 rs n
 |_=>false
theorem F1.val {o i e len:Nat} {a:SO} {c:List VV} (hz:F1 ρ s h o a i c) {k:PV->Prop} (hk:VL a e len k):
 ∃x:PV,k x/\x.isAgg=false/\∀cap v,FR ρ (.ref o len e cap) v->gK i c v=x.v/\(a.tw=true->gK i c v=v):=by
 rcases hz.arr with⟨e',rs,n,rfl,h1,h2,rfl,h4,h0⟩|⟨e',rfl,h1,_⟩
 ·obtain⟨h5,h6⟩:=eZ hk
  have h5:=dT h5;subst h5
  have hnl:SO.tw (.arr e' rs n)=false:=by
   cases n
   ·rfl
   ·cases rs with
    |nil=>exact absurd (h0 rfl) (by simp)
    |cons a rs=>rfl
  have hall:∀r∈rs,r.length=e':=λr hr=>(h4.2 r hr).1
  have key:len<=rs.length->∀cap v,FR ρ (.ref o len e' cap) v->gK i (ck rs) v=.vs ((rs.take len).map (·.map PV.v)) none:=λhle cap v hv=>by
   simp only[FR,h1] at hv
   subst hv
   have h7:0+len*e'<=(ck rs).length:=by
    rw[je hall]
    have:=Nat.mul_le_mul_right e' hle
    omega
   rw[gK,if_pos ⟨rfl,h7⟩,List.drop_zero,q6 len hall hle]
  rcases sR h6 with⟨h7,h8⟩|⟨h7,h8⟩
  ·have h7:=dT h7
   have h9:yI (PV.n7 rs) none n=.vs (PV.n7 rs) none:=by
    rcases jt (PV.n7 rs) none n with⟨h9,h10,_⟩|⟨h9,_⟩
    ·have:=lU rs;rw[h9] at this
     rw[h0 (List.eq_nil_of_length_eq_zero this.symm)] at h10;cases h10
    ·exact h9
   exact⟨_,h8,rfl,λcap v hv=>⟨by rw[key (by omega) cap v hv,<-h7,List.take_length];simp only[PV.v,h9];rw[fF],λh=>by rw[hnl] at h;cases h⟩⟩
  ·obtain⟨h9,h10⟩:=eZ h8
   exact⟨_,h10,rfl,λcap v hv=>⟨by rw[key (Nat.le_of_ble_eq_true h9) cap v hv];simp only[PV.v,nI];rw[fF],λh=>by rw[hnl] at h;cases h⟩⟩
 ·obtain⟨_,h6⟩:=eZ hk
  rcases sR h6 with⟨h7,h8⟩|⟨h7,h8⟩
  ·refine⟨_,h8,rfl,λcap v hv=>?_⟩
   simp only[FR,h1] at hv
   obtain⟨rfl,_⟩:=hv
   exact⟨rfl,λ_=>rfl⟩
  ·obtain⟨_,h10⟩:=eZ h8
   refine⟨_,h10,rfl,λcap v hv=>?_⟩
   simp only[FR,h1] at hv
   obtain⟨rfl,rfl⟩:=hv
   exact absurd rfl (pq h7)
theorem F1.cell (hs:SR ρ s h) {o i:Nat} {a:SO} {c:List VV} (hz:F1 ρ s h o a i c) {x:FC} {k:FC->Prop} (hk:Tc o a x k) (hd:LF s x=true):∃y,k y/\∀v,FR ρ x v->FR (ρ.eY o .dead) y (gK i c v)/\(a.tw=true->gK i c v=v):=by
 have hl:ρ.Le (ρ.eY o .dead):=.eY (.inr rfl)
 have hlive:∀n,(ay s.bp n).isSome=true->ρ n≠.dead:=λn hn=>by
  obtain⟨y,hy⟩:=Option.isSome_iff_exists.1 hn
  exact hs.live hy
 have hne:∀n j,n≠o->ρ n=.at j->j≠i:=λn j hn hj e=>by
  subst e
  rcases hz.arr with⟨_,_,_,_,h1,_⟩|⟨_,_,_,h1⟩
  ·exact hn (hs.inj _ _ _ hj h1)
  ·exact h1 n hj
 have same:∀{x:FC} {v:VV},FR ρ x v->gK i c v=v->FR (ρ.eY o .dead) x (gK i c v)/\(a.tw=true->gK i c v=v):=λhv e=>⟨by rw[e];exact hv.mono hl,λ_=>e⟩
 cases x with
 |p x=>exact⟨_,hk,λv hv=>same hv (by obtain⟨rfl,_⟩:=hv;exact JN ..)⟩
 |ptr n off=>
  simp only[Tc] at hk
  cases hb:Nat.beq n o with
  |true=>rw[hb] at hk;exact hk.elim
  |false=>
   rw[hb] at hk
   refine⟨_,hk,λv hv=>same hv ?_⟩
   have h1:=hlive n hd
   simp only[FR] at hv
   split at hv<;>first|exact hv.elim|(exact absurd ‹_› h1)|skip
   rename_i j hj
   subst hv
   simp only[gK,if_neg (hne n j (pq hb) hj)]
 |ep n e p q=>
  simp only[Tc] at hk
  cases hb:Nat.beq n o with
  |true=>rw[hb] at hk;exact hk.elim
  |false=>
   rw[hb] at hk
   refine⟨_,hk,λv hv=>same hv ?_⟩
   have h1:=hlive n hd
   simp only[FR] at hv
   split at hv<;>first|exact hv.elim|(exact absurd ‹_› h1)|skip
   rename_i j hj
   subst hv
   simp only[gK,if_neg (hne n j (pq hb) hj)]
 |mp n=>
  simp only[Tc] at hk
  cases hb:Nat.beq n o with
  |true=>rw[hb] at hk;exact hk.elim
  |false=>
   rw[hb] at hk
   refine⟨_,hk,λv hv=>same hv ?_⟩
   simp only[FR] at hv
   split at hv<;>first|exact hv.elim|(subst hv;rfl)|(obtain⟨_,rfl⟩:=hv;rfl)
 |ref n len e cap=>
  simp only[Tc] at hk
  cases hb:Nat.beq n o with
  |true=>
   rw[hb] at hk
   have:=dT hb;subst this
   obtain⟨y,h1,h2,h3⟩:=hz.val (k:=λv=>k (.p v)) hk
   exact⟨_,h1,λv hv=>⟨⟨(h3 cap v hv).1,h2⟩,(h3 cap v hv).2⟩⟩
  |false=>
   rw[hb] at hk
   refine⟨_,hk,λv hv=>same hv ?_⟩
   have h1:=hlive n hd
   simp only[FR] at hv
   split at hv<;>first|exact hv.elim|(exact absurd ‹_› h1)|skip
   ·rename_i j hj
    subst hv
    have:¬(j=i/\0+len*e<=c.length):=λhh=>hne n j (pq hb) hj hh.1
    simp only[gK,if_neg this]
   ·obtain⟨rfl,rfl⟩:=hv;rfl
theorem F1.cells (hs:SR ρ s h) {o i:Nat} {a:SO} {c:List VV} (hz:F1 ρ s h o a i c):∀{x:List FC} {k:List FC->Prop},LY o a x k->my s x=true->∃y,k y/\∀v,dP ρ x v->dP (ρ.eY o .dead) y (v.map (gK i c))/\(a.tw=true->v.map (gK i c)=v)
 |[],_,hk,_=>⟨[],hk,λv hv=>by cases v with|nil=>exact⟨trivial,λ_=>rfl⟩|cons=>exact hv.elim⟩
 |x::l,k,hk,hd=>by
  simp only[my] at hd
  split at hd
  ·rename_i hd1
   obtain⟨y,h1,h2⟩:=hz.cell hs hk hd1
   obtain⟨r,h3,h4⟩:=F1.cells hs hz (x:=l) h1 hd
   refine⟨_,h3,λv hv=>?_⟩
   cases v with
   |nil=>exact hv.elim
   |cons v m=>
    obtain⟨a1,a2⟩:=h2 v hv.1
    obtain⟨a3,a4⟩:=h4 m hv.2
    exact⟨⟨a1,a3⟩,λhn=>by rw[List.map_cons,a2 hn,a4 hn]⟩
  ·cases hd
def Tj (ρ ρ':NM) (i:Nat) (c:List VV) (a:SO) (x y:EV):Prop:=(∀v,ER ρ x v->ER ρ' y v)\/(a.tw=false/\∀v,ER ρ x v->ER ρ' y (r6 i c v))
theorem F1.slot (hs:SR ρ s h) {o i:Nat} {a:SO} {c:List VV} (hz:F1 ρ s h o a i c) {x:EV} {k:EV->Prop} (hk:VK s o a x k):∃y,k y/\Tj ρ (ρ.eY o .dead) i c a x y:=by
 have hl:ρ.Le (ρ.eY o .dead):=.eY (.inr rfl)
 have same:∀x,Tj ρ (ρ.eY o .dead) i c a x x:=λx=>.inl λv hv=>ER.mono hl hv
 have un:∀x,Tj ρ (ρ.eY o .dead) i c a x .un:=λx=>.inl λv hv=>trivial
 have fz:∀x y,(∀v,ER ρ x v->ER (ρ.eY o .dead) y (r6 i c v)/\(a.tw=true->r6 i c v=v))->Tj ρ (ρ.eY o .dead) i c a x y:=λx y hh=>by
  cases hn:a.tw with
  |true=>exact .inl λv hv=>by have:=hh v hv;rw[this.2 hn] at this;exact this.1
  |false=>exact .inr ⟨hn,λv hv=>(hh v hv).1⟩
 unfold VK at hk
 split at hk
 ·rename_i n len e cap
  cases hb:Nat.beq n o with
  |true=>
   rw[hb] at hk
   have:=dT hb;subst this
   obtain⟨y,h1,h2,h3⟩:=hz.val (k:=λv=>k (.f (.p v))) hk
   refine⟨_,h1,fz _ _ λv hv=>?_⟩
   rw[wV i c (FR.one (x:=.ref n len e cap) hv)]
   exact⟨⟨(h3 cap v hv).1,h2⟩,(h3 cap v hv).2⟩
  |false=>rw[hb] at hk;exact⟨_,hk,same _⟩
 ·cases hb:Mu o _<;>rw[hb] at hk
  ·exact⟨_,hk,same _⟩
  ·exact⟨_,hk,un _⟩
 ·rename_i cs
  cases hb:og o cs with
  |false=>rw[hb] at hk;exact⟨_,hk,same _⟩
  |true=>
   rw[hb] at hk
   cases hd:my s cs with
   |false=>rw[hd] at hk;exact⟨_,hk,un _⟩
   |true=>
    rw[hd] at hk
    obtain⟨y,h2,h3⟩:=hz.cells hs (k:=λr=>k (.agg r)) hk hd
    refine⟨_,h2,fz _ _ λv hv=>?_⟩
    obtain⟨l,rfl,h1⟩:=hv
    obtain⟨h4,h5⟩:=h3 l h1
    exact⟨⟨_,rfl,h4⟩,λhn=>by simp only[r6];rw[h5 hn]⟩
 ·rename_i g l c
  cases hb:og o l<;>rw[hb] at hk
  ·cases hb2:og o c<;>rw[hb2] at hk
   ·exact⟨_,hk,same _⟩
   ·exact⟨_,hk,un _⟩
  ·exact⟨_,hk,un _⟩
 ·rename_i l
  cases hb:H3 o l<;>rw[hb] at hk
  ·exact⟨_,hk,same _⟩
  ·exact⟨_,hk,un _⟩
 ·exact⟨_,hk,un _⟩
theorem Hj (hs:SR ρ s h) {o i:Nat} {a:SO} {c:List VV} (hz:F1 ρ s h o a i c):
 ∀{fr:SF} {k:SF->Prop},Ee.oJ s o a fr k->∃fr',k fr'/\∀t,Tj ρ (ρ.eY o .dead) i c a (gO fr t) (gO fr' t)/\(gO fr' t=.un\/t∈fr.map (·.1))
 |[],_,hk=>⟨[],hk,λt=>⟨.inl λ_ h=>h,.inl rfl⟩⟩
 |(t,x)::l,k,hk=>by
  obtain⟨y,h1,h2⟩:=hz.slot hs (k:=λx=>Ee.oJ s o a l λr=>k ((t,x)::r)) hk
  obtain⟨r,h3,h4⟩:=Hj hs hz (fr:=l) (k:=λr=>k ((t,y)::r)) h1
  refine⟨_,h3,λt'=>?_⟩
  simp only[gO,al]
  by_cases e:t'=t
  ·subst e;simpa using h2
  ·rw[if_neg e,if_neg e]
   refine⟨(h4 t').1,(h4 t').2.imp id λh=>by simp at h⊢;exact .inr h⟩
def Vn (ρ ρ':NM) (i:Nat) (c:List VV) (a:SO) (x y:SO):Prop:=(∀h o,OR ρ h o x->ρ' o=ρ o->OR ρ' h o y)\/(a.tw=false/\∃d d',x=.cells d/\y=.cells d'/\∀l,dP ρ d l->dP ρ' d' (l.map (gK i c)))
theorem OR.mono {ρ':NM} (hl:ρ.Le ρ') {o:Nat} {x:SO} (ho:OR ρ h o x) (he:ρ' o=ρ o):OR ρ' h o x:=ho.move (λ_ _=>rfl) hl he
theorem BB (hs:SR ρ s h) {o i:Nat} {a:SO} {c:List VV} (hz:F1 ρ s h o a i c):
 ∀{os:List (Nat×SO)} {k:List (Nat×SO)->Prop},uT s o a os k->∃os',k os'/\ay os' o=none/\∀n y,ay os' n=some y->n≠o/\∃x,ay os n=some x/\Vn ρ (ρ.eY o .dead) i c a x y
 |[],_,hk=>⟨[],hk,rfl,λn y hy=>by simp[ay] at hy⟩
 |(m,x)::l,k,hk=>by
  have hl:ρ.Le (ρ.eY o .dead):=.eY (.inr rfl)
  have step:∀y,m≠o->Vn ρ (ρ.eY o .dead) i c a x y->(uT s o a l λr=>k ((m,y)::r))->∃os',k os'/\ay os' o=none/\∀n y,ay os' n=some y->n≠o/\∃z,ay ((m,x)::l) n=some z/\Vn ρ (ρ.eY o .dead) i c a z y:=λy hm hq hh=>by
   obtain⟨r,h1,h2,h3⟩:=BB hs hz (os:=l) (k:=λr=>k ((m,y)::r)) hh
   refine⟨_,h1,by rw[al,if_neg (Ne.symm hm)];exact h2,λn z hn=>?_⟩
   rw[al] at hn
   by_cases e:n=m
   ·subst e
    simp at hn;subst hn
    exact⟨hm,x,by rw[al];simp,hq⟩
   ·rw[if_neg e] at hn
    obtain⟨b1,z',b2,b3⟩:=h3 n z hn
    exact⟨b1,z',by rw[al,if_neg e];exact b2,b3⟩
  simp only[uT] at hk
  cases hb:Nat.beq m o with
  |true=>
   rw[hb] at hk
   have:=dT hb;subst this
   obtain⟨r,h1,h2,h3⟩:=BB hs hz (os:=l) (k:=k) hk
   refine⟨_,h1,h2,λn z hn=>?_⟩
   obtain⟨b1,z',b2,b3⟩:=h3 n z hn
   exact⟨b1,z',by rw[al,if_neg b1];exact b2,b3⟩
  |false=>
   rw[hb] at hk
   have hm:=pq hb
   simp only[cond_false] at hk
   split at hk
   ·rename_i d
    cases hb2:og o d with
    |false=>rw[hb2] at hk;exact step _ hm (.inl λh n ho he=>ho.mono hl he) hk
    |true=>
     rw[hb2] at hk
     cases hd:my s d with
     |false=>rw[hd] at hk;exact hk.elim
     |true=>
      rw[hd] at hk
      obtain⟨y,h2,h3⟩:=hz.cells hs (k:=λc=>uT s o a l λr=>k ((m,.cells c)::r)) hk hd
      refine step _ hm ?_ h2
      cases hn:a.tw with
      |true=>
       refine .inl λh n ho he=>?_
       obtain⟨j,l',b1,b2,b3⟩:=ho
       obtain⟨b4,b5⟩:=h3 l' b3
       rw[b5 hn] at b4
       exact⟨j,l',he.trans b1,b2,b4⟩
      |false=>exact .inr ⟨hn,d,y,rfl,rfl,λl hl=>(h3 l hl).1⟩
   ·exact step _ hm (.inl λh n ho he=>ho.mono hl he) hk
open Classical in
theorem OG {o:Nat} {fr:SF} {vfr:Fr} {k:SF->SH->Prop} (hk:TK o fr s k) (hs:SR ρ s h) (hf:jN ρ fr vfr):
 ∃fr' s' ρ' vfr' h',k fr' s'/\uO vfr h vfr' h'/\SR ρ' s' h'/\jN ρ' fr' vfr'/\ch ρ h ρ' h':=by
 obtain⟨a,h1,h2⟩:=bV hk
 obtain⟨os,f⟩:=s
 have hl:ρ.Le (ρ.eY o .dead):=.eY (.inr rfl)
 have hu:ρ o≠.un:=(hs.obj _ _ h1).born.1
 have hat:∀n i,(ρ.eY o .dead) n=.at i->ρ n=.at i/\n≠o:=λn i hn=>by
  by_cases e:n=o
  ·subst e;simp[NM.eY] at hn
  ·exact⟨by simpa[NM.eY,e] using hn,e⟩
 have hne:∀n,n≠o->(ρ.eY o .dead) n=ρ n:=λn e=>by simp[NM.eY,e]
 have hfree:∀n,f<=n->(ρ.eY o .dead) n=.un:=λn hn=>by
  have h1:=hs.free n hn
  have:n≠o:=λe=>hu (e▸h1)
  rw[hne n this];exact h1
 obtain⟨i,c,hz⟩:∃i c,F1 ρ ⟨os,f⟩ h o a i c:=by
  have ho:=hs.obj _ _ h1
  cases a with
  |cells c=>exact h2.elim
  |map es=>exact h2.elim
  |arr e rs n=>
   obtain⟨b3,⟨rfl,rfl,b1⟩|⟨b0,i,b1,b2⟩⟩:=ho
   ·exact⟨h.next,[],h1,.inr ⟨e,rfl,b1,λn hn=>Nat.lt_irrefl _ (hs.iD _ _ hn)⟩⟩
   ·exact⟨i,_,h1,.inl ⟨e,rs,n,rfl,b1,b2,rfl,b3,b0⟩⟩
 have h2:Ee.oJ ⟨os,f⟩ o a fr λfr=>uT ⟨os,f⟩ o a os λos=>k fr ⟨os,f⟩:=by cases a<;>first|exact h2.elim|exact h2
 obtain⟨fr',h3,h4⟩:=Hj hs hz h2
 obtain⟨os',h5,h6,h7⟩:=BB hs hz h3
 cases hn:a.tw with
 |true=>
  refine⟨fr',_,ρ.eY o .dead,vfr,h,h5,.refl _ _,⟨λn y hy=>?_,λn n' j b b'=>hs.inj _ _ _ (hat n j b).1 (hat n' j b').1,λn j b=>hs.iD n j (hat n j b).1,hfree⟩,λt=>?_,⟨hl,λn j b=>.inl ⟨_,(hat n j b).1⟩,Nat.le_refl _,λ_ _ _=>rfl⟩⟩
  ·obtain⟨b1,x,b2,b3⟩:=h7 n y hy
   rcases b3 with b3|⟨b3,_⟩
   ·exact b3 h n (hs.obj n x b2) (hne n b1)
   ·rw[hn] at b3;cases b3
  ·rcases(h4 t).1 with b|⟨b,_⟩
   ·exact b _ (hf t)
   ·rw[hn] at b;cases b
 |false=>
  have hi:ρ o=.at i/\h.get i=some (.cells c):=by
   rcases hz.arr with⟨e,rs,_,_,b1,b2,_⟩|⟨e,rfl,_⟩
   ·exact⟨b1,b2⟩
   ·cases hn
  let ir:=(fr.map (·.1)).filter λt=>decide ¬∀v,ER ρ (gO fr t) v->ER (ρ.eY o .dead) (gO fr' t) v
  let B:Nat->Prop:=λn=>∀x y,ay os n=some x->ay os' n=some y->∀h o',OR ρ h o' x->(ρ.eY o .dead) o'=ρ o'->OR (ρ.eY o .dead) h o' y
  let bp:=(os'.map (·.1)).filterMap λn=>match ρ n with
   |.at j=>if B n then none else some j
   |_=>none
  have hmem:∀j,j∈bp->∃n,ρ n=.at j/\¬B n:=λj hj=>by
   obtain⟨n,_,h8⟩:=List.mem_filterMap.1 hj
   split at h8
   ·rename_i j' hj'
    split at h8
    ·cases h8
    ·rename_i hb;cases h8;exact⟨n,hj',hb⟩
   ·cases h8
  have hmem2:∀n j y,ay os' n=some y->ρ n=.at j->¬B n->j∈bp:=λn j y hy hj hb=>by
   refine List.mem_filterMap.2 ⟨n,?_,by simp only[hj];rw[if_neg hb]⟩
   have key:∀(l:List (Nat×SO)),ay l n=some y->n∈l.map (·.1):=by
    intro l
    induction l with
    |nil=>intro h;simp[ay] at h
    |cons p l ih=>
     obtain⟨m,a⟩:=p
     intro h
     rw[al] at h
     by_cases e:n=m
     ·simp[e]
     ·rw[if_neg e] at h;have:=ih h;simp at this⊢;exact .inr this
   exact key _ hy
  have hget:∀j,j≠i->j∉bp->(mH i c bp h).get j=h.get j:=λj hj hn=>by
   unfold mH
   rw[pM,if_neg hn,aa.aO _ _ hj]
  refine⟨fr',_,ρ.eY o .dead,Vv.oJ i c ir vfr,mH i c bp h,h5,.one hi.2 ir bp (.refl _ _),⟨λn y hy=>?_,λn n' j b b'=>hs.inj _ _ _ (hat n j b).1 (hat n' j b').1,λn j b=>?_,hfree⟩,λt=>?_,⟨hl,λn j b=>.inl ⟨_,(hat n j b).1⟩,?_,λj hj hjn=>?_⟩⟩
  ·obtain⟨b1,x,b2,b3⟩:=h7 n y hy
   have hox:=hs.obj n x b2
   have hji:∀j,ρ n=.at j->j≠i:=λj hj e=>b1 (hs.inj _ _ _ hj (e▸hi.1))
   by_cases hb:B n
   ·refine hb x y b2 hy _ n ?_ (hne n b1)
    have hno:∀j,ρ n=.at j->j∉bp:=λj hj hm=>by
     obtain⟨n',e1,e2⟩:=hmem j hm
     have:=hs.inj _ _ _ hj e1
     subst this
     exact e2 hb
    exact hox.move (λj hj=>hget j (hji j hj) (hno j hj)) (.refl ρ) rfl
   ·rcases b3 with b3|⟨_,d,d',rfl,rfl,b4⟩
    ·exact absurd (λx' y' ex ey=>by rw[b2] at ex;cases ex;rw[hy] at ey;cases ey;exact b3) hb
    ·obtain⟨j,l,e1,e2,e3⟩:=hox
     refine⟨j,_,(hne n b1).trans e1,?_,b4 l e3⟩
     unfold mH
     rw[pM,if_pos (hmem2 n j _ hy e1 hb),aa.aO _ _ (hji j e1),e2]
  ·have:=hs.iD n j (hat n j b).1
   unfold mH
   rw[qG];exact this
  ·rw[Dl]
   by_cases hb:∀v,ER ρ (gO fr t) v->ER (ρ.eY o .dead) (gO fr' t) v
   ·rw[if_neg (by simp[ir];exact λ_ _=>hb)]
    exact hb _ (hf t)
   ·rcases(h4 t).1 with b|⟨_,b⟩
    ·exact absurd b hb
    ·rcases(h4 t).2 with b2|b2
     ·rw[b2];trivial
     ·rw[if_pos (List.mem_filter.2 ⟨b2,by simpa using hb⟩)]
      exact b _ (hf t)
  ·unfold mH
   rw[qG];exact Nat.le_refl _
  ·refine hget j (λe=>hjn o (e▸hi.1)) λhm=>?_
   obtain⟨n,e1,_⟩:=hmem j hm
   exact hjn n e1
theorem uO.trans {fr fr1 fr2:Fr} {h h1 h2:aa} (a:uO fr h fr1 h1) (b:uO fr1 h1 fr2 h2):uO fr h fr2 h2:=by
 induction a with
 |refl=>exact b
 |one hc ir bp _ ih=>exact .one hc ir bp (ih b)
 |OD hc _ ih=>exact .OD hc (ih b)
theorem Dm:∀(l:List (Nat×Option Nat)) {ρ:NM} {s:SH} {h:aa} {fr:SF} {vfr:Fr} {k:SF->SH->Prop},OF l fr s k->SR ρ s h->jN ρ fr vfr->
 ∃fr' s' ρ' vfr' h',k fr' s'/\uO vfr h vfr' h'/\SR ρ' s' h'/\jN ρ' fr' vfr'/\ch ρ h ρ' h'
 |[],ρ,s,h,fr,vfr,k,hk,hs,hf=>⟨fr,s,ρ,vfr,h,hk,.refl _ _,hs,hf,.refl ρ h⟩
 |(t,c)::l,ρ,s,h,fr,vfr,k,hk,hs,hf=>by
  have one:∀o,(TK o fr s λfr s=>OF l fr s k)->∃fr' s' ρ' vfr' h',k fr' s'/\uO vfr h vfr' h'/\SR ρ' s' h'/\jN ρ' fr' vfr'/\ch ρ h ρ' h':=λo ho=>by
   obtain⟨fr1,s1,ρ1,vfr1,h1,a1,a2,a3,a4,a5⟩:=OG ho hs hf
   obtain⟨fr2,s2,ρ2,vfr2,h2,b1,b2,b3,b4,b5⟩:=Dm l a1 a3 a4
   exact⟨fr2,s2,ρ2,vfr2,h2,b1,uO.trans a2 b2,b3,b4,a5.trans b5⟩
  simp only[OF] at hk
  split at hk
  ·exact one _ hk
  ·obtain⟨x,h1,h2⟩:=bV hk
   split at h2
   ·obtain⟨y,_,h3⟩:=bV h2
    split at h3
    ·exact one _ h3
    ·exact Dm l h3 hs hf
   ·exact h2.elim
  ·exact Dm l hk hs hf
end
end Go.Ee
