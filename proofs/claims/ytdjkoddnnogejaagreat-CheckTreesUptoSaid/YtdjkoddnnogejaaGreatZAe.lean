/- Part of the proof of CheckTrees: plain laws and steps of its walks, for all arguments. -/
import Derived.Test.YtdjkoddnnogejaaGreatZAc
set_option linter.unusedSimpArgs false
set_option linter.unusedVariables false
set_option linter.unusedSectionVars false
namespace Go.Proofs.YtdjkoddnnogejaaGreat
section
set_option maxRecDepth 100000
open Go.Vv Go.Ee
theorem OW {l:List (ah×Int)} {k:Nat->Prop} (h:W (k l.length)):S4 (l.map ky++[]).length k:=⟨by simpa[W] using h⟩
theorem DJ {ns:List Nd} {ty:List ah} {va:List Int} {lo:List Lc} {sc:List (ah×Int)} {lp:Int} {n:Int} {k:List PV->Prop} (w:Wf ns ⟨ty,va,lo,sc,lp⟩) (h0:0<=n) (h1:n<(ns.length:Int)) (h:W (k [.int .i64 (fu ⟨ty,va,lo,sc,lp⟩ n)])):iK (va.map aB)[n.toNat]? k:=by
 refine on _ ?_ h
 obtain⟨m,rfl⟩:∃m:Nat,n=m:=⟨n.toNat,by omega⟩
 have:=w.vl
 have:m<va.length:=by simp at this;omega
 simp[fu,this]
theorem Pn {ns:List Nd} {n v:Int} {name t:ah} {mt:Bool} {ty:List ah} {va:List Int} {lo:List Lc} {sc:List (ah×Int)} {lp:Int} (w:Wf ns ⟨ty,va,lo,sc,lp⟩) (h0:0<=n) (h1:n<(ns.length:Int)) (ht:cM t) (htl:t.length<=cU lo.length+200000) (hl:lo.length≠256) (hv:v=lo.length):
 Wf ns ⟨ty,va.set n.toNat v,lo++[⟨name,t,mt⟩],sc++[(name,v)],lp⟩:=by
 subst hv
 exact((Mv.refl (n:=n) w).variable (c:=⟨ty,va.set n.toNat lo.length,lo++[⟨name,t,mt⟩],sc++[(name,(lo.length:Int))],lp⟩) (mt:=mt) (name:=name) h0 h1 ht htl (by simp[bw,hl])).wf
theorem wa:dy Tryz.prog 212=24:=by kernel_rfl
theorem v7:dy Tryz.prog 107=40:=by kernel_rfl
section
variable(C:Cx) (E:Rec) (n:Int) (h0:0<=n) (h1:n<(C.ns.length:Int)) (l:Int)
include h0 h1
theorem L6 (s:ah):iA C 158 [.i n,.s s] (λst=>.ok s {st with types:=st.types.set n.toNat s}) EV.s 0:=by
 intro ty va lo sc lp q1 q2 ex K w l0 l1 hok hbad
 refine aX [] [] [4,5] Tryz.func158 rfl (by kernel_rfl) ?_
 repeat' first
  |((with_reducible refine W.of ?_);conv=>whnf)
  |with_reducible first
   |refine W.fin (K:=K) (hok _ _ _ _ _ _ _ _ ?_ (Wf.setType w _ _)) rfl rfl
   |refine W.fin (K:=K) (hok _ _ _ _ _ _ _ _ ?_ ‹_›) rfl rfl
   |refine W.fin (K:=K) (hbad ⟨_,_,_⟩ ?_) rfl rfl
   |refine W.fin (K:=K) (hbad _ ?_) rfl rfl
   |refine bt (eO ‹_› ‹_›) ?_
   |refine gi ‹_› ‹_› ‹_› ?_
   |refine dj ?_
 rfl
theorem lP (name t:ah) (mt:Bool) (ht:cM t) (ty:List ah) (va:List Int) (lo:List Lc) (sc:List (ah×Int)) (lp:Int) (htl:t.length<=cU lo.length+200000):
 sS C 98 [.i n,.s name,.s t,.b mt] (jd C.ns n name t mt) EV.i 0 ty va lo sc lp:=by
 intro c1 c2 ex K w l0 l1 hok hbad
 refine aX [] [] [4,5] Tryz.func98 rfl (by kernel_rfl) ?_
 have hl:=w.ll
 have hl2:=w.sl
 dsimp only at hl hl2
 repeat' first
  |((with_reducible refine W.of ?_);conv=>whnf)
  |with_reducible first
   |refine W.fin (K:=K) (hok _ _ _ _ _ _ _ _ ?_ ‹_›) rfl rfl
   |refine W.fin (K:=K) (hok () _ _ _ _ _ _ _ ?_ ‹_›) rfl rfl
   |refine W.fin (K:=K) (hbad ⟨_,_,_⟩ ?_) rfl rfl
   |refine W.fin (K:=K) (hbad _ ?_) rfl rfl
   |refine bt (decide_eq_true ‹_›) ?_
   |refine bt (eO ‹_› ‹_›) ?_
   |refine aq ‹_› ‹_› ?_
   |refine dj ?_
   |refine W.and (by kernel_rfl) ?_
   |refine fn [] [] Tryz.func157 rfl (by kernel_rfl) ?_
   |refine fn [] [] Tryz.func95 rfl (by kernel_rfl) ?_
   |refine pH (f:=vK) (a:=⟨_,_,_⟩) ?_
   |refine Dj (a:=(_,_)) ?_ ?_
   |refine Dk (a:=(_,_)) ?_
   |refine fj ?_
   |refine OW ?_
   |refine DJ ‹_› ‹_› ‹_› ?_
  |((with_reducible refine bt ?_ ?_);focus(simp[v7,wa]<;>omega))
  |with_reducible first
   |refine W.fin (K:=K) (hok _ _ _ _ _ _ _ _ ?_ ?_) rfl rfl
   |refine SC.call ?_
  |((with_reducible refine bb (λh=>?_) (λh=>?_))<;>(try simp at h))
 all_goals(clear hok hbad)
 all_goals(first|exact Pn w h0 h1 ht htl (by omega) (by simp)|((by_cases h9:lo.length=256)<;>simp_all[jd,bw,aN.then,ai,wa]<;>omega))
end
end
section
set_option maxRecDepth 100000
open Go.Vv Go.Ee
abbrev HE (C:Cx) (E:Rec) (n:Int):Prop:=∀k,0<=k->k<n->aG (nd C.ns k).kind=true->iA C 99 [.i k] (E k) EV.s k
section
variable(C:Cx) (E:Rec) (g:Good C.ns) (n:Int) (h0:0<=n) (h1:n<(C.ns.length:Int)) (hE:HE C E n)
include g h0 h1 hE
theorem Tu (hkd:(nd C.ns n).kind=38):iA C 219 [.i n] (yS C.ns E n) EV.s n:=by
 obtain⟨a,b,hkk,a0,a1,b0,b1,ae,be⟩:=g.vG h0 h1 (.inr hkd)
 have he0:ax C.ns n 0=a:=by simp[ax,hkk]
 have he1:ax C.ns n 1=b:=by simp[ax,hkk]
 have hEa:=hE a a0 a1 ae
 have hEb:=hE b b0 b1 be
 have a2:a<(C.ns.length:Int):=by omega
 have b2:b<(C.ns.length:Int):=by omega
 intro ty va lo sc lp q1 q2 ex K w l0 l1 hok hbad
 refine aX [(2,[(0,[]),(1,[]),(2,[]),(3,[]),(4,[]),(5,[]),(6,[]),(7,[]),(8,[7,5]),(9,[])])] [] [4,5] Tryz.func219 rfl (by kernel_rfl) ?_
 repeat' first
  |((with_reducible refine W.of ?_);conv=>whnf)
  |with_reducible first
   |refine W.fin (K:=K) (hok _ _ _ _ _ _ _ _ ?_ ‹_›) rfl rfl
   |refine W.fin (K:=K) (hbad ⟨_,_,_⟩ ?_) rfl rfl
   |refine W.fin (K:=K) (hbad _ ?_) rfl rfl
   |refine bt (decide_eq_true ‹_›) ?_
   |refine aq ‹_› ‹_› ?_
   |refine W.and (by kernel_rfl) ?_
   |refine fn [] [] Tryz.func157 rfl (by kernel_rfl) ?_
   |refine fn [] [] Tryz.func95 rfl (by kernel_rfl) ?_
  |((with_reducible refine on (aB a) ?_ ?_);focus(simp[hkk];done))
  |((with_reducible refine on (aB b) ?_ ?_);focus(simp[hkk];done))
  |with_reducible first
   |refine fN C E a a0 a2 a hEa _ _ _ _ _ _ _ _ _ ‹_› (by omega) (by omega) (λv ty va lo sc q1 q2 ex hF w=>?_) (λd hF=>?_)
   |refine eN C E a a0 a2 a hEa _ _ _ _ _ _ _ _ _ _ ‹_› (by omega) (by omega) (λv ty va lo sc q1 q2 ex hF w=>?_) (λd hF=>?_)
   |refine eN C E b b0 b2 b hEb _ _ _ _ _ _ _ _ _ _ ‹_› (by omega) (by omega) (λv ty va lo sc q1 q2 ex hF w=>?_) (λd hF=>?_)
   |refine SC.call ?_
  |((with_reducible refine bb (λh=>?_) (λh=>?_))<;>(try simp at h))
 all_goals(clear hok hbad hE hEa hEb;simp_all[yS,aN.then,ai,bg,aI])
theorem Gu (hkd:(nd C.ns n).kind=45):iA C 227 [.i n] (iO C.ns E n) EV.s n:=by
 rcases g.xb h0 h1 hkd with⟨a,b,hkk,a0,a1,b0,b1,ae,be⟩|⟨a,b,c,hkk,a0,a1,b0,b1,c0,c1,ae,be,ce⟩
 ·have he0:ax C.ns n 0=a:=by simp[ax,hkk]
  have he1:ax C.ns n 1=b:=by simp[ax,hkk]
  have hEa:=hE a a0 a1 ae
  have hEb:=hE b b0 b1 be
  have a2:a<(C.ns.length:Int):=by omega
  have b2:b<(C.ns.length:Int):=by omega
  intro ty va lo sc lp q1 q2 ex K w l0 l1 hok hbad
  refine aX [] [] [4,5] Tryz.func227 rfl (by kernel_rfl) ?_
  repeat' first
   |((with_reducible refine W.of ?_);conv=>whnf)
   |with_reducible first
    |refine W.fin (K:=K) (hok _ _ _ _ _ _ _ _ ?_ ‹_›) rfl rfl
    |refine W.fin (K:=K) (hbad ⟨_,_,_⟩ ?_) rfl rfl
    |refine W.fin (K:=K) (hbad _ ?_) rfl rfl
    |refine bt (decide_eq_true ‹_›) ?_
    |refine aq ‹_› ‹_› ?_
    |refine fn [] [] Tryz.func95 rfl (by kernel_rfl) ?_
   |((with_reducible refine on (aB a) ?_ ?_);focus(simp[hkk];done))
   |((with_reducible refine on (aB b) ?_ ?_);focus(simp[hkk];done))
   |((with_reducible refine bt ?_ ?_);focus(simp[hkk]<;>omega))
   |with_reducible first
    |refine eN C E a a0 a2 a hEa _ _ _ _ _ _ _ _ _ _ ‹_› (by omega) (by omega) (λv ty va lo sc q1 q2 ex hF w=>?_) (λd hF=>?_)
    |refine hEb _ _ _ _ _ _ _ _ _ ‹_› (by omega) (by omega) (λv ty va lo sc q1 q2 ex hF w=>?_) (λd hF=>?_)
    |refine tk C b b0 b2 _ _ _ _ _ _ _ _ _ _ ‹_› (by omega) (by omega) (λv ty va lo sc q1 q2 ex hF w=>?_) (λd hF=>?_)
    |refine SC.call ?_
   |((with_reducible refine bb (λh=>?_) (λh=>?_))<;>(try simp at h))
  all_goals(clear hok hbad hE hEa hEb;simp_all[iO,aN.then,ai,bg,aI,aE,aF])
 ·have he0:ax C.ns n 0=a:=by simp[ax,hkk]
  have he1:ax C.ns n 1=b:=by simp[ax,hkk]
  have he2:ax C.ns n 2=c:=by simp[ax,hkk]
  have hEa:=hE a a0 a1 ae
  have hEb:=hE b b0 b1 be
  have hEc:=hE c c0 c1 ce
  have a2:a<(C.ns.length:Int):=by omega
  have b2:b<(C.ns.length:Int):=by omega
  have c2:c<(C.ns.length:Int):=by omega
  intro ty va lo sc lp q1 q2 ex K w l0 l1 hok hbad
  refine aX [] [] [4,5] Tryz.func227 rfl (by kernel_rfl) ?_
  repeat' first
   |((with_reducible refine W.of ?_);conv=>whnf)
   |with_reducible first
    |refine W.fin (K:=K) (hok _ _ _ _ _ _ _ _ ?_ ‹_›) rfl rfl
    |refine W.fin (K:=K) (hbad ⟨_,_,_⟩ ?_) rfl rfl
    |refine W.fin (K:=K) (hbad _ ?_) rfl rfl
    |refine bt (decide_eq_true ‹_›) ?_
    |refine aq ‹_› ‹_› ?_
    |refine fn [] [] Tryz.func95 rfl (by kernel_rfl) ?_
   |((with_reducible refine on (aB a) ?_ ?_);focus(simp[hkk];done))
   |((with_reducible refine on (aB b) ?_ ?_);focus(simp[hkk];done))
   |((with_reducible refine on (aB c) ?_ ?_);focus(simp[hkk];done))
   |with_reducible first
    |refine eN C E a a0 a2 a hEa _ _ _ _ _ _ _ _ _ _ ‹_› (by omega) (by omega) (λv ty va lo sc q1 q2 ex hF w=>?_) (λd hF=>?_)
    |refine hEb _ _ _ _ _ _ _ _ _ ‹_› (by omega) (by omega) (λv ty va lo sc q1 q2 ex hF w=>?_) (λd hF=>?_)
    |refine hEc _ _ _ _ _ _ _ _ _ ‹_› (by omega) (by omega) (λv ty va lo sc q1 q2 ex hF w=>?_) (λd hF=>?_)
    |refine tk C b b0 b2 _ _ _ _ _ _ _ _ _ _ ‹_› (by omega) (by omega) (λv ty va lo sc q1 q2 ex hF w=>?_) (λd hF=>?_)
    |refine tk C c c0 c2 _ _ _ _ _ _ _ _ _ _ ‹_› (by omega) (by omega) (λv ty va lo sc q1 q2 ex hF w=>?_) (λd hF=>?_)
    |refine SC.call ?_
   |((with_reducible refine bb (λh=>?_) (λh=>?_))<;>(try simp at h))
  all_goals(clear hok hbad hE hEa hEb hEc;simp_all[iO,aN.then,ai,bg,aI,aE,aF])
end
end
section
set_option maxRecDepth 100000
open Go.Vv Go.Ee
def kJ (l:List ah):Nat->List (ah×PV)
 |0=>[]
 |i+1=>match l[i]? with
  |some s=>if(bS s (kJ l i)).isSome=true then kJ l i else fk s (.int .i64 i) (kJ l i)
  |none=>kJ l i
theorem z6 {s:ah} {v:PV}:∀{m:List (ah×PV)},bS s m=none->∀t,bS t (fk s v m)=if t=s then some v else bS t m
 |[],_,t=>by
  by_cases h:t=s
  ·simp[fk,bS,h]
  ·have:(t==s)=false:=by simp[h]
   simp[fk,bS,h,this]
 |(a,w)::m,h,t=>by
  by_cases e:s=a
  ·subst e;simp[bS] at h
  ·have e2:(s==a)=false:=by simp[e]
   simp only[bS,e2] at h
   simp only[fk,e2,bS]
   by_cases f:t=a
   ·subst f
    have:¬t=s:=λh=>e h.symm
    simp[this]
   ·have:(t==a)=false:=by simp[f]
    simp only[this]
    exact z6 h t
theorem nF (l:List ah):∀i,i<=l.length->∀s,bS s (kJ l i)=((l.take i).findIdx? (·==s)).map λk=>.int .i64 (k:Nat)
 |0,_,s=>by simp[kJ,bS]
 |i+1,h,s=>by
  have ih:=nF l i (by omega)
  have hl:i<l.length:=by omega
  rw[List.take_add_one,List.getElem?_eq_getElem hl,Option.toList_some,List.findIdx?_append]
  simp only[kJ,List.getElem?_eq_getElem hl]
  split
  ·rename_i h2
   rw[ih] at h2⊢
   by_cases e:l[i]=s
   ·subst e
    cases h3:(l.take i).findIdx? (·==l[i]) with
    |none=>rw[h3] at h2;simp at h2
    |some k=>simp
   ·have:(l[i]==s)=false:=by simp[e]
    simp[List.findIdx?_cons,this]
  ·rename_i h2
   rw[z6 (by simpa using h2),ih]
   by_cases e:l[i]=s
   ·subst e
    have h3:(l.take i).findIdx? (·==l[i])=none:=by
     cases h3:(l.take i).findIdx? (·==l[i]) with
     |none=>rfl
     |some k=>rw[ih,h3] at h2;simp at h2
    simp[h3,List.findIdx?_cons,Nat.min_eq_left (Nat.le_of_lt hl)]
   ·have:(l[i]==s)=false:=by simp[e]
    have e2:¬s=l[i]:=λh=>e h.symm
    simp[List.findIdx?_cons,this,e2]
end
section
set_option maxRecDepth 100000
set_option maxHeartbeats 4000000
open Go.Vv Go.Ee
abbrev L8 (it:aw):EV:=.agg [.p (.vs (it.ss.map iT) none it.sn),.p (.vs (it.es.map iT) none it.en),.p (.vs (it.fns.map sC) none it.yG)]
abbrev X0 (it:aw):SH:=⟨[(3,.map (kJ (it.fns.map Fx.name) it.fns.length)),(2,.map (kJ (it.es.map Sd.name) it.es.length)),(1,.map (kJ (it.ss.map Sd.name) it.ss.length)),(0,.cells [.mp 1,.mp 2,.mp 3])],4⟩
abbrev Vd (it:aw) (m1 m2 m3:List (ah×PV)):SH:=⟨[(4,.cells [.mp 1,.mp 2,.mp 3]),(3,.map m3),(2,.map m2),(1,.map m1),(0,.cells [.p (.vs (it.ss.map iT) none it.sn),.p (.vs (it.es.map iT) none it.en),.p (.vs (it.fns.map sC) none it.yG)])],5⟩
theorem H7 {l:List ah} {i:Nat} {s:ah} {k1:PV->Prop} {k2:Prop} (h:i<=l.length) (h1:∀k:Nat,bS s (kJ l i)=some (.int .i64 k)->W (k1 (.int .i64 k))) (h2:bS s (kJ l i)=none->W k2):Mt (bS s (kJ l i)) k1 k2:=by
 have e:=nF l i h s
 cases hx:(l.take i).findIdx? (·==s) with
 |none=>rw[hx] at e;simp only[Mt];rw[e];exact h2 e
 |some k=>rw[hx] at e;simp only[Mt];rw[e];exact h1 k e
theorem aj {α:Type} {f:α->List PV} {l:List α} {i:Nat} {k:List PV->Prop} (h:i<l.length) (hk:∀x,l[i]?=some x->W (k (f x))):iK (l.map f)[i]? k:=by
 refine on (f l[i]) ?_ (hk _ (by simp[h]))
 simp[h]
theorem foldM {l:List ah} {i:Int} {s:ah} {k:List (ah×PV)->Prop} (h0:0<=i) (hs:l[i.toNat]?=some s) (hn:bS s (kJ l i.toNat)=none) (h:W (k (kJ l (i.toNat+1)))):Fold (fk s (.int .i64 i) (kJ l i.toNat)) k:=fold_eq _ (by simp[kJ,hs,hn,Int.toNat_of_nonneg h0]) h
theorem MA {l:List ah} {i:Nat} {s:ah} {v:PV} (hs:l[i]?=some s) (hn:bS s (kJ l i)=some v):kJ l (i+1)=kJ l i:=by simp[kJ,hs,hn]
theorem sD {K:aR->SH->Prop} (it:aw) (b1:it.ss.length<=1048576) (b2:it.es.length<=1048576) (b3:it.fns.length<=1048576) (hK:W (K (.ret (.f (.ptr 0 0))) (X0 it))):SC Tryz.prog 88 [L8 it] H0 K:=by
 refine aX [] [] [] Tryz.func88 rfl (by kernel_rfl) ?_
 repeat' first
  |((with_reducible refine W.of ?_);conv=>whnf)
  |with_reducible first
   |refine W.fin (K:=K) hK rfl rfl
   |refine W.and (by kernel_rfl) ?_
   |refine fn [] [] Tryz.func151 rfl (by kernel_rfl) ?_
  |(rw[show i.toNat=it.ss.length by omega])
  |(rw[show i.toNat=it.es.length by omega])
  |(rw[show i.toNat=it.fns.length by omega])
  |((with_reducible refine bT [] [] [21] [] (λa:{i:Int//0<=i/\i<=it.ss.length}=>[.i a.1]) (λa=>Vd it (kJ (it.ss.map Sd.name) a.1.toNat) [] []) (λa=>it.ss.length-a.1.toNat) ⟨0,by omega,by omega⟩ (by kernel_rfl) ?_ ?_);(focus((with_reducible refine W.of ?_);(conv=>whnf);exact⟨rfl,rfl⟩));rintro⟨i,hi0,hi⟩;dsimp only)
  |((with_reducible refine bT [] [] [37] [] (λa:{i:Int//0<=i/\i<=it.es.length}=>[.i a.1]) (λa=>Vd it (kJ (it.ss.map Sd.name) it.ss.length) (kJ (it.es.map Sd.name) a.1.toNat) []) (λa=>it.es.length-a.1.toNat) ⟨0,by omega,by omega⟩ (by kernel_rfl) ?_ ?_);(focus((with_reducible refine W.of ?_);(conv=>whnf);exact⟨rfl,rfl⟩));rintro⟨i,hi0,hi⟩;dsimp only)
  |((with_reducible refine bT [] [] [53] [] (λa:{i:Int//0<=i/\i<=it.fns.length}=>[.i a.1]) (λa=>Vd it (kJ (it.ss.map Sd.name) it.ss.length) (kJ (it.es.map Sd.name) it.es.length) (kJ (it.fns.map Fx.name) a.1.toNat)) (λa=>it.fns.length-a.1.toNat) ⟨0,by omega,by omega⟩ (by kernel_rfl) ?_ ?_);(focus((with_reducible refine W.of ?_);(conv=>whnf);exact⟨rfl,rfl⟩));rintro⟨i,hi0,hi⟩;dsimp only)
  |with_reducible first
   |refine aj (by omega) (λx hx=>?_)
   |refine H7 (by rw[List.length_map];omega) (λk hm=>?_) (λhm=>?_)
  |((with_reducible refine bt ?_ ?_);focus(simp[]<;>omega))
  |(refine foldM hi0 (by rw[List.getElem?_map,hx];rfl) hm ?_)
  |((with_reducible refine bb (λh=>?_) (λh=>?_))<;>(try simp at h))
 all_goals(refine⟨⟨⟨i+1,by omega,?_⟩,?_,rfl,?_⟩,rfl⟩)
 all_goals(clear hK;first|omega|(show _-(i+1).toNat<_-i.toNat;omega)|skip)
 all_goals(dsimp only[Vd];rw[show(i+1).toNat=i.toNat+1 by omega])
 all_goals(rw[MA (by rw[List.getElem?_map,hx];rfl) hm])
end
section
set_option maxRecDepth 100000
open Go.Vv Go.Ee
theorem Bt {α:Type} {f:α->List PV} {l:List α} {i:Int} {a:α} {k:List (List PV)->Prop} (h0:0<=i) (ha:l[i.toNat]?=some a) (h:W (k ((l.take (i+1).toNat).map f))):Fold ((l.take i.toNat).map f++[f a]) k:=
 fold_eq _ (by rw[show(i+1).toNat=i.toNat+1 by omega,List.take_add_one,ha];simp) h
theorem HQ {α β:Type} {f:α->β} {l:List α} {i:Nat} {k:Nat->Prop} (hi:i<=l.length) (h:W (k i)):S4 ((l.take i).map f).length k:=⟨by rw[List.length_map,List.length_take,Nat.min_eq_left hi];exact h⟩
theorem Gq {α β:Type} {f:α->β} {l:List α} {i:Nat} {k1 k2:Prop} (hi:i<=l.length) (h:W k1):Br (Nat.beq ((l.take i).map f).length i) k1 k2:=bt (by simp[hi]) h
structure Ws where
 ty:List ah
 va:List Int
 lo:List Lc
 sc:List (ah×Int)
 c1:Option Nat
 c2:Option Nat
 ex:List (List PV)
abbrev Ws.st (w:Ws) (lp:Int):St:=⟨w.ty,w.va,w.lo,w.sc,lp⟩
abbrev F5 (a b z:Nat) (os:List (Nat×SO)) (C:Cx) (w:Ws) (lp:Int):SH:=⟨(b,.arr 3 (w.lo.map vK) true)::(a,.arr 2 (w.sc.map ky++w.ex) true)::(os++Tg a b C w.ty w.va w.lo w.sc lp w.c1 w.c2),z⟩
abbrev Ta (f:Fx):SO:=.cells [.p (.str f.name),.p (.vs (f.ps.map nZ) none f.pn),.p (.vs (f.ms.map uP) none f.mn),.p (.str f.ret),.p (.int .i64 f.node)]
abbrev We (s:Sd):SO:=.cells [.p (.str s.name),.p (.vs (s.fs.map nZ) none s.nl)]
abbrev Tm (n:Nat) (P:Int->Ws->Prop):Type:={a:Int×Ws//0<=a.1/\a.1<=n/\P a.1 a.2}
theorem hC:dy Tryz.prog 9=16:=by kernel_rfl
theorem gZ:dy Tryz.prog 3=8:=by kernel_rfl
theorem ao {n:Nat} {i:Int} (h0:0<=i) (h:i<(n:Int)):n-(i+1).toNat<n-i.toNat:=by omega
theorem sv {ns:List Nd} {E:Rec} {ks:List Int} {ws:List ah} {i:Int} {k:Int} {t:ah} {st:St} (h0:0<=i) (hk:ks[i.toNat]?=some k) (ht:ws[i.toNat]?=some t):
 gG ns E (ks.drop i.toNat) (ws.drop i.toNat) st=(bP ns E k t st).then λ_ st=>gG ns E (ks.drop (i+1).toNat) (ws.drop (i+1).toNat) st:=by
 obtain⟨h1,rfl⟩:=List.getElem?_eq_some_iff.1 hk
 obtain⟨h2,rfl⟩:=List.getElem?_eq_some_iff.1 ht
 rw[List.drop_eq_getElem_cons h1,List.drop_eq_getElem_cons h2,show(i+1).toNat=i.toNat+1 by omega];rfl
theorem wz {ns:List Nd} {E:Rec} {ks:List Int} {ws:List ah} {i:Int} {st:St} (h:(ks.length:Int)<=i):gG ns E (ks.drop i.toNat) ws st=.ok () st:=by
 rw[List.drop_of_length_le (by omega)];cases ws<;>rfl
section
variable{ns:List Nd} {it:aw} {E:Rec} {n:Int} {ws:List ah} {r:ah} {st:St} (hs:kz it (nd ns n).name=some (ws,r))
include hs
theorem yV (hl:ws.length≠(nd ns n).kids.length):n9 ns it E n st=ai ns 162 n:=by simp[n9,hs,hl]
theorem yU (hl:ws.length=(nd ns n).kids.length):n9 ns it E n st=(gG ns E (nd ns n).kids ws st).then λ_ st=>.ok r st:=by simp[n9,hs,hl]
end
end
section
set_option maxRecDepth 100000
set_option maxHeartbeats 400000
open Go.Vv Go.Ee
variable{K:aR->SH->Prop}
abbrev KB (K:aR->SH->Prop) (b:Bool):Prop:=W (K (.ret (.b b)) H0)
theorem tx (k:Int) (hK:KB K (aJ k)):SC Tryz.prog 254 [.i k] H0 K:=by
 refine aX [] [] [] Tryz.func254 rfl (by kernel_rfl) ?_
 repeat' first
  |((with_reducible refine W.of ?_);conv=>whnf)
  |with_reducible refine W.fin (K:=K) hK ?_ rfl
  |((with_reducible refine bb (λh=>?_) (λh=>?_))<;>(try simp at h))
 all_goals(clear hK;grind [aJ])
theorem zP (k:Int) (hK:KB K (bY k)):SC Tryz.prog 255 [.i k] H0 K:=by
 refine aX [] [] [] Tryz.func255 rfl (by kernel_rfl) ?_
 repeat' first
  |((with_reducible refine W.of ?_);conv=>whnf)
  |with_reducible refine W.fin (K:=K) hK ?_ rfl
  |((with_reducible refine bb (λh=>?_) (λh=>?_))<;>(try simp at h))
 all_goals(clear hK;grind [bY])
theorem Dv (k:Int) (hK:KB K (bN k)):SC Tryz.prog 256 [.i k] H0 K:=by
 refine aX [] [] [] Tryz.func256 rfl (by kernel_rfl) ?_
 repeat' first
  |((with_reducible refine W.of ?_);conv=>whnf)
  |with_reducible refine W.fin (K:=K) hK ?_ rfl
  |((with_reducible refine bb (λh=>?_) (λh=>?_))<;>(try simp at h))
 all_goals(clear hK;grind [bN])
theorem zO (k:Int) (hK:KB K (aG k)):SC Tryz.prog 257 [.i k] H0 K:=by
 refine aX [] [] [] Tryz.func257 rfl (by kernel_rfl) ?_
 repeat' first
  |((with_reducible refine W.of ?_);conv=>whnf)
  |with_reducible refine W.fin (K:=K) hK ?_ rfl
  |((with_reducible refine bb (λh=>?_) (λh=>?_))<;>(try simp at h))
 all_goals(clear hK;grind [aG])
theorem vW (k:Int) (hK:KB K (aJ k)):SC Tryz.prog 278 [.i k] H0 K:=by
 refine aX [] [] [] Tryz.func278 rfl (by kernel_rfl) ?_
 repeat' first
  |((with_reducible refine W.of ?_);conv=>whnf)
  |with_reducible refine W.fin (K:=K) hK ?_ rfl
  |((with_reducible refine bb (λh=>?_) (λh=>?_))<;>(try simp at h))
 all_goals(clear hK;grind [aJ])
theorem vV (k:Int) (hK:KB K (bY k)):SC Tryz.prog 279 [.i k] H0 K:=by
 refine aX [] [] [] Tryz.func279 rfl (by kernel_rfl) ?_
 repeat' first
  |((with_reducible refine W.of ?_);conv=>whnf)
  |with_reducible refine W.fin (K:=K) hK ?_ rfl
  |((with_reducible refine bb (λh=>?_) (λh=>?_))<;>(try simp at h))
 all_goals(clear hK;grind [bY])
theorem Am (k:Int) (hK:KB K (bN k)):SC Tryz.prog 21 [.i k] H0 K:=by
 refine aX [] [] [] Tryz.func21 rfl (by kernel_rfl) ?_
 repeat' first
  |((with_reducible refine W.of ?_);conv=>whnf)
  |with_reducible refine W.fin (K:=K) hK ?_ rfl
  |((with_reducible refine bb (λh=>?_) (λh=>?_))<;>(try simp at h))
 all_goals(clear hK;grind [bN])
theorem Fw (k:Int) (hK:KB K (aG k)):SC Tryz.prog 20 [.i k] H0 K:=by
 refine aX [] [] [] Tryz.func20 rfl (by kernel_rfl) ?_
 repeat' first
  |((with_reducible refine W.of ?_);conv=>whnf)
  |with_reducible refine W.fin (K:=K) hK ?_ rfl
  |((with_reducible refine bb (λh=>?_) (λh=>?_))<;>(try simp at h))
 all_goals(clear hK;grind [aG])
theorem Mg (k:Int) (hK:KB K (lE k)):SC Tryz.prog 208 [.i k] H0 K:=by
 refine aX [] [] [] Tryz.func208 rfl (by kernel_rfl) ?_
 repeat' first
  |((with_reducible refine W.of ?_);conv=>whnf)
  |with_reducible first
   |refine W.fin (K:=K) hK ?_ rfl
   |refine tx _ ?_
   |refine zP _ ?_
   |refine Dv _ ?_
   |refine zO _ ?_
  |((with_reducible refine bb (λh=>?_) (λh=>?_))<;>(try simp at h))
 all_goals(clear hK;grind [lE])
theorem J7 (k:Int) (hK:KB K (nP k)):SC Tryz.prog 230 [.i k] H0 K:=by
 refine aX [] [] [] Tryz.func230 rfl (by kernel_rfl) ?_
 repeat' first
  |((with_reducible refine W.of ?_);conv=>whnf)
  |with_reducible first
   |refine W.fin (K:=K) hK ?_ rfl
   |refine vW _ ?_
   |refine vV _ ?_
   |refine Am _ ?_
  |((with_reducible refine bb (λh=>?_) (λh=>?_))<;>(try simp at h))
 all_goals(clear hK;grind [nP])
theorem HR (c:Int) (hK:KB K (jU c)):SC Tryz.prog 327 [.f (.p (.int .u8 c))] H0 K:=by
 refine aX [] [] [] Tryz.func327 rfl (by kernel_rfl) ?_
 repeat' first
  |((with_reducible refine W.of ?_);conv=>whnf)
  |with_reducible refine W.fin (K:=K) hK ?_ rfl
  |((with_reducible refine bb (λh=>?_) (λh=>?_))<;>(try simp at h))
 all_goals(clear hK;grind [jU])
theorem LG (c:Int) (hK:KB K (kg c)):SC Tryz.prog 326 [.f (.p (.int .u8 c))] H0 K:=by
 refine aX [] [] [] Tryz.func326 rfl (by kernel_rfl) ?_
 repeat' first
  |((with_reducible refine W.of ?_);conv=>whnf)
  |with_reducible refine W.fin (K:=K) hK ?_ rfl
  |((with_reducible refine bb (λh=>?_) (λh=>?_))<;>(try simp at h))
 all_goals(clear hK;grind [kg])
theorem Fy (c:Int) (hK:KB K (jU c)):SC Tryz.prog 182 [.f (.p (.int .u8 c))] H0 K:=by
 refine aX [] [] [] Tryz.func182 rfl (by kernel_rfl) ?_
 repeat' first
  |((with_reducible refine W.of ?_);conv=>whnf)
  |with_reducible refine W.fin (K:=K) hK ?_ rfl
  |((with_reducible refine bb (λh=>?_) (λh=>?_))<;>(try simp at h))
 all_goals(clear hK;grind [jU])
theorem JV (c:Int) (hK:KB K (kg c)):SC Tryz.prog 180 [.f (.p (.int .u8 c))] H0 K:=by
 refine aX [] [] [] Tryz.func180 rfl (by kernel_rfl) ?_
 repeat' first
  |((with_reducible refine W.of ?_);conv=>whnf)
  |with_reducible refine W.fin (K:=K) hK ?_ rfl
  |((with_reducible refine bb (λh=>?_) (λh=>?_))<;>(try simp at h))
 all_goals(clear hK;grind [kg])
end
section
set_option maxRecDepth 100000
set_option maxHeartbeats 4000000
open Go.Vv Go.Ee
variable{K:aR->SH->Prop}
abbrev BT (a:Int) (l:List Int) (i:Int):Int:=(l.take i.toNat).foldl max a
theorem Q9 {a k:Int} {l:List Int} {i:Int} (i0:0<=i) (hk:l[i.toNat]?=some k):BT a l (i+1)=max (BT a l i) k:=by
 unfold BT;rw[show(i+1).toNat=i.toNat+1 by omega,List.take_add_one,hk,List.foldl_append];rfl
theorem Ms {a:Int} {l:List Int} (ha:l[0]?=some a):a=BT a l 1:=by
 cases l with
 |nil=>simp at ha
 |cons b l=>simp at ha;subst ha;simp[BT]
theorem Ud (l:List Int) (a:Int) (ha:l[0]?=some a) (hl:l.length<=17592186044415) (c0:Option Nat) (n0:Bool) (hK:W (K (.ret (.i (l.foldl max a))) H0)):SC Tryz.prog 147 [.f (.p (.vs (l.map aB) c0 n0))] H0 K:=by
 have h0:0<l.length:=by cases l<;>simp_all
 refine aX [] [] [] Tryz.func147 rfl (by kernel_rfl) ?_
 repeat' first
  |((with_reducible refine W.of ?_);conv=>whnf)
  |with_reducible refine W.fin (K:=K) hK ?_ rfl
  |((with_reducible refine bt ?_ ?_);focus(simp[]<;>omega))
  |((with_reducible refine bf ?_ ?_);focus(simp[]<;>omega))
  |((with_reducible refine aj (i:=Int.toNat 0) (l:=l) (by omega) (λx hx=>?_));obtain rfl:a=x:=Option.some.inj (ha.symm.trans hx))
  |((with_reducible refine bT [] [] [3,4] [] (λb:{b:Int×Int//1<=b.1/\b.1<=l.length/\b.2=BT a l b.1}=>[.i b.1.2,.i b.1.1]) (λ_=>H0) (λb=>l.length-b.1.1.toNat) ⟨(1,a),by omega,by dsimp only;omega,Ms ha⟩ (by kernel_rfl) ?_ ?_);(focus((with_reducible refine W.of ?_);(conv=>whnf);exact⟨rfl,rfl⟩));rintro⟨⟨i,m⟩,i0,i1,hi⟩;dsimp only;(dsimp only at i0 i1 hi))
  |((with_reducible refine aj (l:=l) (by omega) (λk hk=>?_)))
  |((with_reducible refine bb (λh=>?_) (λh=>?_))<;>(try simp at h))
 ·exact⟨⟨⟨(i+1,max m k),(by dsimp only;omega),(by dsimp only;omega),by dsimp only;rw[Q9 (by omega) hk,hi]⟩,ao (by omega) (by omega),rfl,rfl⟩,rfl⟩
 ·rw[hi,BT,List.take_of_length_le (by omega)]
end
section
set_option maxRecDepth 100000
set_option maxHeartbeats 400000
open Go.Vv Go.Ee
variable{K:aR->SH->Prop}
theorem Dy (c k:Int) (hK:KB K (fS c k)):SC Tryz.prog 303 [.f (.p (.int .u8 c)),.i k] H0 K:=by
 refine aX [] [] [] Tryz.func303 rfl (by kernel_rfl) ?_
 repeat' first
  |((with_reducible refine W.of ?_);conv=>whnf)
  |with_reducible first
   |refine W.fin (K:=K) hK ?_ rfl
   |refine tx _ ?_
   |refine zP _ ?_
   |refine Dv _ ?_
   |refine zO _ ?_
  |((with_reducible refine bb (λh=>?_) (λh=>?_))<;>(try simp at h))
 all_goals(clear hK;grind [fS])
theorem J6 (k c:Int) (hK:KB K (dp k c)):SC Tryz.prog 283 [.i k,.f (.p (.int .u8 c))] H0 K:=by
 refine aX [] [] [] Tryz.func283 rfl (by kernel_rfl) ?_
 repeat' first
  |((with_reducible refine W.of ?_);conv=>whnf)
  |with_reducible first
   |refine W.fin (K:=K) hK ?_ rfl
   |refine vW _ ?_
   |refine vV _ ?_
   |refine Am _ ?_
   |refine Fw _ ?_
  |((with_reducible refine bb (λh=>?_) (λh=>?_))<;>(try simp at h))
 all_goals(clear hK;grind [dp])
end
section
set_option maxRecDepth 100000
set_option maxHeartbeats 400000
open Go.Vv Go.Ee
variable{K:aR->SH->Prop}
abbrev kL (x:Nd):EV:=.agg [.p (.int .i64 x.kind),.p (.str x.name),.p (.int .i64 x.num),.p (.vs (x.kids.map aB) none x.kn),.p (.int .i64 x.mE),.p (.int .i64 x.to)]
theorem Us (x:Nd) (p:Int) (hK:KB K (tN x.kind x.num p)):SC Tryz.prog 210 [kL x,.i p] H0 K:=by
 refine aX [] [] [] Tryz.func210 rfl (by kernel_rfl) ?_
 repeat' first
  |((with_reducible refine W.of ?_);conv=>whnf)
  |with_reducible refine W.fin (K:=K) hK ?_ rfl
  |((with_reducible refine bb (λh=>?_) (λh=>?_))<;>(try simp at h))
 all_goals(clear hK;grind [tN])
theorem EH (x:Nd) (hK:KB K (dJ x.kind x.num)):SC Tryz.prog 232 [kL x] H0 K:=by
 refine aX [] [] [] Tryz.func232 rfl (by kernel_rfl) ?_
 repeat' first
  |((with_reducible refine W.of ?_);conv=>whnf)
  |with_reducible refine W.fin (K:=K) hK ?_ rfl
  |((with_reducible refine bb (λh=>?_) (λh=>?_))<;>(try simp at h))
 all_goals(clear hK;grind [dJ])
end
section
set_option maxRecDepth 100000
set_option maxHeartbeats 400000
open Go.Vv Go.Ee
variable{K:aR->SH->Prop}
theorem D4 (x:Nd) (hK:W (K (.ret (.s (aL x.kind x.num))) H0)):SC Tryz.prog 261 [kL x] H0 K:=by
 refine aX [] [] [] Tryz.func261 rfl (by kernel_rfl) ?_
 repeat' first
  |((with_reducible refine W.of ?_);conv=>whnf)
  |with_reducible refine W.fin (K:=K) hK ?_ rfl
  |((with_reducible refine bb (λh=>?_) (λh=>?_))<;>(try simp at h))
 all_goals(clear hK;grind [aL])
end
section
set_option maxRecDepth 100000
set_option maxHeartbeats 400000
open Go.Vv Go.Ee
variable{K:aR->SH->Prop}
theorem Sm (s:ah) (hK:KB K (rJ s)):SC Tryz.prog 260 [.s s] H0 K:=by
 refine aX [] [] [] Tryz.func260 rfl (by kernel_rfl) ?_
 repeat' first
  |((with_reducible refine W.of ?_);conv=>whnf)
  |with_reducible refine W.fin (K:=K) hK ?_ rfl
  |((with_reducible refine bb (λh=>?_) (λh=>?_))<;>(try simp at h))
 all_goals(clear hK;simp_all[rJ,rK])
theorem S3 (s:ah) (hK:KB K (Em s)):SC Tryz.prog 300 [.s s] H0 K:=by
 refine aX [] [] [] Tryz.func300 rfl (by kernel_rfl) ?_
 repeat' first
  |((with_reducible refine W.of ?_);conv=>whnf)
  |with_reducible refine W.fin (K:=K) hK ?_ rfl
  |((with_reducible refine bb (λh=>?_) (λh=>?_))<;>(try simp at h))
 all_goals(clear hK;simp_all[Em,words])
end
section
set_option maxRecDepth 100000
open Go.Vv Go.Ee
variable{K:aR->SH->Prop}
theorem wQ {l:List (List PV)} {k:List (List PV)->Prop} (h:W (k l)):Fold ([]++l) k:=iQ h
theorem TF (l:List Fd):fits 2 (l.map nZ)=true:=pG (λ_=>rfl) l
theorem v8:dy Tryz.prog 132=32:=by kernel_rfl
theorem yW (fs:List Fd) (c0:Option Nat) (n0:Bool) (hl:fs.length<=1048576) (hK:∀c n,W (K (.ret (.f (.p (.vs (fs.map nZ) c n)))) H0)):SC Tryz.prog 201 [.f (.p (.vs (fs.map nZ) c0 n0))] H0 K:=by
 cases fs with
 |nil=>
  cases n0
  all_goals
   refine aX [] [] [] Tryz.func201 rfl (by kernel_rfl) ?_
   repeat' first
    |((with_reducible refine W.of ?_);conv=>whnf)
    |with_reducible first
     |refine W.fin (K:=K) (hK _ _) rfl rfl
     |refine W.and (by kernel_rfl) ?_
    |((with_reducible refine bb (λh=>?_) (λh=>?_))<;>(try simp at h))
 |cons a l=>
  have hl2:l.length<=1048575:=by simp at hl;omega
  refine aX [] [] [] Tryz.func201 rfl (by kernel_rfl) ?_
  repeat' first
   |((with_reducible refine W.of ?_);conv=>whnf)
   |with_reducible first
    |refine W.fin (K:=K) (hK _ _) rfl rfl
    |refine W.and (by kernel_rfl) ?_
    |refine bt (TF (a::l)) ?_
   |((with_reducible refine bt ?_ ?_);focus(first|(simp[v8];done)|(simp[v8];omega)))
   |with_reducible first
    |refine wQ ?_
    |refine fj ?_
   |((with_reducible refine bb (λh=>?_) (λh=>?_))<;>(try simp at h))
  cases n0<;>contradiction
theorem Mw {α:Type} {f:α->ah} {l:List α} {s:ah} {k:Nat} (h:bS s (kJ (l.map f) l.length)=some (.int .i64 k)):∃x,l[k]?=some x/\l.find? (λx=>f x==s)=some x:=by
 rw[nF _ _ (by simp),List.take_of_length_le (by simp)] at h
 cases hx:(l.map f).findIdx? (·==s) with
 |none=>rw[hx] at h;cases h
 |some j=>
  rw[hx] at h
  simp at h
  obtain rfl:j=k:=by omega
  rw[List.findIdx?_eq_some_iff_getElem] at hx
  obtain⟨h1,h2,h3⟩:=hx
  simp at h1 h2
  refine⟨l[j],by simp[h1],?_⟩
  rw[List.find?_eq_some_iff_getElem]
  exact⟨by simp[h2],j,h1,rfl,λi hi=>by simpa using h3 i hi⟩
theorem Mx {α:Type} {f:α->ah} {l:List α} {s:ah} (h:bS s (kJ (l.map f) l.length)=none):l.find? (λx=>f x==s)=none:=by
 rw[nF _ _ (by simp),List.take_of_length_le (by simp)] at h
 simp at h
 simpa using h
theorem jW {α:Type} {f:α->ah} {l:List α} {i:Nat} {s:ah} {k1:PV->Prop} {k2:Prop} (hi:i=l.length) (h1:∀(k:Nat) x,l[k]?=some x->l.find? (λx=>f x==s)=some x->W (k1 (.int .i64 k))) (h2:l.find? (λx=>f x==s)=none->W k2):Mt (bS s (kJ (l.map f) i)) k1 k2:=by
 subst hi
 refine H7 (by rw[List.length_map];exact Nat.le_refl _) (λk hm=>?_) λhm=>h2 (Mx hm)
 obtain⟨x,a,b⟩:=Mw hm
 exact h1 k x a b
theorem Il {α:Type} {f:α->List PV} {l:List α} {i:Nat} {x:α} {k:List PV->Prop} (hx:l[i]?=some x) (h:W (k (f x))):iK (l.map f)[(i:Int).toNat]? k:=on _ (by simp[hx]) h
section
variable(it:aw) (s:ah) (b1:it.ss.length<=1048576) (b2:it.es.length<=1048576) (b3:it.fns.length<=1048576)
include b1 b2 b3
theorem ug (sf:∀x∈it.ss,x.fs.length<=1048576) (hs:∀x c n,aM it.ss s=some x->W (K (.ret (.bR [.agg [.p (.str x.name),.p (.vs (x.fs.map nZ) c n)],.f (.p (.bool true))])) H0)) (hn:aM it.ss s=none->W (K (.ret (.bR [.agg [.p (.str []),.p (.vs [] none true)],.f (.p (.bool false))])) H0)):SC Tryz.prog 268 [L8 it,.s s] H0 K:=by
 refine aX [(5,[(0,[]),(1,[]),(2,[]),(3,[]),(4,[1]),(5,[]),(6,[]),(7,[])])] [] [] Tryz.func268 rfl (by kernel_rfl) ?_
 repeat' first
  |((with_reducible refine W.of ?_);conv=>whnf)
  |with_reducible first
   |refine W.and (by kernel_rfl) ?_
   |refine sD it b1 b2 b3 ?_
   |refine fn [] [] Tryz.func92 rfl (by kernel_rfl) ?_
   |refine jW rfl (λk x hx hm=>?_) (λhm=>?_)
   |refine Il ‹_› ?_
   |refine yW _ _ _ (sf _ (List.mem_of_getElem? hx)) (λc n=>?_)
   |refine SC.call ?_
 ·exact hs _ _ _ hm
 ·exact hn hm
theorem QG (hs:∀(k:Nat) f,it.fns[k]?=some f->findF it.fns s=some f->W (K (.ret (.bR [.f (.p (.int .i64 k)),.f (.p (.bool true))])) H0)) (hn:findF it.fns s=none->W (K (.ret (.bR [.f (.p (.int .i64 0)),.f (.p (.bool false))])) H0)):SC Tryz.prog 267 [L8 it,.s s] H0 K:=by
 refine aX [] [] [] Tryz.func267 rfl (by kernel_rfl) ?_
 repeat' first
  |((with_reducible refine W.of ?_);conv=>whnf)
  |with_reducible first
   |refine sD it b1 b2 b3 ?_
   |refine fn [] [] Tryz.func92 rfl (by kernel_rfl) ?_
   |refine jW rfl (λk x hx hm=>?_) (λhm=>?_)
   |refine SC.call ?_
 ·exact hs k x hx hm
 ·exact hn hm
theorem P7 (sf:∀x∈it.es,x.fs.length<=1048576) (hs:∀x c n,aM it.es s=some x->W (K (.ret (.bR [.agg [.p (.str x.name),.p (.vs (x.fs.map nZ) c n)],.f (.p (.bool true))])) H0)) (hn:aM it.es s=none->W (K (.ret (.bR [.agg [.p (.str []),.p (.vs [] none true)],.f (.p (.bool false))])) H0)):SC Tryz.prog 136 [L8 it,.s s] H0 K:=by
 refine aX [(5,[(0,[]),(1,[]),(2,[]),(3,[]),(4,[1]),(5,[]),(6,[]),(7,[])])] [] [] Tryz.func136 rfl (by kernel_rfl) ?_
 repeat' first
  |((with_reducible refine W.of ?_);conv=>whnf)
  |with_reducible first
   |refine W.and (by kernel_rfl) ?_
   |refine sD it b1 b2 b3 ?_
   |refine fn [] [] Tryz.func92 rfl (by kernel_rfl) ?_
   |refine jW rfl (λk x hx hm=>?_) (λhm=>?_)
   |refine Il ‹_› ?_
   |refine yW _ _ _ (sf _ (List.mem_of_getElem? hx)) (λc n=>?_)
   |refine SC.call ?_
 ·exact hs _ _ _ hm
 ·exact hn hm
end
theorem bX {α:Type} {p:α->Bool} {l:List α} {i:Int} {x:α} (h0:0<=i) (hx:l[i.toNat]?=some x):(l.drop i.toNat).find? p=if p x=true then some x else(l.drop (i+1).toNat).find? p:=by
 have hl:=(List.getElem?_eq_some_iff.1 hx).1
 rw[List.drop_eq_getElem_cons hl,(List.getElem?_eq_some_iff.1 hx).2,List.find?_cons,show(i+1).toNat=i.toNat+1 by omega]
 cases p x<;>rfl
theorem fa {α:Type} {p:α->Bool} {l:List α} {i:Int} (h:(l.length:Int)<=i):(l.drop i.toNat).find? p=none:=by
 rw[List.drop_of_length_le (by omega)];rfl
abbrev So (n:Nat) (P:Int->Prop):Type:={i:Int//0<=i/\i<=n/\P i}
theorem Ht (fs:List Fd) (c0:Option Nat) (n0:Bool) (s:ah) (hl:fs.length<=1048576) (hs:∀(i:Int) x,0<=i->fs[i.toNat]?=some x->gV fs s=some x->W (K (.ret (.i i)) ⟨[(0,.cells [.p (.str s)])],1⟩)) (hn:gV fs s=none->W (K (.ret (.i (-1))) ⟨[(0,.cells [.p (.str s)])],1⟩)):
 SC Tryz.prog 270 [.f (.p (.vs (fs.map nZ) c0 n0)),.fn 271 [] [.ptr 0 0]] ⟨[(0,.cells [.p (.str s)])],1⟩ K:=by
 refine aX [] [] [] Tryz.func270 rfl (by kernel_rfl) ?_
 repeat' first
  |((with_reducible refine W.of ?_);conv=>whnf)
  |with_reducible first
   |refine W.and (by kernel_rfl) ?_
   |refine fn [] [] Tryz.func271 rfl (by kernel_rfl) ?_
  |((with_reducible refine bT [] [] [8] [] (λa:So fs.length λi=>(fs.drop i.toNat).find? (λf=>f.name==s)=gV fs s=>[.i a.1]) (λ_=>⟨[(0,.cells [.p (.str s)])],1⟩) (λa=>fs.length-a.1.toNat) ⟨0,by omega,by omega,rfl⟩ (by kernel_rfl) ?_ ?_);(focus((with_reducible refine W.of ?_);(conv=>whnf);exact⟨rfl,rfl⟩));rintro⟨i,hi0,hi,hf⟩;dsimp only)
  |with_reducible refine aj (by omega) (λx hx=>?_)
  |((with_reducible refine bt ?_ ?_);focus(first|(simp[];done)|(simp[];omega)))
  |((with_reducible refine bb (λh=>?_) (λh=>?_))<;>(try simp at h))
 ·exact hs _ _ hi0 hx (by rw[<-hf,bX hi0 hx,if_pos (by simp[h])])
 ·exact⟨⟨⟨i+1,by omega,by omega,by rw[<-hf,bX hi0 hx,if_neg (by simp[h])]⟩,ao hi0 (by omega),rfl,rfl⟩,rfl⟩
 ·exact hn (by rw[<-hf,fa h])
theorem Qj (c0:Option Nat) (n0:Bool) (s:ah) (hn:W (K (.ret (.i (-1))) ⟨[(0,.cells [.p (.str s)])],1⟩)):
 SC Tryz.prog 270 [.f (.p (.vs [] c0 n0)),.fn 271 [] [.ptr 0 0]] ⟨[(0,.cells [.p (.str s)])],1⟩ K:=Ht [] c0 n0 s (by decide) (λi x _ h=>by simp at h) λ_=>hn
theorem jv {α:Type} {f:α->List PV} {l:List α} {i:Int} {x:α} {k:List PV->Prop} (hx:l[i.toNat]?=some x) (h:W (k (f x))):iK (l.map f)[i.toNat]? k:=on _ (by simp[hx]) h
section
variable(it:aw) (s fl:ah) (b1:it.ss.length<=1048576) (b2:it.es.length<=1048576) (b3:it.fns.length<=1048576)
include b1 b2 b3
theorem Dh (sf:∀x∈it.ss,x.fs.length<=1048576) (hs:∀i f,dG it s fl=some f->W (K (.ret (.bR [.f (.p (.int .i64 i)),.f (.p (.str f.ty)),.f (.p (.bool true))])) H0)) (hn:dG it s fl=none->W (K (.ret (.bR [.f (.p (.int .i64 0)),.f (.p (.str [])),.f (.p (.bool false))])) H0)):SC Tryz.prog 223 [L8 it,.s s,.s fl] H0 K:=by
 refine aX [(5,[(0,[]),(1,[]),(2,[]),(3,[]),(4,[]),(5,[]),(6,[]),(7,[6,2]),(8,[]),(9,[])])] [] [] Tryz.func223 rfl (by kernel_rfl) ?_
 repeat' first
  |((with_reducible refine W.of ?_);conv=>whnf)
  |with_reducible first
   |refine W.and (by kernel_rfl) ?_
   |refine ug it s b1 b2 b3 sf (λx c n hm=>?_) (λhm=>?_)
   |refine Ht _ _ _ _ (sf _ (bD hm).1) (λi f hi hf hh=>?_) (λhh=>?_)
   |refine Qj _ _ _ ?_
   |refine jv hf ?_
  |((with_reducible refine bt ?_ ?_);focus(first|(simp[hi];done)|(simp[hi];omega)))
  |with_reducible refine SC.call ?_
  |((with_reducible refine bb (λh=>?_) (λh=>?_))<;>(try simp at h))
 ·omega
 ·exact hs i f (by simp[dG,hm,hh])
 ·exact hn (by simp[dG,hm,hh])
 ·exact hn (by simp[dG,hm])
end
theorem jZ {s:ah} {l:List Sd} {i:Int} {e:Sd} (h0:0<=i) (he:l[i.toNat]?=some e):ix s (l.drop i.toNat)=(match e.fs.find? (λv=>e.name++[58,58]++v.name==s) with|some v=>some (e.name,v.ty)|none=>ix s (l.drop (i+1).toNat)):=by
 have hl:=(List.getElem?_eq_some_iff.1 he).1
 rw[List.drop_eq_getElem_cons hl,(List.getElem?_eq_some_iff.1 he).2,show(i+1).toNat=i.toNat+1 by omega];rfl
theorem nS (it:aw) (s:ah) (fl:Fl it) (hs:∀(i k:Int) e v,0<=i->0<=k->it.es[i.toNat]?=some e->e.fs[k.toNat]?=some v->eu it s=some (e.name,v.ty)->W (K (.ret (.bR [.f (.p (.int .i64 i)),.f (.p (.int .i64 k)),.f (.p (.bool true))])) H0)) (hn:eu it s=none->W (K (.ret (.bR [.f (.p (.int .i64 0)),.f (.p (.int .i64 0)),.f (.p (.bool false))])) H0)):SC Tryz.prog 202 [L8 it,.s s] H0 K:=by
 have n2:=fl.n2
 refine aX [] [] [] Tryz.func202 rfl (by kernel_rfl) ?_
 repeat' first
  |((with_reducible refine W.of ?_);conv=>whnf)
  |with_reducible refine W.and (by kernel_rfl) ?_
  |((with_reducible refine bT [] [] [14] [] (λa:So it.es.length λi=>ix s (it.es.drop i.toNat)=eu it s=>[.i a.1]) (λ_=>⟨[(0,.cells [.p (.vs (it.ss.map iT) none it.sn),.p (.vs (it.es.map iT) none it.en),.p (.vs (it.fns.map sC) none it.yG)])],1⟩) (λa=>it.es.length-a.1.toNat) ⟨0,by omega,by omega,rfl⟩ (by kernel_rfl) ?_ ?_);(focus((with_reducible refine W.of ?_);(conv=>whnf);exact⟨rfl,rfl⟩));rintro⟨i,hi0,hi,hf⟩;dsimp only)
  |with_reducible first
   |refine aj (l:=e.fs) (by omega) (λv hv=>?_)
   |refine aj (by omega) (λe he=>?_)
  |((with_reducible refine bT [] [] [22] [] (λa:So e.fs.length λk=>(e.fs.drop k.toNat).find? (λv=>e.name++[58,58]++v.name==s)=e.fs.find? (λv=>e.name++[58,58]++v.name==s)=>[.i a.1]) (λ_=>⟨[(1,.cells [.p (.str e.name),.p (.vs (e.fs.map nZ) none e.nl)]),(0,.cells [.p (.vs (it.ss.map iT) none it.sn),.p (.vs (it.es.map iT) none it.en),.p (.vs (it.fns.map sC) none it.yG)])],2⟩) (λa=>e.fs.length-a.1.toNat) ⟨0,by omega,by omega,rfl⟩ (by kernel_rfl) ?_ ?_);(focus((with_reducible refine W.of ?_);(conv=>whnf);exact⟨rfl,rfl⟩));rintro⟨k,hk0,hk,hg⟩;dsimp only;have hE:=fl.ef e (List.mem_of_getElem? he);have hE1:=hE.2.1;have hE2:=hE.2.2.1)
  |((with_reducible refine bt ?_ ?_);focus(first|(simp[];done)|(simp[];omega)))
  |((have hE3:=hE.2.2.2 v (List.mem_of_getElem? hv));with_reducible refine bt ?_ ?_;(focus(simp;omega)))
  |((with_reducible refine bb (λh=>?_) (λh=>?_))<;>(try simp at h))
 ·exact hs i k e v hi0 hk0 he hv (by rw[<-hf,jZ hi0 he,<-hg,bX hk0 hv,if_pos (by simp[h])])
 ·exact⟨⟨⟨k+1,by omega,by omega,by rw[<-hg,bX hk0 hv,if_neg (by simp[h])]⟩,ao hk0 (by omega),rfl,rfl⟩,rfl⟩
 ·rw[fa (by omega)] at hg
  exact⟨⟨⟨i+1,by omega,by omega,by rw[<-hf,jZ hi0 he,<-hg]⟩,ao hi0 (by omega),rfl,rfl⟩,rfl⟩
 ·exact hn (by rw[<-hf,List.drop_of_length_le (by omega)];rfl)
end
section
set_option maxRecDepth 100000
set_option maxHeartbeats 4000000
open Go.Vv Go.Ee
attribute [local irreducible] bC aP bZ nd ax typeAt
abbrev Vj (a b:Nat) (C:Cx) (ty:List ah) (va:List Int) (lo:List Lc) (sc:List (ah×Int)) (lp:Int) (e f t:Int):List (Nat×SO):=[(2,.arr 1 (va.map aB) true),(1,.arr 1 (ty.map bL) true),
 (0,.cells [.p (.vs (C.ns.map aH) none C.nb),.p (.vs (C.it.ss.map iT) none C.it.sn),.p (.vs (C.it.es.map iT) none C.it.en),.p (.vs (C.it.fns.map sC) none C.it.yG),.ref 1 C.ns.length 1 none,.ref 2 C.ns.length 1 none,.ref a lo.length 3 none,.ref b sc.length 2 none,.p (.str C.ret),.p (.int .i64 lp),.p (.int .i64 e),.p (.int .i64 f),.p (.int .i64 t)])]
abbrev UJ (a b z:Nat) (C:Cx) (ty:List ah) (va:List Int) (lo:List Lc) (sc:List (ah×Int)) (lp:Int) (ex:List (List PV)) (e f t:Int):SH:=
 ⟨(b,.arr 2 (sc.map ky++ex) true)::(a,.arr 3 (lo.map vK) true)::Vj a b C ty va lo sc lp e f t,z⟩
abbrev DW:=UJ 3 4 5
abbrev wu {α:Type} (C:Cx) (f:FuncId) (args:List EV) (F:St->aN α) (val:α->EV) (B:α->Prop) (k:Int) (ty:List ah) (va:List Int) (lo:List Lc) (sc:List (ah×Int)) (lp:Int):Prop:=
 ∀(ex:List (List PV)) (K:aR->SH->Prop),Wf C.ns ⟨ty,va,lo,sc,lp⟩->0<=lp->lp+k<=40000->
 (∀v ty' va' lo' sc' ex',F ⟨ty,va,lo,sc,lp⟩=.ok v ⟨ty',va',lo',sc',lp⟩->Wf C.ns ⟨ty',va',lo',sc',lp⟩->sc.length<=sc'.length->W (K (.ret (val v)) (UJ 5 6 7 C ty' va' lo' sc' lp ex' 0 0 0)))->
 (∀v e f t ty' va' lo' sc' ex',F ⟨ty,va,lo,sc,lp⟩=.bad ⟨e,f,t⟩->B v->¬e=0->ty'.length=C.ns.length->va'.length=C.ns.length->sc.length<=sc'.length->W (K (.ret (val v)) (UJ 5 6 7 C ty' va' lo' sc' lp ex' e f t)))->SC Tryz.prog f (S2 args) (DW C ty va lo sc lp ex 0 0 0) K
abbrev dS {α:Type} (C:Cx) (f:FuncId) (args:List EV) (F:St->aN α) (val:α->EV) (B:α->Prop) (k:Int):Prop:=
 ∀ty va lo sc lp,wu C f args F val B k ty va lo sc lp
abbrev CU (C:Cx) (f:FuncId) (args:List EV) (v:EV):Prop:=
 ∀ty va lo sc lp ex e g t (K:aR->SH->Prop),¬e=0->W (K (.ret v) (DW C ty va lo sc lp ex e g t))->SC Tryz.prog f (S2 args) (DW C ty va lo sc lp ex e g t) K
abbrev BS (n:Int):ah->Prop:=λs=>s.length<=70000000+10*n.toNat
abbrev BU:Unit->Prop:=λ_=>True
abbrev uE:Unit->EV:=λ_=>.bR []
theorem nz {e:Int} (h:¬e=0):(!(e==0))=true:=by simp[h]
theorem qv {e:Int} (h:¬e=0):(e==0)=false:=by simp[h]
theorem Tt {n:Int}:BS n [33]:=by unfold BS;simp;omega
theorem qb (C:Cx) (n:Int):CU C 174 [.i n] (.s aF):=by
 intro ty va lo sc lp ex e g t K he hK
 refine aX [] [] [] Tryz.func174 rfl (by kernel_rfl) ?_
 repeat' first
  |((with_reducible refine W.of ?_);conv=>whnf)
  |with_reducible first
   |refine W.fin (K:=K) hK ?_ rfl
   |refine fn [] [] Tryz.func51 rfl (by kernel_rfl) ?_
   |refine bt (nz he) ?_
 all_goals rfl
theorem Ca (C:Cx) (n:Int):CU C 315 [.i n] (.s aF):=by
 intro ty va lo sc lp ex e g t K he hK
 refine aX [] [] [] Tryz.func315 rfl (by kernel_rfl) ?_
 repeat' first
  |((with_reducible refine W.of ?_);conv=>whnf)
  |with_reducible first
   |refine W.fin (K:=K) hK ?_ rfl
   |refine fn [] [] Tryz.func51 rfl (by kernel_rfl) ?_
   |refine bf (qv he) ?_
   |refine qb C n _ _ _ _ _ _ _ _ _ _ ‹_› ?_
 all_goals rfl
theorem nN (C:Cx) (n:Int) (s:ah):CU C 290 [.i n,.s s] (.bR []):=by
 intro ty va lo sc lp ex e g t K he hK
 refine aX [] [] [] Tryz.func290 rfl (by kernel_rfl) ?_
 repeat' first
  |((with_reducible refine W.of ?_);conv=>whnf)
  |with_reducible first
   |refine W.fin (K:=K) hK ?_ rfl
   |refine fn [] [] Tryz.func51 rfl (by kernel_rfl) ?_
   |refine bf (qv he) ?_
   |refine Ca C n _ _ _ _ _ _ _ _ _ _ ‹_› ?_
 all_goals rfl
theorem qX (C:Cx) (n:Int) (s:ah):CU C 109 [.i n,.s s] (.bR []):=by
 intro ty va lo sc lp ex e g t K he hK
 refine aX [] [] [] Tryz.func109 rfl (by kernel_rfl) ?_
 repeat' first
  |((with_reducible refine W.of ?_);conv=>whnf)
  |with_reducible first
   |refine W.fin (K:=K) hK ?_ rfl
   |refine fn [] [] Tryz.func51 rfl (by kernel_rfl) ?_
   |refine bf (qv he) ?_
   |refine qb C n _ _ _ _ _ _ _ _ _ _ ‹_› ?_
 all_goals rfl
theorem tY (b:Bool) (ns:List Nd) (n:Int) (h0:0<=n) (h1:n<(ns.length:Int)) {K:aR->SH->Prop} (hK:W (K (.ret (.b (bZ (nd ns n).kind))) H0)):SC Tryz.prog 67 [.agg [.p (.vs (ns.map aH) none b)],.i n] H0 K:=by
 refine aX [] [] [] Tryz.func67 rfl (by kernel_rfl) ?_
 repeat' first
  |((with_reducible refine W.of ?_);conv=>whnf)
  |with_reducible first
   |refine W.fin (K:=K) hK ?_ rfl
   |refine bt (decide_eq_true h0) ?_
   |refine aq h0 h1 ?_
  |((with_reducible refine bb (λh=>?_) (λh=>?_))<;>(try simp at h))
 all_goals(clear hK;simp[bZ, *])
section
variable(C:Cx) (E:Rec) (n:Int) (h0:0<=n) (h1:n<(C.ns.length:Int)) (l:Int)
include h0 h1
theorem eP (hE:dS C 174 [.i n] (E n) EV.s (BS n) l):dS C 315 [.i n] (cS C.ns E n) EV.s (BS n) l:=by
 intro ty va lo sc lp ex K w l0 l1 hok hbad
 refine aX [] [] [3,4] Tryz.func315 rfl (by kernel_rfl) ?_
 repeat' first
  |((with_reducible refine W.of ?_);conv=>whnf)
  |with_reducible first
   |refine W.fin (K:=K) (hok _ _ _ _ _ _ ?_ ‹_› ?_) rfl rfl
   |refine W.fin (K:=K) (hbad _ _ _ _ _ _ _ _ _ ?_ ?_ ?_ ?_ ?_ ?_) rfl rfl
   |refine bt (decide_eq_true ‹_›) ?_
   |refine bf (qv ‹_›) ?_
   |refine aq ‹_› ‹_› ?_
   |refine W.and (by kernel_rfl) ?_
   |refine fn [] [] Tryz.func51 rfl (by kernel_rfl) ?_
   |refine fn [] [] Tryz.func173 rfl (by kernel_rfl) ?_
   |refine hE _ _ _ _ _ _ _ ‹_› (by omega) (by omega) (λv ty va lo sc ex hF w hs=>?_) (λv de df dt ty va lo sc ex hF hB he ht hv hs=>?_)
   |refine SC.call ?_
  |((with_reducible refine bb (λh=>?_) (λh=>?_))<;>(try simp at h))
 all_goals(clear hok hbad hE)
 all_goals first|assumption|exact Wf.tl ‹_›|exact Wf.vl ‹_›|exact trivial|omega|(simp_all[cS,BS,aF,aN.then,ai];done)|(simp_all[cS,BS,aF,aN.then,ai];omega)|(simp only[BS,bg,aI,aE,aF,List.length_cons,List.length_nil,List.length_append] at*;omega)|skip
theorem dM (hE:dS C 174 [.i n] (E n) EV.s (BS n) l) (s:ah):dS C 290 [.i n,.s s] (bP C.ns E n s) uE BU l:=by
 intro ty va lo sc lp ex K w l0 l1 hok hbad
 refine aX [] [] [3,4] Tryz.func290 rfl (by kernel_rfl) ?_
 repeat' first
  |((with_reducible refine W.of ?_);conv=>whnf)
  |with_reducible first
   |refine W.fin (K:=K) (hok () _ _ _ _ _ ?_ ‹_› ?_) rfl rfl
   |refine W.fin (K:=K) (hbad () _ _ _ _ _ _ _ _ ?_ ?_ ?_ ?_ ?_ ?_) rfl rfl
   |refine bt (decide_eq_true ‹_›) ?_
   |refine bf (qv ‹_›) ?_
   |refine aq ‹_› ‹_› ?_
   |refine W.and (by kernel_rfl) ?_
   |refine fn [] [] Tryz.func51 rfl (by kernel_rfl) ?_
   |refine fn [] [] Tryz.func173 rfl (by kernel_rfl) ?_
   |refine eP C E n h0 h1 l hE _ _ _ _ _ _ _ ‹_› (by omega) (by omega) (λv ty va lo sc ex hF w hs=>?_) (λv de df dt ty va lo sc ex hF hB he ht hv hs=>?_)
   |refine SC.call ?_
  |((with_reducible refine bb (λh=>?_) (λh=>?_))<;>(try simp at h))
 all_goals(clear hok hbad hE)
 all_goals first|assumption|exact Wf.tl ‹_›|exact Wf.vl ‹_›|exact trivial|omega|(simp_all[bP,aN.then,ai];done)|(simp_all[bP,aN.then,ai];omega)|(simp only[BS,bg,aI,aE,aF,List.length_cons,List.length_nil,List.length_append] at*;omega)|skip
theorem qW (hE:dS C 174 [.i n] (E n) EV.s (BS n) l) (s:ah):dS C 109 [.i n,.s s] (kQ C.ns E n s) uE BU l:=by
 intro ty va lo sc lp ex K w l0 l1 hok hbad
 refine aX [] [] [3,4] Tryz.func109 rfl (by kernel_rfl) ?_
 repeat' first
  |((with_reducible refine W.of ?_);conv=>whnf)
  |with_reducible first
   |refine W.fin (K:=K) (hok () _ _ _ _ _ ?_ ‹_› ?_) rfl rfl
   |refine W.fin (K:=K) (hbad () _ _ _ _ _ _ _ _ ?_ ?_ ?_ ?_ ?_ ?_) rfl rfl
   |refine bt (decide_eq_true ‹_›) ?_
   |refine bf (qv ‹_›) ?_
   |refine aq ‹_› ‹_› ?_
   |refine W.and (by kernel_rfl) ?_
   |refine fn [] [] Tryz.func51 rfl (by kernel_rfl) ?_
   |refine fn [] [] Tryz.func173 rfl (by kernel_rfl) ?_
   |refine hE _ _ _ _ _ _ _ ‹_› (by omega) (by omega) (λv ty va lo sc ex hF w hs=>?_) (λv de df dt ty va lo sc ex hF hB he ht hv hs=>?_)
   |refine fn [] [] Tryz.func175 rfl (by kernel_rfl) ?_
   |refine SC.call ?_
  |((with_reducible refine bb (λh=>?_) (λh=>?_))<;>(try simp at h))
 all_goals(clear hok hbad hE)
 all_goals first|assumption|exact Wf.tl ‹_›|exact Wf.vl ‹_›|exact trivial|omega|(simp_all[kQ,GY,aF,aN.then,ai];done)|(simp_all[kQ,GY,aF,aN.then,ai];omega)|(simp only[BS,bg,aI,aE,aF,List.length_cons,List.length_nil,List.length_append] at*;omega)|skip
theorem DS (hE:dS C 174 [.i n] (E n) EV.s (BS n) l) (hn:C.ns.length<=20000) (hO:rY C.ns E n):dS C 319 [.i n] (ri C.ns E n) EV.s (BS n) l:=by
 intro ty va lo sc lp ex K w l0 l1 hok hbad
 refine aX [] [] [3,4] Tryz.func319 rfl (by kernel_rfl) ?_
 repeat' first
  |((with_reducible refine W.of ?_);conv=>whnf)
  |with_reducible first
   |refine W.fin (K:=K) (hok _ _ _ _ _ _ ?_ ‹_› ?_) rfl rfl
   |refine W.fin (K:=K) (hbad _ _ _ _ _ _ _ _ _ ?_ ?_ ?_ ?_ ?_ ?_) rfl rfl
   |refine bt (decide_eq_true ‹_›) ?_
   |refine bf (qv ‹_›) ?_
   |refine aq ‹_› ‹_› ?_
   |refine W.and (by kernel_rfl) ?_
   |refine fn [] [] Tryz.func51 rfl (by kernel_rfl) ?_
   |refine fn [] [] Tryz.func173 rfl (by kernel_rfl) ?_
  |((with_reducible refine eP C E n h0 h1 l hE _ _ _ _ _ _ _ ‹_› (by omega) (by omega) (λv ty va lo sc ex hF w hs=>?_) (λv de df dt ty va lo sc ex hF hB he ht hv hs=>?_));have T:=(bq hO ‹_› hF).bound (by omega))
  |with_reducible first
   |refine tY _ _ _ h0 h1 ?_
   |refine jA _ ?_
   |refine fn [] [] Tryz.func132 rfl (by kernel_rfl) ?_
   |refine SC.call ?_
  |((with_reducible refine bb (λh=>?_) (λh=>?_))<;>(try simp at h))
 all_goals(clear hok hbad hE)
 all_goals first|assumption|exact Wf.tl ‹_›|exact Wf.vl ‹_›|exact trivial|omega|(simp_all[ri,aN.then,ai];done)|(simp_all[ri,aN.then,ai];omega)|(simp only[BS,bg,aI,aE,aF,List.length_cons,List.length_nil,List.length_append] at*;omega)|skip
end
end
end Go.Proofs.YtdjkoddnnogejaaGreat
