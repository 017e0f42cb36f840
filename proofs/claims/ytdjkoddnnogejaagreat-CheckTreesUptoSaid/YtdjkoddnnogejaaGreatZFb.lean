/- Part of the proof of CheckTrees: plain laws and steps of its walks, for all arguments. -/
import Derived.Test.YtdjkoddnnogejaaGreatZAp
set_option linter.unusedSimpArgs false
set_option linter.unusedVariables false
set_option linter.unusedSectionVars false
namespace Go.Proofs.YtdjkoddnnogejaaGreat
section
set_option maxRecDepth 100000
set_option maxHeartbeats 4000000
open Go.Vv Go.Ee
open Fo (aC)
attribute [local irreducible] bC aP bZ nd ax typeAt
theorem FM:dy Tryz.prog 222=24:=by kernel_rfl
theorem qa (C:Cx) (n:Int) (h0:0<=n) (h1:n<(C.ns.length:Int)) (name t:ah) (mt:Bool) (ht:cM t) (ty:List ah) (va:List Int) (lo:List Lc) (sc:List (ah×Int)) (lp:Int) (htl:t.length<=cU lo.length+200000):
 wu C 108 [.i n,.s name,.s t,.b mt] (bw C.ns n name t mt) uE BU 0 ty va lo sc lp:=by
 intro ex K w l0 l1 hok hbad
 refine aX [] [] [3,4] Tryz.func108 rfl (by kernel_rfl) ?_
 have hl:=w.ll
 have hl2:=w.sl
 dsimp only at hl hl2
 repeat' first
  |((with_reducible refine W.of ?_);conv=>whnf)
  |with_reducible first
   |refine W.fin (K:=K) (hok () _ _ _ _ _ ?_ (Pn w h0 h1 ht htl ?_ rfl) ?_) rfl rfl
   |refine W.fin (K:=K) (hok () _ _ _ _ _ ?_ ‹_› ?_) rfl rfl
   |refine W.fin (K:=K) (hbad () _ _ _ _ _ _ _ _ ?_ ?_ ?_ ?_ ?_ ?_) rfl rfl
   |refine bt (decide_eq_true ‹_›) ?_
   |refine bt (eO ‹_› ‹_›) ?_
   |refine aq ‹_› ‹_› ?_
   |refine dj ?_
   |refine W.and (by kernel_rfl) ?_
   |refine fn [] [] Tryz.func51 rfl (by kernel_rfl) ?_
   |refine fn [] [] Tryz.func173 rfl (by kernel_rfl) ?_
   |refine pH (f:=vK) (a:=⟨_,_,_⟩) ?_
   |refine Dj (a:=(_,_)) ?_ ?_
   |refine Dk (a:=(_,_)) ?_
   |refine fj ?_
   |refine OW ?_
   |refine DJ ‹_› ‹_› ‹_› ?_
  |((with_reducible refine bt ?_ ?_);focus(simp[v7,FM, *]<;>omega))
  |with_reducible refine SC.call ?_
  |((with_reducible refine bb (λh=>?_) (λh=>?_))<;>(try simp at h))
 all_goals(clear hok hbad)
 all_goals first|assumption|exact Wf.tl ‹_›|exact Wf.vl ‹_›|exact trivial|omega|(simp_all[bw,aN.then,ai];done)|(simp_all[bw,aN.then,ai];omega)|(simp only[BS,bg,aI,aE,aF,List.length_cons,List.length_nil,List.length_append] at*;omega)|skip
theorem Rp {l:List (ah×Int)} {ex:List (List PV)} {i:Nat} {k:List PV->Prop} (h:i<l.length) (hk:∀x,l[i]?=some x->W (k (ky x))):iK (l.map ky++ex)[i]? k:=
 on (ky l[i]) (by rw[List.getElem?_append_left (by simpa using h)];simp[h]) (hk _ (by simp[h]))
theorem Sc {l:List (ah×Int)} {ex:List (List PV)} {i:Nat} {x:ah×Int} (h:l[i]?=some x):(l.map ky++ex)[i]?=some (ky x):=by
 have hl:=(List.getElem?_eq_some_iff.1 h).1
 rw[List.getElem?_append_left (by simpa using hl),List.getElem?_map,h];rfl
theorem An {s:ah} {l:List (ah×Int)} {i:Int} {x:ah×Int} (h0:0<=i) (hx:l[i.toNat]?=some x):jV s (l.take (i+1).toNat)=if x.1=s then some x.2 else jV s (l.take (i-1+1).toNat):=by
 rw[show(i+1).toNat=i.toNat+1 by omega,show(i-1+1).toNat=i.toNat by omega,List.take_add_one,hx]
 unfold jV
 by_cases h:x.1=s<;>simp[h]
theorem ND (C:Cx) (s:ah) (ty:List ah) (va:List Int) (lo:List Lc) (sc:List (ah×Int)) (lp:Int) (ex:List (List PV)) (e f t:Int) (hl:sc.length<=1048576) {K:aR->SH->Prop} (hs:∀v,jV s sc=some v->W (K (.ret (.i v)) (DW C ty va lo sc lp ex e f t))) (hn:jV s sc=none->W (K (.ret (.i (-1))) (DW C ty va lo sc lp ex e f t))):SC Tryz.prog 285 (S2 [.s s]) (DW C ty va lo sc lp ex e f t) K:=by
 refine aX [] [] [] Tryz.func285 rfl (by kernel_rfl) ?_
 repeat' first
  |((with_reducible refine W.of ?_);conv=>whnf)
  |with_reducible first
   |refine W.fin (K:=K) (hn ?_) rfl rfl
   |refine W.fin (K:=K) (hs _ ?_) rfl rfl
  |((with_reducible refine bT [] [] [5] [] (λa:{i:Int// -1<=i/\i<sc.length/\jV s (sc.take (i+1).toNat)=jV s sc}=>[.i a.1]) (λ_=>DW C ty va lo sc lp ex e f t) (λa=>(a.1+1).toNat) ⟨sc.length-1,by omega,by omega,by rw[show((sc.length:Int)-1+1).toNat=sc.length by omega,List.take_length]⟩ (by kernel_rfl) ?_ ?_);(focus((with_reducible refine W.of ?_);(conv=>whnf);exact⟨rfl,rfl⟩));rintro⟨i,i0,i1,hi⟩;dsimp only)
  |with_reducible first
   |refine on (ky x) (Sc hx) ?_
   |refine Rp (by omega) (λx hx=>?_)
  |((with_reducible refine bt ?_ ?_);focus(simp[]<;>omega))
  |((with_reducible refine bb (λh=>?_) (λh=>?_))<;>(try simp at h))
 all_goals(clear hs hn)
 all_goals first
  |(rw[<-hi,An (by omega) hx,if_pos ‹_›];done)
  |exact⟨⟨⟨i-1,by omega,by omega,by rw[<-hi,An (by omega) hx,if_neg ‹_›]⟩,by dsimp only;omega,rfl,rfl⟩,rfl⟩
  |(rw[<-hi,show i=-1 by omega];rfl)
theorem Lz {s t:ah} {a:Bool} (h:aC s=some t):lu (s.length+1) s a=lu (t.length+1) t (if aP s=true then bC s else a):=by
 have:=Fo.bH h
 rw[lu];simp only[h]
 exact EB _ _ _ _ (by omega) (by omega)
theorem LA {s:ah} {a:Bool} (h:aC s=none):lu (s.length+1) s a=a:=by rw[lu];simp only[h]
theorem Da {s:ah} {a:Bool} (h:(aC s).isSome=true) (hs:s.length<2^62):((aC s).getD []).length<2^62/\((aC s).getD []).length<s.length/\lu (((aC s).getD []).length+1) ((aC s).getD []) (if aP s=true then bC s else a)=lu (s.length+1) s a:=by
 obtain⟨t,ht⟩:=Option.isSome_iff_exists.1 h
 have e:=Fo.bH ht
 rw[Lz (a:=a) ht,ht]
 exact⟨by simp only[Option.getD_some];omega,e,rfl⟩
abbrev Vu (ty:List ah) (va:List Int) (lo:List Lc):SH:=⟨[(2,.arr 3 (lo.map vK) true),(1,.arr 1 (va.map aB) true),(0,.arr 1 (ty.map bL) true)],3⟩
abbrev XT (ns:List Nd) (b:Bool) (lo:List Lc) (n:Int):List EV:=[.agg [.p (.vs (ns.map aH) none b)],.f (.ref 0 ns.length 1 none),.f (.ref 1 ns.length 1 none),.f (.ref 2 lo.length 3 none),.i n]
theorem JU (ns:List Nd) (b:Bool) (g:Good ns) (ty:List ah) (va:List Int) (lo:List Lc) (sc:List (ah×Int)) (lp:Int) (w:Wf ns ⟨ty,va,lo,sc,lp⟩):∀(f:Nat) (n:Int) {K:aR->SH->Prop},n.toNat<f->0<=n->n<(ns.length:Int)->aG (nd ns n).kind=true->di ns ⟨ty,va,lo,sc,lp⟩ n->W (K (.ret (.b (px ns ⟨ty,va,lo,sc,lp⟩ f n))) (Vu ty va lo))->SC Tryz.prog 71 (XT ns b lo n) (Vu ty va lo) K
 |0,n,K,hf,_,_,_,_,_=>by omega
 |f+1,n,K,hf,h0,h1,hx,hp,hK=>by
  rw[Ly] at hK
  by_cases hk:(nd ns n).kind=33
  ·have ho:pf ⟨ty,va,lo,sc,lp⟩ n:=by
    cases hp with
    |var _ ho=>exact ho
    |deref h2=>omega
    |other h2=>simp[bZ,hk] at h2
   obtain⟨o0,o1⟩:=ho
   refine aX [] [] [] Tryz.func71 rfl (by kernel_rfl) ?_
   repeat' first
    |((with_reducible refine W.of ?_);conv=>whnf)
    |with_reducible first
     |refine W.fin (K:=K) hK ?_ rfl
     |refine W.fin (K:=K) (hok _ _ _ _ _ _ ?_ ‹_› ?_) rfl rfl
     |refine W.fin (K:=K) (hbad _ _ _ _ _ _ _ _ _ ?_ ?_ ?_ ?_ ?_ ?_) rfl rfl
     |refine bt (decide_eq_true ‹_›) ?_
     |refine bt (eO ‹_› ‹_›) ?_
     |refine aq ‹_› ‹_› ?_
     |refine gi ‹_› ‹_› ‹_› ?_
     |refine W.and (by kernel_rfl) ?_
     |refine DJ w h0 h1 ?_
    |((with_reducible refine bt ?_ ?_);focus(simp[hk,o0]<;>omega))
    |with_reducible first
     |refine bt (decide_eq_true ⟨o0,o1⟩) ?_
     |refine aj (l:=lo) (by dsimp only at o1;omega) (λl hl=>?_)
     |refine SC.call ?_
    |((with_reducible refine bb (λh=>?_) (λh=>?_))<;>(try simp at h))
   all_goals(clear hK;simp_all)
  ·by_cases hd:(nd ns n).kind=41\/(nd ns n).kind=42
   ·obtain⟨a,hkk,a0,a1,ae⟩:=g.ej h0 h1 (by omega)
    have he0:ax ns n 0=a:=by simp[ax,hkk]
    obtain⟨hto,hp2⟩:(typeAt ⟨ty,va,lo,sc,lp⟩ a).length<2^62/\di ns ⟨ty,va,lo,sc,lp⟩ a:=by
     cases hp with
     |var h2 _=>exact absurd h2 hk
     |deref _ _ _ h3 h4=>rw[he0] at h3 h4;exact⟨by have:=h3.2;omega,h4⟩
     |other h2=>rcases hd with h|h<;>simp[bZ,h] at h2
    rw[he0] at hK
    have a2:a<(ns.length:Int):=by omega
    have hR:=fun{K}=>JU ns b g ty va lo sc lp w f a (K:=K) (by omega) a0 a2 ae hp2
    rcases hd with hd|hd
    ·rw[if_neg hk,if_neg (by omega),if_neg (by omega)] at hK
     refine aX [] [] [] Tryz.func71 rfl (by kernel_rfl) ?_
     repeat' first
      |((with_reducible refine W.of ?_);conv=>whnf)
      |with_reducible first
       |refine W.fin (K:=K) hK ?_ rfl
       |refine W.fin (K:=K) (hok _ _ _ _ _ _ ?_ ‹_› ?_) rfl rfl
       |refine W.fin (K:=K) (hbad _ _ _ _ _ _ _ _ _ ?_ ?_ ?_ ?_ ?_ ?_) rfl rfl
       |refine bt (decide_eq_true ‹_›) ?_
       |refine bt (eO ‹_› ‹_›) ?_
       |refine aq ‹_› ‹_› ?_
       |refine gi ‹_› ‹_› ‹_› ?_
       |refine W.and (by kernel_rfl) ?_
      |((with_reducible refine on (aB a) ?_ ?_);focus(simp[hkk];done))
      |((with_reducible refine bt ?_ ?_);focus(simp[hk,hd]<;>omega))
      |((with_reducible refine bf ?_ ?_);focus(simp[hk,hd]<;>omega))
      |with_reducible first
       |refine hR ?_
       |refine mX _ ‹_› ?_
       |refine jA _ ?_
       |refine fn [] [] Tryz.func132 rfl (by kernel_rfl) ?_
       |refine fn [] [] Tryz.func133 rfl (by kernel_rfl) ?_
      |((with_reducible refine bT [] [] [13,14] [] (λq:{q:ah×Bool//q.1.length<2^62/\lu (q.1.length+1) q.1 q.2=lu ((typeAt ⟨ty,va,lo,sc,lp⟩ a).length+1) (typeAt ⟨ty,va,lo,sc,lp⟩ a) (px ns ⟨ty,va,lo,sc,lp⟩ f a)}=>[.s q.1.1,.b q.1.2]) (λ_=>⟨(4,b8 (nd ns n))::(3,.cells [.p (.vs (ns.map aH) none b)])::(Vu ty va lo).bp,5⟩) (λq=>q.1.1.length) ⟨(typeAt ⟨ty,va,lo,sc,lp⟩ a,px ns ⟨ty,va,lo,sc,lp⟩ f a),hto,rfl⟩ (by kernel_rfl) ?_ ?_);(focus((with_reducible refine W.of ?_);(conv=>whnf);exact⟨rfl,rfl⟩));rintro⟨⟨s,m⟩,hs,hq⟩;dsimp only;dsimp only at hs hq)
      |with_reducible refine SC.call ?_
      |((with_reducible refine bb (λh=>?_) (λh=>?_))<;>(try simp at h))
     all_goals(clear hK hR)
     all_goals first
      |(rw[<-hq,LA ‹_›];done)
      |(obtain⟨e1,e2,e3⟩:=Da (a:=m) ‹_› hs;rw[if_pos ‹_›,hq] at e3;exact⟨⟨⟨(_,_),e1,e3⟩,e2,rfl,rfl⟩,rfl⟩)
      |(obtain⟨e1,e2,e3⟩:=Da (a:=m) ‹_› hs;rw[if_neg (by simp[*]),hq] at e3;exact⟨⟨⟨(_,_),e1,e3⟩,e2,rfl,rfl⟩,rfl⟩)
    ·rw[if_neg hk,if_neg (by omega),if_pos hd] at hK
     refine aX [] [] [] Tryz.func71 rfl (by kernel_rfl) ?_
     repeat' first
      |((with_reducible refine W.of ?_);conv=>whnf)
      |with_reducible first
       |refine W.fin (K:=K) hK ?_ rfl
       |refine W.fin (K:=K) (hok _ _ _ _ _ _ ?_ ‹_› ?_) rfl rfl
       |refine W.fin (K:=K) (hbad _ _ _ _ _ _ _ _ _ ?_ ?_ ?_ ?_ ?_ ?_) rfl rfl
       |refine bt (decide_eq_true ‹_›) ?_
       |refine bt (eO ‹_› ‹_›) ?_
       |refine aq ‹_› ‹_› ?_
       |refine gi ‹_› ‹_› ‹_› ?_
       |refine W.and (by kernel_rfl) ?_
      |((with_reducible refine on (aB a) ?_ ?_);focus(simp[hkk];done))
      |((with_reducible refine bt ?_ ?_);focus(simp[hk,hd]<;>omega))
      |((with_reducible refine bf ?_ ?_);focus(simp[hk,hd]<;>omega))
      |with_reducible first
       |refine hR ?_
       |refine mX _ ‹_› ?_
       |refine jA _ ?_
       |refine fn [] [] Tryz.func132 rfl (by kernel_rfl) ?_
       |refine fn [] [] Tryz.func133 rfl (by kernel_rfl) ?_
       |refine un 1 (by kernel_rfl) ?_
       |refine SC.call ?_
      |((with_reducible refine bb (λh=>?_) (λh=>?_))<;>(try simp at h))
     all_goals(clear hK hR;cases hi:aC (typeAt ⟨ty,va,lo,sc,lp⟩ a)<;>simp_all)
   ·refine aX [] [] [] Tryz.func71 rfl (by kernel_rfl) ?_
    repeat' first
     |((with_reducible refine W.of ?_);conv=>whnf)
     |with_reducible first
      |refine W.fin (K:=K) hK ?_ rfl
      |refine W.fin (K:=K) (hok _ _ _ _ _ _ ?_ ‹_› ?_) rfl rfl
      |refine W.fin (K:=K) (hbad _ _ _ _ _ _ _ _ _ ?_ ?_ ?_ ?_ ?_ ?_) rfl rfl
      |refine bt (decide_eq_true ‹_›) ?_
      |refine bt (eO ‹_› ‹_›) ?_
      |refine aq ‹_› ‹_› ?_
      |refine gi ‹_› ‹_› ‹_› ?_
      |refine W.and (by kernel_rfl) ?_
     |((with_reducible refine bf ?_ ?_);focus(simp[hk,hd]<;>omega))
     |((with_reducible refine bt ?_ ?_);focus(simp[hk,hd]<;>omega))
     |with_reducible refine SC.call ?_
     |((with_reducible refine bb (λh=>?_) (λh=>?_))<;>(try simp at h))
    all_goals(clear hK;simp_all)
theorem tW (C:Cx) (g:Good C.ns) (ty:List ah) (va:List Int) (lo:List Lc) (sc:List (ah×Int)) (lp:Int) (ex:List (List PV)) (e f t:Int) (w:Wf C.ns ⟨ty,va,lo,sc,lp⟩) (n:Int) (h0:0<=n) (h1:n<(C.ns.length:Int)) (hx:aG (nd C.ns n).kind=true) (hp:di C.ns ⟨ty,va,lo,sc,lp⟩ n) (hk:bZ (nd C.ns n).kind=true) {K:aR->SH->Prop} (hK:W (K (.ret (.b (sb C.ns ⟨ty,va,lo,sc,lp⟩ n))) (DW C ty va lo sc lp ex e f t))):SC Tryz.prog 320 (S2 [.i n]) (DW C ty va lo sc lp ex e f t) K:=by
 unfold sb at hK
 rw[<-PK g hp hk h0 h1 (f:=n.toNat+1) (Nat.lt_succ_self _) (Nat.lt_succ_self _)] at hK
 refine aX [] [] [] Tryz.func320 rfl (by kernel_rfl) ?_
 repeat' first
  |((with_reducible refine W.of ?_);conv=>whnf)
  |with_reducible first
   |refine W.fin (K:=K) hK ?_ rfl
   |refine W.and (by kernel_rfl) ?_
   |refine JU C.ns C.nb g ty va lo sc lp w (n.toNat+1) n (Nat.lt_succ_self _) h0 h1 hx hp ?_
   |refine SC.call ?_
 all_goals rfl
end
end Go.Proofs.YtdjkoddnnogejaaGreat
