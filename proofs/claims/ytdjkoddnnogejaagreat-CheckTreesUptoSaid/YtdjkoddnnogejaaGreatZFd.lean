/- Part of the proof of CheckTrees: plain laws and steps of its walks, for all arguments. -/
import Derived.Test.YtdjkoddnnogejaaGreatZDm
set_option linter.unusedSimpArgs false
set_option linter.unusedVariables false
set_option linter.unusedSectionVars false
namespace Go.Proofs.YtdjkoddnnogejaaGreat
section
set_option maxRecDepth 100000
set_option maxHeartbeats 4000000
open Go.Vv Go.Ee
open Fo (hp cy cj aC)
attribute [local irreducible] bC aP bZ nd ax typeAt
theorem tV {K:aR->SH->Prop} (s t:ah) (hi:aC s=some t) (hs:s.length<2^62) (hK:W (K (.ret (.bR [.f (.p (.str t)),.f (.p (.bool true))])) H0)):SC Tryz.prog 59 [.s s] H0 K:=mX s hs (by rw[hi];exact hK)
theorem Ft {s:ah} (h:aP s=true):∃t,aC s=some t:=by
 unfold aC
 by_cases hm:hp s cy=true
 ·exact⟨_,if_pos hm⟩
 ·rw[if_neg hm,if_pos (show hp s cj=true from by simpa[aP] using h)];exact⟨_,rfl⟩
theorem Ck {ty t:ah} (hr:aP ty=true) (hi:aC ty=some t):ty.take ((ty.length:Int)-(t.length:Int)).toNat=gg ty:=by
 rw[<-(zH hr hi).2.1];congr 1;omega
theorem oT (C:Cx) (g:Good C.ns) (fl:Fl C.it) (io:fg C.it):∀(f:Nat) (n:Int),n.toNat<f->0<=n->n<(C.ns.length:Int)->bN (nd C.ns n).kind=true->∀(t:ah),cM t->∀(ty:List ah) (va:List Int) (lo:List Lc) (sc:List (ah×Int)) (lp:Int),t.length<=cU lo.length+200000->wu C 316 [.i n,.s t] (im C.ns C.it f n t) uE BU 0 ty va lo sc lp
 |0,n,hf,h0,_,_,_,_,_,_,_,_,_,_=>by omega
 |f+1,n,hf,h0,h1,hx,t,ht,ty,va,lo,sc,lp,htl=>by
  have hV:=fun(ty:List ah) (va:List Int) (sc:List (ah×Int)) name mt=>qa C n h0 h1 name t mt ht ty va lo sc lp htl
  have hlb:2000000<=cU lo.length:=Nat.le_add_right _ _
  rcases hr:aP t with _|_
  ·by_cases h54:(nd C.ns n).kind=54
   ·rcases g.xd h0 h1 h54 with hkk|⟨a,hkk,a0,a1,ae⟩
    ·intro ex K w l0 l1 hok hbad
     refine aX [] [] [3,4] Tryz.func316 rfl (by kernel_rfl) ?_
     have w':Wf C.ns ⟨ty.set n.toNat t,va,lo,sc,lp⟩:=Wf.setType w n.toNat t
     repeat' first
      |((with_reducible refine W.of ?_);conv=>whnf)
      |with_reducible first
       |refine W.fin (K:=K) (hok () _ _ _ _ _ ?_ ‹_› ?_) rfl rfl
       |refine W.fin (K:=K) (hbad () _ _ _ _ _ _ _ _ ?_ ?_ ?_ ?_ ?_ ?_) rfl rfl
       |refine bt (decide_eq_true ‹_›) ?_
       |refine bt (eO ‹_› ‹_›) ?_
       |refine aq ‹_› ‹_› ?_
       |refine gi ‹_› ‹_› ‹_› ?_
       |refine dj ?_
       |refine W.and (by kernel_rfl) ?_
       |refine fn [] [] Tryz.func51 rfl (by kernel_rfl) ?_
       |refine fn [] [] Tryz.func173 rfl (by kernel_rfl) ?_
      |((with_reducible refine bt ?_ ?_);focus(simp[h54]<;>omega))
      |((with_reducible refine bf ?_ ?_);focus(simp[h54,hkk]<;>omega))
      |with_reducible first
       |refine jA _ ?_
       |refine fn [] [] Tryz.func132 rfl (by kernel_rfl) ?_
       |refine gU C.it _ fl (λi k e v i0 k0 he hv hh=>?_) (λhh=>?_)
       |refine jv he ?_
       |refine jv hv ?_
       |refine SC.call ?_
      |((with_reducible refine bb (λh=>?_) (λh=>?_))<;>(try simp at h))
     all_goals(clear hok hbad hV)
     all_goals first|assumption|exact Wf.tl ‹_›|exact Wf.vl ‹_›|exact trivial|omega|(simp_all[im,dn,gw,bg,aI,mJ,gg,List.length_set,aN.then,ai];done)|(simp_all[im,dn,gw,bg,aI,mJ,gg,List.length_set,aN.then,ai];omega)|(simp only[BS,bg,aI,aE,aF,List.length_cons,List.length_nil,List.length_append] at*;omega)|skip
    ·have he0:ax C.ns n 0=a:=by simp[ax,hkk]
     have a2:a<(C.ns.length:Int):=by omega
     have hR:=oT C g fl io f a (by omega) a0 a2 ae
     intro ex K w l0 l1 hok hbad
     refine aX [] [] [3,4] Tryz.func316 rfl (by kernel_rfl) ?_
     have w':Wf C.ns ⟨ty.set n.toNat t,va,lo,sc,lp⟩:=Wf.setType w n.toNat t
     repeat' first
      |((with_reducible refine W.of ?_);conv=>whnf)
      |with_reducible first
       |refine W.fin (K:=K) (hok () _ _ _ _ _ ?_ ‹_› ?_) rfl rfl
       |refine W.fin (K:=K) (hbad () _ _ _ _ _ _ _ _ ?_ ?_ ?_ ?_ ?_ ?_) rfl rfl
       |refine bt (decide_eq_true ‹_›) ?_
       |refine bt (eO ‹_› ‹_›) ?_
       |refine aq ‹_› ‹_› ?_
       |refine gi ‹_› ‹_› ‹_› ?_
       |refine dj ?_
       |refine W.and (by kernel_rfl) ?_
       |refine fn [] [] Tryz.func51 rfl (by kernel_rfl) ?_
       |refine fn [] [] Tryz.func173 rfl (by kernel_rfl) ?_
      |((with_reducible refine on (aB a) ?_ ?_);focus(simp[hkk];done))
      |((with_reducible refine bt ?_ ?_);focus(simp[h54,hkk]<;>omega))
      |((with_reducible refine bf ?_ ?_);focus(simp[h54,hkk]<;>omega))
      |with_reducible first
       |refine jA _ ?_
       |refine fn [] [] Tryz.func132 rfl (by kernel_rfl) ?_
      |((with_reducible refine gU C.it _ fl (λi k e v i0 k0 he hv hh=>?_) (λhh=>?_));obtain⟨_,hv1,hv2⟩:=io.variant hh;have hv3:cM ([]++v.ty):=.inl hv1)
      |with_reducible first
       |refine jv he ?_
       |refine jv hv ?_
       |refine hR _ ‹_› _ _ _ _ _ (by simp;omega) _ _ ‹_› (by omega) (by omega) (λv ty va lo sc ex hF w hs=>?_) (λv de df dt ty va lo sc ex hF hB he ht hv hs=>?_)
       |refine SC.call ?_
      |((with_reducible refine bb (λh=>?_) (λh=>?_))<;>(try simp at h))
     all_goals(clear hok hbad hV hR)
     all_goals first|assumption|exact Wf.tl ‹_›|exact Wf.vl ‹_›|exact trivial|omega|(simp_all[im,dn,gw,bg,aI,mJ,gg,List.length_set,aN.then,ai];done)|(simp_all[im,dn,gw,bg,aI,mJ,gg,List.length_set,aN.then,ai];omega)|(simp only[BS,bg,aI,aE,aF,List.length_cons,List.length_nil,List.length_append] at*;omega)|skip
   ·intro ex K w l0 l1 hok hbad
    refine aX [] [] [3,4] Tryz.func316 rfl (by kernel_rfl) ?_
    have w':Wf C.ns ⟨ty.set n.toNat t,va,lo,sc,lp⟩:=Wf.setType w n.toNat t
    repeat' first
     |((with_reducible refine W.of ?_);conv=>whnf)
     |with_reducible first
      |refine W.fin (K:=K) (hok () _ _ _ _ _ ?_ ‹_› ?_) rfl rfl
      |refine W.fin (K:=K) (hbad () _ _ _ _ _ _ _ _ ?_ ?_ ?_ ?_ ?_ ?_) rfl rfl
      |refine bt (decide_eq_true ‹_›) ?_
      |refine bt (eO ‹_› ‹_›) ?_
      |refine aq ‹_› ‹_› ?_
      |refine gi ‹_› ‹_› ‹_› ?_
      |refine dj ?_
      |refine W.and (by kernel_rfl) ?_
      |refine fn [] [] Tryz.func51 rfl (by kernel_rfl) ?_
      |refine fn [] [] Tryz.func173 rfl (by kernel_rfl) ?_
     |((with_reducible refine bf ?_ ?_);focus(simp[h54]<;>omega))
     |with_reducible first
      |refine jA _ ?_
      |refine fn [] [] Tryz.func132 rfl (by kernel_rfl) ?_
      |refine hV _ _ _ _ _ _ _ ‹_› (by omega) (by omega) (λv ty va lo sc ex hF w hs=>?_) (λv de df dt ty va lo sc ex hF hB he ht hv hs=>?_)
      |refine SC.call ?_
     |((with_reducible refine bb (λh=>?_) (λh=>?_))<;>(try simp at h))
    all_goals(clear hok hbad hV)
    all_goals first|assumption|exact Wf.tl ‹_›|exact Wf.vl ‹_›|exact trivial|omega|(simp_all[im,dn,gw,bg,aI,mJ,gg,List.length_set,aN.then,ai];done)|(simp_all[im,dn,gw,bg,aI,mJ,gg,List.length_set,aN.then,ai];omega)|(simp only[BS,bg,aI,aE,aF,List.length_cons,List.length_nil,List.length_append] at*;omega)|skip
  ·obtain⟨ti,hi⟩:=Ft hr
   obtain⟨hh1,hh2,hh3⟩:=zH hr hi
   have htf:=Ck hr hi
   have hfl:=EW t
   by_cases h54:(nd C.ns n).kind=54
   ·rcases g.xd h0 h1 h54 with hkk|⟨a,hkk,a0,a1,ae⟩
    ·intro ex K w l0 l1 hok hbad
     refine aX [] [] [3,4] Tryz.func316 rfl (by kernel_rfl) ?_
     have htb:t.length<2^62:=by have:=w.ll;unfold cU at htl;dsimp only at this;omega
     have w':Wf C.ns ⟨ty.set n.toNat t,va,lo,sc,lp⟩:=Wf.setType w n.toNat t
     repeat' first
      |((with_reducible refine W.of ?_);conv=>whnf)
      |with_reducible first
       |refine W.fin (K:=K) (hok () _ _ _ _ _ ?_ ‹_› ?_) rfl rfl
       |refine W.fin (K:=K) (hbad () _ _ _ _ _ _ _ _ ?_ ?_ ?_ ?_ ?_ ?_) rfl rfl
       |refine bt (decide_eq_true ‹_›) ?_
       |refine bt (eO ‹_› ‹_›) ?_
       |refine aq ‹_› ‹_› ?_
       |refine gi ‹_› ‹_› ‹_› ?_
       |refine dj ?_
       |refine W.and (by kernel_rfl) ?_
       |refine fn [] [] Tryz.func51 rfl (by kernel_rfl) ?_
       |refine fn [] [] Tryz.func173 rfl (by kernel_rfl) ?_
      |((with_reducible refine bt ?_ ?_);focus(simp[h54]<;>omega))
      |((with_reducible refine bf ?_ ?_);focus(simp[h54,hkk]<;>omega))
      |with_reducible first
       |refine jA _ ?_
       |refine tV _ _ hi htb ?_
       |refine fn [] [] Tryz.func132 rfl (by kernel_rfl) ?_
       |refine gU C.it _ fl (λi k e v i0 k0 he hv hh=>?_) (λhh=>?_)
       |refine jv he ?_
       |refine jv hv ?_
       |refine SC.call ?_
      |((with_reducible refine bb (λh=>?_) (λh=>?_))<;>(try simp at h))
     all_goals(clear hok hbad hV)
     all_goals first|assumption|exact Wf.tl ‹_›|exact Wf.vl ‹_›|exact trivial|omega|(simp_all[im,dn,gw,bg,aI,List.length_set,aN.then,ai];done)|(simp_all[im,dn,gw,bg,aI,List.length_set,aN.then,ai];omega)|(simp only[BS,bg,aI,aE,aF,List.length_cons,List.length_nil,List.length_append] at*;omega)|skip
    ·have he0:ax C.ns n 0=a:=by simp[ax,hkk]
     have a2:a<(C.ns.length:Int):=by omega
     have hR:=oT C g fl io f a (by omega) a0 a2 ae
     intro ex K w l0 l1 hok hbad
     refine aX [] [] [3,4] Tryz.func316 rfl (by kernel_rfl) ?_
     have htb:t.length<2^62:=by have:=w.ll;unfold cU at htl;dsimp only at this;omega
     have w':Wf C.ns ⟨ty.set n.toNat t,va,lo,sc,lp⟩:=Wf.setType w n.toNat t
     repeat' first
      |((with_reducible refine W.of ?_);conv=>whnf)
      |with_reducible first
       |refine W.fin (K:=K) (hok () _ _ _ _ _ ?_ ‹_› ?_) rfl rfl
       |refine W.fin (K:=K) (hbad () _ _ _ _ _ _ _ _ ?_ ?_ ?_ ?_ ?_ ?_) rfl rfl
       |refine bt (decide_eq_true ‹_›) ?_
       |refine bt (eO ‹_› ‹_›) ?_
       |refine aq ‹_› ‹_› ?_
       |refine gi ‹_› ‹_› ‹_› ?_
       |refine dj ?_
       |refine W.and (by kernel_rfl) ?_
       |refine fn [] [] Tryz.func51 rfl (by kernel_rfl) ?_
       |refine fn [] [] Tryz.func173 rfl (by kernel_rfl) ?_
      |((with_reducible refine on (aB a) ?_ ?_);focus(simp[hkk];done))
      |((with_reducible refine bt ?_ ?_);focus(simp[h54,hkk]<;>omega))
      |((with_reducible refine bf ?_ ?_);focus(simp[h54,hkk]<;>omega))
      |with_reducible first
       |refine jA _ ?_
       |refine tV _ _ hi htb ?_
       |refine fn [] [] Tryz.func132 rfl (by kernel_rfl) ?_
      |((with_reducible refine gU C.it _ fl (λi k e v i0 k0 he hv hh=>?_) (λhh=>?_));obtain⟨_,hv1,hv2⟩:=io.variant hh;have hv3:cM (t.take ((t.length:Int)-(ti.length:Int)).toNat++v.ty):=by rw[htf];exact Hi hv1)
      |with_reducible first
       |refine jv he ?_
       |refine jv hv ?_
       |refine hR _ ‹_› _ _ _ _ _ (by rw[htf];simp;omega) _ _ ‹_› (by omega) (by omega) (λv ty va lo sc ex hF w hs=>?_) (λv de df dt ty va lo sc ex hF hB he ht hv hs=>?_)
       |refine SC.call ?_
      |((with_reducible refine bb (λh=>?_) (λh=>?_))<;>(try simp at h))
     all_goals(clear hok hbad hV hR)
     all_goals first|assumption|exact Wf.tl ‹_›|exact Wf.vl ‹_›|exact trivial|omega|(simp_all[im,dn,gw,bg,aI,List.length_set,aN.then,ai];done)|(simp_all[im,dn,gw,bg,aI,List.length_set,aN.then,ai];omega)|(simp only[BS,bg,aI,aE,aF,List.length_cons,List.length_nil,List.length_append] at*;omega)|skip
   ·intro ex K w l0 l1 hok hbad
    refine aX [] [] [3,4] Tryz.func316 rfl (by kernel_rfl) ?_
    have htb:t.length<2^62:=by have:=w.ll;unfold cU at htl;dsimp only at this;omega
    have w':Wf C.ns ⟨ty.set n.toNat t,va,lo,sc,lp⟩:=Wf.setType w n.toNat t
    repeat' first
     |((with_reducible refine W.of ?_);conv=>whnf)
     |with_reducible first
      |refine W.fin (K:=K) (hok () _ _ _ _ _ ?_ ‹_› ?_) rfl rfl
      |refine W.fin (K:=K) (hbad () _ _ _ _ _ _ _ _ ?_ ?_ ?_ ?_ ?_ ?_) rfl rfl
      |refine bt (decide_eq_true ‹_›) ?_
      |refine bt (eO ‹_› ‹_›) ?_
      |refine aq ‹_› ‹_› ?_
      |refine gi ‹_› ‹_› ‹_› ?_
      |refine dj ?_
      |refine W.and (by kernel_rfl) ?_
      |refine fn [] [] Tryz.func51 rfl (by kernel_rfl) ?_
      |refine fn [] [] Tryz.func173 rfl (by kernel_rfl) ?_
     |((with_reducible refine bf ?_ ?_);focus(simp[h54]<;>omega))
     |with_reducible first
      |refine jA _ ?_
      |refine tV _ _ hi htb ?_
      |refine fn [] [] Tryz.func132 rfl (by kernel_rfl) ?_
      |refine hV _ _ _ _ _ _ _ ‹_› (by omega) (by omega) (λv ty va lo sc ex hF w hs=>?_) (λv de df dt ty va lo sc ex hF hB he ht hv hs=>?_)
      |refine SC.call ?_
     |((with_reducible refine bb (λh=>?_) (λh=>?_))<;>(try simp at h))
    all_goals(clear hok hbad hV)
    all_goals first|assumption|exact Wf.tl ‹_›|exact Wf.vl ‹_›|exact trivial|omega|(simp_all[im,dn,gw,bg,aI,List.length_set,aN.then,ai];done)|(simp_all[im,dn,gw,bg,aI,List.length_set,aN.then,ai];omega)|(simp only[BS,bg,aI,aE,aF,List.length_cons,List.length_nil,List.length_append] at*;omega)|skip
end
end Go.Proofs.YtdjkoddnnogejaaGreat
