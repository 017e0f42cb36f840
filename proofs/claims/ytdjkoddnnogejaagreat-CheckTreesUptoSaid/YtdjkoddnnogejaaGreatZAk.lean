/- Part of the proof of CheckTrees: plain laws and steps of its walks, for all arguments. -/
import Derived.Test.YtdjkoddnnogejaaGreatZAe
set_option linter.unusedSimpArgs false
set_option linter.unusedVariables false
set_option linter.unusedSectionVars false
namespace Go.Proofs.YtdjkoddnnogejaaGreat
section
set_option maxRecDepth 100000
open Go.Vv Go.Ee
section
variable(C:Cx) (E:Rec) (g:Good C.ns) (fl:Fl C.it) (n:Int) (h0:0<=n) (h1:n<(C.ns.length:Int)) (hE:HE C E n)
include g fl h0 h1 hE
abbrev Pp (ws:List ah) (R:aN Unit) (lp:Int):Type:=Tm (nd C.ns n).kids.length λi w=>Wf C.ns (w.st lp)/\gG C.ns E ((nd C.ns n).kids.drop i.toNat) (ws.drop i.toNat) (w.st lp)=R
theorem PJ (hkd:(nd C.ns n).kind=34):iA C 216 [.i n] (n9 C.ns C.it E n) EV.s n:=by
 have hkl:=g.kids _ (List.mem_of_getElem? (Good.at h0 h1))
 have hks:=g.mN h0 h1 hkd
 intro ty va lo sc lp q1 q2 ex K w l0 l1 hok hbad
 refine aX [] [(21,[(6,none)])] [4,5] Tryz.func216 rfl (by kernel_rfl) ?_
 repeat' first
  |((with_reducible refine W.of ?_);conv=>whnf)
  |with_reducible first
   |refine W.fin (K:=K) (hok _ _ _ _ _ _ _ _ ?_ ‹_›) rfl rfl
   |refine W.fin (K:=K) (hok () _ _ _ _ _ _ _ ?_ ‹_›) rfl rfl
   |refine W.fin (K:=K) (hbad ⟨_,_,_⟩ ?_) rfl rfl
   |refine W.fin (K:=K) (hbad _ ?_) rfl rfl
   |refine bt (decide_eq_true ‹_›) ?_
   |refine aq ‹_› ‹_› ?_
   |refine W.and (by kernel_rfl) ?_
   |refine fn [] [] Tryz.func157 rfl (by kernel_rfl) ?_
   |refine fn [] [] Tryz.func95 rfl (by kernel_rfl) ?_
   |refine QG C.it _ fl.n1 fl.n2 fl.n3 (λj f hj hf=>?_) (λhf=>?_)
   |refine Il hj ?_
  |((with_reducible refine SL.nil 6 1 ?_);(with_reducible refine W.of ?_);(conv=>whnf);(with_reducible refine bT [] [] [48,6] [6,9] (λa:So f.ps.length λ_=>True=>[.i a.1,.f (.ref 10 a.1.toNat 1 none)]) (λa=>⟨(10,.arr 1 ((f.ps.take a.1.toNat).map λp=>bL p.ty) true)::(8,Ta f)::(7,b8 (nd C.ns n))::(Xm C ty va lo sc lp q1 q2 ex).bp,11⟩) (λa=>f.ps.length-a.1.toNat) ⟨0,by omega,by omega,trivial⟩ (by kernel_rfl) ?_ ?_);(focus((with_reducible refine W.of ?_);(conv=>whnf);exact⟨rfl,rfl⟩));rintro⟨m,m0,m1,_⟩;dsimp only;have hpl:=fl.ff f (List.mem_of_getElem? hj))
  |((with_reducible refine aj (l:=(nd C.ns n).kids) (by omega) (λk hk=>?_));obtain⟨k0,k1,ke⟩:=hks k (List.mem_of_getElem? hk);have k2:k<(C.ns.length:Int):=by omega)
  |with_reducible first
   |refine eN C E k k0 k2 k (hE k k0 k1 ke) _ _ _ _ _ _ _ _ _ _ ‹_› (by omega) (by omega) (λv ty va lo sc q1 q2 ex hF w=>?_) (λd hF=>?_)
   |refine aj (l:=f.ps.take m.toNat) (by simp;omega) (λp hp=>?_)
   |refine aj (l:=f.ps) (by omega) (λp hp=>?_)
   |refine Bt (f:=λp=>bL p.ty) m0 hp ?_
   |refine HQ (by omega) ?_
   |refine Gq (by omega) ?_
  |((with_reducible refine bt ?_ ?_);focus(simp[hC]<;>omega))
  |((with_reducible refine bT [] [] [79,6] [4,5,6] (λa:Pp C E n ([bg]) (gG C.ns E (nd C.ns n).kids ([bg]) ⟨ty,va,lo,sc,lp⟩) lp=>[.i a.1.1,.f (.p (.vs [[.str bg]] (some 1) false))]) (λa=>F5 8 9 10 [(7,b8 (nd C.ns n))] C a.1.2 lp) (λa=>(nd C.ns n).kids.length-a.1.1.toNat) ⟨(0,⟨ty,va,lo,sc,q1,q2,ex⟩),by omega,by omega,w,rfl⟩ (by kernel_rfl) ?_ ?_);(focus((with_reducible refine W.of ?_);(conv=>whnf);exact⟨rfl,rfl⟩));rintro⟨⟨i,ty1,va1,lo1,sc1,p1,p2,ex1⟩,hi0,hi,w1,hR⟩;dsimp only;dsimp only[Ws.st] at w1 hR hi0 hi)
  |((with_reducible refine bT [] [] [79,6] [4,5,6] (λa:Pp C E n ([]) (gG C.ns E (nd C.ns n).kids ([]) ⟨ty,va,lo,sc,lp⟩) lp=>[.i a.1.1,.f (.p (.vs [] none true))]) (λa=>F5 8 9 10 [(7,b8 (nd C.ns n))] C a.1.2 lp) (λa=>(nd C.ns n).kids.length-a.1.1.toNat) ⟨(0,⟨ty,va,lo,sc,q1,q2,ex⟩),by omega,by omega,w,rfl⟩ (by kernel_rfl) ?_ ?_);(focus((with_reducible refine W.of ?_);(conv=>whnf);exact⟨rfl,rfl⟩));rintro⟨⟨i,ty1,va1,lo1,sc1,p1,p2,ex1⟩,hi0,hi,w1,hR⟩;dsimp only;dsimp only[Ws.st] at w1 hR hi0 hi)
  |((with_reducible refine bT [] [] [79,6] [4,5,6] (λa:Pp C E n ((f.ps.take m.toNat).map Fd.ty) (gG C.ns E (nd C.ns n).kids ((f.ps.take m.toNat).map Fd.ty) ⟨ty,va,lo,sc,lp⟩) lp=>[.i a.1.1,.f (.p (.vs ((f.ps.take m.toNat).map λp=>bL p.ty) none true))]) (λa=>F5 11 12 13 [(8,Ta f),(7,b8 (nd C.ns n))] C a.1.2 lp) (λa=>(nd C.ns n).kids.length-a.1.1.toNat) ⟨(0,⟨ty,va,lo,sc,q1,q2,ex⟩),by omega,by omega,w,rfl⟩ (by kernel_rfl) ?_ ?_);(focus((with_reducible refine W.of ?_);(conv=>whnf);exact⟨rfl,rfl⟩));rintro⟨⟨i,ty1,va1,lo1,sc1,p1,p2,ex1⟩,hi0,hi,w1,hR⟩;dsimp only;dsimp only[Ws.st] at w1 hR hi0 hi)
  |refine aj (f:=bL) (l:=[bg]) (by simp;omega) (λp hp=>?_)
  |with_reducible refine SC.call ?_
  |((with_reducible refine bb (λh=>?_) (λh=>?_))<;>(try simp at h))
 all_goals(clear hok hbad hE g)
 all_goals first
  |exact⟨⟨⟨m+1,by omega,by omega,trivial⟩,ao m0 (by omega),rfl,rfl⟩,rfl⟩
  |omega
  |refine⟨⟨⟨(i+1,⟨_,_,_,_,_,_,_⟩),by omega,by omega,by assumption,?_⟩,ao hi0 (by omega),rfl,rfl⟩,rfl⟩
   rw[<-hR,sv hi0 hk (by first|exact hp|(rw[List.getElem?_map,hp];rfl)),hF];rfl
  |(simp_all[n9,kz,ai];done)
  |(first
     |have hs:kz C.it (nd C.ns n).name=some ([bg],aE):=by simp_all[kz]
     |have hs:kz C.it (nd C.ns n).name=some ([],bg):=by simp_all[kz]
     |have hs:kz C.it (nd C.ns n).name=some ([],aF):=by simp_all[kz]
     |have hs:kz C.it (nd C.ns n).name=some (f.ps.map Fd.ty,f.ret):=by simp_all[kz])
   first
    |exact yV hs (by simp;omega)
    |rw[yU hs (by simp;omega)]
     try rw[show f.ps.take m.toNat=f.ps from List.take_of_length_le (by omega)] at hR
     try rw[show f.ps.take m.toNat=f.ps from List.take_of_length_le (by omega)] at hp
     first
      |rw[sv hi0 hk (by first|exact hp|(rw[List.getElem?_map,hp];rfl)),hF] at hR;rw[<-hR];rfl
      |rw[wz (by omega)] at hR;rw[<-hR];rfl
end
end
end Go.Proofs.YtdjkoddnnogejaaGreat
