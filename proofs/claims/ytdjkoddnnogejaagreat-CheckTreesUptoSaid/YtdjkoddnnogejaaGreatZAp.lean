/- Part of the proof of CheckTrees: plain laws and steps of its walks, for all arguments. -/
import Derived.Test.YtdjkoddnnogejaaGreatZBo
set_option linter.unusedSimpArgs false
set_option linter.unusedVariables false
set_option linter.unusedSectionVars false
namespace Go.Proofs.YtdjkoddnnogejaaGreat
section
set_option maxRecDepth 100000
set_option maxHeartbeats 4000000
open Go.Vv Go.Ee
abbrev HT (C:Cx):Prop:=∀(n:Int) (K:aR->SH->Prop),0<=n->n<(C.ns.length:Int)->aJ (nd C.ns n).kind=true->W (K (.ret (.bR [.f (.p (.str (cz C.ns n.toNat))),.f (.p (.int .i64 0))])) H0)->SC Tryz.prog 339 [.agg [.p (.vs (C.ns.map aH) none C.nb)],.i n] H0 K
abbrev HO (C:Cx) (E:Rec) (n:Int):Prop:=∀k,0<=k->k<n->aG (nd C.ns k).kind=true->rY C.ns E k
theorem L4 {ns:List Nd} {k:Int} {may:Bool} {st st':St} {u:Unit} (h:r7 ns k may st=.ok u st'):bj ns k may=none/\st'=st:=by
 unfold r7 at h;split at h<;>cases h;exact⟨by assumption,rfl⟩
theorem CZ {ns:List Nd} {it:aw} {n:Int} {st:St}:wy ns it n st=(si ns it n st).then λt st=>(r7 ns n true st).then λ_ st=>.ok t st:=by
 unfold wy si r7;cases bm ns it n<;>simp only[aN.then]<;>first|rfl|(cases bj ns n true<;>rfl)
theorem Oe {ns:List Nd} {it:aw} {k:Int} {st st':St} {u:ah} (h:si ns it k st=.ok u st'):u=cz ns k.toNat/\st'=st:=by
 unfold si at h;split at h<;>cases h;exact⟨rfl,rfl⟩
section
variable(C:Cx) (E:Rec) (g:Good C.ns) (fl:Fl C.it) (n:Int) (h0:0<=n) (h1:n<(C.ns.length:Int)) (hE:HE C E n) (hO:HO C E n) (hT:HT C)
include g fl h0 h1 hE hO hT
theorem Ua (hkd:(nd C.ns n).kind=21):iA C 308 [.i n] (qM C.ns C.it E n) (λ_=>.bR []) n:=by
 have hgl:=g.len
 rcases g.xc h0 h1 hkd with⟨a,hkk,a0,a1,ae⟩|⟨t,a,hkk,t0,t1,a0,a1,tt,ae⟩
 ·have he0:ax C.ns n 0=a:=by simp[ax,hkk]
  have a2:a<(C.ns.length:Int):=by omega
  have hEa:=hE a a0 a1 ae
  intro ty va lo sc lp q1 q2 ex K w l0 l1 hok hbad
  refine aX [] [] [4,5] Tryz.func308 rfl (by kernel_rfl) ?_
  repeat' first
   |((with_reducible refine W.of ?_);conv=>whnf)
   |with_reducible first
    |refine W.fin (K:=K) (hok () _ _ _ _ _ _ _ ?_ ‹_›) rfl rfl
    |refine W.fin (K:=K) (hbad ⟨_,_,_⟩ ?_) rfl rfl
    |refine W.fin (K:=K) (hbad _ ?_) rfl rfl
    |refine bt (decide_eq_true ‹_›) ?_
    |refine aq ‹_› ‹_› ?_
    |refine fn [] [] Tryz.func95 rfl (by kernel_rfl) ?_
   |((with_reducible refine on (aB a) ?_ ?_);focus(simp[hkk];done))
   |((with_reducible refine bt ?_ ?_);focus(simp[hkk]<;>omega))
   |((with_reducible refine bf ?_ ?_);focus(simp[hkk]<;>omega))
   |((with_reducible refine fN C E a a0 a2 a hEa _ _ _ _ _ _ _ _ _ ‹_› (by omega) (by omega) (λv ty va lo sc q1 q2 ex hF w=>?_) (λd hF=>?_));(have T:=bq (hO a a0 a1 ae) ‹_› hF;have T1:=T.ty;have T2:=T.len;clear T;dsimp only at T2))
   |((with_reducible refine lP C n h0 h1 _ _ _ ‹_› _ _ _ _ _ (by omega) _ _ _ _ ‹_› (by omega) (by omega) (λv ty va lo sc q1 q2 ex hF w=>?_) (λd hF=>?_));(have hF:=iW hF);rotate_left;(have hF:=iX hF);rotate_right)
   |with_reducible refine SC.call ?_
  all_goals(clear hok hbad hE hO hT hEa;simp_all[qM,CZ,aN.then,ai])
 ·have he0:ax C.ns n 0=t:=by simp[ax,hkk]
  have he1:ax C.ns n 1=a:=by simp[ax,hkk]
  have a2:a<(C.ns.length:Int):=by omega
  have t2:t<(C.ns.length:Int):=by omega
  have hEa:=hE a a0 a1 ae
  have htl:=g.iU t0 t2
  intro ty va lo sc lp q1 q2 ex K w l0 l1 hok hbad
  refine aX [] [] [4,5] Tryz.func308 rfl (by kernel_rfl) ?_
  repeat' first
   |((with_reducible refine W.of ?_);conv=>whnf)
   |with_reducible first
    |refine W.fin (K:=K) (hok () _ _ _ _ _ _ _ ?_ ‹_›) rfl rfl
    |refine W.fin (K:=K) (hbad ⟨_,_,_⟩ ?_) rfl rfl
    |refine W.fin (K:=K) (hbad _ ?_) rfl rfl
    |refine bt (decide_eq_true ‹_›) ?_
    |refine aq ‹_› ‹_› ?_
    |refine fn [] [] Tryz.func95 rfl (by kernel_rfl) ?_
   |((with_reducible refine on (aB a) ?_ ?_);focus(simp[hkk];done))
   |((with_reducible refine on (aB t) ?_ ?_);focus(simp[hkk];done))
   |((with_reducible refine bt ?_ ?_);focus(simp[hkk]<;>omega))
   |((with_reducible refine bf ?_ ?_);focus(simp[hkk]<;>omega))
   |((with_reducible refine Ot C g fl hT t.toNat t true (Nat.le_refl _) t0 t2 tt _ _ _ _ _ _ _ _ _ ‹_› (by omega) (by omega) (λv ty va lo sc q1 q2 ex hF w=>?_) (λd hF=>?_));(obtain⟨rfl,hq⟩:=Oe hF;cases hq))
   |((with_reducible refine zM C g t.toNat t true (Nat.le_refl _) t0 t2 _ _ _ _ _ _ _ _ _ ‹_› (by omega) (by omega) (λv ty va lo sc q1 q2 ex hF w=>?_) (λd hF=>?_));(obtain⟨hi,hq⟩:=L4 hF;cases hq;have T1:=qf g t0 t2 tt hi))
   |with_reducible refine eN C E a a0 a2 a hEa _ _ _ _ _ _ _ _ _ _ ‹_› (by omega) (by omega) (λv ty va lo sc q1 q2 ex hF w=>?_) (λd hF=>?_)
   |((with_reducible refine lP C n h0 h1 _ _ _ ‹_› _ _ _ _ _ (by unfold cU;omega) _ _ _ _ ‹_› (by omega) (by omega) (λv ty va lo sc q1 q2 ex hF w=>?_) (λd hF=>?_));(have hF:=iW hF);rotate_left;(have hF:=iX hF);rotate_right)
   |with_reducible refine SC.call ?_
  all_goals(clear hok hbad hE hO hT hEa;simp_all[qM,CZ,aN.then,ai])
end
theorem P4 (C:Cx) (g:Good C.ns) (n:Int) (h0:0<=n) (h1:n<(C.ns.length:Int)) (hs:bY (nd C.ns n).kind=true) (ty:List ah) (va:List Int) (lo:List Lc) (sc:List (ah×Int)) (lp:Int):sS C 277 [.i n] (λst=>.ok (pE C.ns st n) st) EV.b 0 ty va lo sc lp:=by
 by_cases h22:(nd C.ns n).kind=22
 ·obtain⟨a,hkk,a0,a1,ae⟩:=g.ej h0 h1 (.inl h22)
  have he0:ax C.ns n 0=a:=by simp[ax,hkk]
  have a2:a<(C.ns.length:Int):=by omega
  intro q1 q2 ex K w l0 l1 hok hbad
  refine aX [] [] [4,5] Tryz.func277 rfl (by kernel_rfl) ?_
  repeat' first
   |((with_reducible refine W.of ?_);conv=>whnf)
   |with_reducible first
    |refine W.fin (K:=K) (hok _ _ _ _ _ _ _ _ ?_ ‹_›) rfl rfl
    |refine W.fin (K:=K) (hbad ⟨_,_,_⟩ ?_) rfl rfl
    |refine W.fin (K:=K) (hbad _ ?_) rfl rfl
    |refine bt (decide_eq_true ‹_›) ?_
    |refine bt (eO ‹_› ‹_›) ?_
    |refine aq ‹_› ‹_› ?_
    |refine gi ‹_› ‹_› ‹_› ?_
    |refine W.and (by kernel_rfl) ?_
    |refine fn [] [] Tryz.func95 rfl (by kernel_rfl) ?_
   |((with_reducible refine on (aB a) ?_ ?_);focus(simp[hkk];done))
   |((with_reducible refine bt ?_ ?_);focus(simp[h22]<;>omega))
   |((with_reducible refine bf ?_ ?_);focus(simp[h22]<;>omega))
   |with_reducible refine SC.call ?_
   |((with_reducible refine bb (λh=>?_) (λh=>?_))<;>(try simp at h))
  all_goals(clear hok hbad;simp_all[pE,aF])
 ·intro q1 q2 ex K w l0 l1 hok hbad
  refine aX [] [] [4,5] Tryz.func277 rfl (by kernel_rfl) ?_
  repeat' first
   |((with_reducible refine W.of ?_);conv=>whnf)
   |with_reducible first
    |refine W.fin (K:=K) (hok _ _ _ _ _ _ _ _ ?_ ‹_›) rfl rfl
    |refine W.fin (K:=K) (hbad ⟨_,_,_⟩ ?_) rfl rfl
    |refine W.fin (K:=K) (hbad _ ?_) rfl rfl
    |refine bt (decide_eq_true ‹_›) ?_
    |refine bt (eO ‹_› ‹_›) ?_
    |refine aq ‹_› ‹_› ?_
    |refine gi ‹_› ‹_› ‹_› ?_
    |refine W.and (by kernel_rfl) ?_
    |refine fn [] [] Tryz.func95 rfl (by kernel_rfl) ?_
   |((with_reducible refine bf ?_ ?_);focus(simp[h22]<;>omega))
   |with_reducible refine SC.call ?_
   |((with_reducible refine bb (λh=>?_) (λh=>?_))<;>(try simp at h))
  all_goals(clear hok hbad;simp_all[pE,aF])
theorem Wf.lp {ns:List Nd} {ty:List ah} {va:List Int} {lo:List Lc} {sc:List (ah×Int)} {lp:Int} (lp':Int) (w:Wf ns ⟨ty,va,lo,sc,lp⟩):Wf ns ⟨ty,va,lo,sc,lp'⟩:=⟨w.tl,w.vl,w.ll,w.sl,w.sc,w.lt⟩
section
variable(C:Cx) (E:Rec) (g:Good C.ns) (fl:Fl C.it) (n:Int) (h0:0<=n) (h1:n<(C.ns.length:Int)) (hE:HE C E n) (hO:HO C E n) (hT:HT C)
include g fl h0 h1 hE hO hT
theorem Sq (hs:bY (nd C.ns n).kind=true):iA C 276 [.i n] (cW C.ns C.it C.ret E n) (λ_=>.bR []) n:=by
 have hgl:=g.len
 have hk:(nd C.ns n).kind=21\/(nd C.ns n).kind=22\/(nd C.ns n).kind=23\/(nd C.ns n).kind=24\/(nd C.ns n).kind=25\/(nd C.ns n).kind=26\/(nd C.ns n).kind=27:=by simp[bY] at hs;omega
 rcases hk with hk|hk|hk|hk|hk|hk|hk
 ·intro ty va lo sc lp q1 q2 ex K w l0 l1 hok hbad
  refine aX [(9,[(0,[]),(1,[]),(2,[]),(3,[]),(4,[]),(5,[]),(6,[]),(7,[]),(8,[7,5]),(9,[])])] [] [4,5] Tryz.func276 rfl (by kernel_rfl) ?_
  repeat' first
   |((with_reducible refine W.of ?_);conv=>whnf)
   |with_reducible first
    |refine W.fin (K:=K) (hok () _ _ _ _ _ _ _ ?_ ‹_›) rfl rfl
    |refine W.fin (K:=K) (hbad ⟨_,_,_⟩ ?_) rfl rfl
    |refine W.fin (K:=K) (hbad _ ?_) rfl rfl
    |refine bt (decide_eq_true ‹_›) ?_
    |refine aq ‹_› ‹_› ?_
    |refine W.and (by kernel_rfl) ?_
    |refine fn [] [] Tryz.func157 rfl (by kernel_rfl) ?_
    |refine fn [] [] Tryz.func95 rfl (by kernel_rfl) ?_
   |((with_reducible refine bt ?_ ?_);focus(simp[hk]<;>omega))
   |((with_reducible refine bf ?_ ?_);focus(simp[hk]<;>omega))
   |with_reducible first
    |refine Ua C E g fl n h0 h1 hE hO hT hk _ _ _ _ _ _ _ _ _ ‹_› (by omega) (by omega) (λv ty va lo sc q1 q2 ex hF w=>?_) (λd hF=>?_)
    |refine SC.call ?_
   |((with_reducible refine bb (λh=>?_) (λh=>?_))<;>(try simp at h))
  all_goals(clear hok hbad hE hO hT;simp_all[cW,aN.then,ai,aI,aE,sb])
 ·obtain⟨a,hkk,a0,a1,ae⟩:=g.ej h0 h1 (.inl hk)
  have he0:ax C.ns n 0=a:=by simp[ax,hkk]
  intro ty va lo sc lp q1 q2 ex K w l0 l1 hok hbad
  refine aX [(9,[(0,[]),(1,[]),(2,[]),(3,[]),(4,[]),(5,[]),(6,[]),(7,[]),(8,[7,5]),(9,[])])] [] [4,5] Tryz.func276 rfl (by kernel_rfl) ?_
  repeat' first
   |((with_reducible refine W.of ?_);conv=>whnf)
   |with_reducible first
    |refine W.fin (K:=K) (hok () _ _ _ _ _ _ _ ?_ ‹_›) rfl rfl
    |refine W.fin (K:=K) (hbad ⟨_,_,_⟩ ?_) rfl rfl
    |refine W.fin (K:=K) (hbad _ ?_) rfl rfl
    |refine bt (decide_eq_true ‹_›) ?_
    |refine aq ‹_› ‹_› ?_
    |refine W.and (by kernel_rfl) ?_
    |refine fn [] [] Tryz.func157 rfl (by kernel_rfl) ?_
    |refine fn [] [] Tryz.func95 rfl (by kernel_rfl) ?_
   |((with_reducible refine on (aB a) ?_ ?_);focus(simp[hkk];done))
   |((with_reducible refine bt ?_ ?_);focus(simp[hk]<;>omega))
   |((with_reducible refine bf ?_ ?_);focus(simp[hk]<;>omega))
   |with_reducible first
    |refine hE a a0 a1 ae _ _ _ _ _ _ _ _ _ ‹_› (by omega) (by omega) (λv ty va lo sc q1 q2 ex hF w=>?_) (λd hF=>?_)
    |refine SC.call ?_
   |((with_reducible refine bb (λh=>?_) (λh=>?_))<;>(try simp at h))
  all_goals(clear hok hbad hE hO hT;simp_all[cW,aN.then,ai,aI,aE,sb])
 ·obtain⟨a,b,hkk,a0,a1,b0,b1,ae,be⟩:=g.vG h0 h1 (.inl hk)
  have hab:a≠b:=by have:=g.nodup h0 h1;rw[hkk] at this;simpa using this
  have he0:ax C.ns n 0=a:=by simp[ax,hkk]
  have he1:ax C.ns n 1=b:=by simp[ax,hkk]
  have a2:a<(C.ns.length:Int):=by omega
  have b2:b<(C.ns.length:Int):=by omega
  intro ty va lo sc lp q1 q2 ex K w l0 l1 hok hbad
  refine aX [(9,[(0,[]),(1,[]),(2,[]),(3,[]),(4,[]),(5,[]),(6,[]),(7,[]),(8,[7,5]),(9,[])])] [] [4,5] Tryz.func276 rfl (by kernel_rfl) ?_
  repeat' first
   |((with_reducible refine W.of ?_);conv=>whnf)
   |with_reducible first
    |refine W.fin (K:=K) (hok () _ _ _ _ _ _ _ ?_ ‹_›) rfl rfl
    |refine W.fin (K:=K) (hbad ⟨_,_,_⟩ ?_) rfl rfl
    |refine W.fin (K:=K) (hbad _ ?_) rfl rfl
    |refine bt (decide_eq_true ‹_›) ?_
    |refine aq ‹_› ‹_› ?_
    |refine W.and (by kernel_rfl) ?_
    |refine fn [] [] Tryz.func157 rfl (by kernel_rfl) ?_
    |refine fn [] [] Tryz.func95 rfl (by kernel_rfl) ?_
   |((with_reducible refine on (aB a) ?_ ?_);focus(simp[hkk];done))
   |((with_reducible refine on (aB b) ?_ ?_);focus(simp[hkk];done))
   |((with_reducible refine bt ?_ ?_);focus(simp[hk]<;>omega))
   |((with_reducible refine bf ?_ ?_);focus(simp[hk]<;>omega))
   |((with_reducible refine fN C E a a0 a2 a (hE a a0 a1 ae) _ _ _ _ _ _ _ _ _ ‹_› (by omega) (by omega) (λv ty va lo sc q1 q2 ex hF w=>?_) (λd hF=>?_));(have T:=bq (hO a a0 a1 ae) ‹_› hF))
   |((with_reducible refine eN C E b b0 b2 b (hE b b0 b1 be) _ _ _ _ _ _ _ _ _ _ ‹_› (by omega) (by omega) (λv ty va lo sc q1 q2 ex hF w=>?_) (λd hF=>?_));(have P2:=p9 g h0 h1 (by rw[hkk];simp) (by rw[hkk];simp) hab T.pl (bJ (hO b b0 b1 be) ‹_› hF);clear T))
   |with_reducible refine xC _ ?_
   |((with_reducible refine qP C g _ _ _ _ _ (a.toNat+1) a (by omega) a0 a2 P2 ae _ _ _ _ ‹_› (by omega) (by omega) (λv ty va lo sc q1 q2 ex hF w=>?_) (λd hF=>?_));(dsimp only at hF;cases hF))
   |with_reducible refine SC.call ?_
   |((with_reducible refine bb (λh=>?_) (λh=>?_))<;>(try simp at h))
  all_goals(clear hok hbad hE hO hT;try clear T;try clear P2)
  all_goals simp_all[cW,aN.then,ai,aI,aE,sb]
 ·obtain⟨a,b,hkk,a0,a1,b0,b1,ae,bk⟩:=g.BJ h0 h1 hk
  have be:aG (nd C.ns b).kind=true:=by rw[bk];decide
  have he0:ax C.ns n 0=a:=by simp[ax,hkk]
  have he1:ax C.ns n 1=b:=by simp[ax,hkk]
  have a2:a<(C.ns.length:Int):=by omega
  have b2:b<(C.ns.length:Int):=by omega
  intro ty va lo sc lp q1 q2 ex K w l0 l1 hok hbad
  refine aX [(9,[(0,[]),(1,[]),(2,[]),(3,[]),(4,[]),(5,[]),(6,[]),(7,[]),(8,[7,5]),(9,[])])] [] [4,5] Tryz.func276 rfl (by kernel_rfl) ?_
  repeat' first
   |((with_reducible refine W.of ?_);conv=>whnf)
   |with_reducible first
    |refine W.fin (K:=K) (hok () _ _ _ _ _ _ _ ?_ ‹_›) rfl rfl
    |refine W.fin (K:=K) (hbad ⟨_,_,_⟩ ?_) rfl rfl
    |refine W.fin (K:=K) (hbad _ ?_) rfl rfl
    |refine bt (decide_eq_true ‹_›) ?_
    |refine aq ‹_› ‹_› ?_
    |refine W.and (by kernel_rfl) ?_
    |refine fn [] [] Tryz.func157 rfl (by kernel_rfl) ?_
    |refine fn [] [] Tryz.func95 rfl (by kernel_rfl) ?_
   |((with_reducible refine on (aB a) ?_ ?_);focus(simp[hkk];done))
   |((with_reducible refine on (aB b) ?_ ?_);focus(simp[hkk];done))
   |((with_reducible refine bt ?_ ?_);focus(simp[hk]<;>omega))
   |((with_reducible refine bf ?_ ?_);focus(simp[hk]<;>omega))
   |((with_reducible refine eN C E a a0 a2 a (hE a a0 a1 ae) _ _ _ _ _ _ _ _ _ _ ‹_› (by omega) (by omega) (λv ty va lo sc q1 q2 ex hF w=>?_) (λd hF=>?_));have w:=w.lp (lp+1))
   |rw[show lp+1-1=lp by omega]
   |((with_reducible refine hE b b0 b1 be _ _ _ _ _ _ _ _ _ ‹_› (by omega) (by omega) (λv ty va lo sc q1 q2 ex hF w=>?_) (λd hF=>?_));have w:=w.lp lp)
   |with_reducible first
    |refine tk C b b0 b2 _ _ _ _ _ _ _ _ _ _ ‹_› (by omega) (by omega) (λv ty va lo sc q1 q2 ex hF w=>?_) (λd hF=>?_)
    |refine SC.call ?_
   |((with_reducible refine bb (λh=>?_) (λh=>?_))<;>(try simp at h))
  all_goals(clear hok hbad hE hO hT;simp_all[cW,aN.then,ai,aI,aE,sb])
 ·rcases g.nD h0 h1 (.inl hk) with hkk|⟨a,hkk,a0,a1,ae⟩
  ·intro ty va lo sc lp q1 q2 ex K w l0 l1 hok hbad
   refine aX [(9,[(0,[]),(1,[]),(2,[]),(3,[]),(4,[]),(5,[]),(6,[]),(7,[]),(8,[7,5]),(9,[])])] [] [4,5] Tryz.func276 rfl (by kernel_rfl) ?_
   repeat' first
    |((with_reducible refine W.of ?_);conv=>whnf)
    |with_reducible first
     |refine W.fin (K:=K) (hok () _ _ _ _ _ _ _ ?_ ‹_›) rfl rfl
     |refine W.fin (K:=K) (hbad ⟨_,_,_⟩ ?_) rfl rfl
     |refine W.fin (K:=K) (hbad _ ?_) rfl rfl
     |refine bt (decide_eq_true ‹_›) ?_
     |refine aq ‹_› ‹_› ?_
     |refine W.and (by kernel_rfl) ?_
     |refine fn [] [] Tryz.func157 rfl (by kernel_rfl) ?_
     |refine fn [] [] Tryz.func95 rfl (by kernel_rfl) ?_
    |((with_reducible refine bt ?_ ?_);focus(simp[hk]<;>omega))
    |((with_reducible refine bf ?_ ?_);focus(simp[hk]<;>omega))
    |((with_reducible refine bf ?_ ?_);focus(simp[hkk]<;>omega))
    |with_reducible refine SC.call ?_
    |((with_reducible refine bb (λh=>?_) (λh=>?_))<;>(try simp at h))
   all_goals(clear hok hbad hE hO hT;simp_all[cW,aN.then,ai,aI,aE,sb])
  ·have he0:ax C.ns n 0=a:=by simp[ax,hkk]
   have a2:a<(C.ns.length:Int):=by omega
   intro ty va lo sc lp q1 q2 ex K w l0 l1 hok hbad
   refine aX [(9,[(0,[]),(1,[]),(2,[]),(3,[]),(4,[]),(5,[]),(6,[]),(7,[]),(8,[7,5]),(9,[])])] [] [4,5] Tryz.func276 rfl (by kernel_rfl) ?_
   repeat' first
    |((with_reducible refine W.of ?_);conv=>whnf)
    |with_reducible first
     |refine W.fin (K:=K) (hok () _ _ _ _ _ _ _ ?_ ‹_›) rfl rfl
     |refine W.fin (K:=K) (hbad ⟨_,_,_⟩ ?_) rfl rfl
     |refine W.fin (K:=K) (hbad _ ?_) rfl rfl
     |refine bt (decide_eq_true ‹_›) ?_
     |refine aq ‹_› ‹_› ?_
     |refine W.and (by kernel_rfl) ?_
     |refine fn [] [] Tryz.func157 rfl (by kernel_rfl) ?_
     |refine fn [] [] Tryz.func95 rfl (by kernel_rfl) ?_
    |((with_reducible refine on (aB a) ?_ ?_);focus(simp[hkk];done))
    |((with_reducible refine bt ?_ ?_);focus(simp[hk]<;>omega))
    |((with_reducible refine bf ?_ ?_);focus(simp[hk]<;>omega))
    |((with_reducible refine bt ?_ ?_);focus(simp[hkk]<;>omega))
    |with_reducible first
     |refine hE a a0 a1 ae _ _ _ _ _ _ _ _ _ ‹_› (by omega) (by omega) (λv ty va lo sc q1 q2 ex hF w=>?_) (λd hF=>?_)
     |refine tk C a a0 a2 _ _ _ _ _ _ _ _ _ _ ‹_› (by omega) (by omega) (λv ty va lo sc q1 q2 ex hF w=>?_) (λd hF=>?_)
     |refine SC.call ?_
    |((with_reducible refine bb (λh=>?_) (λh=>?_))<;>(try simp at h))
   all_goals(clear hok hbad hE hO hT;simp_all[cW,aN.then,ai,aI,aE,sb])
 all_goals
  intro ty va lo sc lp q1 q2 ex K w l0 l1 hok hbad
  refine aX [(9,[(0,[]),(1,[]),(2,[]),(3,[]),(4,[]),(5,[]),(6,[]),(7,[]),(8,[7,5]),(9,[])])] [] [4,5] Tryz.func276 rfl (by kernel_rfl) ?_
  repeat' first
   |((with_reducible refine W.of ?_);conv=>whnf)
   |with_reducible first
    |refine W.fin (K:=K) (hok () _ _ _ _ _ _ _ ?_ ‹_›) rfl rfl
    |refine W.fin (K:=K) (hbad ⟨_,_,_⟩ ?_) rfl rfl
    |refine W.fin (K:=K) (hbad _ ?_) rfl rfl
    |refine bt (decide_eq_true ‹_›) ?_
    |refine aq ‹_› ‹_› ?_
    |refine W.and (by kernel_rfl) ?_
    |refine fn [] [] Tryz.func157 rfl (by kernel_rfl) ?_
    |refine fn [] [] Tryz.func95 rfl (by kernel_rfl) ?_
   |((with_reducible refine bf ?_ ?_);focus(simp[hk]<;>omega))
   |with_reducible refine SC.call ?_
   |((with_reducible refine bb (λh=>?_) (λh=>?_))<;>(try simp at h))
  all_goals(clear hok hbad hE hO hT;simp_all[cW,aN.then,ai,aI,aE,sb])
end
end
section
set_option maxRecDepth 100000
set_option maxHeartbeats 4000000
open Go.Vv Go.Ee
theorem Hx {l:List Int}:fits 1 (l.map aB)=true:=pG (λ_=>rfl) l
theorem MK {α:Type} {f:α->List PV} {l:List α} {i:Nat} {k:List PV->Prop} (h:i<(l.drop 1).length) (hk:∀x,(l.drop 1)[i]?=some x->W (k (f x))):iK (List.drop (Int.toNat 1) (l.map f))[i]? k:=by
 refine on (f (l.drop 1)[i]) ?_ (hk _ (by simp only[List.getElem?_eq_getElem h]))
 rw[show Int.toNat 1=1 from rfl,<-List.map_drop,List.getElem?_map,List.getElem?_eq_getElem h];rfl
theorem wA {ns:List Nd} {it:aw} {E:Rec} {sub:ah} {l:List Int} {i k:Int} {ot:ah} {st:St} (h0:0<=i) (hk:l[i.toNat]?=some k):iJ ns it E sub (l.drop i.toNat) ot st=(Eu ns it E sub k ot st).then λo st1=>iJ ns it E sub (l.drop (i+1).toNat) o {st1 with scope:=st1.scope.take st.scope.length}:=by
 obtain⟨h1,rfl⟩:=List.getElem?_eq_some_iff.1 hk
 rw[List.drop_eq_getElem_cons h1,A7,show(i+1).toNat=i.toNat+1 by omega]
theorem uQ {sc:List (ah×Int)} {ex:List (List PV)} {n:Nat} (h:n<=sc.length):(sc.take n).map ky++((sc.drop n).map ky++ex)=sc.map ky++ex/\(sc.take n).length=n:=
 ⟨by rw[<-List.append_assoc,<-List.map_append,List.take_append_drop],by simp[h]⟩
theorem Wf.cut {ns:List Nd} {ty:List ah} {va:List Int} {lo:List Lc} {sc:List (ah×Int)} {lp:Int} (n:Nat) (w:Wf ns ⟨ty,va,lo,sc,lp⟩):Wf ns ⟨ty,va,lo,sc.take n,lp⟩:=
 ⟨w.tl,w.vl,w.ll,by have:=w.sl;simp only[List.length_take] at*;omega,λp hp=>w.sc p (List.mem_of_mem_take hp),w.lt⟩
section
variable(C:Cx) (E:Rec) (g:Good C.ns) (fl:Fl C.it) (io:fg C.it) (n:Int) (h0:0<=n) (h1:n<(C.ns.length:Int)) (hE:HE C E n) (hO:HO C E n)
include g fl io h0 h1 hE hO
theorem Mr (hkd:(nd C.ns n).kind=46):iA C 228 [.i n] (lI C.ns C.it E n) EV.s n:=by
 have hgl:=g.len
 have hkl:=g.kids _ (List.mem_of_getElem? (Good.at h0 h1))
 obtain⟨a,l,hkk,a0,a1,ae,hl⟩:=g.nC h0 h1 hkd
 have he0:ax C.ns n 0=a:=by simp[ax,hkk]
 have a2:a<(C.ns.length:Int):=by omega
 intro ty va lo sc lp q1 q2 ex K w l0 l1 hok hbad
 refine aX [(2,[(0,[]),(1,[]),(2,[]),(3,[]),(4,[]),(6,[]),(5,[6]),(7,[])])] [] [4,5] Tryz.func228 rfl (by kernel_rfl) ?_
 repeat' first
  |((with_reducible refine W.of ?_);conv=>whnf)
  |with_reducible first
   |refine W.fin (K:=K) (hok _ _ _ _ _ _ _ _ ?_ ‹_›) rfl rfl
   |refine W.fin (K:=K) (hbad ⟨_,_,_⟩ ?_) rfl rfl
   |refine W.fin (K:=K) (hbad _ ?_) rfl rfl
   |refine bt (decide_eq_true ‹_›) ?_
   |refine aq ‹_› ‹_› ?_
   |refine W.and (by kernel_rfl) ?_
   |refine fn [] [] Tryz.func95 rfl (by kernel_rfl) ?_
  |((with_reducible refine on (aB a) ?_ ?_);focus(simp[hkk];done))
  |((with_reducible refine bt ?_ ?_);focus(simp[hkk]<;>omega))
  |with_reducible refine bt Hx ?_
  |((with_reducible refine fN C E a a0 a2 a (hE a a0 a1 ae) _ _ _ _ _ _ _ _ _ ‹_› (by omega) (by omega) (λv ty va lo sc q1 q2 ex hF w=>?_) (λd hF=>?_));(have T:=bq (hO a a0 a1 ae) ‹_› hF;have T1:=T.ty;have T2:=T.len;dsimp only at T2;clear T))
  |((with_reducible refine bT [] [] [23] [7,10,11] (λa:{a:Int×ah×Ws//0<=a.1/\a.1<=((nd C.ns n).kids.drop 1).length/\Wf C.ns (a.2.2.st lp)/\lo.length<=a.2.2.lo.length/\iJ C.ns C.it E v (((nd C.ns n).kids.drop 1).drop a.1.toNat) a.2.1 (a.2.2.st lp)=iJ C.ns C.it E v ((nd C.ns n).kids.drop 1) aF ⟨ty,va,lo,sc,lp⟩}=>[.i a.1.1]) (λa=>F5 13 14 15 [(12,.cells [.p (.str a.1.2.1)]),(9,.cells [.p (.str v)]),(8,b8 (nd C.ns n)),(6,.cells [.ptr 0 0])] C a.1.2.2 lp) (λa=>((nd C.ns n).kids.drop 1).length-a.1.1.toNat) ⟨(0,aF,⟨ty,va,lo,sc,q1,q2,ex⟩),by omega,by omega,w,Nat.le_refl _,rfl⟩ (by kernel_rfl) ?_ ?_);(focus((with_reducible refine W.of ?_);(conv=>whnf);exact⟨rfl,rfl⟩));rintro⟨⟨i,ot,ty1,va1,lo1,sc1,p1,p2,ex1⟩,i0,i1,w1,hlo,hR⟩;dsimp only[F5];dsimp only[Ws.st] at w1 hR i0 i1 hlo)
  |((with_reducible refine MK (l:=(nd C.ns n).kids) (by simp at*;omega) (λk hk=>?_));obtain⟨k0,k1,kk⟩:=hl k (by rw[hkk] at hk;exact List.mem_of_getElem? hk);obtain⟨p,b,hkp,p0,p1,b0,b1,pe,be⟩:=g.xa k0 (by omega) kk;have k2:k<(C.ns.length:Int):=(by omega);have p2:p<(C.ns.length:Int):=(by omega);have b2:b<(C.ns.length:Int):=by omega)
  |with_reducible first
   |refine fn [] [] Tryz.func96 rfl (by kernel_rfl) ?_
   |refine fn [] [] Tryz.func273 rfl (by kernel_rfl) ?_
  |((with_reducible refine on (aB p) ?_ ?_);focus(simp[hkp];done))
  |((with_reducible refine on (aB b) ?_ ?_);focus(simp[hkp];done))
  |((with_reducible refine vR C g fl io (p.toNat+1) p (by omega) p0 p2 pe v T1 _ _ _ _ _ (by have:=eD hlo;omega) _ _ _ _ ‹_› (by omega) (by omega) (λv ty va lo sc q1 q2 ex hF w=>?_) (λd hF=>?_));(have hP:=hF;have m1:=xB g io (p.toNat+1) p _ _ _ _ p0 p2 ‹_› T1 (by have:=eD hlo;dsimp only;omega) hF;have m1s:=m1.sc.length_le;have m1l:=m1.len;clear m1;dsimp only at m1s m1l))
  |((with_reducible refine hE b b0 (by omega) be _ _ _ _ _ _ _ _ _ ‹_› (by omega) (by omega) (λv ty va lo sc q1 q2 ex hF w=>?_) (λd hF=>?_));(have hG:=hF;have t2:=hO b b0 (by omega) be _ _ _ ‹_› hF;have m2s:=t2.mv.sc.length_le;have m2l:=t2.mv.len;clear t2;dsimp only at m2s m2l))
  |((with_reducible refine tk C b b0 b2 _ _ _ _ _ _ _ _ _ _ ‹_› (by omega) (by omega) (λv ty va lo sc q1 q2 ex hF w=>?_) (λd hF=>?_));cases lC hF)
  |((with_reducible refine bt ?_ ?_);focus(simp[]<;>omega))
  |with_reducible refine SC.call ?_
  |((with_reducible refine bb (λh=>?_) (λh=>?_))<;>(try simp at h))
 all_goals(clear hok hbad hE hO)
 all_goals first
  |(refine⟨⟨⟨(i+1,v,⟨ty,va,lo,sc.take sc1.length,some sc1.length,q2,(sc.drop sc1.length).map ky++ex⟩),?_,?_,w.cut _,?_,?_⟩,ao i0 ?_,rfl,?_⟩,rfl⟩<;>first
     |(dsimp only[Tg,List.cons_append,List.nil_append,Int.toNat_natCast];rw[(uQ (ex:=ex) (show sc1.length<=sc.length by omega)).1,(uQ (ex:=ex) (show sc1.length<=sc.length by omega)).2];done)
     |(dsimp only;rw[<-hR,wA i0 hk];simp[Eu,n6,ax,hkp,hP,hG,aN.then,h,aF];done)
     |(dsimp only;omega)
     |(simp only[List.length_drop] at*;omega))
  |(refine⟨⟨⟨(i+1,ot,⟨ty,va,lo,sc.take sc1.length,some sc1.length,q2,(sc.drop sc1.length).map ky++ex⟩),?_,?_,w.cut _,?_,?_⟩,ao i0 ?_,rfl,?_⟩,rfl⟩<;>first
     |(dsimp only[Tg,List.cons_append,List.nil_append,Int.toNat_natCast];rw[(uQ (ex:=ex) (show sc1.length<=sc.length by omega)).1,(uQ (ex:=ex) (show sc1.length<=sc.length by omega)).2];done)
     |(dsimp only;rw[<-hR,wA i0 hk];simp[Eu,n6,ax,hkp,hP,hG,aN.then,h,aF,hF];done)
     |(dsimp only;omega)
     |(simp only[List.length_drop] at*;omega))
  |(rw[wA i0 hk] at hR;simp_all[lI,Eu,n6,ax,aN.then,aF];done)
  |(rw[List.drop_of_length_le (by simp at*;omega)] at hR;simp_all[lI,iJ,aN.then,ax];done)
  |(simp_all[lI,aN.then,ax];done)
  |skip
end
end
section
set_option maxRecDepth 100000
set_option maxHeartbeats 4000000
open Go.Vv Go.Ee
theorem lj {α β:Type} {f:α->β} {l:List α}:Nat.beq (l.map f).length l.length=true:=by simp
theorem rk {l:List ah} {s x:ah} {i:Int} (h0:0<=i) (hx:l[i.toNat]?=some x):(l.drop i.toNat).contains s=(s==x||(l.drop (i+1).toNat).contains s):=by
 obtain⟨h1,rfl⟩:=List.getElem?_eq_some_iff.1 hx
 rw[List.drop_eq_getElem_cons h1,List.contains_cons,show(i+1).toNat=i.toNat+1 by omega]
theorem y6 {K:aR->SH->Prop} (l:List ah) (s:ah) (hl:l.length<=1048576) (hK:W (K (.ret (.b (l.contains s))) ⟨[(0,.arr 1 (l.map bL) true)],1⟩)):SC Tryz.prog 269 [.f (.ref 0 l.length 1 none),.s s] ⟨[(0,.arr 1 (l.map bL) true)],1⟩ K:=by
 refine aX [] [] [] Tryz.func269 rfl (by kernel_rfl) ?_
 repeat' first
  |((with_reducible refine W.of ?_);conv=>whnf)
  |with_reducible first
   |refine W.fin (K:=K) hK ?_ rfl
   |refine W.and (by kernel_rfl) ?_
   |refine fn [] [] Tryz.func306 rfl (by kernel_rfl) ?_
  |((with_reducible refine bT [] [] [8] [] (λa:So l.length λi=>(l.drop i.toNat).contains s=l.contains s=>[.i a.1]) (λ_=>⟨[(0,.arr 1 (l.map bL) true)],1⟩) (λa=>l.length-a.1.toNat) ⟨0,by omega,by omega,rfl⟩ (by kernel_rfl) ?_ ?_);(focus((with_reducible refine W.of ?_);(conv=>whnf);exact⟨rfl,rfl⟩));rintro⟨i,i0,i1,hi⟩;dsimp only)
  |with_reducible refine aj (l:=l) (by omega) (λx hx=>?_)
  |((with_reducible refine bt ?_ ?_);focus(simp[]<;>omega))
  |((with_reducible refine bb (λh=>?_) (λh=>?_))<;>(try simp at h))
 ·rw[<-hi,rk i0 hx];simp[h,i0]
 ·exact⟨⟨⟨i+1,by omega,by omega,by rw[<-hi,rk i0 hx];simp[h]⟩,ao i0 (by omega),rfl,rfl⟩,rfl⟩
 ·rw[<-hi,List.drop_of_length_le (by omega)];rfl
theorem kG {ns:List Nd} {E:Rec} {fs:List Fd} {l:List Int} {i k:Int} {fR:List ah} {st:St} (h0:0<=i) (hk:l[i.toNat]?=some k):fh ns E fs (l.drop i.toNat) fR st=(match gV fs (nd ns k).name with
 |none=>ai ns 163 k
 |some f=>if fR.contains (nd ns k).name=true then ai ns 163 k else(bP ns E (ax ns k 0) f.ty st).then λ_ st=>fh ns E fs (l.drop (i+1).toNat) (fR++[(nd ns k).name]) st):=by
 obtain⟨h1,rfl⟩:=List.getElem?_eq_some_iff.1 hk
 rw[List.drop_eq_getElem_cons h1,show(i+1).toNat=i.toNat+1 by omega];rfl
section
variable(C:Cx) (E:Rec) (g:Good C.ns) (fl:Fl C.it) (n:Int) (h0:0<=n) (h1:n<(C.ns.length:Int)) (hE:HE C E n)
include g fl h0 h1 hE
theorem Q7 (hkd:(nd C.ns n).kind=35):iA C 217 [.i n] (oe C.ns C.it E n) EV.s n:=by
 have hgl:=g.len
 have hkl:=g.kids _ (List.mem_of_getElem? (Good.at h0 h1))
 have hl:=g.tB h0 h1 hkd
 have sf:=λx hx=>(fl.sf x hx).2
 intro ty va lo sc lp q1 q2 ex K w l0 l1 hok hbad
 refine aX [(2,[(0,[]),(1,[]),(2,[]),(3,[]),(4,[]),(5,[]),(6,[]),(11,[]),(7,[11]),(8,[]),(9,[]),(10,[]),(12,[]),(13,[])])] [] [4,5] Tryz.func217 rfl (by kernel_rfl) ?_
 repeat' first
  |((with_reducible refine W.of ?_);conv=>whnf)
  |with_reducible first
   |refine W.fin (K:=K) (hok _ _ _ _ _ _ _ _ ?_ ‹_›) rfl rfl
   |refine W.fin (K:=K) (hbad ⟨_,_,_⟩ ?_) rfl rfl
   |refine W.fin (K:=K) (hbad _ ?_) rfl rfl
   |refine bt (decide_eq_true ‹_›) ?_
   |refine aq ‹_› ‹_› ?_
   |refine W.and (by kernel_rfl) ?_
   |refine fn [] [] Tryz.func157 rfl (by kernel_rfl) ?_
   |refine fn [] [] Tryz.func95 rfl (by kernel_rfl) ?_
   |refine ug C.it _ fl.n1 fl.n2 fl.n3 sf (λx c b hs=>?_) (λhs=>?_)
   |refine Dh C.it _ _ fl.n1 fl.n2 fl.n3 sf (λj f hf=>?_) (λhf=>?_)
   |refine bt lj ?_
  |((with_reducible refine SL.nil 8 1 ?_);(with_reducible refine W.of ?_);(conv=>whnf);(with_reducible refine bT [] [] [37,8] [4,5,6,9] (λa:{a:Int×List ah×Ws//0<=a.1/\a.1<=(nd C.ns n).kids.length/\a.2.1.length<=a.1/\Wf C.ns (a.2.2.st lp)/\fh C.ns E x.fs ((nd C.ns n).kids.drop a.1.toNat) a.2.1 (a.2.2.st lp)=fh C.ns E x.fs (nd C.ns n).kids [] ⟨ty,va,lo,sc,lp⟩}=>[.i a.1.1,.f (.ref 12 a.1.2.1.length 1 none)]) (λa=>⟨(12,.arr 1 (a.1.2.1.map bL) true)::(11,.arr 3 (a.1.2.2.lo.map vK) true)::(10,.arr 2 (a.1.2.2.sc.map ky++a.1.2.2.ex) true)::(8,.cells [.p (.str x.name),.p (.vs (x.fs.map nZ) c b)])::(7,b8 (nd C.ns n))::Tg 10 11 C a.1.2.2.ty a.1.2.2.va a.1.2.2.lo a.1.2.2.sc lp a.1.2.2.c1 a.1.2.2.c2,13⟩) (λa=>(nd C.ns n).kids.length-a.1.1.toNat) ⟨(0,[],⟨ty,va,lo,sc,q1,q2,ex⟩),by omega,by omega,Int.le_refl _,w,rfl⟩ (by kernel_rfl) ?_ ?_);(focus((with_reducible refine W.of ?_);(conv=>whnf);exact⟨rfl,rfl⟩));rintro⟨⟨i,fR,ty,va,lo,sc,q1,q2,ex⟩,i0,i1,ih,w,hR⟩;dsimp only;dsimp only[Ws.st] at w hR i0 i1 ih)
  |((with_reducible refine aj (l:=(nd C.ns n).kids) (by omega) (λk hk=>?_));obtain⟨k0,k1,kk⟩:=hl k (List.mem_of_getElem? hk);have k2:k<(C.ns.length:Int):=(by omega);obtain⟨a,hka,a0,a1,ae⟩:=g.ej k0 k2 (.inr (.inl kk));have a2:a<(C.ns.length:Int):=by omega)
  |with_reducible refine y6 _ _ (by omega) ?_
  |((with_reducible refine on (aB a) ?_ ?_);focus(simp[hka];done))
  |with_reducible first
   |refine eN C E a a0 a2 a (hE a a0 (by omega) ae) _ _ _ _ _ _ _ _ _ _ ‹_› (by omega) (by omega) (λv ty va lo sc q1 q2 ex hF w=>?_) (λd hF=>?_)
   |refine pH (f:=bL) ?_
   |refine fj ?_
  |((with_reducible refine bt ?_ ?_);focus(simp[hC]<;>omega))
  |with_reducible refine SC.call ?_
  |((with_reducible refine bb (λh=>?_) (λh=>?_))<;>(try simp at h))
 all_goals(clear hok hbad hE hl)
 all_goals try(simp only[dG,hs,Option.bind_some] at hf)
 all_goals first
  |(refine⟨⟨⟨(i+1,fR++[(nd C.ns k).name],⟨ty,va,lo,sc,q1,q2,ex⟩),by dsimp only;omega,by dsimp only;omega,by simp;omega,w,?_⟩,ao i0 (by omega),rfl,rfl⟩,rfl⟩;dsimp only;rw[<-hR,kG i0 hk];simp_all[ax,aN.then];done)
  |(rw[kG i0 hk] at hR;have hR:=hR.symm;simp_all[oe,ai,ax,aN.then];done)
  |(rw[List.drop_of_length_le (by omega)] at hR;have hR:=hR.symm;(first|have h9:fR.length=x.fs.length:=by omega|have h9:¬fR.length=x.fs.length:=by omega);clear h;simp_all[oe,fh,ai,aN.then];done)
  |(simp_all[oe,ai];done)
end
end
section
set_option maxRecDepth 100000
set_option maxHeartbeats 4000000
open Go.Vv Go.Ee
theorem SJ (C:Cx) (g:Good C.ns):HT C:=by
 intro n K h0 h1 ht hK
 have hl:=g.len
 refine aX [] [] [] Tryz.func339 rfl (by kernel_rfl) ?_
 repeat' first
  |((with_reducible refine W.of ?_);conv=>whnf)
  |with_reducible refine W.fin (K:=K) hK ?_ rfl
  |((with_reducible refine bt ?_ ?_);focus(simp[ht]<;>omega))
  |((with_reducible refine bf ?_ ?_);focus(simp[ht]<;>omega))
  |with_reducible refine C7 C.ns C.nb (by omega) (λx hx=>by have:=g.kids x hx;omega) (λx hx=>by have:=g.names x hx;omega) ?_
  |(rw[g.right])
  |with_reducible first
   |refine aq h0 h1 ?_
   |refine tx _ ?_
   |refine N8 g C.nb (n.toNat+1) n (Nat.lt_succ_self _) h0 h1 ht ?_
   |refine SC.call ?_
 rfl
end
end Go.Proofs.YtdjkoddnnogejaaGreat
