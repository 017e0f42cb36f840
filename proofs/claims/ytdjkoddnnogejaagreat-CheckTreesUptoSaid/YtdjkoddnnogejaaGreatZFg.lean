/- Part of the proof of CheckTrees: plain laws and steps of its walks, for all arguments. -/
import Derived.Test.YtdjkoddnnogejaaGreatZFd
set_option linter.unusedSimpArgs false
set_option linter.unusedVariables false
set_option linter.unusedSectionVars false
namespace Go.Proofs.YtdjkoddnnogejaaGreat
section
set_option maxRecDepth 100000
set_option maxHeartbeats 4000000
open Go.Vv Go.Ee
attribute [local irreducible] bC aP bZ nd ax typeAt
theorem FX {ns:List Nd} {it:aw} {k:Int} (h:ct ns it true k=none):bj ns k true=none:=by
 unfold ct at h
 cases hu:bm ns it k with
 |some i=>rw[hu] at h;cases h
 |none=>rw[hu] at h;cases hi:bj ns k true with
  |some i=>rw[hi] at h;cases h
  |none=>rfl
theorem FW {ns:List Nd} {it:aw} {k i e:Int} (h:ct ns it true k=some (i,e)):¬e=0:=by
 unfold ct at h
 cases hu:bm ns it k with
 |some j=>rw[hu] at h;cases h;decide
 |none=>rw[hu] at h;cases hi:bj ns k true with
  |some j=>rw[hi] at h;cases h;decide
  |none=>rw[hi] at h;cases h
section
variable{ns:List Nd} (g:Good ns) (nb:Bool) (it:aw) (kl:List ah) (c0:Option Nat) (n0:Bool) (hkl:kl.length<=1048576) (hkn:∀s,kl.contains s=cw it s) (k:Int) (h0:0<=k) (h1:k<(ns.length:Int)) (ht:aJ (nd ns k).kind=true) {K:aR->SH->Prop}
include g hkl hkn h0 h1 ht
theorem Oh (hw:ct ns it true k=none) (hK:W (K (.ret (.agg dz)) H0)):SC Tryz.prog 169 [qh ns nb,.i k,.f (.p (.vs (kl.map bL) c0 n0)),.b true] H0 K:=sQ g nb it kl c0 n0 hkl hkn k true h0 h1 ht (by rw[hw];exact hK)
theorem Oi {i e:Int} (hw:ct ns it true k=some (i,e)) (hK:W (K (.ret (.agg [.p (.int .i64 e),.p (.int .i64 (nd ns i).mE),.p (.int .i64 (nd ns i).to)])) H0)):SC Tryz.prog 169 [qh ns nb,.i k,.f (.p (.vs (kl.map bL) c0 n0)),.b true] H0 K:=sQ g nb it kl c0 n0 hkl hkn k true h0 h1 ht (by rw[hw];exact hK)
end
section
variable(C:Cx) (E:Rec) (g:Good C.ns) (n:Int) (h0:0<=n) (h1:n<(C.ns.length:Int)) (hE:Oo C E n) (hO:HO C E n) (hkI:∀s,(cV C.ns (ak C.ns)).contains s=cw C.it s) (hkl:(cV C.ns (ak C.ns)).length<=1048576)
include g h0 h1 hE hO hkI hkl
theorem R6 (hkd:(nd C.ns n).kind=21):dS C 334 [.i n] (qM C.ns C.it E n) uE BU n:=by
 have hgl:=g.len
 rcases g.xc h0 h1 hkd with⟨a,hkk,a0,a1,ae⟩|⟨t,a,hkk,t0,t1,a0,a1,tt,ae⟩
 ·have he0:ax C.ns n 0=a:=by simp[ax,hkk]
  have a2:a<(C.ns.length:Int):=by omega
  have hEa:=hE a a0 a1 ae
  intro ty va lo sc lp ex K w l0 l1 hok hbad
  refine aX [(4,[(0,[]),(1,[]),(2,[]),(3,[]),(4,[]),(5,[]),(6,[]),(7,[]),(8,[]),(9,[]),(10,[]),(11,[]),(14,[]),(12,[14,7,5,3]),(13,[14]),(15,[])])] [] [3,4] Tryz.func334 rfl (by kernel_rfl) ?_
  repeat' first
   |((with_reducible refine W.of ?_);conv=>whnf)
   |with_reducible first
    |refine W.fin (K:=K) (hok () _ _ _ _ _ ?_ ‹_› ?_) rfl rfl
    |refine W.fin (K:=K) (hbad () _ _ _ _ _ _ _ _ ?_ ?_ ?_ ?_ ?_ ?_) rfl rfl
    |refine bt (decide_eq_true ‹_›) ?_
    |refine bf (qv ‹_›) ?_
    |refine aq ‹_› ‹_› ?_
    |refine W.and (by kernel_rfl) ?_
    |refine fn [] [] Tryz.func51 rfl (by kernel_rfl) ?_
   |((with_reducible refine on (aB a) ?_ ?_);focus(simp[hkk];done))
   |((with_reducible refine bt ?_ ?_);focus(simp[hkk]<;>omega))
   |((with_reducible refine bf ?_ ?_);focus(simp[hkk]<;>omega))
   |((with_reducible refine eP C E a a0 a2 a hEa _ _ _ _ _ _ _ ‹_› (by omega) (by omega) (λv ty va lo sc ex hF w hs=>?_) (λv de df dt ty va lo sc ex hF hB he ht hv hs=>?_));(have T:=bq (hO a a0 a1 ae) ‹_› hF;have T1:=T.ty;have T2:=T.len;clear T;dsimp only at T2))
   |with_reducible first
    |refine qa C n h0 h1 _ _ _ ‹_› _ _ _ _ _ (by omega) _ _ ‹_› (by omega) (by omega) (λv ty va lo sc ex hF w hs=>?_) (λv de df dt ty va lo sc ex hF hB he ht hv hs=>?_)
    |refine SC.call ?_
  all_goals(clear hok hbad hE hO hEa hkI hkl)
  all_goals first|assumption|exact Wf.tl ‹_›|exact Wf.vl ‹_›|exact trivial|omega|(simp_all[qM,wy,aN.then,ai];done)|(simp_all[qM,wy,aN.then,ai];omega)|(simp only[BS,bg,aI,aE,aF,List.length_cons,List.length_nil,List.length_append] at*;omega)|skip
 ·have he0:ax C.ns n 0=t:=by simp[ax,hkk]
  have he1:ax C.ns n 1=a:=by simp[ax,hkk]
  have a2:a<(C.ns.length:Int):=by omega
  have t2:t<(C.ns.length:Int):=by omega
  have hEa:=hE a a0 a1 ae
  have htl:=g.iU t0 t2
  rcases hw:ct C.ns C.it true t with _|⟨i,e⟩
  ·have T1:=qf g t0 t2 tt (FX hw)
   intro ty va lo sc lp ex K w l0 l1 hok hbad
   refine aX [(4,[(0,[]),(1,[]),(2,[]),(3,[]),(4,[]),(5,[]),(6,[]),(7,[]),(8,[]),(9,[]),(10,[]),(11,[]),(14,[]),(12,[14,7,5,3]),(13,[14]),(15,[])])] [] [3,4] Tryz.func334 rfl (by kernel_rfl) ?_
   repeat' first
    |((with_reducible refine W.of ?_);conv=>whnf)
    |with_reducible first
     |refine W.fin (K:=K) (hok () _ _ _ _ _ ?_ ‹_› ?_) rfl rfl
     |refine W.fin (K:=K) (hbad () _ _ _ _ _ _ _ _ ?_ ?_ ?_ ?_ ?_ ?_) rfl rfl
     |refine bt (decide_eq_true ‹_›) ?_
     |refine bf (qv ‹_›) ?_
     |refine aq ‹_› ‹_› ?_
     |refine W.and (by kernel_rfl) ?_
     |refine fn [] [] Tryz.func51 rfl (by kernel_rfl) ?_
    |((with_reducible refine on (aB a) ?_ ?_);focus(simp[hkk];done))
    |((with_reducible refine on (aB t) ?_ ?_);focus(simp[hkk];done))
    |((with_reducible refine bt ?_ ?_);focus(simp[hkk]<;>omega))
    |((with_reducible refine bf ?_ ?_);focus(simp[hkk]<;>omega))
    |with_reducible first
     |refine uI C.ns C.nb g ?_
     |refine Oh g C.nb C.it _ _ _ hkl hkI t t0 t2 tt hw ?_
     |refine xL g C.nb _ t (Nat.lt_succ_self _) t0 t2 tt ?_
     |refine dM C E a a0 a2 a hEa _ _ _ _ _ _ _ _ ‹_› (by omega) (by omega) (λv ty va lo sc ex hF w hs=>?_) (λv de df dt ty va lo sc ex hF hB he ht hv hs=>?_)
     |refine qa C n h0 h1 _ _ _ ‹_› _ _ _ _ _ (by unfold cU;omega) _ _ ‹_› (by omega) (by omega) (λv ty va lo sc ex hF w hs=>?_) (λv de df dt ty va lo sc ex hF hB he ht hv hs=>?_)
     |refine SC.call ?_
   all_goals(clear hok hbad hE hO hEa hkI hkl)
   all_goals first|assumption|exact Wf.tl ‹_›|exact Wf.vl ‹_›|exact trivial|omega|(simp_all[qM,nr,aN.then,ai];done)|(simp_all[qM,nr,aN.then,ai];omega)|(simp only[BS,bg,aI,aE,aF,List.length_cons,List.length_nil,List.length_append] at*;omega)|skip
  ·have hne:=FW hw
   intro ty va lo sc lp ex K w l0 l1 hok hbad
   refine aX [(4,[(0,[]),(1,[]),(2,[]),(3,[]),(4,[]),(5,[]),(6,[]),(7,[]),(8,[]),(9,[]),(10,[]),(11,[]),(14,[]),(12,[14,7,5,3]),(13,[14]),(15,[])])] [] [3,4] Tryz.func334 rfl (by kernel_rfl) ?_
   repeat' first
    |((with_reducible refine W.of ?_);conv=>whnf)
    |with_reducible first
     |refine W.fin (K:=K) (hok () _ _ _ _ _ ?_ ‹_› ?_) rfl rfl
     |refine W.fin (K:=K) (hbad () _ _ _ _ _ _ _ _ ?_ ?_ ?_ ?_ ?_ ?_) rfl rfl
     |refine bt (decide_eq_true ‹_›) ?_
     |refine bf (qv ‹_›) ?_
     |refine aq ‹_› ‹_› ?_
     |refine W.and (by kernel_rfl) ?_
     |refine fn [] [] Tryz.func51 rfl (by kernel_rfl) ?_
    |((with_reducible refine on (aB a) ?_ ?_);focus(simp[hkk];done))
    |((with_reducible refine on (aB t) ?_ ?_);focus(simp[hkk];done))
    |((with_reducible refine bt ?_ ?_);focus(simp[hkk]<;>omega))
    |((with_reducible refine bf ?_ ?_);focus(simp[hkk]<;>omega))
    |with_reducible first
     |refine uI C.ns C.nb g ?_
     |refine Oi g C.nb C.it _ _ _ hkl hkI t t0 t2 tt hw ?_
     |refine SC.call ?_
   all_goals(clear hok hbad hE hO hEa hkI hkl)
   all_goals first|assumption|exact Wf.tl ‹_›|exact Wf.vl ‹_›|exact trivial|omega|(simp_all[qM,nr,aN.then,ai];done)|(simp_all[qM,nr,aN.then,ai];omega)|(simp only[BS,bg,aI,aE,aF,List.length_cons,List.length_nil,List.length_append] at*;omega)|skip
end
end
section
set_option maxRecDepth 100000
set_option maxHeartbeats 4000000
open Go.Vv Go.Ee
attribute [local irreducible] bC aP bZ nd ax typeAt
section
variable(C:Cx) (E:Rec) (g:Good C.ns) (n:Int) (h0:0<=n) (h1:n<(C.ns.length:Int)) (hE:Oo C E n) (hO:HO C E n) (hkI:∀s,(cV C.ns (ak C.ns)).contains s=cw C.it s) (hkl:(cV C.ns (ak C.ns)).length<=1048576)
include g h0 h1 hE hO hkI hkl
theorem NP (hs:bY (nd C.ns n).kind=true):dS C 317 [.i n] (cW C.ns C.it C.ret E n) uE BU n:=by
 have hgl:=g.len
 have hk:(nd C.ns n).kind=21\/(nd C.ns n).kind=22\/(nd C.ns n).kind=23\/(nd C.ns n).kind=24\/(nd C.ns n).kind=25\/(nd C.ns n).kind=26\/(nd C.ns n).kind=27:=by simp[bY] at hs;omega
 rcases hk with hk|hk|hk|hk|hk|hk|hk
 ·intro ty va lo sc lp ex K w l0 l1 hok hbad
  refine aX [] [] [3,4] Tryz.func317 rfl (by kernel_rfl) ?_
  repeat' first
   |((with_reducible refine W.of ?_);conv=>whnf)
   |with_reducible first
    |refine W.fin (K:=K) (hok () _ _ _ _ _ ?_ ‹_› ?_) rfl rfl
    |refine W.fin (K:=K) (hbad () _ _ _ _ _ _ _ _ ?_ ?_ ?_ ?_ ?_ ?_) rfl rfl
    |refine bt (decide_eq_true ‹_›) ?_
    |refine bf (qv ‹_›) ?_
    |refine aq ‹_› ‹_› ?_
    |refine W.and (by kernel_rfl) ?_
    |refine fn [] [] Tryz.func51 rfl (by kernel_rfl) ?_
    |refine fn [] [] Tryz.func173 rfl (by kernel_rfl) ?_
   |((with_reducible refine bt ?_ ?_);focus(simp[hk]<;>omega))
   |((with_reducible refine bf ?_ ?_);focus(simp[hk]<;>omega))
   |with_reducible first
    |refine R6 C E g n h0 h1 hE hO hkI hkl hk _ _ _ _ _ _ _ ‹_› (by omega) (by omega) (λv ty va lo sc ex hF w hs=>?_) (λv de df dt ty va lo sc ex hF hB he ht hv hs=>?_)
    |refine SC.call ?_
   |((with_reducible refine bb (λh=>?_) (λh=>?_))<;>(try simp at h))
  all_goals(clear hok hbad hE hO hkI hkl)
  all_goals first|assumption|exact Wf.tl ‹_›|exact Wf.vl ‹_›|exact trivial|omega|(simp_all[cW,aN.then,ai];done)|(simp_all[cW,aN.then,ai];omega)|(simp only[BS,bg,aI,aE,aF,List.length_cons,List.length_nil,List.length_append] at*;omega)|skip
 ·obtain⟨a,hkk,a0,a1,ae⟩:=g.ej h0 h1 (.inl hk)
  have he0:ax C.ns n 0=a:=by simp[ax,hkk]
  intro ty va lo sc lp ex K w l0 l1 hok hbad
  refine aX [] [] [3,4] Tryz.func317 rfl (by kernel_rfl) ?_
  repeat' first
   |((with_reducible refine W.of ?_);conv=>whnf)
   |with_reducible first
    |refine W.fin (K:=K) (hok () _ _ _ _ _ ?_ ‹_› ?_) rfl rfl
    |refine W.fin (K:=K) (hbad () _ _ _ _ _ _ _ _ ?_ ?_ ?_ ?_ ?_ ?_) rfl rfl
    |refine bt (decide_eq_true ‹_›) ?_
    |refine bf (qv ‹_›) ?_
    |refine aq ‹_› ‹_› ?_
    |refine W.and (by kernel_rfl) ?_
    |refine fn [] [] Tryz.func51 rfl (by kernel_rfl) ?_
    |refine fn [] [] Tryz.func173 rfl (by kernel_rfl) ?_
   |((with_reducible refine on (aB a) ?_ ?_);focus(simp[hkk];done))
   |((with_reducible refine bt ?_ ?_);focus(simp[hk]<;>omega))
   |((with_reducible refine bf ?_ ?_);focus(simp[hk]<;>omega))
   |with_reducible first
    |refine hE a a0 a1 ae _ _ _ _ _ _ _ ‹_› (by omega) (by omega) (λv ty va lo sc ex hF w hs=>?_) (λv de df dt ty va lo sc ex hF hB he ht hv hs=>?_)
    |refine SC.call ?_
   |((with_reducible refine bb (λh=>?_) (λh=>?_))<;>(try simp at h))
  all_goals(clear hok hbad hE hO hkI hkl)
  all_goals first|assumption|exact Wf.tl ‹_›|exact Wf.vl ‹_›|exact trivial|omega|(simp_all[cW,aN.then,ai];done)|(simp_all[cW,aN.then,ai];omega)|(simp only[BS,bg,aI,aE,aF,List.length_cons,List.length_nil,List.length_append] at*;omega)|skip
 ·obtain⟨a,b,hkk,a0,a1,b0,b1,ae,be⟩:=g.vG h0 h1 (.inl hk)
  have hab:a≠b:=by have:=g.nodup h0 h1;rw[hkk] at this;simpa using this
  have he0:ax C.ns n 0=a:=by simp[ax,hkk]
  have he1:ax C.ns n 1=b:=by simp[ax,hkk]
  have a2:a<(C.ns.length:Int):=by omega
  have b2:b<(C.ns.length:Int):=by omega
  intro ty va lo sc lp ex K w l0 l1 hok hbad
  refine aX [] [] [3,4] Tryz.func317 rfl (by kernel_rfl) ?_
  repeat' first
   |((with_reducible refine W.of ?_);conv=>whnf)
   |with_reducible first
    |refine W.fin (K:=K) (hok () _ _ _ _ _ ?_ ‹_› ?_) rfl rfl
    |refine W.fin (K:=K) (hbad () _ _ _ _ _ _ _ _ ?_ ?_ ?_ ?_ ?_ ?_) rfl rfl
    |refine bt (decide_eq_true ‹_›) ?_
    |refine bf (qv ‹_›) ?_
    |refine aq ‹_› ‹_› ?_
    |refine W.and (by kernel_rfl) ?_
    |refine fn [] [] Tryz.func51 rfl (by kernel_rfl) ?_
    |refine fn [] [] Tryz.func173 rfl (by kernel_rfl) ?_
   |((with_reducible refine on (aB a) ?_ ?_);focus(simp[hkk];done))
   |((with_reducible refine on (aB b) ?_ ?_);focus(simp[hkk];done))
   |((with_reducible refine bt ?_ ?_);focus(simp[hk]<;>omega))
   |((with_reducible refine bf ?_ ?_);focus(simp[hk]<;>omega))
   |((with_reducible refine eP C E a a0 a2 a (hE a a0 a1 ae) _ _ _ _ _ _ _ ‹_› (by omega) (by omega) (λv ty va lo sc ex hF w hs=>?_) (λv de df dt ty va lo sc ex hF hB he ht hv hs=>?_));(have T:=bq (hO a a0 a1 ae) ‹_› hF))
   |((with_reducible refine dM C E b b0 b2 b (hE b b0 b1 be) _ _ _ _ _ _ _ _ ‹_› (by omega) (by omega) (λv ty va lo sc ex hF w hs=>?_) (λv de df dt ty va lo sc ex hF hB he ht hv hs=>?_));(have P2:=p9 g h0 h1 (by rw[hkk];simp) (by rw[hkk];simp) hab T.pl (bJ (hO b b0 b1 be) ‹_› hF);clear T))
   |with_reducible first
    |refine tY _ _ _ a0 a2 ?_
    |refine tW C g _ _ _ _ _ _ _ _ _ ‹_› a a0 a2 ae P2 ‹_› ?_
    |refine nN C _ _ _ _ _ _ _ _ _ _ _ _ (by first|assumption|decide) ?_
    |refine qX C _ _ _ _ _ _ _ _ _ _ _ _ (by first|assumption|decide) ?_
    |refine SC.call ?_
   |((with_reducible refine bb (λh=>?_) (λh=>?_))<;>(try simp at h))
  all_goals(clear hok hbad hE hO hkI hkl;try clear T;try clear P2)
  all_goals first|assumption|exact Wf.tl ‹_›|exact Wf.vl ‹_›|exact trivial|omega|(simp_all[cW,aN.then,ai];done)|(simp_all[cW,aN.then,ai];omega)|(simp only[BS,bg,aI,aE,aF,List.length_cons,List.length_nil,List.length_append] at*;omega)|skip
 ·obtain⟨a,b,hkk,a0,a1,b0,b1,ae,bk⟩:=g.BJ h0 h1 hk
  have be:aG (nd C.ns b).kind=true:=by rw[bk];decide
  have he0:ax C.ns n 0=a:=by simp[ax,hkk]
  have he1:ax C.ns n 1=b:=by simp[ax,hkk]
  have a2:a<(C.ns.length:Int):=by omega
  have b2:b<(C.ns.length:Int):=by omega
  intro ty va lo sc lp ex K w l0 l1 hok hbad
  refine aX [] [] [3,4] Tryz.func317 rfl (by kernel_rfl) ?_
  have hW:cW C.ns C.it C.ret E n ⟨ty,va,lo,sc,lp⟩=qc C.ns E a b ⟨ty,va,lo,sc,lp⟩:=by rw[FD C.ns w (hO a a0 a1 ae) (hO b b0 b1 be)];simp[cW,hk,he0,he1]
  repeat' first
   |((with_reducible refine W.of ?_);conv=>whnf)
   |with_reducible first
    |refine W.fin (K:=K) (hok () _ _ _ _ _ ?_ ‹_› ?_) rfl rfl
    |refine W.fin (K:=K) (hbad () _ _ _ _ _ _ _ _ ?_ ?_ ?_ ?_ ?_ ?_) rfl rfl
    |refine bt (decide_eq_true ‹_›) ?_
    |refine bf (qv ‹_›) ?_
    |refine aq ‹_› ‹_› ?_
    |refine W.and (by kernel_rfl) ?_
    |refine fn [] [] Tryz.func51 rfl (by kernel_rfl) ?_
    |refine fn [] [] Tryz.func173 rfl (by kernel_rfl) ?_
   |((with_reducible refine on (aB a) ?_ ?_);focus(simp[hkk];done))
   |((with_reducible refine on (aB b) ?_ ?_);focus(simp[hkk];done))
   |((with_reducible refine bt ?_ ?_);focus(simp[hk]<;>omega))
   |((with_reducible refine bf ?_ ?_);focus(simp[hk]<;>omega))
   |((with_reducible refine dM C E a a0 a2 a (hE a a0 a1 ae) _ _ _ _ _ _ _ _ ‹_› (by omega) (by omega) (λv ty va lo sc ex hF w hs=>?_) (λv de df dt ty va lo sc ex hF hB he ht hv hs=>?_));have w:=w.lp (lp+1))
   |rw[show lp+1-1=lp by omega]
   |((with_reducible refine qW C E b b0 b2 b (hE b b0 b1 be) _ _ _ _ _ _ _ _ ‹_› (by omega) (by omega) (λv ty va lo sc ex hF w hs=>?_) (λv de df dt ty va lo sc ex hF hB he ht hv hs=>?_));have w:=w.lp lp)
   |with_reducible first
    |refine nN C _ _ _ _ _ _ _ _ _ _ _ _ (by first|assumption|decide) ?_
    |refine qX C _ _ _ _ _ _ _ _ _ _ _ _ (by first|assumption|decide) ?_
    |refine SC.call ?_
   |((with_reducible refine bb (λh=>?_) (λh=>?_))<;>(try simp at h))
  all_goals(clear hok hbad hE hO hkI hkl)
  all_goals(try rw[hW])
  all_goals first|assumption|exact Wf.tl ‹_›|exact Wf.vl ‹_›|exact trivial|omega|(simp_all[qc,aI,aE,aN.then,ai];done)|(simp_all[qc,aI,aE,aN.then,ai];omega)|(simp only[BS,bg,aI,aE,aF,List.length_cons,List.length_nil,List.length_append] at*;omega)|skip
 ·rcases g.nD h0 h1 (.inl hk) with hkk|⟨a,hkk,a0,a1,ae⟩
  ·intro ty va lo sc lp ex K w l0 l1 hok hbad
   refine aX [] [] [3,4] Tryz.func317 rfl (by kernel_rfl) ?_
   repeat' first
    |((with_reducible refine W.of ?_);conv=>whnf)
    |with_reducible first
     |refine W.fin (K:=K) (hok () _ _ _ _ _ ?_ ‹_› ?_) rfl rfl
     |refine W.fin (K:=K) (hbad () _ _ _ _ _ _ _ _ ?_ ?_ ?_ ?_ ?_ ?_) rfl rfl
     |refine bt (decide_eq_true ‹_›) ?_
     |refine bf (qv ‹_›) ?_
     |refine aq ‹_› ‹_› ?_
     |refine W.and (by kernel_rfl) ?_
     |refine fn [] [] Tryz.func51 rfl (by kernel_rfl) ?_
     |refine fn [] [] Tryz.func173 rfl (by kernel_rfl) ?_
    |((with_reducible refine bt ?_ ?_);focus(simp[hk]<;>omega))
    |((with_reducible refine bf ?_ ?_);focus(simp[hk]<;>omega))
    |((with_reducible refine bf ?_ ?_);focus(simp[hkk]<;>omega))
    |with_reducible refine SC.call ?_
    |((with_reducible refine bb (λh=>?_) (λh=>?_))<;>(try simp at h))
   all_goals(clear hok hbad hE hO hkI hkl)
   all_goals first|assumption|exact Wf.tl ‹_›|exact Wf.vl ‹_›|exact trivial|omega|(simp_all[cW,aE,aN.then,ai];done)|(simp_all[cW,aE,aN.then,ai];omega)|(simp only[BS,bg,aI,aE,aF,List.length_cons,List.length_nil,List.length_append] at*;omega)|skip
  ·have he0:ax C.ns n 0=a:=by simp[ax,hkk]
   have a2:a<(C.ns.length:Int):=by omega
   intro ty va lo sc lp ex K w l0 l1 hok hbad
   refine aX [] [] [3,4] Tryz.func317 rfl (by kernel_rfl) ?_
   have hW:cW C.ns C.it C.ret E n ⟨ty,va,lo,sc,lp⟩=kQ C.ns E a C.ret ⟨ty,va,lo,sc,lp⟩:=by rw[jX C.ns (hO a a0 a1 ae) w];simp[cW,hk,he0,hkk]
   repeat' first
    |((with_reducible refine W.of ?_);conv=>whnf)
    |with_reducible first
     |refine W.fin (K:=K) (hok () _ _ _ _ _ ?_ ‹_› ?_) rfl rfl
     |refine W.fin (K:=K) (hbad () _ _ _ _ _ _ _ _ ?_ ?_ ?_ ?_ ?_ ?_) rfl rfl
     |refine bt (decide_eq_true ‹_›) ?_
     |refine bf (qv ‹_›) ?_
     |refine aq ‹_› ‹_› ?_
     |refine W.and (by kernel_rfl) ?_
     |refine fn [] [] Tryz.func51 rfl (by kernel_rfl) ?_
     |refine fn [] [] Tryz.func173 rfl (by kernel_rfl) ?_
    |((with_reducible refine on (aB a) ?_ ?_);focus(simp[hkk];done))
    |((with_reducible refine bt ?_ ?_);focus(simp[hk]<;>omega))
    |((with_reducible refine bf ?_ ?_);focus(simp[hk]<;>omega))
    |((with_reducible refine bt ?_ ?_);focus(simp[hkk]<;>omega))
    |with_reducible first
     |refine qW C E a a0 a2 a (hE a a0 a1 ae) _ _ _ _ _ _ _ _ ‹_› (by omega) (by omega) (λv ty va lo sc ex hF w hs=>?_) (λv de df dt ty va lo sc ex hF hB he ht hv hs=>?_)
     |refine SC.call ?_
    |((with_reducible refine bb (λh=>?_) (λh=>?_))<;>(try simp at h))
   all_goals(clear hok hbad hE hO hkI hkl)
   all_goals(try rw[hW])
   all_goals first|assumption|exact Wf.tl ‹_›|exact Wf.vl ‹_›|exact trivial|omega|(simp_all[cW,aN.then,ai];done)|(simp_all[cW,aN.then,ai];omega)|(simp only[BS,bg,aI,aE,aF,List.length_cons,List.length_nil,List.length_append] at*;omega)|skip
 all_goals
  intro ty va lo sc lp ex K w l0 l1 hok hbad
  refine aX [] [] [3,4] Tryz.func317 rfl (by kernel_rfl) ?_
  repeat' first
   |((with_reducible refine W.of ?_);conv=>whnf)
   |with_reducible first
    |refine W.fin (K:=K) (hok () _ _ _ _ _ ?_ ‹_› ?_) rfl rfl
    |refine W.fin (K:=K) (hbad () _ _ _ _ _ _ _ _ ?_ ?_ ?_ ?_ ?_ ?_) rfl rfl
    |refine bt (decide_eq_true ‹_›) ?_
    |refine bf (qv ‹_›) ?_
    |refine aq ‹_› ‹_› ?_
    |refine W.and (by kernel_rfl) ?_
    |refine fn [] [] Tryz.func51 rfl (by kernel_rfl) ?_
    |refine fn [] [] Tryz.func173 rfl (by kernel_rfl) ?_
   |((with_reducible refine bf ?_ ?_);focus(simp[hk]<;>omega))
   |with_reducible refine SC.call ?_
   |((with_reducible refine bb (λh=>?_) (λh=>?_))<;>(try simp at h))
  all_goals(clear hok hbad hE hO hkI hkl)
  all_goals first|assumption|exact Wf.tl ‹_›|exact Wf.vl ‹_›|exact trivial|omega|(simp_all[cW,aN.then,ai];done)|(simp_all[cW,aN.then,ai];omega)|(simp only[BS,bg,aI,aE,aF,List.length_cons,List.length_nil,List.length_append] at*;omega)|skip
end
end
section
set_option maxRecDepth 100000
set_option maxHeartbeats 4000000
open Go.Vv Go.Ee
attribute [local irreducible] bC aP bZ nd ax typeAt
structure Rs where
 ty:List ah
 va:List Int
 lo:List Lc
 sc:List (ah×Int)
 ex:List (List PV)
 e:Int
 f:Int
 t:Int
abbrev Rs.st (w:Rs) (lp:Int):St:=⟨w.ty,w.va,w.lo,w.sc,lp⟩
abbrev vX (a b z:Nat) (os:List (Nat×SO)) (C:Cx) (w:Rs) (lp:Int):SH:=⟨(b,.arr 2 (w.sc.map ky++w.ex) true)::(a,.arr 3 (w.lo.map vK) true)::(os++Vj a b C w.ty w.va w.lo w.sc lp w.e w.f w.t),z⟩
abbrev RI {α:Type} (ns:List Nd) (lp:Int) (n0:Nat) (w:Rs) (G:Prop) (R:aN α):Prop:=
 (w.e=0/\w.f=0/\w.t=0/\Wf ns (w.st lp)/\n0<=w.sc.length/\G)\/(¬w.e=0/\w.ty.length=ns.length/\w.va.length=ns.length/\n0<=w.sc.length/\R=.bad ⟨w.e,w.f,w.t⟩)
section
variable(C:Cx) (E:Rec) (g:Good C.ns) (fl:Fl C.it) (n:Int) (h0:0<=n) (h1:n<(C.ns.length:Int)) (hE:Oo C E n)
include g fl h0 h1 hE
theorem NL (hkd:(nd C.ns n).kind=37):dS C 288 [.i n] (om C.ns C.it E n) EV.s (BS n) n:=by
 have n2:=fl.ef
 rcases g.nD h0 h1 (.inr hkd) with hkk|⟨a,hkk,a0,a1,ae⟩
 ·intro ty va lo sc lp ex K w l0 l1 hok hbad
  refine aX [] [] [3,4] Tryz.func288 rfl (by kernel_rfl) ?_
  repeat' first
   |((with_reducible refine W.of ?_);conv=>whnf)
   |with_reducible first
    |refine W.fin (K:=K) (hok _ _ _ _ _ _ ?_ ‹_› ?_) rfl rfl
    |refine W.fin (K:=K) (hbad _ _ _ _ _ _ _ _ _ ?_ ?_ ?_ ?_ ?_ ?_) rfl rfl
    |refine bt (decide_eq_true ‹_›) ?_
    |refine aq ‹_› ‹_› ?_
    |refine W.and (by kernel_rfl) ?_
    |refine fn [] [] Tryz.func51 rfl (by kernel_rfl) ?_
    |refine fn [] [] Tryz.func173 rfl (by kernel_rfl) ?_
   |((with_reducible refine gU C.it _ fl (λi k e y i0 k0 hei hyv hh=>?_) (λhh=>?_));have hel:=(fl.ef e (List.mem_of_getElem? hei)).2.2.1)
   |with_reducible first
    |refine jv hei ?_
    |refine jv hyv ?_
    |refine SC.call ?_
   |((with_reducible refine bb (λh=>?_) (λh=>?_))<;>(try simp at h))
  all_goals(clear hok hbad hE)
  all_goals first|assumption|exact Wf.tl ‹_›|exact Wf.vl ‹_›|exact trivial|omega|(simp_all[om,BS,aN.then,ai];done)|(simp_all[om,BS,aN.then,ai];omega)|(simp only[BS,bg,aI,aE,aF,List.length_cons,List.length_nil,List.length_append] at*;omega)|skip
 ·have he0:ax C.ns n 0=a:=by simp[ax,hkk]
  have hEa:=hE a a0 a1 ae
  have a2:a<(C.ns.length:Int):=by omega
  intro ty va lo sc lp ex K w l0 l1 hok hbad
  refine aX [] [] [3,4] Tryz.func288 rfl (by kernel_rfl) ?_
  repeat' first
   |((with_reducible refine W.of ?_);conv=>whnf)
   |with_reducible first
    |refine W.fin (K:=K) (hok _ _ _ _ _ _ ?_ ‹_› ?_) rfl rfl
    |refine W.fin (K:=K) (hbad _ _ _ _ _ _ _ _ _ ?_ ?_ ?_ ?_ ?_ ?_) rfl rfl
    |refine bt (decide_eq_true ‹_›) ?_
    |refine aq ‹_› ‹_› ?_
    |refine W.and (by kernel_rfl) ?_
    |refine fn [] [] Tryz.func51 rfl (by kernel_rfl) ?_
    |refine fn [] [] Tryz.func173 rfl (by kernel_rfl) ?_
   |((with_reducible refine on (aB a) ?_ ?_);focus(simp[hkk];done))
   |((with_reducible refine bt ?_ ?_);focus(simp[hkk]<;>omega))
   |((with_reducible refine gU C.it _ fl (λi k e y i0 k0 hei hyv hh=>?_) (λhh=>?_));have hel:=(fl.ef e (List.mem_of_getElem? hei)).2.2.1)
   |with_reducible first
    |refine jv hei ?_
    |refine jv hyv ?_
    |refine dM C E a a0 a2 a hEa _ _ _ _ _ _ _ _ ‹_› (by omega) (by omega) (λv ty va lo sc ex hF w hs=>?_) (λv de df dt ty va lo sc ex hF hB he ht hv hs=>?_)
    |refine SC.call ?_
   |((with_reducible refine bb (λh=>?_) (λh=>?_))<;>(try simp at h))
  all_goals(clear hok hbad hE)
  all_goals first|assumption|exact Wf.tl ‹_›|exact Wf.vl ‹_›|exact trivial|omega|(simp_all[om,BS,aN.then,ai];done)|(simp_all[om,BS,aN.then,ai];omega)|(simp only[BS,bg,aI,aE,aF,List.length_cons,List.length_nil,List.length_append] at*;omega)|skip
abbrev Vo (ws:List ah) (R:aN Unit) (lp:Int) (n0:Nat):Type:={a:Int×Rs//0<=a.1/\a.1<=(nd C.ns n).kids.length/\RI C.ns lp n0 a.2 (gG C.ns E ((nd C.ns n).kids.drop a.1.toNat) (ws.drop a.1.toNat) (a.2.st lp)=R) R}
theorem NA (io:fg C.it) (hkd:(nd C.ns n).kind=34):dS C 286 [.i n] (n9 C.ns C.it E n) EV.s (BS n) n:=by
 have hkl:=g.kids _ (List.mem_of_getElem? (Good.at h0 h1))
 have hks:=g.mN h0 h1 hkd
 intro ty va lo sc lp ex K w l0 l1 hok hbad
 refine aX [] [(21,[(6,none)])] [3,4] Tryz.func286 rfl (by kernel_rfl) ?_
 repeat' first
  |((with_reducible refine W.of ?_);conv=>whnf)
  |with_reducible first
   |refine W.fin (K:=K) (hok _ _ _ _ _ _ ?_ ‹_› ?_) rfl rfl
   |refine W.fin (K:=K) (hok () _ _ _ _ _ ?_ ‹_› ?_) rfl rfl
   |refine W.fin (K:=K) (hbad _ _ _ _ _ _ _ _ _ ?_ ?_ ?_ ?_ ?_ ?_) rfl rfl
   |refine W.fin (K:=K) (hbad () _ _ _ _ _ _ _ _ ?_ ?_ ?_ ?_ ?_ ?_) rfl rfl
   |refine bt (decide_eq_true ‹_›) ?_
   |refine aq ‹_› ‹_› ?_
   |refine W.and (by kernel_rfl) ?_
   |refine fn [] [] Tryz.func51 rfl (by kernel_rfl) ?_
   |refine fn [] [] Tryz.func173 rfl (by kernel_rfl) ?_
  |((with_reducible refine U0 C.it fl.n3 _ (λj f j0 hj hf=>?_) (λhf=>?_));have hrl:=(io.fn f (List.mem_of_getElem? hj)).2.1)
  |((with_reducible refine SL.nil 6 1 ?_);(with_reducible refine W.of ?_);(conv=>whnf);(with_reducible refine bT [] [] [10,6] [6] (λa:So f.ps.length λ_=>True=>[.i a.1,.f (.ref 7 a.1.toNat 1 none)]) (λa=>⟨(7,.arr 1 ((f.ps.take a.1.toNat).map λp=>bL p.ty) true)::(5,b8 (nd C.ns n))::(DW C ty va lo sc lp ex 0 0 0).bp,8⟩) (λa=>f.ps.length-a.1.toNat) ⟨0,by omega,by omega,trivial⟩ (by kernel_rfl) ?_ ?_);(focus((with_reducible refine W.of ?_);(conv=>whnf);exact⟨rfl,rfl⟩));rintro⟨m,m0,m1,_⟩;dsimp only;have hpl:=fl.ff f (List.mem_of_getElem? hj))
  |((with_reducible refine bT [] [] [11,6] [3,4] (λa:Vo C E n ([bg]) (gG C.ns E (nd C.ns n).kids ([bg]) ⟨ty,va,lo,sc,lp⟩) lp sc.length=>[.i a.1.1,.f (.p (.vs [[.str bg]] (some 1) false))]) (λa=>vX 6 7 8 [(5,b8 (nd C.ns n))] C a.1.2 lp) (λa=>(nd C.ns n).kids.length-a.1.1.toNat) ⟨(0,⟨ty,va,lo,sc,ex,0,0,0⟩),by omega,by omega,.inl ⟨rfl,rfl,rfl,w,Nat.le_refl _,rfl⟩⟩ (by kernel_rfl) ?_ ?_);(focus((with_reducible refine W.of ?_);(conv=>whnf);exact⟨rfl,rfl⟩));rintro⟨⟨i,ty1,va1,lo1,sc1,ex1,e1,f1,t1⟩,hi0,hi,hR⟩;dsimp only[vX];(dsimp only[Rs.st] at hi0 hi hR;rcases hR with⟨rfl,rfl,rfl,w1,hs1,hR⟩|⟨he1,ht1,hv1,hs1,hR⟩))
  |((with_reducible refine bT [] [] [11,6] [3,4] (λa:Vo C E n ([]) (gG C.ns E (nd C.ns n).kids ([]) ⟨ty,va,lo,sc,lp⟩) lp sc.length=>[.i a.1.1,.f (.p (.vs [] none true))]) (λa=>vX 6 7 8 [(5,b8 (nd C.ns n))] C a.1.2 lp) (λa=>(nd C.ns n).kids.length-a.1.1.toNat) ⟨(0,⟨ty,va,lo,sc,ex,0,0,0⟩),by omega,by omega,.inl ⟨rfl,rfl,rfl,w,Nat.le_refl _,rfl⟩⟩ (by kernel_rfl) ?_ ?_);(focus((with_reducible refine W.of ?_);(conv=>whnf);exact⟨rfl,rfl⟩));rintro⟨⟨i,ty1,va1,lo1,sc1,ex1,e1,f1,t1⟩,hi0,hi,hR⟩;dsimp only[vX];(dsimp only[Rs.st] at hi0 hi hR;rcases hR with⟨rfl,rfl,rfl,w1,hs1,hR⟩|⟨he1,ht1,hv1,hs1,hR⟩))
  |((with_reducible refine bT [] [] [11,6] [3,4] (λa:Vo C E n ((f.ps.take m.toNat).map Fd.ty) (gG C.ns E (nd C.ns n).kids ((f.ps.take m.toNat).map Fd.ty) ⟨ty,va,lo,sc,lp⟩) lp sc.length=>[.i a.1.1,.f (.p (.vs ((f.ps.take m.toNat).map λp=>bL p.ty) none true))]) (λa=>vX 8 9 10 [(5,b8 (nd C.ns n))] C a.1.2 lp) (λa=>(nd C.ns n).kids.length-a.1.1.toNat) ⟨(0,⟨ty,va,lo,sc,ex,0,0,0⟩),by omega,by omega,.inl ⟨rfl,rfl,rfl,w,Nat.le_refl _,rfl⟩⟩ (by kernel_rfl) ?_ ?_);(focus((with_reducible refine W.of ?_);(conv=>whnf);exact⟨rfl,rfl⟩));rintro⟨⟨i,ty1,va1,lo1,sc1,ex1,e1,f1,t1⟩,hi0,hi,hR⟩;dsimp only[vX];(dsimp only[Rs.st] at hi0 hi hR;rcases hR with⟨rfl,rfl,rfl,w1,hs1,hR⟩|⟨he1,ht1,hv1,hs1,hR⟩))
  |with_reducible refine jv hj ?_
  |((with_reducible refine aj (l:=(nd C.ns n).kids) (by omega) (λk hk=>?_));obtain⟨k0,k1,ke⟩:=hks k (List.mem_of_getElem? hk);have k2:k<(C.ns.length:Int):=by omega)
  |with_reducible first
   |refine dM C E k k0 k2 k (hE k k0 k1 ke) _ _ _ _ _ _ _ _ ‹_› (by omega) (by omega) (λv ty va lo sc ex hF w hs=>?_) (λv de df dt ty va lo sc ex hF hB he ht hv hs=>?_)
   |refine aj (l:=f.ps.take m.toNat) (by simp;omega) (λp hp=>?_)
   |refine aj (l:=f.ps) (by omega) (λp hp=>?_)
   |refine Bt (f:=λp=>bL p.ty) m0 hp ?_
   |refine HQ (by omega) ?_
   |refine Gq (by omega) ?_
  |((with_reducible refine bt ?_ ?_);focus(simp[hC]<;>omega))
  |refine aj (f:=bL) (l:=[bg]) (by simp;omega) (λp hp=>?_)
  |with_reducible first
   |refine nN C _ _ _ _ _ _ _ _ _ _ _ _ (by first|assumption|decide) ?_
   |refine SC.call ?_
  |((with_reducible refine bb (λh=>?_) (λh=>?_))<;>(try simp at h))
 all_goals(clear hok hbad hE g)
 all_goals first
  |exact⟨⟨⟨m+1,by omega,by omega,trivial⟩,ao m0 (by omega),rfl,rfl⟩,rfl⟩
  |omega
  |assumption
  |exact Wf.tl ‹_›
  |exact Wf.vl ‹_›
  |exact⟨⟨⟨(i+1,⟨ty1,va1,lo1,sc1,ex1,e1,f1,t1⟩),by dsimp only;omega,by dsimp only;omega,.inr ⟨he1,ht1,hv1,hs1,hR⟩⟩,ao hi0 (by omega),rfl,rfl⟩,rfl⟩
  |exact⟨⟨⟨(i+1,⟨ty,va,lo,sc,ex,de,df,dt⟩),by dsimp only;omega,by dsimp only;omega,.inr ⟨he,ht,hv,Nat.le_trans hs1 hs,by rw[<-hR,sv hi0 hk (by first|exact hp|(rw[List.getElem?_map,hp];rfl)),hF];rfl⟩⟩,ao hi0 (by omega),rfl,rfl⟩,rfl⟩
  |exact⟨⟨⟨(i+1,⟨ty,va,lo,sc,ex,0,0,0⟩),by dsimp only;omega,by dsimp only;omega,.inl ⟨rfl,rfl,rfl,w,Nat.le_trans hs1 hs,by rw[<-hR,sv hi0 hk (by first|exact hp|(rw[List.getElem?_map,hp];rfl)),hF];rfl⟩⟩,ao hi0 (by omega),rfl,rfl⟩,rfl⟩
  |(simp[BS];omega)
  |(simp only[BS];omega)
  |(simp_all[n9,kz,ai];done)
  |(first
     |have hs:kz C.it (nd C.ns n).name=some ([bg],aE):=by simp_all[kz]
     |have hs:kz C.it (nd C.ns n).name=some ([],bg):=by simp_all[kz]
     |have hs:kz C.it (nd C.ns n).name=some ([],aF):=by simp_all[kz]
     |have hs:kz C.it (nd C.ns n).name=some (f.ps.map Fd.ty,f.ret):=by simp_all[kz])
   first
    |(refine yV hs ?_;first|(simp;omega)|exact λe=>‹¬(nd C.ns n).kids=[]› (List.eq_nil_of_length_eq_zero e.symm))
    |(rw[yU hs ?_];rotate_left;(focus(first|(simp;omega)|(simp[*];done)))
      try rw[show f.ps.take m.toNat=f.ps from List.take_of_length_le (by omega)] at hR
      first
       |(rw[wz (by omega)] at hR;rw[<-hR];rfl)
       |(rw[hR];rfl)
       |(have hk0:(nd C.ns n).kids.length=0:=by simp[*]
         rw[wz (by omega)] at hR;rw[<-hR];rfl))
end
end
section
set_option maxRecDepth 100000
set_option maxHeartbeats 4000000
open Go.Vv Go.Ee
attribute [local irreducible] bC aP bZ nd ax typeAt
theorem kV {ns:List Nd} {it:aw} {ret:ah} {E:Rec} {tail:Bool} {l:List Int} {i k:Int} {o:ah} {st:St} (h0:0<=i) (hk:l[i.toNat]?=some k):eh ns it ret E tail (l.drop i.toNat) o st=
 if tail=true/\i+1=l.length then E k st else(cW ns it ret E k st).then λ_ st=>eh ns it ret E tail (l.drop (i+1).toNat) (if pE ns st k=true then aF else aE) st:=by
 obtain⟨h1,rfl⟩:=List.getElem?_eq_some_iff.1 hk
 rw[List.drop_eq_getElem_cons h1,show(i+1).toNat=i.toNat+1 by omega]
 have e:(l.drop (i.toNat+1)=[])=(i+1=(l.length:Int)):=by rw[List.drop_eq_nil_iff];simp only[eq_iff_iff];omega
 simp only[eh,e]
theorem Tw {a b z:Nat} {C:Cx} {ty:List ah} {va:List Int} {lo:List Lc} {sc:List (ah×Int)} {lp:Int} {ex:List (List PV)} {e f t:Int} {n:Nat} (h:n<=sc.length):
 (⟨(b,.arr 2 (sc.map ky++ex) true)::(a,.arr 3 (lo.map vK) true)::[(2,.arr 1 (va.map aB) true),(1,.arr 1 (ty.map bL) true),
 (0,.cells [.p (.vs (C.ns.map aH) none C.nb),.p (.vs (C.it.ss.map iT) none C.it.sn),.p (.vs (C.it.es.map iT) none C.it.en),.p (.vs (C.it.fns.map sC) none C.it.yG),.ref 1 C.ns.length 1 none,.ref 2 C.ns.length 1 none,.ref a lo.length 3 none,.ref b ((n:Nat):Int).toNat 2 none,.p (.str C.ret),.p (.int .i64 lp),.p (.int .i64 e),.p (.int .i64 f),.p (.int .i64 t)])],z⟩:SH)=UJ a b z C ty va lo (sc.take n) lp ((sc.drop n).map ky++ex) e f t:=by
 dsimp only[UJ,Vj];rw[Int.toNat_natCast,(uQ (ex:=ex) h).1,(uQ (ex:=ex) h).2]
structure WC where
 i:Int
 ot:ah
 w:Rs
section
variable(C:Cx) (E:Rec) (g:Good C.ns) (n:Int) (h0:0<=n) (h1:n<(C.ns.length:Int)) (hE:Oo C E n) (hO:HO C E n) (hkI:∀s,(cV C.ns (ak C.ns)).contains s=cw C.it s) (hkl:(cV C.ns (ak C.ns)).length<=1048576)
include g h0 h1 hE hO hkI hkl
theorem RN (hkd:(nd C.ns n).kind=20):dS C 293 [.i n] (jk C.ns C.it C.ret E n) EV.s (BS n) n:=by
 have hgl:=g.len
 have hkl2:=g.kids _ (List.mem_of_getElem? (Good.at h0 h1))
 have hl:=g.qJ h0 h1 hkd
 intro ty va lo s0 lp ex K w l0 l1 hok hbad
 refine aX [] [] [3,4] Tryz.func293 rfl (by kernel_rfl) ?_
 repeat' first
  |((with_reducible refine W.of ?_);conv=>whnf)
  |((with_reducible refine W.fin (K:=K) (hok _ ty va lo (sc.take s0.length) ((sc.drop s0.length).map ky++ex) ?_ (w.cut _) ?_) rfl ?_);rotate_left;rotate_left;focus(exact Tw (by omega)))
  |((with_reducible refine W.fin (K:=K) (hbad _ de df dt ty va lo (sc.take s0.length) ((sc.drop s0.length).map ky++ex) ?_ ?_ ?_ ?_ ?_ ?_) rfl ?_);rotate_left 6;focus(exact Tw (by omega)))
  |with_reducible first
   |refine W.fin (K:=K) (hok _ _ _ _ _ _ ?_ ‹_› ?_) rfl rfl
   |refine W.fin (K:=K) (hbad _ _ _ _ _ _ _ _ _ ?_ ?_ ?_ ?_ ?_ ?_) rfl rfl
   |refine bt (decide_eq_true ‹_›) ?_
   |refine bf (qv ‹_›) ?_
   |refine bt (eO ‹_› ‹_›) ?_
   |refine aq ‹_› ‹_› ?_
   |refine gi ‹_› ‹_› ‹_› ?_
   |refine W.and (by kernel_rfl) ?_
   |refine fn [] [] Tryz.func51 rfl (by kernel_rfl) ?_
  |((with_reducible refine bT [] [] [8,7] [3,4] (λa:{a:WC//0<=a.i/\a.i<=(nd C.ns n).kids.length/\a.ot.length<=2/\RI C.ns lp s0.length a.w (eh C.ns C.it C.ret E ((nd C.ns n).num==1) ((nd C.ns n).kids.drop a.i.toNat) a.ot (a.w.st lp)=eh C.ns C.it C.ret E ((nd C.ns n).num==1) (nd C.ns n).kids aE ⟨ty,va,lo,s0,lp⟩) (eh C.ns C.it C.ret E ((nd C.ns n).num==1) (nd C.ns n).kids aE ⟨ty,va,lo,s0,lp⟩)}=>[.i a.1.i,.s a.1.ot]) (λa=>vX 6 7 8 [(5,b8 (nd C.ns n))] C a.1.w lp) (λa=>(nd C.ns n).kids.length-a.1.i.toNat) ⟨⟨0,aE,⟨ty,va,lo,s0,ex,0,0,0⟩⟩,by dsimp only;omega,by dsimp only;omega,Nat.le_refl _,.inl ⟨rfl,rfl,rfl,w,Nat.le_refl _,rfl⟩⟩ (by kernel_rfl) ?_ ?_);(focus((with_reducible refine W.of ?_);(conv=>whnf);exact⟨rfl,rfl⟩));rintro⟨⟨i,ot,ty,va,lo,sc,ex,de,df,dt⟩,i0,i1,iot,hR⟩;dsimp only[vX];(dsimp only[Rs.st,RI] at i0 i1 iot hR;rcases hR with⟨rfl,rfl,rfl,w,hs,hR⟩|⟨he,ht,hv,hs,hR⟩))
  |((with_reducible refine aj (l:=(nd C.ns n).kids) (i:=i.toNat) (by omega) (λk hk=>?_));obtain⟨k0,k1,kd⟩:=hl _ k hk;have k2:k<(C.ns.length:Int):=by omega)
  |with_reducible first
   |refine hE k k0 k1 (by rw[if_pos (by omega)] at kd;exact kd) _ _ _ _ _ _ _ ‹_› (by omega) (by omega) (λv ty va lo sc ex hF w hs=>?_) (λv de df dt ty va lo sc ex hF hB he ht hv hs=>?_)
   |refine NP C E g k k0 k2 (λj j0 j1=>hE j j0 (by omega)) (λj j0 j1=>hO j j0 (by omega)) hkI hkl (by rw[if_neg (by omega)] at kd;exact kd) _ _ _ _ _ _ _ ‹_› (by omega) (by omega) (λv ty va lo sc ex hF w hs=>?_) (λv de df dt ty va lo sc ex hF hB he ht hv hs=>?_)
  |((obtain⟨a,hka,a0,a1,ae⟩:=g.ej k0 k2 (.inl ‹_›);have a2:a<(C.ns.length:Int):=(by omega);with_reducible refine on (aB a) ?_ ?_);focus(simp[hka];done))
  |with_reducible refine aj (l:=ty) (by omega) (λs hts=>?_)
  |((with_reducible refine bt ?_ ?_);focus(simp[]<;>omega))
  |with_reducible refine SC.call ?_
  |((with_reducible refine bb (λh=>?_) (λh=>?_))<;>(try simp at h))
 all_goals(clear hok hbad hE hO hkI hl g)
 all_goals first
  |assumption
  |exact Wf.tl ‹_›
  |exact Wf.vl ‹_›
  |omega
  |(rw[List.length_take];omega)
  |(simp only[BS] at*;omega)
  |exact⟨⟨⟨⟨i+1,aF,⟨ty,va,lo,sc,ex,0,0,0⟩⟩,by dsimp only;omega,by dsimp only;omega,(by decide:aF.length<=2),.inl ⟨rfl,rfl,rfl,w,by dsimp only;omega,by dsimp only;rw[<-hR,kV i0 hk,if_neg (by simp;omega),hF];simp only[aN.then];rw[if_pos (by simp[pE,ax,aF, *])]⟩⟩,ao i0 (by omega),rfl,rfl⟩,rfl⟩
  |exact⟨⟨⟨⟨i+1,aE,⟨ty,va,lo,sc,ex,0,0,0⟩⟩,by dsimp only;omega,by dsimp only;omega,(by decide:aE.length<=2),.inl ⟨rfl,rfl,rfl,w,by dsimp only;omega,by dsimp only;rw[<-hR,kV i0 hk,if_neg (by simp;omega),hF];simp only[aN.then];rw[if_neg (by simp[pE,ax,aF, *])]⟩⟩,ao i0 (by omega),rfl,rfl⟩,rfl⟩
  |exact⟨⟨⟨⟨i+1,aF,⟨ty,va,lo,sc,ex,de,df,dt⟩⟩,by dsimp only;omega,by dsimp only;omega,(by decide:aF.length<=2),.inr ⟨he,ht,hv,by dsimp only;omega,by rw[<-hR,kV i0 hk,if_neg (by simp;omega),hF];rfl⟩⟩,ao i0 (by omega),rfl,rfl⟩,rfl⟩
  |exact⟨⟨⟨⟨i+1,aE,⟨ty,va,lo,sc,ex,de,df,dt⟩⟩,by dsimp only;omega,by dsimp only;omega,(by decide:aE.length<=2),.inr ⟨he,ht,hv,by dsimp only;omega,by rw[<-hR,kV i0 hk,if_neg (by simp;omega),hF];rfl⟩⟩,ao i0 (by omega),rfl,rfl⟩,rfl⟩
  |(rw[kV i0 hk,if_pos (by simp;omega),hF] at hR;simp[jk,<-hR,aN.then];done)
  |(rw[List.drop_of_length_le (by omega)] at hR;simp[jk,<-hR,eh,aN.then];done)
  |(simp[jk,hR,aN.then];done)
  |skip
end
end
section
set_option maxRecDepth 100000
set_option maxHeartbeats 4000000
open Go.Vv Go.Ee
attribute [local irreducible] bC aP bZ nd ax typeAt
theorem jj {ns:List Nd} {it:aw} {E:Rec} {sub:ah} {l:List Int} {i k:Int} {ot:ah} {st:St} (h0:0<=i) (hk:l[i.toNat]?=some k):ji ns it E sub (l.drop i.toNat) ot st=(n6 ns it (ax ns k 0) sub st).then λ_ st1=>
 if ot=aF then(E (ax ns k 1) st1).then λs st1=>ji ns it E sub (l.drop (i+1).toNat) s {st1 with scope:=st1.scope.take st.scope.length} else
 (kQ ns E (ax ns k 1) ot st1).then λ_ st1=>ji ns it E sub (l.drop (i+1).toNat) ot {st1 with scope:=st1.scope.take st.scope.length}:=by
 obtain⟨h1,rfl⟩:=List.getElem?_eq_some_iff.1 hk
 rw[List.drop_eq_getElem_cons h1,show(i+1).toNat=i.toNat+1 by omega];rfl
theorem yQ {ns:List Nd} {it:aw} {E:Rec} {sub:ah} {l:List Int} {i k p b:Int} {ot:ah} {st:St} (h0:0<=i) (hk:l[i.toNat]?=some k) (hkp:(nd ns k).kids=[p,b]) (h:ot=aF):ji ns it E sub (l.drop i.toNat) ot st=(mi ns it (p.toNat+1) p sub st).then λ_ st1=>(E b st1).then λs st1=>ji ns it E sub (l.drop (i+1).toNat) s {st1 with scope:=st1.scope.take st.scope.length}:=by
 rw[jj h0 hk,show ax ns k 0=p by simp[ax,hkp],show ax ns k 1=b by simp[ax,hkp]];simp only[if_pos h,n6]
theorem yR {ns:List Nd} {it:aw} {E:Rec} {sub:ah} {l:List Int} {i k p b:Int} {ot:ah} {st:St} (h0:0<=i) (hk:l[i.toNat]?=some k) (hkp:(nd ns k).kids=[p,b]) (h:¬ot=aF):ji ns it E sub (l.drop i.toNat) ot st=(mi ns it (p.toNat+1) p sub st).then λ_ st1=>(kQ ns E b ot st1).then λ_ st1=>ji ns it E sub (l.drop (i+1).toNat) ot {st1 with scope:=st1.scope.take st.scope.length}:=by
 rw[jj h0 hk,show ax ns k 0=p by simp[ax,hkp],show ax ns k 1=b by simp[ax,hkp]];simp only[if_neg h,n6]
theorem GB {a b z:Nat} {os:List (Nat×SO)} {C:Cx} {ty:List ah} {va:List Int} {lo:List Lc} {sc:List (ah×Int)} {lp:Int} {ex:List (List PV)} {e f t:Int} {n:Nat} (h:n<=sc.length):
 (⟨(b,.arr 2 (sc.map ky++ex) true)::(a,.arr 3 (lo.map vK) true)::(os++[(2,.arr 1 (va.map aB) true),(1,.arr 1 (ty.map bL) true),
 (0,.cells [.p (.vs (C.ns.map aH) none C.nb),.p (.vs (C.it.ss.map iT) none C.it.sn),.p (.vs (C.it.es.map iT) none C.it.en),.p (.vs (C.it.fns.map sC) none C.it.yG),.ref 1 C.ns.length 1 none,.ref 2 C.ns.length 1 none,.ref a lo.length 3 none,.ref b ((n:Nat):Int).toNat 2 none,.p (.str C.ret),.p (.int .i64 lp),.p (.int .i64 e),.p (.int .i64 f),.p (.int .i64 t)])]),z⟩:SH)=vX a b z os C ⟨ty,va,lo,sc.take n,(sc.drop n).map ky++ex,e,f,t⟩ lp:=by
 dsimp only[vX,Vj];rw[Int.toNat_natCast,(uQ (ex:=ex) h).1,(uQ (ex:=ex) h).2]
theorem SB {l:List Int} {a:Int} {i k:Int} (i0:1<=i) (h:(a::l)[i.toNat]?=some k):k∈l:=by
 obtain⟨m,hm⟩:∃m,i.toNat=m+1:=⟨i.toNat-1,by omega⟩
 rw[hm,List.getElem?_cons_succ] at h;exact List.mem_of_getElem? h
theorem Ew {n:Int}:BS n aF:=Tt
section
variable(C:Cx) (E:Rec) (g:Good C.ns) (fl:Fl C.it) (io:fg C.it) (n:Int) (h0:0<=n) (h1:n<(C.ns.length:Int)) (hE:Oo C E n) (hO:HO C E n)
include g fl io h0 h1 hE hO
theorem J8 (hkd:(nd C.ns n).kind=46):dS C 292 [.i n] (oM C.ns C.it E n) EV.s (BS n) n:=by
 have hgl:=g.len
 have hkl:=g.kids _ (List.mem_of_getElem? (Good.at h0 h1))
 obtain⟨a,l,hkk,a0,a1,ae,hl⟩:=g.nC h0 h1 hkd
 have he0:ax C.ns n 0=a:=by simp[ax,hkk]
 have a2:a<(C.ns.length:Int):=by omega
 have hkl1:1<=(nd C.ns n).kids.length:=by rw[hkk];simp
 intro ty va lo sc lp ex K w l0 l1 hok hbad
 refine aX [] [] [3,4] Tryz.func292 rfl (by kernel_rfl) ?_
 repeat' first
  |((with_reducible refine W.of ?_);conv=>whnf)
  |with_reducible first
   |refine W.fin (K:=K) (hok _ _ _ _ _ _ ?_ ‹_› ?_) rfl rfl
   |refine W.fin (K:=K) (hbad _ _ _ _ _ _ _ _ _ ?_ ?_ ?_ ?_ ?_ ?_) rfl rfl
   |refine bt (decide_eq_true ‹_›) ?_
   |refine bf (qv ‹_›) ?_
   |refine aq ‹_› ‹_› ?_
   |refine W.and (by kernel_rfl) ?_
   |refine fn [] [] Tryz.func51 rfl (by kernel_rfl) ?_
  |((with_reducible refine on (aB a) ?_ ?_);focus(simp[hkk];done))
  |((with_reducible refine eP C E a a0 a2 a (hE a a0 a1 ae) _ _ _ _ _ _ _ ‹_› (by omega) (by omega) (λv ty va lo sc ex hF w hs=>?_) (λv de df dt ty va lo sc ex hF hB he ht hv hs=>?_));(have hA:=hF;have T:=bq (hO a a0 a1 ae) ‹_› hF;have T1:=T.ty;have T2:=T.len;dsimp only at T2;clear T))
  |((with_reducible refine bT [] [] [8,7] [6,7] (λq:{q:WC//1<=q.i/\q.i<=(nd C.ns n).kids.length/\BS n q.ot/\RI C.ns lp sc.length q.w (lo.length<=q.w.lo.length/\ji C.ns C.it E v ((nd C.ns n).kids.drop q.i.toNat) q.ot (q.w.st lp)=ji C.ns C.it E v ((nd C.ns n).kids.drop 1) aF ⟨ty,va,lo,sc,lp⟩) (ji C.ns C.it E v ((nd C.ns n).kids.drop 1) aF ⟨ty,va,lo,sc,lp⟩)}=>[.i q.1.i,.s q.1.ot]) (λq=>vX 8 9 10 [(5,b8 (nd C.ns n))] C q.1.w lp) (λq=>(nd C.ns n).kids.length-q.1.i.toNat) ⟨⟨1,aF,⟨ty,va,lo,sc,ex,0,0,0⟩⟩,Int.le_refl _,by dsimp only;omega,Ew,.inl ⟨rfl,rfl,rfl,w,Nat.le_refl _,Nat.le_refl _,rfl⟩⟩ (by kernel_rfl) ?_ ?_);(focus((with_reducible refine W.of ?_);(conv=>whnf);exact⟨rfl,rfl⟩));rintro⟨⟨i,ot,ty1,va1,lo1,sc1,ex1,de,df,dt⟩,i0,i1,iot,hR⟩;dsimp only[vX];(dsimp only[Rs.st,RI] at i0 i1 iot hR;rcases hR with⟨rfl,rfl,rfl,w1,hs1,hlo,hR⟩|⟨he,ht,hv,hs1,hR⟩))
  |with_reducible refine on (aB k) (bE hk) ?_
  |((with_reducible refine aj (l:=(nd C.ns n).kids) (i:=i.toNat) (by omega) (λk hk=>?_));obtain⟨k0,k1,kk⟩:=hl k (SB i0 (by rw[<-hkk];exact hk));obtain⟨p,b,hkp,p0,p1,b0,b1,pe,be⟩:=g.xa k0 (by omega) kk;have k2:k<(C.ns.length:Int):=(by omega);have p2:p<(C.ns.length:Int):=(by omega);have b2:b<(C.ns.length:Int):=by omega)
  |with_reducible refine fn [] [] Tryz.func313 rfl (by kernel_rfl) ?_
  |((with_reducible refine on (aB p) ?_ ?_);focus(simp[hkp];done))
  |((with_reducible refine on (aB b) ?_ ?_);focus(simp[hkp];done))
  |((with_reducible refine oT C g fl io (p.toNat+1) p (by omega) p0 p2 pe v T1 _ _ _ _ _ (by have:=eD hlo;omega) _ _ ‹_› (by omega) (by omega) (λv ty va lo sc ex hF w hs=>?_) (λv de df dt ty va lo sc ex hF hB he ht hv hs=>?_));(rw[D0 C.it g _ _ p0 p2] at hF;have hP:=hF;have m1:=xB g io (p.toNat+1) p _ _ _ _ p0 p2 ‹_› T1 (by have:=eD hlo;dsimp only;omega) hF;have m1s:=m1.sc.length_le;have m1l:=m1.len;clear m1;dsimp only at m1s m1l;rotate_left;rw[D0 C.it g _ _ p0 p2] at hF;rotate_right))
  |((with_reducible refine hE b b0 (by omega) be _ _ _ _ _ _ _ ‹_› (by omega) (by omega) (λv ty va lo sc ex hF w hs=>?_) (λv de df dt ty va lo sc ex hF hB he ht hv hs=>?_));(have t2:=hO b b0 (by omega) be _ _ _ ‹_› hF;have m2l:=t2.mv.len;have m2b:=t2.bound (by omega);clear t2;dsimp only at m2l))
  |((with_reducible refine qW C E b b0 b2 b (hE b b0 (by omega) be) _ _ _ _ _ _ _ _ ‹_› (by omega) (by omega) (λv ty va lo sc ex hF w hs=>?_) (λv de df dt ty va lo sc ex hF hB he ht hv hs=>?_));(have m2l:=J3 (hO b b0 (by omega) be) ‹_› hF;dsimp only at m2l))
  |with_reducible refine un 1 (by kernel_rfl) ?_
  |((with_reducible refine bt ?_ ?_);focus(simp[]<;>omega))
  |with_reducible first
   |refine qb C _ _ _ _ _ _ _ _ _ _ _ (by first|assumption|decide) ?_
   |refine qX C _ _ _ _ _ _ _ _ _ _ _ _ (by first|assumption|decide) ?_
   |refine SC.call ?_
  |((with_reducible refine bb (λh=>?_) (λh=>?_))<;>(try simp at h))
 all_goals(clear hok hbad hE hO hl g fl io)
 all_goals first
  |assumption
  |exact Wf.tl ‹_›
  |exact Wf.vl ‹_›
  |omega
  |(simp only[BS] at*;omega)
  |exact Tt
  |(unfold oM;rw[he0,hA];rw[List.drop_of_length_le (by omega)] at hR;simp only[aN.then];rw[<-hR];rfl)
  |(unfold oM;rw[he0,hA];simp only[aN.then];rw[hR];done)
  |(unfold oM;rw[he0,hF];rfl)
  |(refine⟨⟨⟨⟨i+1,v,⟨ty,va,lo,sc.take sc1.length,(sc.drop sc1.length).map ky++ex,0,0,0⟩⟩,?_,?_,?_,.inl ⟨rfl,rfl,rfl,w.cut _,?_,?_,?_⟩⟩,ao (by omega) (by omega),rfl,?_⟩,rfl⟩<;>first
     |exact GB (os:=[(5,b8 (nd C.ns n))]) (by omega)
     |assumption
     |exact Ew
     |(dsimp only;omega)
     |(simp only[BS] at*;omega)
     |(rw[List.length_take];omega)
     |((try dsimp only);rw[<-hR,yQ (by omega) hk hkp ‹_›,hP];simp only[aN.then];rw[hF];done)
     |((try dsimp only);rw[<-hR,yR (by omega) hk hkp ‹_›,hP];simp only[aN.then];rw[hF];done)
     |((try dsimp only);rw[<-hR,jj (by omega) hk,show ax C.ns k 0=p by simp[ax,hkp]];simp only[n6];rw[hF];rfl))
  |(refine⟨⟨⟨⟨i+1,ot,⟨ty,va,lo,sc.take sc1.length,(sc.drop sc1.length).map ky++ex,0,0,0⟩⟩,?_,?_,?_,.inl ⟨rfl,rfl,rfl,w.cut _,?_,?_,?_⟩⟩,ao (by omega) (by omega),rfl,?_⟩,rfl⟩<;>first
     |exact GB (os:=[(5,b8 (nd C.ns n))]) (by omega)
     |assumption
     |exact Ew
     |(dsimp only;omega)
     |(simp only[BS] at*;omega)
     |(rw[List.length_take];omega)
     |((try dsimp only);rw[<-hR,yQ (by omega) hk hkp ‹_›,hP];simp only[aN.then];rw[hF];done)
     |((try dsimp only);rw[<-hR,yR (by omega) hk hkp ‹_›,hP];simp only[aN.then];rw[hF];done)
     |((try dsimp only);rw[<-hR,jj (by omega) hk,show ax C.ns k 0=p by simp[ax,hkp]];simp only[n6];rw[hF];rfl))
  |(refine⟨⟨⟨⟨i+1,v,⟨ty,va,lo,sc.take sc1.length,(sc.drop sc1.length).map ky++ex,de,df,dt⟩⟩,?_,?_,?_,.inr ⟨he,by assumption,by assumption,?_,?_⟩⟩,ao (by omega) (by omega),rfl,?_⟩,rfl⟩<;>first
     |exact GB (os:=[(5,b8 (nd C.ns n))]) (by omega)
     |assumption
     |exact Ew
     |(dsimp only;omega)
     |(simp only[BS] at*;omega)
     |(rw[List.length_take];omega)
     |((try dsimp only);rw[<-hR,yQ (by omega) hk hkp ‹_›,hP];simp only[aN.then];rw[hF];done)
     |((try dsimp only);rw[<-hR,yR (by omega) hk hkp ‹_›,hP];simp only[aN.then];rw[hF];done)
     |((try dsimp only);rw[<-hR,jj (by omega) hk,show ax C.ns k 0=p by simp[ax,hkp]];simp only[n6];rw[hF];rfl))
  |(refine⟨⟨⟨⟨i+1,aF,⟨ty,va,lo,sc.take sc1.length,(sc.drop sc1.length).map ky++ex,de,df,dt⟩⟩,?_,?_,?_,.inr ⟨he,by assumption,by assumption,?_,?_⟩⟩,ao (by omega) (by omega),rfl,?_⟩,rfl⟩<;>first
     |exact GB (os:=[(5,b8 (nd C.ns n))]) (by omega)
     |assumption
     |exact Ew
     |(dsimp only;omega)
     |(simp only[BS] at*;omega)
     |(rw[List.length_take];omega)
     |((try dsimp only);rw[<-hR,yQ (by omega) hk hkp ‹_›,hP];simp only[aN.then];rw[hF];done)
     |((try dsimp only);rw[<-hR,yR (by omega) hk hkp ‹_›,hP];simp only[aN.then];rw[hF];done)
     |((try dsimp only);rw[<-hR,jj (by omega) hk,show ax C.ns k 0=p by simp[ax,hkp]];simp only[n6];rw[hF];rfl))
  |(refine⟨⟨⟨⟨i+1,ot,⟨ty,va,lo,sc.take sc1.length,(sc.drop sc1.length).map ky++ex,de,df,dt⟩⟩,?_,?_,?_,.inr ⟨he,by assumption,by assumption,?_,?_⟩⟩,ao (by omega) (by omega),rfl,?_⟩,rfl⟩<;>first
     |exact GB (os:=[(5,b8 (nd C.ns n))]) (by omega)
     |assumption
     |exact Ew
     |(dsimp only;omega)
     |(simp only[BS] at*;omega)
     |(rw[List.length_take];omega)
     |((try dsimp only);rw[<-hR,yQ (by omega) hk hkp ‹_›,hP];simp only[aN.then];rw[hF];done)
     |((try dsimp only);rw[<-hR,yR (by omega) hk hkp ‹_›,hP];simp only[aN.then];rw[hF];done)
     |((try dsimp only);rw[<-hR,jj (by omega) hk,show ax C.ns k 0=p by simp[ax,hkp]];simp only[n6];rw[hF];rfl))
  |skip
end
end
section
set_option maxRecDepth 100000
set_option maxHeartbeats 4000000
open Go.Vv Go.Ee
attribute [local irreducible] bC aP bZ nd ax typeAt
theorem rl {l:List ah} {s x:ah} {k:Int} (h0:0<=k) (hx:l[k.toNat]?=some x):(l.take (k+1).toNat).contains s=((l.take k.toNat).contains s||s==x):=by
 rw[show(k+1).toNat=k.toNat+1 by omega,List.take_add_one,hx,Bool.eq_iff_iff];simp
abbrev WL (fR:List ah) (s:ah) (is0:Bool):Type:={q:Int×Bool//0<=q.1/\q.1<=fR.length/\q.2=(is0&&!(fR.take q.1.toNat).contains s)}
theorem QD {fR:List ah} {s z:ah} {is0 b:Bool} {m:Int} (m0:0<=m) (hz:fR[m.toNat]?=some z) (h:b=true) (hb:b=(is0&&!(fR.take m.toNat).contains s)):(!(z==s))=(is0&&!(fR.take (m+1).toNat).contains s):=by
 rw[rl m0 hz];rw[h] at hb;have:=hb.symm;simp only[Bool.and_eq_true,Bool.not_eq_true'] at this;rw[this.1,this.2,Bool.false_or,Bool.true_and]
 exact congrArg not (Bool.eq_iff_iff.2 (by simp;exact eq_comm))
theorem QE {fR:List ah} {s:ah} {is0 b:Bool} {m:Int} (m0:0<=m) (m1:m<(fR.length:Int)) (h:b=false) (hb:b=(is0&&!(fR.take m.toNat).contains s)):false=(is0&&!(fR.take (m+1).toNat).contains s):=by
 rw[rl m0 (List.getElem?_eq_getElem (show m.toNat<fR.length by omega))];rw[h] at hb;have:=hb.symm;revert this;generalize (fR.take m.toNat).contains s=c;cases is0<;>cases c<;>simp
theorem w8 {fR:List ah} {s:ah} {is0 b:Bool} {m:Int} (h:(fR.length:Int)<=m) (hb:b=(is0&&!(fR.take m.toNat).contains s)) (e:b=true):is0=true/\fR.contains s=false:=by
 rw[List.take_of_length_le (by omega),e] at hb;have:=hb.symm;simpa using this
theorem L7 {fR:List ah} {s:ah} {b:Bool} {m:Int} (h:(fR.length:Int)<=m) (hb:b=(true&&!(fR.take m.toNat).contains s)) (e:b=false):fR.contains s=true:=by
 rw[List.take_of_length_le (by omega),e] at hb;have:=hb.symm;simpa using this
theorem Bp {fs:List Fd} {s:ah} {y:Fd} (h:gV fs s=some y):s∈fs.map Fd.name:=by
 have h1:=List.find?_some h
 have h2:y.name=s:=by simpa using h1
 rw[<-h2];exact List.mem_map_of_mem (mA h)
theorem mQ {ns:List Nd} {it:aw} {E:Rec} {n:Int} {st:St} {x:Sd} (h:aM it.ss (nd ns n).name=some x):oe ns it E n st=(fh ns E x.fs (nd ns n).kids [] st).then λfR st=>if fR.length=x.fs.length then .ok (nd ns n).name st else ai ns 163 n:=by
 unfold oe;rw[h]
structure XB where
 i:Int
 fR:List ah
 w:Rs
section
variable(C:Cx) (E:Rec) (g:Good C.ns) (fl:Fl C.it) (n:Int) (h0:0<=n) (h1:n<(C.ns.length:Int)) (hE:Oo C E n)
include g fl h0 h1 hE
theorem NH (hkd:(nd C.ns n).kind=35) (hnl:(nd C.ns n).name.length<=1048576):dS C 287 [.i n] (oe C.ns C.it E n) EV.s (BS n) n:=by
 have hgl:=g.len
 have hkl:=g.kids _ (List.mem_of_getElem? (Good.at h0 h1))
 have hl:=g.tB h0 h1 hkd
 have sf:=λx hx=>(fl.sf x hx).2
 intro ty va lo sc lp ex K w l0 l1 hok hbad
 refine aX [(2,[(0,[]),(1,[]),(2,[]),(3,[]),(4,[]),(5,[]),(10,[]),(6,[10]),(7,[]),(8,[]),(9,[]),(11,[]),(12,[])])] [] [3,4] Tryz.func287 rfl (by kernel_rfl) ?_
 repeat' first
  |((with_reducible refine W.of ?_);conv=>whnf)
  |with_reducible first
   |refine W.fin (K:=K) (hok _ _ _ _ _ _ ?_ ‹_› ?_) rfl rfl
   |refine W.fin (K:=K) (hbad _ _ _ _ _ _ _ _ _ ?_ ?_ ?_ ?_ ?_ ?_) rfl rfl
   |refine bt (decide_eq_true ‹_›) ?_
   |refine bf (qv ‹_›) ?_
   |refine aq ‹_› ‹_› ?_
   |refine W.and (by kernel_rfl) ?_
   |refine fn [] [] Tryz.func51 rfl (by kernel_rfl) ?_
   |refine fn [] [] Tryz.func173 rfl (by kernel_rfl) ?_
   |refine wj C.it fl.n1 _ (λx hx=>?_) (λhx=>?_)
   |refine AS C.it fl.n1 sf _ _ (λj y hf=>?_) (λhf=>?_)
  |((with_reducible refine SL.nil 8 1 ?_);(with_reducible refine W.of ?_);(conv=>whnf);(with_reducible refine bT [] [] [9,8] [3,4,7] (λa:{a:XB//0<=a.i/\a.i<=(nd C.ns n).kids.length/\a.fR.length<=a.i/\RI C.ns lp sc.length a.w (a.fR.Nodup/\(∀s∈a.fR,s∈x.fs.map Fd.name)/\fh C.ns E x.fs ((nd C.ns n).kids.drop a.i.toNat) a.fR (a.w.st lp)=fh C.ns E x.fs (nd C.ns n).kids [] ⟨ty,va,lo,sc,lp⟩) (fh C.ns E x.fs (nd C.ns n).kids [] ⟨ty,va,lo,sc,lp⟩)}=>[.i a.1.i,.f (.ref 10 a.1.fR.length 1 none)]) (λa=>⟨(10,.arr 1 (a.1.fR.map bL) true)::(vX 8 9 11 [(6,We x),(5,b8 (nd C.ns n))] C a.1.w lp).bp,11⟩) (λa=>(nd C.ns n).kids.length-a.1.i.toNat) ⟨⟨0,[],⟨ty,va,lo,sc,ex,0,0,0⟩⟩,by dsimp only;omega,by dsimp only;omega,Int.le_refl _,.inl ⟨rfl,rfl,rfl,w,Nat.le_refl _,List.nodup_nil,(λ_ h=>absurd h List.not_mem_nil),rfl⟩⟩ (by kernel_rfl) ?_ ?_);(focus((with_reducible refine W.of ?_);(conv=>whnf);exact⟨rfl,rfl⟩));rintro⟨⟨i,fR,ty1,va1,lo1,sc1,ex1,e1,f1,t1⟩,i0,i1,ih,hR⟩;dsimp only[vX];(dsimp only[Rs.st] at i0 i1 ih hR;rcases hR with⟨rfl,rfl,rfl,w1,hs1,hnd,hsb,hR⟩|⟨he1,ht1,hv1,hs1,hR⟩))
  |with_reducible refine on (aB k) (bE hk) ?_
  |((with_reducible refine aj (l:=(nd C.ns n).kids) (by omega) (λk hk=>?_));obtain⟨k0,k1,kk⟩:=hl k (List.mem_of_getElem? hk);have k2:k<(C.ns.length:Int):=(by omega);obtain⟨a,hka,a0,a1,ae⟩:=g.ej k0 k2 (.inr (.inl kk));have a2:a<(C.ns.length:Int):=by omega)
  |((with_reducible refine bT [] [] [14,13] [] (λq:WL fR (nd C.ns k).name true=>[.i q.1.1,.b q.1.2]) (λ_=>⟨(10,.arr 1 (fR.map bL) true)::(vX 8 9 11 [(6,We x),(5,b8 (nd C.ns n))] C ⟨ty1,va1,lo1,sc1,ex1,0,0,0⟩ lp).bp,11⟩) (λq=>fR.length-q.1.1.toNat) ⟨(0,true),by dsimp only;omega,by dsimp only;omega,by simp⟩ (by kernel_rfl) ?_ ?_);(focus((with_reducible refine W.of ?_);(conv=>whnf);exact⟨rfl,rfl⟩));rintro⟨⟨m,b⟩,m0,m1,hb⟩;dsimp only[vX];dsimp only at m0 m1 hb)
  |((with_reducible refine bT [] [] [14,13] [] (λq:WL fR (nd C.ns k).name false=>[.i q.1.1,.b q.1.2]) (λ_=>⟨(10,.arr 1 (fR.map bL) true)::(vX 8 9 11 [(6,We x),(5,b8 (nd C.ns n))] C ⟨ty1,va1,lo1,sc1,ex1,0,0,0⟩ lp).bp,11⟩) (λq=>fR.length-q.1.1.toNat) ⟨(0,false),by dsimp only;omega,by dsimp only;omega,by simp⟩ (by kernel_rfl) ?_ ?_);(focus((with_reducible refine W.of ?_);(conv=>whnf);exact⟨rfl,rfl⟩));rintro⟨⟨m,b⟩,m0,m1,hb⟩;dsimp only[vX];dsimp only at m0 m1 hb)
  |with_reducible first
   |refine aj (l:=fR) (by omega) (λz hz=>?_)
   |refine fn [] [] Tryz.func313 rfl (by kernel_rfl) ?_
  |((with_reducible refine on (aB a) ?_ ?_);focus(simp[hka];done))
  |with_reducible first
   |refine dM C E a a0 a2 a (hE a a0 (by omega) ae) _ _ _ _ _ _ _ _ ‹_› (by omega) (by omega) (λv ty va lo sc ex hF w hs=>?_) (λv de df dt ty va lo sc ex hF hB he ht hv hs=>?_)
   |refine pH (f:=bL) ?_
   |refine fj ?_
  |((with_reducible refine bt ?_ ?_);focus(simp[hC]<;>omega))
  |with_reducible refine SC.call ?_
  |((with_reducible refine bb (λh=>?_) (λh=>?_))<;>(try simp at h))
 all_goals(clear hok hbad hE hl g)
 all_goals(try simp only[dG,hx,Option.bind_some] at hf)
 all_goals first
  |exact⟨⟨⟨(m+1,!(z==(nd C.ns k).name)),by dsimp only;omega,by dsimp only;omega,QD m0 hz ‹_› hb⟩,ao m0 (by omega),rfl,rfl⟩,rfl⟩
  |exact⟨⟨⟨(m+1,false),by dsimp only;omega,by dsimp only;omega,QE m0 (by omega) ‹_› hb⟩,ao m0 (by omega),rfl,rfl⟩,rfl⟩
  |assumption
  |exact Wf.tl ‹_›
  |exact Wf.vl ‹_›
  |omega
  |(simp only[BS];omega)
  |(simp[BS];omega)
  |(have e:=w8 (by omega) hb ‹b=true›;simp at e;done)
  |(obtain⟨_,e⟩:=w8 (by omega) hb ‹b=true›;have hn:=Bp hf;exact⟨⟨⟨⟨i+1,fR++[(nd C.ns k).name],⟨ty,va,lo,sc,ex,0,0,0⟩⟩,by dsimp only;omega,by dsimp only;omega,by simp;omega,.inl ⟨rfl,rfl,rfl,w,Nat.le_trans hs1 hs,BX hnd (by simpa using e),Ku hsb hn,by dsimp only;rw[<-hR,kG i0 hk,hf];simp only[e,Bool.false_eq_true,if_false];rw[show ax C.ns k 0=a by simp[ax,hka],hF];rfl⟩⟩,ao i0 (by omega),rfl,rfl⟩,rfl⟩)
  |(obtain⟨_,e⟩:=w8 (by omega) hb ‹b=true›;exact⟨⟨⟨⟨i+1,fR++[(nd C.ns k).name],⟨ty,va,lo,sc,ex,de,df,dt⟩⟩,by dsimp only;omega,by dsimp only;omega,by simp;omega,.inr ⟨he,ht,hv,Nat.le_trans hs1 hs,by rw[<-hR,kG i0 hk,hf];simp only[e,Bool.false_eq_true,if_false];rw[show ax C.ns k 0=a by simp[ax,hka],hF];rfl⟩⟩,ao i0 (by omega),rfl,rfl⟩,rfl⟩)
  |(rw[mQ hx,hR];rfl)
  |(rw[mQ hx,<-hR,List.drop_of_length_le (by omega)];simp only[fh,aN.then];rw[if_neg (by omega)];rfl)
  |(have e:=vM fR (x.fs.map Fd.name) hnd hsb;rw[List.length_map] at e;rw[mQ hx,<-hR,List.drop_of_length_le (by omega)];simp only[fh,aN.then];rw[if_pos (by omega)];done)
  |(rw[mQ hx,<-hR,kG i0 hk,hf];rfl)
  |(rw[mQ hx,<-hR,kG i0 hk,hf];simp only[L7 (by omega) hb ‹b=false›,if_true];rfl)
  |(simp[oe,hx,ai];done)
  |skip
end
end
end Go.Proofs.YtdjkoddnnogejaaGreat
