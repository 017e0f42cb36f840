/- Part of the proof of CheckTrees: plain laws and steps of its walks, for all arguments. -/
import Derived.Test.YtdjkoddnnogejaaGreatZAe
set_option linter.unusedSimpArgs false
set_option linter.unusedVariables false
set_option linter.unusedSectionVars false
namespace Go.Proofs.YtdjkoddnnogejaaGreat
section
set_option maxRecDepth 100000
set_option maxHeartbeats 400000
open Go.Vv Go.Ee
variable{K:aR->SH->Prop}
theorem qx {α:Type} {p:α->Bool} {l:List α} {i:Int} {x:α} (h0:0<=i) (hx:l[i.toNat]?=some x):(l.drop i.toNat).all p=(p x&&(l.drop (i+1).toNat).all p):=by
 obtain⟨h1,rfl⟩:=List.getElem?_eq_some_iff.1 hx
 rw[List.drop_eq_getElem_cons h1,List.all_cons,show(i+1).toNat=i.toNat+1 by omega]
theorem wv {α:Type} {p:α->Bool} {l:List α} {i:Int} (h:(l.length:Int)<=i):(l.drop i.toNat).all p=true:=by rw[List.drop_of_length_le (by omega)];rfl
theorem NY (s:ah) (hl:s.length<=9223372036854775807) (hK:KB K (gq s)):SC Tryz.prog 299 [.s s] H0 K:=by
 refine aX [] [] [] Tryz.func299 rfl (by kernel_rfl) ?_
 repeat' first
  |((with_reducible refine W.of ?_);conv=>whnf)
  |with_reducible first
   |refine W.fin (K:=K) hK ?_ rfl
   |refine LG _ ?_
   |refine HR _ ?_
  |((with_reducible refine bT [] [] [17] [] (λa:So s.length λi=>(s.drop i.toNat).all Ij=s.all Ij=>[.i a.1]) (λ_=>H0) (λa=>s.length-a.1.toNat) ⟨0,by omega,by omega,rfl⟩ (by kernel_rfl) ?_ ?_);(focus((with_reducible refine W.of ?_);(conv=>whnf);exact⟨rfl,rfl⟩));rintro⟨i,i0,i1,hi⟩;dsimp only)
  |with_reducible first
   |refine on _ hc ?_
   |refine vN (by first|omega|(rcases s with _|⟨a,l⟩<;>first|contradiction|(rw[List.length_cons];simp))) (λc hc=>?_)
  |((with_reducible refine bt ?_ ?_);focus(simp[]<;>omega))
  |((with_reducible refine bb (λh=>?_) (λh=>?_))<;>(try simp at h))
 all_goals(clear hK)
 all_goals first
  |(refine⟨⟨⟨i+1,by omega,by omega,?_⟩,ao i0 (by omega),rfl,rfl⟩,rfl⟩;rw[<-hi,qx i0 hc];simp_all[Ij];done)
  |(simp_all[gq];done)
  |(rw[qx i0 hc] at hi;simp_all[gq,Ij];done)
  |(rw[wv (by omega)] at hi;simp_all[gq];done)
  |skip
theorem Rd (s:ah) (hl:s.length<=9223372036854775807) (hK:KB K (fq s)):SC Tryz.prog 258 [.s s] H0 K:=by
 refine aX [] [] [] Tryz.func258 rfl (by kernel_rfl) ?_
 repeat' first
  |((with_reducible refine W.of ?_);conv=>whnf)
  |with_reducible first
   |refine W.fin (K:=K) hK ?_ rfl
   |refine NY _ hl ?_
   |refine S3 _ ?_
  |((with_reducible refine bb (λh=>?_) (λh=>?_))<;>(try simp at h))
 all_goals(clear hK;grind [fq])
end
section
set_option maxRecDepth 100000
set_option maxHeartbeats 4000000
open Go.Vv Go.Ee
variable{K:aR->SH->Prop}
theorem Tx (s p:ah) (hs:s.length<4294967281) (hK:W (K (.ret (.bR [.f (.p (.str (Lib.cut s p).1)),.f (.p (.str (Lib.cut s p).2.1)),.f (.p (.bool (Lib.cut s p).2.2))])) H0)):SC Tryz.prog 259 [.s s,.s p] H0 K:=
 ⟨λρ h vargs hr ha=>by
  rcases vargs with _|⟨a,_|⟨b,_|⟨c,l⟩⟩⟩
  ·exact ha.elim
  ·exact ha.2.elim
  ·obtain⟨⟨e1,_⟩,⟨e2,_⟩,_⟩:=ha
   rw[e1,e2]
   refine(EL s p hs h).mono λr h' hh=>?_
   obtain⟨rfl,rfl⟩:=hh
   exact⟨_,H0,ρ,hK,⟨_,rfl,⟨rfl,rfl⟩,⟨rfl,rfl⟩,⟨rfl,rfl⟩,trivial⟩,hr,.refl ρ _⟩
  ·exact ha.2.2.elim⟩
theorem N7 (x:Nd) (hs:x.name.length<4294967281) (hK:KB K (fm x.kind x.name)):SC Tryz.prog 209 [kL x] H0 K:=by
 have hc1:(Lib.cut x.name [58,58]).1.length<=x.name.length/\(Lib.cut x.name [58,58]).2.1.length<=x.name.length:=by
  cases hc:nY x.name with
  |none=>simp[y7 hc]
  |some i=>simp[y8 hc];omega
 obtain⟨hc1,hc2⟩:=hc1
 refine aX [] [] [] Tryz.func209 rfl (by kernel_rfl) ?_
 repeat' first
  |((with_reducible refine W.of ?_);conv=>whnf)
  |with_reducible first
   |refine W.fin (K:=K) hK ?_ rfl
   |refine Rd _ (by omega) ?_
   |refine Tx _ _ hs ?_
   |refine Sm _ ?_
   |refine SC.call ?_
  |((with_reducible refine bb (λh=>?_) (λh=>?_))<;>(try simp at h))
 all_goals(clear hK)
 all_goals(try cases hc:nY x.name)
 all_goals first
  |(simp_all[fm,gl,y8 hc];done)
  |(simp_all[fm,gl,y7 hc];done)
  |(simp_all[fm,gl];done)
  |skip
end
section
set_option maxRecDepth 100000
set_option maxHeartbeats 4000000
open Go.Vv Go.Ee
theorem eK {l:List Int}:fits 1 (l.map aB)=true:=pG (λ_=>rfl) l
theorem Ed (b:UInt8):((b.toNat:Int)=63)=(b=63):=by
 have:b=63↔b.toNat=63:=⟨λh=>by subst h;rfl,λh=>UInt8.toNat_inj.1 h⟩
 rw[this];simp;omega
theorem qL:∀(n:Nat) (s:ah),s.length<=n->gQ s=true->∀(l:List Int) (c0:Option Nat) (n0:Bool) {K:aR->SH->Prop},KB K (aV s l)->SC Tryz.prog 263 [.s s,.f (.p (.vs (l.map aB) c0 n0))] H0 K
 |n,[],hn,ho,l,c0,n0,K,hK=>by
  refine aX [] [] [] Tryz.func263 rfl (by kernel_rfl) ?_
  repeat' first
   |((with_reducible refine W.of ?_);conv=>whnf)
   |with_reducible refine W.fin (K:=K) hK ?_ rfl
   |((with_reducible refine bb (λh=>?_) (λh=>?_))<;>(try simp at h))
  all_goals(clear hK;cases l<;>simp[aV])
  omega
 |n,[c],hn,ho,[],c0,n0,K,hK=>by
  have hc:¬c=63:=by simpa[gQ] using ho
  refine aX [] [] [] Tryz.func263 rfl (by kernel_rfl) ?_
  repeat' first
   |((with_reducible refine W.of ?_);conv=>whnf)
   |with_reducible first
    |refine W.fin (K:=K) hK ?_ rfl
    |refine W.and (by kernel_rfl) ?_
   |((with_reducible refine bf ?_ ?_);focus(simp[Ed,hc]<;>omega))
   |((with_reducible refine bt ?_ ?_);focus(simp[]<;>omega))
   |((with_reducible refine bb (λh=>?_) (λh=>?_))<;>(try simp at h))
  all_goals(clear hK;simp_all[aV])
 |n,[c],hn,ho,k::l,c0,n0,K,hK=>by
  have hc:¬c=63:=by simpa[gQ] using ho
  refine aX [] [] [] Tryz.func263 rfl (by kernel_rfl) ?_
  repeat' first
   |((with_reducible refine W.of ?_);conv=>whnf)
   |with_reducible first
    |refine W.fin (K:=K) hK ?_ rfl
    |refine W.and (by kernel_rfl) ?_
    |refine Dy _ _ ?_
    |refine bt eK ?_
   |((with_reducible refine bf ?_ ?_);focus(simp[Ed,hc]<;>omega))
   |refine qL 0 [] (Nat.le_refl 0) rfl l _ _ ?_
   |((with_reducible refine bb (λh=>?_) (λh=>?_))<;>(try simp at h))
  all_goals(clear hK;cases l<;>simp_all[aV])
 |0,c::d::s,hn,ho,l,c0,n0,K,hK=>by simp at hn
 |n+1,c::d::s,hn,ho,l,c0,n0,K,hK=>by
  have hn1:s.length<=n:=by simp at hn;omega
  have hn2:(d::s).length<=n:=by simp at hn⊢;omega
  by_cases hc:c=63
  ·have ho1:gQ s=true:=by simpa[gQ,hc] using ho
   subst hc
   cases l with
   |nil=>
    refine aX [] [] [] Tryz.func263 rfl (by kernel_rfl) ?_
    repeat' first
     |((with_reducible refine W.of ?_);conv=>whnf)
     |with_reducible first
      |refine W.fin (K:=K) hK ?_ rfl
      |refine W.and (by kernel_rfl) ?_
     |refine qL n s hn1 ho1 [] _ _ ?_
     |((with_reducible refine bb (λh=>?_) (λh=>?_))<;>(try simp at h))
    all_goals(clear hK;simp_all[aV])
   |cons k l=>
    refine aX [] [] [] Tryz.func263 rfl (by kernel_rfl) ?_
    repeat' first
     |((with_reducible refine W.of ?_);conv=>whnf)
     |with_reducible first
      |refine W.fin (K:=K) hK ?_ rfl
      |refine W.and (by kernel_rfl) ?_
      |refine Dy _ _ ?_
      |refine bt eK ?_
     |refine qL n s hn1 ho1 l _ _ ?_
     |refine qL n s hn1 ho1 (k::l) _ _ ?_
     |((with_reducible refine bb (λh=>?_) (λh=>?_))<;>(try simp at h))
    all_goals(clear hK;simp_all[aV])
  ·have ho1:gQ (d::s)=true:=by simpa[gQ,hc] using ho
   cases l with
   |nil=>
    refine aX [] [] [] Tryz.func263 rfl (by kernel_rfl) ?_
    repeat' first
     |((with_reducible refine W.of ?_);conv=>whnf)
     |with_reducible first
      |refine W.fin (K:=K) hK ?_ rfl
      |refine W.and (by kernel_rfl) ?_
     |((with_reducible refine bf ?_ ?_);focus(simp[Ed,hc]<;>omega))
     |((with_reducible refine bt ?_ ?_);focus(simp[]<;>omega))
     |((with_reducible refine bb (λh=>?_) (λh=>?_))<;>(try simp at h))
    all_goals(clear hK;simp_all[aV])
   |cons k l=>
    refine aX [] [] [] Tryz.func263 rfl (by kernel_rfl) ?_
    repeat' first
     |((with_reducible refine W.of ?_);conv=>whnf)
     |with_reducible first
      |refine W.fin (K:=K) hK ?_ rfl
      |refine W.and (by kernel_rfl) ?_
      |refine Dy _ _ ?_
      |refine bt eK ?_
     |((with_reducible refine bf ?_ ?_);focus(simp[Ed,hc]<;>omega))
     |refine qL n (d::s) hn2 ho1 l _ _ ?_
     |((with_reducible refine bb (λh=>?_) (λh=>?_))<;>(try simp at h))
    all_goals(clear hK;simp_all[aV])
end
section
set_option maxRecDepth 100000
open Go.Vv Go.Ee
open Fo (hp cy cj)
theorem TX (s:ah) (h:aa):bA Tryz.prog 328 [.str s,.int .u8 38] h λr h'=>r=.ret (.int .i64 (Lib.indexByte s 38))/\h'=h:=
 jw (fn:=Tryz.f328) Tryz.func328 rfl rfl rfl rfl rfl
theorem Pf {P:Program} {f:FuncId} {K:aR->SH->Prop} {x y z:PV} {s:SH} (hz:z.isAgg=false) (hv:∀h,bA P f [x.v,y.v] h λr h'=>r=.ret z.v/\h'=h) (hK:W (K (.ret (.f (.p z))) s)):SC P f [.f (.p x),.f (.p y)] s K:=
 ⟨λρ h vargs hs ha=>by
  rcases vargs with _|⟨a,_|⟨b,_|⟨c,l⟩⟩⟩
  ·exact ha.elim
  ·exact ha.2.elim
  ·obtain⟨⟨e1,_⟩,⟨e2,_⟩,_⟩:=ha
   rw[e1,e2]
   refine(hv h).mono λr h' hh=>?_
   obtain⟨rfl,rfl⟩:=hh
   exact⟨_,s,ρ,hK,⟨rfl,hz⟩,hs,.refl ρ _⟩
  ·exact ha.2.2.elim⟩
theorem TW {K:aR->SH->Prop} (s:ah) (hK:W (K (.ret (.i (Lib.indexByte s 38))) H0)):SC Tryz.prog 328 [.s s,.f (.p (.int .u8 ((38:UInt8).toNat:Nat)))] H0 K:=Pf rfl (λh=>by simpa[PV.v] using TX s h) hK
theorem s7 {K:aR->SH->Prop} (s:ah) (hK:W (K (.ret (.b (bh s))) H0)):SC Tryz.prog 226 [.s s,.s [38]] H0 K:=by
 refine aX [] [] [] Tryz.func226 rfl (by kernel_rfl) ?_
 repeat' first
  |((with_reducible refine W.of ?_);conv=>whnf)
  |with_reducible first
   |refine W.fin (K:=K) hK ?_ rfl
   |refine fn [] [] Tryz.func272 rfl (by kernel_rfl) ?_
   |refine fn [] [] Tryz.func307 rfl (by kernel_rfl) ?_
   |refine fn [] [] Tryz.func302 rfl (by kernel_rfl) ?_
   |refine TW s ?_
  |((with_reducible refine bb (λh=>?_) (λh=>?_))<;>(try simp at h))
 ·subst h;rfl
 ·rw[<-zI]
section
variable(C:Cx) (E:Rec) (g:Good C.ns) (fl:Fl C.it) (n:Int) (h0:0<=n) (h1:n<(C.ns.length:Int)) (hE:HE C E n)
include g fl h0 h1 hE
theorem RC (hkd:(nd C.ns n).kind=37):iA C 218 [.i n] (om C.ns C.it E n) EV.s n:=by
 rcases g.nD h0 h1 (.inr hkd) with hkk|⟨a,hkk,a0,a1,ae⟩
 ·intro ty va lo sc lp q1 q2 ex K w l0 l1 hok hbad
  refine aX [] [] [4,5] Tryz.func218 rfl (by kernel_rfl) ?_
  repeat' first
   |((with_reducible refine W.of ?_);conv=>whnf)
   |with_reducible first
    |refine W.fin (K:=K) (hok _ _ _ _ _ _ _ _ ?_ ‹_›) rfl rfl
    |refine W.fin (K:=K) (hbad ⟨_,_,_⟩ ?_) rfl rfl
    |refine W.fin (K:=K) (hbad _ ?_) rfl rfl
    |refine bt (decide_eq_true ‹_›) ?_
    |refine aq ‹_› ‹_› ?_
    |refine W.and (by kernel_rfl) ?_
    |refine fn [] [] Tryz.func157 rfl (by kernel_rfl) ?_
    |refine fn [] [] Tryz.func95 rfl (by kernel_rfl) ?_
   |((with_reducible refine bt ?_ ?_);focus(simp[hkk]<;>omega))
   |((with_reducible refine bf ?_ ?_);focus(simp[hkk]<;>omega))
   |with_reducible first
    |refine nS C.it _ fl (λi k e v i0 k0 he hv hh=>?_) (λhh=>?_)
    |refine jv he ?_
    |refine jv hv ?_
    |refine SC.call ?_
   |((with_reducible refine bb (λh=>?_) (λh=>?_))<;>(try simp at h))
  all_goals(clear hok hbad hE;simp_all[om,ai,aN.then])
 ·have he0:ax C.ns n 0=a:=by simp[ax,hkk]
  have hEa:=hE a a0 a1 ae
  have a2:a<(C.ns.length:Int):=by omega
  intro ty va lo sc lp q1 q2 ex K w l0 l1 hok hbad
  refine aX [] [] [4,5] Tryz.func218 rfl (by kernel_rfl) ?_
  repeat' first
   |((with_reducible refine W.of ?_);conv=>whnf)
   |with_reducible first
    |refine W.fin (K:=K) (hok _ _ _ _ _ _ _ _ ?_ ‹_›) rfl rfl
    |refine W.fin (K:=K) (hbad ⟨_,_,_⟩ ?_) rfl rfl
    |refine W.fin (K:=K) (hbad _ ?_) rfl rfl
    |refine bt (decide_eq_true ‹_›) ?_
    |refine aq ‹_› ‹_› ?_
    |refine W.and (by kernel_rfl) ?_
    |refine fn [] [] Tryz.func157 rfl (by kernel_rfl) ?_
    |refine fn [] [] Tryz.func95 rfl (by kernel_rfl) ?_
   |((with_reducible refine on (aB a) ?_ ?_);focus(simp[hkk];done))
   |((with_reducible refine bt ?_ ?_);focus(simp[hkk]<;>omega))
   |with_reducible first
    |refine nS C.it _ fl (λi k e v i0 k0 he hv hh=>?_) (λhh=>?_)
    |refine jv he ?_
    |refine jv hv ?_
    |refine eN C E a a0 a2 a hEa _ _ _ _ _ _ _ _ _ _ ‹_› (by omega) (by omega) (λv ty va lo sc q1 q2 ex hF w=>?_) (λd hF=>?_)
    |refine SC.call ?_
   |((with_reducible refine bb (λh=>?_) (λh=>?_))<;>(try simp at h))
  all_goals(clear hok hbad hE;simp_all[om,ai,aN.then])
end
theorem qP (C:Cx) (g:Good C.ns) (ty:List ah) (va:List Int) (lo:List Lc) (sc:List (ah×Int)) (lp:Int):∀(f:Nat) (n:Int),n.toNat<f->0<=n->n<(C.ns.length:Int)->di C.ns ⟨ty,va,lo,sc,lp⟩ n->aG (nd C.ns n).kind=true->sS C 69 [.i n] (λst=>.ok (tH C.ns st f n) st) EV.b 0 ty va lo sc lp
 |0,n,hf,h0,_,_,_=>by omega
 |f+1,n,hf,h0,h1,p,hx=>by
  cases p with
  |var hkd ho=>
   obtain⟨o0,o1⟩:=ho
   intro q1 q2 ex K w l0 l1 hok hbad
   refine aX [] [] [4,5] Tryz.func69 rfl (by kernel_rfl) ?_
   repeat' first
    |((with_reducible refine W.of ?_);conv=>whnf)
    |with_reducible first
     |refine W.fin (K:=K) (hok _ _ _ _ _ _ _ _ ?_ ‹_›) rfl rfl
     |refine W.fin (K:=K) (hbad ⟨_,_,_⟩ ?_) rfl rfl
     |refine W.fin (K:=K) (hbad _ ?_) rfl rfl
     |refine bt (decide_eq_true ‹_›) ?_
     |refine bt (eO ‹_› ‹_›) ?_
     |refine aq ‹_› ‹_› ?_
     |refine gi ‹_› ‹_› ‹_› ?_
     |refine W.and (by kernel_rfl) ?_
     |refine fn [] [] Tryz.func95 rfl (by kernel_rfl) ?_
     |refine DJ w h0 h1 ?_
    |((with_reducible refine bt ?_ ?_);focus(simp[hkd]<;>omega))
    |with_reducible first
     |refine bt (decide_eq_true ⟨o0,o1⟩) ?_
     |refine aj (l:=lo) (by dsimp only at o1;omega) (λl hl=>?_)
     |refine SC.call ?_
    |((with_reducible refine bb (λh=>?_) (λh=>?_))<;>(try simp at h))
   clear hok hbad
   dsimp only
   rw[xm]
   simp_all
  |deref hkd hm hr ht hp=>
   obtain⟨a,hkk,a0,a1,ae⟩:=g.ej h0 h1 (by omega)
   have hal:(typeAt ⟨ty,va,lo,sc,lp⟩ a).length<2^62:=by have:=ht.2;simp[ax,hkk] at this;omega
   have he0:ax C.ns n 0=a:=by simp[ax,hkk]
   rw[he0] at hp ht hr
   have a2:a<(C.ns.length:Int):=by omega
   have hb:=qP C g ty va lo sc lp f a (by omega) a0 a2 hp ae
   rcases hkd with hkd|hkd
   all_goals
    intro q1 q2 ex K w l0 l1 hok hbad
    refine aX [] [] [4,5] Tryz.func69 rfl (by kernel_rfl) ?_
    repeat' first
     |((with_reducible refine W.of ?_);conv=>whnf)
     |with_reducible first
      |refine W.fin (K:=K) (hok _ _ _ _ _ _ _ _ ?_ ‹_›) rfl rfl
      |refine W.fin (K:=K) (hbad ⟨_,_,_⟩ ?_) rfl rfl
      |refine W.fin (K:=K) (hbad _ ?_) rfl rfl
      |refine bt (decide_eq_true ‹_›) ?_
      |refine bt (eO ‹_› ‹_›) ?_
      |refine aq ‹_› ‹_› ?_
      |refine gi ‹_› ‹_› ‹_› ?_
      |refine W.and (by kernel_rfl) ?_
      |refine fn [] [] Tryz.func95 rfl (by kernel_rfl) ?_
     |((with_reducible refine on (aB a) ?_ ?_);focus(simp[hkk];done))
     |((with_reducible refine bt ?_ ?_);focus(simp[hkd]<;>omega))
     |((with_reducible refine bf ?_ ?_);focus(simp[hkd]<;>omega))
     |with_reducible first
      |refine vS _ ?_
      |refine FH _ hal ?_
     |((with_reducible refine hb _ _ _ _ ‹_› (by omega) (by omega) (λv ty va lo sc q1 q2 ex hF w=>?_) (λd hF=>?_));(dsimp only at hF;cases hF))
     |with_reducible refine SC.call ?_
     |((with_reducible refine bb (λh=>?_) (λh=>?_))<;>(try simp at h))
    all_goals(clear hok hbad;dsimp only at*;rw[xm];simp_all)
  |other hk=>
   have hk2:(nd C.ns n).kind≠33/\(nd C.ns n).kind≠41/\(nd C.ns n).kind≠42:=by simp[bZ] at hk;omega
   intro q1 q2 ex K w l0 l1 hok hbad
   refine aX [] [] [4,5] Tryz.func69 rfl (by kernel_rfl) ?_
   repeat' first
    |((with_reducible refine W.of ?_);conv=>whnf)
    |with_reducible first
     |refine W.fin (K:=K) (hok _ _ _ _ _ _ _ _ ?_ ‹_›) rfl rfl
     |refine W.fin (K:=K) (hbad ⟨_,_,_⟩ ?_) rfl rfl
     |refine W.fin (K:=K) (hbad _ ?_) rfl rfl
     |refine bt (decide_eq_true ‹_›) ?_
     |refine bt (eO ‹_› ‹_›) ?_
     |refine aq ‹_› ‹_› ?_
     |refine gi ‹_› ‹_› ‹_› ?_
     |refine W.and (by kernel_rfl) ?_
     |refine fn [] [] Tryz.func95 rfl (by kernel_rfl) ?_
    |((with_reducible refine bf ?_ ?_);focus(simp[hk2.1,hk2.2.1,hk2.2.2]<;>omega))
    |with_reducible refine SC.call ?_
    |((with_reducible refine bb (λh=>?_) (λh=>?_))<;>(try simp at h))
   clear hok hbad
   dsimp only
   rw[xm]
   simp_all
section
variable(C:Cx) (E:Rec) (g:Good C.ns) (n:Int) (h0:0<=n) (h1:n<(C.ns.length:Int)) (hE:HE C E n) (hO:∀k,0<=k->k<n->aG (nd C.ns k).kind=true->rY C.ns E k)
include g h0 h1 hE hO
theorem Gt (hkd:(nd C.ns n).kind=43):iA C 224 [.i n] (ln C.ns E n) EV.s n:=by
 obtain⟨a,hkk,a0,a1,ae⟩:=g.ej h0 h1 (by omega)
 have he0:ax C.ns n 0=a:=by simp[ax,hkk]
 have a2:a<(C.ns.length:Int):=by omega
 have hEa:=hE a a0 a1 ae
 have hgl:=g.len
 intro ty va lo sc lp q1 q2 ex K w l0 l1 hok hbad
 refine aX [] [] [4,5] Tryz.func224 rfl (by kernel_rfl) ?_
 repeat' first
  |((with_reducible refine W.of ?_);conv=>whnf)
  |with_reducible first
   |refine W.fin (K:=K) (hok _ _ _ _ _ _ _ _ ?_ ‹_›) rfl rfl
   |refine W.fin (K:=K) (hbad ⟨_,_,_⟩ ?_) rfl rfl
   |refine W.fin (K:=K) (hbad _ ?_) rfl rfl
   |refine bt (decide_eq_true ‹_›) ?_
   |refine aq ‹_› ‹_› ?_
   |refine fn [] [] Tryz.func157 rfl (by kernel_rfl) ?_
   |refine fn [] [] Tryz.func95 rfl (by kernel_rfl) ?_
  |((with_reducible refine on (aB a) ?_ ?_);focus(simp[hkk];done))
  |((with_reducible refine fN C E a a0 a2 a hEa _ _ _ _ _ _ _ _ _ ‹_› (by omega) (by omega) (λv ty va lo sc q1 q2 ex hF w=>?_) (λd hF=>?_));(have T:=bq (hO a a0 a1 ae) ‹_› hF;have Tb:=T.bound (by omega)))
  |with_reducible first
   |refine xC _ ?_
   |refine s7 _ ?_
  |((with_reducible refine bt ?_ ?_);focus(simp[]<;>omega))
  |((with_reducible refine qP C g _ _ _ _ _ (a.toNat+1) a (by omega) a0 a2 T.pl ae _ _ _ _ ‹_› (by omega) (by omega) (λv ty va lo sc q1 q2 ex hF w=>?_) (λd hF=>?_));(dsimp only at hF;cases hF))
  |with_reducible refine SC.call ?_
  |((with_reducible refine bb (λh=>?_) (λh=>?_))<;>(try simp at h))
 all_goals(clear hok hbad hE hEa hO;try clear T Tb)
 all_goals simp_all[ln,ai,aN.then,cj,cy,sb]
end
end
section
set_option maxRecDepth 100000
set_option maxHeartbeats 4000000
open Go.Vv Go.Ee
variable{K:aR->SH->Prop}
abbrev H8 (c:Int):SH:=⟨[(0,.cells [.p (.int .u8 c)])],1⟩
theorem Qk (c:Int) (l:List Int) (c0:Option Nat) (n0:Bool) (hl:l.length<=4611686018427387904) (hs:∀i:Int,0<=i->l.all (fS c)=false->W (K (.ret (.i i)) (H8 c))) (hn:l.all (fS c)=true->W (K (.ret (.i (-1))) (H8 c))):
 SC Tryz.prog 251 [.f (.p (.vs (l.map aB) c0 n0)),.fn 304 [] [.ptr 0 0]] (H8 c) K:=by
 refine aX [] [] [] Tryz.func251 rfl (by kernel_rfl) ?_
 repeat' first
  |((with_reducible refine W.of ?_);conv=>whnf)
  |with_reducible first
   |refine fn [] [] Tryz.func304 rfl (by kernel_rfl) ?_
   |refine W.and (by kernel_rfl) ?_
  |((with_reducible refine bT [] [] [8] [] (λa:So l.length λi=>(l.drop i.toNat).all (fS c)=l.all (fS c)=>[.i a.1]) (λ_=>H8 c) (λa=>l.length-a.1.toNat) ⟨0,by omega,by omega,rfl⟩ (by kernel_rfl) ?_ ?_);(focus((with_reducible refine W.of ?_);(conv=>whnf);exact⟨rfl,rfl⟩));rintro⟨i,i0,i1,hi⟩;dsimp only)
  |with_reducible first
   |refine aj (l:=l) (by omega) (λx hx=>?_)
   |refine Dy _ _ ?_
  |((with_reducible refine bt ?_ ?_);focus(simp[]<;>omega))
  |with_reducible refine SC.call ?_
  |((with_reducible refine bb (λh=>?_) (λh=>?_))<;>(try simp at h))
 ·exact hs i i0 (by rw[<-hi,qx i0 hx,h];rfl)
 ·exact⟨⟨⟨i+1,by omega,by omega,by rw[<-hi,qx i0 hx,h];simp⟩,ao i0 (by omega),rfl,rfl⟩,rfl⟩
 ·exact hn (by rw[<-hi,wv (by omega)])
theorem Tq (c:Int) (es:List (List PV)) (l:List Int) (he:es=l.map aB) (c0:Option Nat) (n0:Bool) (hl:l.length<=4611686018427387904) (hK:KB K (l.all (fS c))):SC Tryz.prog 264 [.f (.p (.int .u8 c)),.f (.p (.vs es c0 n0))] H0 K:=by
 subst he
 refine aX [] [] [] Tryz.func264 rfl (by kernel_rfl) ?_
 repeat' first
  |((with_reducible refine W.of ?_);conv=>whnf)
  |with_reducible first
   |refine W.fin (K:=K) hK ?_ rfl
   |refine fn [] [] Tryz.func197 rfl (by kernel_rfl) ?_
   |refine Qk c l c0 n0 hl (λi i0 hh=>?_) (λhh=>?_)
   |refine SC.call ?_
 ·rw[hh];simp[i0]
 ·rw[hh];rfl
theorem xe (s:ah) (hs:gQ s=true) (es:List (List PV)) (l:List Int) (he:es=l.map aB) (c0:Option Nat) (n0:Bool) (hK:KB K (aV s l)):SC Tryz.prog 263 [.s s,.f (.p (.vs es c0 n0))] H0 K:=by
 subst he;exact qL _ s (Nat.le_refl _) hs l c0 n0 hK
theorem LZ (s:ah) (h:aa):bA Tryz.prog 328 [.str s,.int .u8 42] h λr h'=>r=.ret (.int .i64 (Lib.indexByte s 42))/\h'=h:=
 jw (fn:=Tryz.f328) Tryz.func328 rfl rfl rfl rfl rfl
theorem L0 (s:ah) (hK:W (K (.ret (.i (Lib.indexByte s 42))) H0)):SC Tryz.prog 328 [.s s,.f (.p (.int .u8 42))] H0 K:=Pf rfl (λh=>by simpa[PV.v] using LZ s h) hK
theorem Dp (s:ah) (i:Int) (hi:Lib.indexByte s 42=i) (hK:W (K (.ret (.i i)) H0)):SC Tryz.prog 262 [.s s,.f (.p (.int .u8 42))] H0 K:=by
 subst hi
 refine aX [] [] [] Tryz.func262 rfl (by kernel_rfl) ?_
 repeat' first
  |((with_reducible refine W.of ?_);conv=>whnf)
  |with_reducible first
   |refine W.fin (K:=K) hK rfl rfl
   |refine fn [] [] Tryz.func302 rfl (by kernel_rfl) ?_
   |refine L0 _ ?_
theorem Dq:∀(s:ah),Lib.indexByte s 42=match bu s with|some i=>(i:Int)|none=>-1
 |[]=>rfl
 |c::s=>by
  have ih:=Dq s
  unfold Lib.indexByte bu
  by_cases hc:c=42
  ·subst hc;simp
  ·have h1:(c==42)=false:=by simpa using hc
   rw[h1,if_neg hc,ih]
   cases bu s<;>simp
def sJ (s:ah):Bool:=match bu s with|none=>gQ s|some i=>decide (i+2<=s.length)&&gQ (s.take i)&&gQ (s.drop (i+2))&&decide (s.length<=4)
theorem T0 {p:Prop} [Decidable p] {f:ah->Bool} {a b:ah} (ha:f a=true) (hb:f b=true):f (if p then a else b)=true:=by split<;>assumption
theorem Ko (k num:Int):sJ (aL k num)=true:=by
 unfold aL
 repeat' first|rfl|refine T0 (f:=sJ) ?_ ?_
theorem N5 (x:Nd) (ks:List Int) (c0:Option Nat) (n0:Bool) (hl:ks.length<=17592186044415) (hK:KB K (aS (aL x.kind x.num) ks)):SC Tryz.prog 211 [kL x,.f (.p (.vs (ks.map aB) c0 n0))] H0 K:=by
 have ho:=Ko x.kind x.num
 generalize hs:aL x.kind x.num=s at hK ho
 have hi:=Dq s
 cases hst:bu s with
 |none=>
  simp only[sJ,hst] at ho hi
  refine aX [] [] [] Tryz.func211 rfl (by kernel_rfl) ?_
  repeat' first
   |((with_reducible refine W.of ?_);conv=>whnf)
   |with_reducible first
    |refine W.fin (K:=K) hK ?_ rfl
    |refine D4 x ?_
   |(rw[hs])
   |with_reducible first
    |refine Dp _ _ hi ?_
    |refine W.and (by kernel_rfl) ?_
    |refine xe _ ho _ _ rfl _ _ ?_
   |((with_reducible refine bt ?_ ?_);focus(simp[]<;>omega))
   |with_reducible refine SC.call ?_
   |((with_reducible refine bb (λh=>?_) (λh=>?_))<;>(try simp at h))
  clear hK;simp[aS,hst]
 |some i=>
  simp only[sJ,hst,Bool.and_eq_true,decide_eq_true_eq] at ho hi
  obtain⟨⟨⟨o1,o2⟩,o3⟩,o4⟩:=ho
  obtain⟨j,hj⟩:∃j:Int,j=(i:Int):=⟨_,rfl⟩
  rw[<-hj] at hi
  have hjn:j.toNat=i:=by omega
  rw[<-hjn] at o2
  rw[show i+2=(j+2).toNat by omega] at o3
  generalize hm:((ks.length:Int)-(s.length-j-2)).toNat=m
  have hfit:aS s ks=(if(ks.length:Int)<j+(s.length-j-2) then false else aV (s.take j.toNat) (ks.take j.toNat)&&((ks.take m).drop j.toNat).all (fS ((s[(j+1).toNat]?).getD 0).toNat)&&aV (s.drop (j+2).toNat) (ks.drop m)):=by
   simp only[aS,hst]
   rw[show(j+1).toNat=i+1 by omega,show(j+2).toNat=i+2 by omega,hjn]
   by_cases hlt:ks.length<i+(s.length-i-2)
   ·rw[if_pos hlt,if_pos (by omega)]
   ·rw[if_neg hlt,if_neg (by omega),show m=ks.length-(s.length-i-2) by omega]
  refine aX [] [] [] Tryz.func211 rfl (by kernel_rfl) ?_
  repeat' first
   |((with_reducible refine W.of ?_);conv=>whnf)
   |with_reducible first
    |refine W.fin (K:=K) hK ?_ rfl
    |refine D4 x ?_
   |(rw[hs])
   |with_reducible first
    |refine Dp _ _ hi ?_
    |refine W.and (by kernel_rfl) ?_
    |refine bt eK ?_
   |((with_reducible refine bf ?_ ?_);focus(simp[]<;>omega))
   |((with_reducible refine bt ?_ ?_);focus(simp[]<;>omega))
   |((with_reducible refine vN (by omega) (λc hc=>?_)))
   |with_reducible first
    |refine xe _ o2 _ (ks.take j.toNat) (by simp[List.map_take]) _ _ ?_
    |refine Tq _ _ ((ks.take m).drop j.toNat) (by simp[List.map_take,List.map_drop,hm]) _ _ (by simp;omega) ?_
    |refine xe _ o3 _ (ks.drop m) (by simp[List.map_drop,hm]) _ _ ?_
    |refine SC.call ?_
   |((with_reducible refine bb (λh=>?_) (λh=>?_))<;>(try simp at h))
  all_goals(clear hK;rw[hfit];clear hfit hm hjn hj hi hst)
  all_goals first
   |(rw[if_pos (by omega)];done)
   |(rw[if_neg (by omega)];simp[*];done)
   |(rw[if_neg (by omega),hc,Option.getD_some];clear hc;simp_all;done)
   |(rw[if_neg (by omega),hc,Option.getD_some];clear hc;simp_all;obtain⟨y,hy,hf⟩:=‹∃x,x∈List.drop j.toNat (List.take m ks)/\_›;intro ha;rw[ha y hy] at hf;cases hf)
end
section
set_option maxRecDepth 100000
set_option maxHeartbeats 4000000
open Go.Vv Go.Ee
variable{K:aR->SH->Prop}
abbrev HG (ns:List Nd) (k:Int):List PV:=aB (nd ns k).kind
abbrev lk (ns:List Nd) (l:List Int) (i:Int):Nat:=((l.take i.toNat).filter λk=>(nd ns k).kind==7).length
abbrev iB (i:Int) (l:List Int):Bool:=l.all (λk=>decide (0<=k)&&decide (k<i))
theorem vH (ns:List Nd) (k:Int):eH ns k=(nd ns k).kind:=by unfold eH nd;cases ns[k.toNat]?<;>rfl
theorem HH (ns:List Nd) (l:List Int):l.map (HG ns)=(l.map λk=>(nd ns k).kind).map aB:=by rw[List.map_map];rfl
theorem KI (x:Nd) (es:List (List PV)) (ks:List Int) (he:es=ks.map aB) (c0:Option Nat) (n0:Bool) (hl:ks.length<=17592186044415) (hK:KB K (aS (aL x.kind x.num) ks)):SC Tryz.prog 211 [kL x,.f (.p (.vs es c0 n0))] H0 K:=by
 subst he;exact N5 x ks c0 n0 hl hK
theorem po {i k:Int} {l:List Int} {j:Int} (j0:0<=j) (hk:l[j.toNat]?=some k) (h1:0<=k) (h2:k<i) (h:iB i (l.take j.toNat)=true):iB i (l.take (j+1).toNat)=true:=by
 rw[show(j+1).toNat=j.toNat+1 by omega,List.take_add_one,hk,iB,List.all_append,show(l.take j.toNat).all _=true from h];simp[h1,h2]
theorem qA {ns:List Nd} {k:Int} {l:List Int} {j:Int} (j0:0<=j) (hk:l[j.toNat]?=some k):lk ns l (j+1)=lk ns l j+if(nd ns k).kind=7 then 1 else 0:=by
 unfold lk
 rw[show(j+1).toNat=j.toNat+1 by omega,List.take_add_one,hk,List.filter_append,List.length_append]
 by_cases h:(nd ns k).kind=7<;>simp[h]
theorem MG {ns:List Nd} {i k:Int} {j:Nat} {x:Nd} (h0:0<=i) (hk:x.kids[j]?=some k) (h:k<0\/i<=k):fM ns i.toNat x=false:=by
 have:x.kids.all (λk=>decide (0<=k)&&decide (k<(i.toNat:Nat)))=false:=by
  rw[List.all_eq_false];exact⟨k,List.mem_of_getElem? hk,by simp;omega⟩
 unfold fM;rw[this];rfl
theorem Ab {ns:List Nd} {i j c:Int} {x:Nd} (h0:0<=i) (hj:iB i (x.kids.take j.toNat)=true) (hc:c=lk ns x.kids j) (h:(x.kids.length:Int)<=j):fM ns i.toNat x=(lE x.kind&&fm x.kind x.name&&tN x.kind x.num c&&decide (0<=x.mE)&&decide (x.mE<=x.to)&&aS (aL x.kind x.num) (((x.kids.take j.toNat)).map λk=>(nd ns k).kind)):=by
 rw[List.take_of_length_le (by omega)] at*
 subst hc
 unfold fM lk
 rw[List.take_of_length_le (by omega),show((i.toNat:Nat):Int)=i by omega,show x.kids.all _=true from hj,funext (vH ns)]
 simp
theorem Rk (ns:List Nd) (nb:Bool) (i:Int) (h0:0<=i) (h1:i<(ns.length:Int)) (hkl:(nd ns i).kids.length<=17592186044415) (hs:(nd ns i).name.length<4294967281) (hK:KB K (fM ns i.toNat (nd ns i))):SC Tryz.prog 145 [.agg [.p (.vs (ns.map aH) none nb)],.i i] H0 K:=by
 refine aX [] [(13,[(6,none)])] [] Tryz.func145 rfl (by kernel_rfl) ?_
 repeat' first
  |((with_reducible refine W.of ?_);conv=>whnf)
  |with_reducible refine W.fin (K:=K) hK ?_ rfl
  |((with_reducible refine aq h0 h1 ?_))
  |((with_reducible refine SL.nil 6 1 ?_);(with_reducible refine W.of ?_);(conv=>whnf);(with_reducible refine bT [] [] [6,7,18] [2] (λa:{a:Int×Int//0<=a.1/\a.1<=(nd ns i).kids.length/\iB i ((nd ns i).kids.take a.1.toNat)=true/\a.2=lk ns (nd ns i).kids a.1}=>[.f (.ref 3 a.1.1.toNat 1 none),.i a.1.2,.i a.1.1]) (λa=>⟨[(3,.arr 1 (((nd ns i).kids.take a.1.1.toNat).map (HG ns)) true),(1,b8 (nd ns i)),(0,.cells [.p (.vs (ns.map aH) none nb)])],4⟩) (λa=>(nd ns i).kids.length-a.1.1.toNat) ⟨(0,0),by omega,by omega,rfl,rfl⟩ (by kernel_rfl) ?_ ?_);(focus((with_reducible refine W.of ?_);(conv=>whnf);exact⟨rfl,rfl⟩));rintro⟨⟨j,c⟩,j0,j1,hj,hc⟩;dsimp only;(dsimp only at j0 j1 hj hc;have hcb:0<=c/\c<=j:=by have:=List.length_filter_le (λk=>(nd ns k).kind==7) ((nd ns i).kids.take j.toNat);simp only[List.length_take] at this;unfold lk at hc;omega))
  |((with_reducible refine aj (l:=(nd ns i).kids) (by omega) (λk hk=>?_)))
  |((with_reducible refine aq (n:=k) (by omega) (by omega) ?_))
  |with_reducible first
   |refine Bt (f:=HG ns) j0 hk ?_
   |refine HQ (by omega) ?_
   |refine Gq (by omega) ?_
  |((with_reducible refine bt ?_ ?_);focus(simp[gZ]<;>omega))
  |with_reducible first
   |refine bt eK ?_
   |refine Mg _ ?_
   |refine N7 _ hs ?_
   |refine Us _ _ ?_
   |refine KI _ _ (((nd ns i).kids.take j.toNat).map λk=>(nd ns k).kind) (HH ns _) _ _ (by rw[List.length_map,List.length_take];omega) ?_
   |refine SC.call ?_
  |((with_reducible refine bb (λh=>?_) (λh=>?_))<;>(try simp at h))
 all_goals(try clear hK)
 all_goals first
  |(rw[MG h0 hk (by omega)];done)
  |exact⟨⟨⟨(j+1,c+1),(by dsimp only;omega),(by dsimp only;omega),po j0 hk (by omega) (by omega) hj,by show c+1=_;rw[qA j0 hk,if_pos h];omega⟩,ao j0 (by omega),rfl,rfl⟩,rfl⟩
  |exact⟨⟨⟨(j+1,c),(by dsimp only;omega),(by dsimp only;omega),po j0 hk (by omega) (by omega) hj,by show c=_;rw[qA j0 hk,if_neg h];omega⟩,ao j0 (by omega),rfl,rfl⟩,rfl⟩
  |(have hb:=qA (ns:=ns) j0 hk;rw[if_pos h] at hb;refine⟨⟨⟨(j+1,c+1),?_,?_,po j0 hk (by omega) (by omega) hj,?_⟩,?_,rfl,rfl⟩,rfl⟩<;>(dsimp only;omega))
  |(rw[Ab h0 hj hc (by omega)];clear hc hj hcb;simp[*];done)
  |(rw[Ab h0 hj hc (by omega)];clear hc hj hcb;simp[*];intros;omega)
end
section
set_option maxRecDepth 100000
set_option maxHeartbeats 4000000
open Go.Vv Go.Ee
variable{K:aR->SH->Prop}
theorem Gh {f:Int->Bool} {l:List Int} {x i:Int} (h0:0<=i) (hx:l[i.toNat]?=some x):(l.drop i.toNat).any f=(f x||(l.drop (i+1).toNat).any f):=by
 obtain⟨h1,rfl⟩:=List.getElem?_eq_some_iff.1 hx
 rw[List.drop_eq_getElem_cons h1,List.any_cons,show(i+1).toNat=i.toNat+1 by omega]
theorem yZ (l:List Int) (v:Int) (es:List (List PV)) (he:es=l.map aB) (hl:l.length<=1048576) (c0:Option Nat) (n0:Bool) (hK:KB K (l.any (v==·))):SC Tryz.prog 212 [.f (.p (.vs es c0 n0)),.i v] H0 K:=by
 subst he
 refine aX [] [] [] Tryz.func212 rfl (by kernel_rfl) ?_
 repeat' first
  |((with_reducible refine W.of ?_);conv=>whnf)
  |with_reducible first
   |refine W.fin (K:=K) hK ?_ rfl
   |refine W.and (by kernel_rfl) ?_
   |refine fn [] [] Tryz.func265 rfl (by kernel_rfl) ?_
  |((with_reducible refine bT [] [] [8] [] (λa:So l.length λi=>(l.drop i.toNat).any (v==·)=l.any (v==·)=>[.i a.1]) (λ_=>H0) (λa=>l.length-a.1.toNat) ⟨0,by omega,by omega,rfl⟩ (by kernel_rfl) ?_ ?_);(focus((with_reducible refine W.of ?_);(conv=>whnf);exact⟨rfl,rfl⟩));rintro⟨i,i0,i1,hi⟩;dsimp only)
  |with_reducible refine aj (l:=l) (by omega) (λx hx=>?_)
  |((with_reducible refine bt ?_ ?_);focus(simp[]<;>omega))
  |((with_reducible refine bb (λh=>?_) (λh=>?_))<;>(try simp at h))
 ·rw[<-hi,Gh i0 hx];simp[h,i0]
 ·exact⟨⟨⟨i+1,by omega,by omega,by rw[<-hi,Gh i0 hx];simp[h]⟩,ao i0 (by omega),rfl,rfl⟩,rfl⟩
 ·rw[<-hi,List.drop_of_length_le (by omega)];rfl
abbrev gJ (n:Nat) (i:Int):List Int:=List.replicate i.toNat (-1)++List.replicate (n-i.toNat) 0
theorem Bq {l:List Nd} {k:List (List PV)->Prop} (h:W (k ((gJ l.length 0).map aB))):Fold (List.replicate (Int.toNat ((l.map aH).length:Int)) [PV.int .i64 0]) k:=fold_eq _ (by simp[gJ]) h
theorem wM {n:Nat} {i:Int} (i0:0<=i) (h:i<n):(gJ n i).set i.toNat (-1)=gJ n (i+1):=by
 obtain⟨m,hm⟩:∃m,n-i.toNat=m+1:=⟨n-i.toNat-1,by omega⟩
 unfold gJ
 rw[List.set_append,if_neg (by simp),show(i+1).toNat=i.toNat+1 by omega,show n-(i.toNat+1)=m by omega,hm]
 rw[List.replicate_succ,List.replicate_succ',List.append_assoc];simp
theorem GV {n:Nat} {i:Int} (h:(n:Int)<=i) (h1:i<=n):gJ n i=List.replicate n (-1):=by
 have:i=n:=by omega
 subst this;simp[gJ]
abbrev MO (ns:List Nd) (nb:Bool) (l:List Int):SH:=⟨[(1,.arr 1 (l.map aB) false),(0,.cells [.p (.vs (ns.map aH) none nb)])],2⟩
abbrev Uz (ns:List Nd) (nb:Bool) (x:Nd) (l:List Int):SH:=⟨[(2,b8 x),(1,.arr 1 (l.map aB) false),(0,.cells [.p (.vs (ns.map aH) none nb)])],3⟩
abbrev xz (ns:List Nd) (i:Int) (ks:List Int) (l:List Int):Option (List Int):=match cH i l ks with|none=>none|some o=>cJ (i.toNat+1) (ns.drop (i+1).toNat) o
theorem Rz {ns:List Nd} {i:Int} (i0:0<=i) (h:i<(ns.length:Int)) (l:List Int):cJ i.toNat (ns.drop i.toNat) l=xz ns i (nd ns i).kids l:=by
 have h1:i.toNat<ns.length:=by omega
 rw[List.drop_eq_getElem_cons h1,cJ,show((i.toNat:Nat):Int)=i by omega,xz,show(i+1).toNat=i.toNat+1 by omega,show nd ns i=ns[i.toNat] by simp[nd,h1]];rfl
theorem xA {ns:List Nd} {i j k:Int} {ks l:List Int} (j0:0<=j) (hk:ks[j.toNat]?=some k):xz ns i (ks.drop j.toNat) l=if 0<=(l[k.toNat]?).getD 0 then none else xz ns i (ks.drop (j+1).toNat) (l.set k.toNat i):=by
 obtain⟨h1,rfl⟩:=List.getElem?_eq_some_iff.1 hk
 rw[List.drop_eq_getElem_cons h1]
 simp only[xz,cH]
 by_cases h:0<=(l[ks[j.toNat].toNat]?).getD 0
 ·rw[if_pos h,if_pos h]
 ·rw[if_neg h,if_neg h,show(j+1).toNat=j.toNat+1 by omega]
theorem DK {ns:List Nd} {i j:Int} {ks l:List Int} (h:(ks.length:Int)<=j):xz ns i (ks.drop j.toNat) l=cJ (i.toNat+1) (ns.drop (i+1).toNat) l:=by
 rw[List.drop_of_length_le (by omega)];rfl
theorem O5 {ns:List Nd} {i:Int} (h:(ns.length:Int)<=i) (h1:i<=ns.length):cJ (Int.toNat 0) (ns.drop (Int.toNat 0)) (gJ ns.length i)=ca ns:=by rw[GV h h1];rfl
theorem O6 {ns:List Nd} {i:Int} (i0:0<=i) (h:i<(ns.length:Int)) {l:List Int} {o:Option (List Int)} (hj:cJ i.toNat (ns.drop i.toNat) l=o):xz ns i ((nd ns i).kids.drop (Int.toNat 0)) l=o:=by rw[<-hj,Rz i0 h];rfl
abbrev Ux (o:Option (List Int)):aR:=.ret (.bR (match o with|none=>[.f (.p (.vs [] none true)),.f (.p (.bool false))]|some l=>[.f (.p (.vs (l.map aB) none false)),.f (.p (.bool (qR l)))]))
theorem Fj (ns:List Nd) (nb:Bool) (hl:ns.length<=1048576) (hin:∀i:Int,0<=i->i<(ns.length:Int)->(nd ns i).kids.length<=17592186044415/\∀k∈(nd ns i).kids,0<=k/\k<(ns.length:Int)) (hK:∀o,ca ns=o->W (K (Ux o) H0)):SC Tryz.prog 146 [.agg [.p (.vs (ns.map aH) none nb)]] H0 K:=by
 refine aX [] [(18,[(4,none)])] [] Tryz.func146 rfl (by kernel_rfl) ?_
 repeat' first
  |((with_reducible refine W.of ?_);conv=>whnf)
  |with_reducible first
   |refine W.fin (K:=K) (hK none ?_) rfl rfl
   |refine W.fin (K:=K) (hK (some l) ?_) ?_ rfl
  |((with_reducible refine bt ?_ ?_);focus(simp[gZ]<;>omega))
  |with_reducible first
   |refine Bq ?_
   |refine dj ?_
   |refine bt eK ?_
  |((with_reducible refine bT [] [] [16] [] (λa:{i:Int//0<=i/\i<=ns.length}=>[.i a.1]) (λa=>MO ns nb (gJ ns.length a.1)) (λa=>ns.length-a.1.toNat) ⟨0,by omega,by omega⟩ (by kernel_rfl) ?_ ?_);(focus((with_reducible refine W.of ?_);(conv=>whnf);exact⟨rfl,rfl⟩));rintro⟨i,i0,i1⟩;dsimp only)
  |((with_reducible refine aj (l:=gJ ns.length i) (by simp;omega) (λx hx=>?_)))
  |((with_reducible refine bT [] [] [26] [] (λa:{p:Int×List Int//0<=p.1/\p.1<=ns.length/\p.2.length=ns.length/\cJ p.1.toNat (ns.drop p.1.toNat) p.2=ca ns}=>[.i a.1.1]) (λa=>MO ns nb a.1.2) (λa=>ns.length-a.1.1.toNat) ⟨(0,gJ ns.length i),by omega,by dsimp only;omega,by simp[gJ];omega,O5 h i1⟩ (by kernel_rfl) ?_ ?_);(focus((with_reducible refine W.of ?_);(conv=>whnf);exact⟨rfl,rfl⟩));rintro⟨⟨j,l⟩,j0,j1,jl,hj⟩;dsimp only;(dsimp only at j0 j1 jl hj))
  |((with_reducible refine aq j0 (by omega) ?_);(have hkl:=(hin j j0 (by omega)).1))
  |((with_reducible refine bT [] [] [34] [] (λa:{p:Int×List Int//0<=p.1/\p.1<=(nd ns j).kids.length/\p.2.length=ns.length/\xz ns j ((nd ns j).kids.drop p.1.toNat) p.2=ca ns}=>[.i a.1.1]) (λa=>Uz ns nb (nd ns j) a.1.2) (λa=>(nd ns j).kids.length-a.1.1.toNat) ⟨(0,l),by omega,by dsimp only;omega,jl,O6 j0 h hj⟩ (by kernel_rfl) ?_ ?_);(focus((with_reducible refine W.of ?_);(conv=>whnf);exact⟨rfl,rfl⟩));rintro⟨⟨q,l2⟩,q0,q1,ql,hq⟩;dsimp only;(dsimp only at q0 q1 ql hq))
  |((with_reducible refine aj (l:=(nd ns j).kids) (by omega) (λk hk=>?_));(have hkb:=(hin j j0 (by omega)).2 k (List.mem_of_getElem? hk)))
  |((with_reducible refine aj (l:=l2) (by omega) (λx hx=>?_)))
  |with_reducible first
   |refine yZ (l.take ((l.length:Int)-1).toNat) _ _ (by simp[List.map_take]) (by rw[List.length_take];omega) _ _ ?_
   |refine SC.call ?_
  |((with_reducible refine bb (λh=>?_) (λh=>?_))<;>(try simp at h))
 all_goals(try clear hK hin)
 ·exact⟨⟨⟨i+1,by omega,by omega⟩,ao i0 (by omega),rfl,by rw[wM i0 h]⟩,rfl⟩
 ·rw[<-hq,xA q0 hk,if_pos];rw[hx];exact h
 ·rename_i y hy
  exact⟨⟨⟨(q+1,l2.set k.toNat j),(by dsimp only;omega),(by dsimp only;omega),by simpa using ql,by rw[<-hq,xA q0 hk,if_neg];rw[hy];show¬(0:Int)<=y;omega⟩,ao q0 (by omega),rfl,rfl⟩,rfl⟩
 ·exact⟨⟨⟨(j+1,l2),(by dsimp only;omega),(by dsimp only;omega),ql,by rw[<-hq,DK h,show(j+1).toNat=j.toNat+1 by omega]⟩,ao j0 (by omega),rfl,rfl⟩,rfl⟩
 all_goals try(rw[<-hj,List.drop_of_length_le (by omega)];rfl)
 all_goals first
  |(subst h;rfl)
  |(have:=List.length_pos_iff.2 ‹¬l=[]›;exfalso;omega)
  |(have h1:=List.length_pos_iff.2 ‹¬l=[]›;have h2:(l.length==0)=false:=by simp;omega
    simp only[Ux,qR,h2,Bool.false_or,show((l.length:Int)-1).toNat=l.length-1 by omega])
end
section
set_option maxRecDepth 100000
set_option maxHeartbeats 4000000
open Go.Vv Go.Ee
variable{K:aR->SH->Prop}
abbrev uR (up:List Int):List Int:=pD up up.length (List.replicate up.length 0)
theorem O7 {l:List Int} {k:List (List PV)->Prop} (h:W (k ((List.replicate l.length (0:Int)).map aB))):Fold (List.replicate (Int.toNat ((l.map aB).length:Int)) [PV.int .i64 0]) k:=fold_eq _ (by simp) h
theorem GF {up out:List Int} {i u:Int} (i0:0<=i) (hu:up[i.toNat]?=some u):pD up (i+1).toNat out=pD up (i-1+1).toNat (if 0<=u then out.set i.toNat ((out[u.toNat]?).getD 0+1) else out):=by
 rw[show(i+1).toNat=i.toNat+1 by omega,show(i-1+1).toNat=i.toNat by omega,pD,gb,hu];rfl
theorem bE {α:Type} {f:α->List PV} {l:List α} {i:Nat} {a:α} (h:l[i]?=some a):(l.map f)[i]?=some (f a):=by rw[List.getElem?_map,h];rfl
abbrev Ti (up:List Int):Type:={p:Int×List Int// -1<=p.1/\p.1<up.length/\p.2.length=up.length/\(∀v∈p.2,0<=v/\v<=up.length-1-p.1)/\pD up (p.1+1).toNat p.2=uR up}
def TA (up:List Int):Ti up:=⟨(((up.map aB).length:Int)-1,List.replicate up.length 0),by simp;omega,by simp;omega,by simp,λv hv=>by have:=List.eq_of_mem_replicate hv;simp;omega,by dsimp only;rw[List.length_map,show((up.length:Int)-1+1).toNat=up.length by omega]⟩
theorem GG (up:List Int) (c0:Option Nat) (n0:Bool) (hl:up.length<=1048576) (hb:∀v∈up,v<up.length) (hK:W (K (.ret (.f (.p (.vs ((uR up).map aB) none false)))) H0)):SC Tryz.prog 148 [.f (.p (.vs (up.map aB) c0 n0))] H0 K:=by
 refine aX [] [] [] Tryz.func148 rfl (by kernel_rfl) ?_
 repeat' first
  |((with_reducible refine W.of ?_);conv=>whnf)
  |with_reducible refine W.fin (K:=K) hK ?_ rfl
  |((with_reducible refine bt ?_ ?_);focus(simp[gZ]<;>omega))
  |with_reducible first
   |refine O7 ?_
   |refine dj ?_
  |((with_reducible refine bT [] [] [4] [] (λa:Ti up=>[.i a.1.1]) (λa=>⟨[(0,.arr 1 (a.1.2.map aB) false)],1⟩) (λa=>(a.1.1+1).toNat) (TA up) (by kernel_rfl) ?_ ?_);(focus((with_reducible refine W.of ?_);(conv=>whnf);exact⟨rfl,rfl⟩));rintro⟨⟨i,l⟩,i0,i1,il,iv,hi⟩;dsimp only;(dsimp only at i0 i1 il iv hi))
  |with_reducible refine on (aB u) (bE hu) ?_
  |((with_reducible refine aj (l:=up) (by omega) (λu hu=>?_));(have hub:=hb u (List.mem_of_getElem? hu)))
  |((with_reducible refine aj (l:=l) (by omega) (λx hx=>?_));(have hxb:=iv x (List.mem_of_getElem? hx)))
  |((with_reducible refine bb (λh=>?_) (λh=>?_))<;>(try simp at h))
 ·rename_i y hy hyb
  refine⟨⟨⟨(i-1,l.set i.toNat (y+1)),(by dsimp only;omega),(by dsimp only;omega),by simpa using il,λv hv=>?_,by rw[<-hi,GF ‹_› hu,if_pos ‹_›,hy];rfl⟩,(by dsimp only;omega),rfl,rfl⟩,rfl⟩
  rcases List.mem_or_eq_of_mem_set hv with hv|hv
  ·have:=iv v hv;dsimp only;omega
  ·dsimp only;omega
 ·exact⟨⟨⟨(i-1,l),(by dsimp only;omega),(by dsimp only;omega),il,λv hv=>by have:=iv v hv;dsimp only;omega,by rw[<-hi,GF ‹_› hu,if_neg (by omega)]⟩,(by dsimp only;omega),rfl,rfl⟩,rfl⟩
 ·rw[<-hi,show(i+1).toNat=0 by omega];rfl
end
section
set_option maxRecDepth 100000
set_option maxHeartbeats 4000000
open Go.Vv Go.Ee
variable{K:aR->SH->Prop}
abbrev sX (ns:List Nd) (l:List (Nd×Nat)):Bool:=l.all λp=>fM ns p.2 p.1
theorem Al {ns:List Nd} (h:(ns.length:Int)<1\/(20000:Int)<ns.length):bK ns=false:=by
 unfold bK
 rcases h with h|h
 ·rw[decide_eq_false (by omega)];rfl
 ·rw[show decide (ns.length<=20000)=false from decide_eq_false (by omega)];simp
theorem kK {ns:List Nd} {i:Int} (h0:0<=i) (h:i<(ns.length:Int)):ns[i.toNat]?=some (nd ns i):=by
 have:i.toNat<ns.length:=by omega
 simp[nd,this]
theorem B5 {ns:List Nd} (h1:(1:Int)<=ns.length) (h:¬(nd ns ((ns.length:Int)-1)).kind=1):bK ns=false:=by
 unfold bK
 rw[show ns[ns.length-1]?=some (nd ns ((ns.length:Int)-1)) by rw[<-kK (by omega) (by omega),show((ns.length:Int)-1).toNat=ns.length-1 by omega],Option.map_some,show(some (nd ns ((ns.length:Int)-1)).kind==some 1)=false by simpa using h]
 simp
theorem Fv {ns:List Nd} (h:sX ns ns.zipIdx=false):bK ns=false:=by
 unfold bK;rw[show ns.zipIdx.all _=false from h];simp
theorem Ge {ns:List Nd} {i:Int} (h0:0<=i) (h:i<(ns.length:Int)):sX ns (ns.zipIdx.drop i.toNat)=(fM ns i.toNat (nd ns i)&&sX ns (ns.zipIdx.drop (i+1).toNat)):=by
 have h1:i.toNat<ns.zipIdx.length:=by simp;omega
 rw[List.drop_eq_getElem_cons h1,sX,List.all_cons,show(i+1).toNat=i.toNat+1 by omega]
 have h2:i.toNat<ns.length:=by omega
 simp[nd,h2]
theorem Px {ns:List Nd} (hkl:∀x∈ns,x.kids.length<=17592186044415) (h:sX ns ns.zipIdx=true) (i:Int) (h0:0<=i) (h1:i<(ns.length:Int)):(nd ns i).kids.length<=17592186044415/\∀k∈(nd ns i).kids,0<=k/\k<(ns.length:Int):=by
 have hm:=kK h0 h1
 refine⟨hkl _ (List.mem_of_getElem? hm),λk hk=>?_⟩
 have:=oQ ((List.all_eq_true.1 h) (nd ns i,i.toNat) (List.mem_zipIdx_iff_getElem?.2 hm)) k hk
 omega
theorem qZ {ns:List Nd} (h1:(1:Int)<=ns.length) (h2:(ns.length:Int)<=20000) (hk:(nd ns ((ns.length:Int)-1)).kind=1) (h:sX ns ns.zipIdx=true):bK ns=(match ca ns with|none=>false|some o=>qR o&&decide ((uR o).foldl max 0<=400)):=by
 unfold bK
 rw[show ns[ns.length-1]?=some (nd ns ((ns.length:Int)-1)) by rw[<-kK (by omega) (by omega),show((ns.length:Int)-1).toNat=ns.length-1 by omega],Option.map_some,hk,show ns.zipIdx.all _=true from h,decide_eq_true (by omega),decide_eq_true (by omega)]
 rfl
theorem LD {ns:List Nd} {o:List Int} (h1:(1:Int)<=ns.length) (h2:(ns.length:Int)<=20000) (h:ca ns=some o):o.length<=1048576/\(∀v∈o,v<o.length)/\(uR o).length<=17592186044415/\∃a,(uR o)[0]?=some a/\(uR o).foldl max 0=(uR o).foldl max a:=by
 obtain⟨a1,a2⟩:=gk (by omega) h
 obtain⟨b1,b2⟩:=zb o o.length (List.replicate o.length 0) (λv hv=>by have:=List.eq_of_mem_replicate hv;omega)
 rw[List.length_replicate] at b2
 refine⟨by omega,λv hv=>by have:=(a2 v hv).2;omega,by rw[b2];omega,?_⟩
 replace b1:∀v∈uR o,0<=v:=b1
 replace b2:(uR o).length=o.length:=b2
 cases hd:uR o with
 |nil=>rw[hd] at b2;simp at b2;omega
 |cons a l=>
  rw[hd] at b1
  refine⟨a,rfl,?_⟩
  have:=b1 a (by simp)
  simp only[List.foldl_cons]
  rw[Int.max_eq_right this,Int.max_self]
theorem cB {ns:List Nd} {i:Int} (h0:0<=i) (h:i<(ns.length:Int)):nd ns i∈ns:=List.mem_of_getElem? (kK h0 h)
theorem Pw {ns:List Nd} {i:Int} (hi:sX ns (ns.zipIdx.drop i.toNat)=sX ns ns.zipIdx) (h:(ns.length:Int)<=i):sX ns ns.zipIdx=true:=by
 rw[<-hi,List.drop_of_length_le (by rw[List.length_zipIdx];omega)];rfl
theorem sG {ns:List Nd} {k:List PV->Prop} (h:(1:Int)<=ns.length) (hk:W (k (aH (nd ns ((ns.length:Int)-1))))):iK (ns.map aH)[(((ns.map aH).length:Int)-1).toNat]? k:=
 on (aH (nd ns ((ns.length:Int)-1))) (by rw[List.length_map];exact bE (kK (by omega) (by omega))) hk
abbrev VC (b:Bool):aR:=.ret (.i (if b=true then 0 else 3))
theorem C7 (ns:List Nd) (nb:Bool) (hb:(ns.length:Int)<=9223372036854775807) (hkl:∀x∈ns,x.kids.length<=17592186044415) (hnl:∀x∈ns,x.name.length<4294967281) (hK:W (K (VC (bK ns)) H0)):SC Tryz.prog 85 [.agg [.p (.vs (ns.map aH) none nb)]] H0 K:=by
 refine aX [] [] [] Tryz.func85 rfl (by kernel_rfl) ?_
 repeat' first
  |((with_reducible refine W.of ?_);conv=>whnf)
  |with_reducible refine W.fin (K:=K) hK ?_ rfl
  |((with_reducible refine bt ?_ ?_);focus(simp[]<;>omega))
  |with_reducible refine sG (by omega) ?_
  |((with_reducible refine bT [] [] [29] [] (λa:So ns.length λi=>sX ns (ns.zipIdx.drop i.toNat)=sX ns ns.zipIdx=>[.i a.1]) (λ_=>⟨[(0,.cells [.p (.vs (ns.map aH) none nb)])],1⟩) (λa=>ns.length-a.1.toNat) ⟨0,by omega,by omega,rfl⟩ (by kernel_rfl) ?_ ?_);(focus((with_reducible refine W.of ?_);(conv=>whnf);exact⟨rfl,rfl⟩));rintro⟨i,i0,i1,hi⟩;dsimp only)
  |with_reducible refine Rk ns nb i i0 (by omega) (hkl _ (cB i0 (by omega))) (hnl _ (cB i0 (by omega))) ?_
  |((have hall:=Pw hi (by omega));(with_reducible refine Fj ns nb (by omega) (Px hkl hall) (λo ho=>?_));(cases o))
  |((obtain⟨m1,m2,m3,a,m4,m5⟩:=LD (by omega) (by omega) ‹ca ns=some _›);(with_reducible refine GG _ _ _ m1 m2 ?_))
  |with_reducible first
   |refine Ud _ a m4 m3 _ _ ?_
   |refine SC.call ?_
  |((with_reducible refine bb (λh=>?_) (λh=>?_))<;>(try simp at h))
 all_goals(try clear hK)
 all_goals first
  |(rw[Al (by omega)];rfl)
  |(rw[B5 (by omega) h];rfl)
  |(rw[Fv (by rw[<-hi,Ge i0 (by omega),h];rfl)];rfl)
  |exact⟨⟨⟨i+1,by omega,by omega,by rw[<-hi,Ge i0 (by omega),h];rfl⟩,ao i0 (by omega),rfl,rfl⟩,rfl⟩
  |(rw[qZ (by omega) (by omega) ‹_› hall,ho];rfl)
  |(rw[qZ (by omega) (by omega) ‹_› hall,ho];simp_all;done)
  |(rw[qZ (by omega) (by omega) ‹_› hall,ho];simp_all;omega)
end
section
set_option maxRecDepth 100000
set_option maxHeartbeats 4000000
open Go.Vv Go.Ee
open Fo (hp cy cj aC)
theorem iW {ns:List Nd} {n:Int} {name ty:ah} {mt:Bool} {st st':St} {v:Int} (h:jd ns n name ty mt st=.ok v st'):bw ns n name ty mt st=.ok () st':=by
 unfold jd at h;cases hq:bw ns n name ty mt st<;>simp_all[aN.then]
theorem iX {ns:List Nd} {n:Int} {name ty:ah} {mt:Bool} {st:St} {d:Dg} (h:jd ns n name ty mt st=.bad d):bw ns n name ty mt st=.bad d:=by
 unfold jd at h;cases hq:bw ns n name ty mt st<;>simp_all[aN.then]
theorem vR (C:Cx) (g:Good C.ns) (fl:Fl C.it) (io:fg C.it):∀(f:Nat) (n:Int),n.toNat<f->0<=n->n<(C.ns.length:Int)->bN (nd C.ns n).kind=true->∀(t:ah),cM t->∀(ty:List ah) (va:List Int) (lo:List Lc) (sc:List (ah×Int)) (lp:Int),t.length<=cU lo.length+200000->sS C 274 [.i n,.s t] (mi C.ns C.it f n t) (λ_=>.bR []) 0 ty va lo sc lp
 |0,n,hf,h0,_,_,_,_,_,_,_,_,_,_=>by omega
 |f+1,n,hf,h0,h1,hx,t,ht,ty,va,lo,sc,lp,htl=>by
  have hV:=λname mt=>lP C (n:=n) h0 h1 name t mt ht ty va lo sc lp htl
  by_cases h54:(nd C.ns n).kind=54
  ·rcases g.xd h0 h1 h54 with hkk|⟨a,hkk,a0,a1,ae⟩
   ·intro q1 q2 ex K w l0 l1 hok hbad
    refine aX [] [] [4,5] Tryz.func274 rfl (by kernel_rfl) ?_
    have htb:t.length<2^62:=by have:=w.ll;unfold cU at htl;dsimp only at this;omega
    repeat' first
     |((with_reducible refine W.of ?_);conv=>whnf)
     |with_reducible first
      |refine W.fin (K:=K) (hok () _ _ _ _ _ _ _ ?_ ‹_›) rfl rfl
      |refine W.fin (K:=K) (hbad ⟨_,_,_⟩ ?_) rfl rfl
      |refine W.fin (K:=K) (hbad _ ?_) rfl rfl
      |refine bt (decide_eq_true ‹_›) ?_
      |refine aq ‹_› ‹_› ?_
      |refine W.and (by kernel_rfl) ?_
      |refine fn [] [] Tryz.func157 rfl (by kernel_rfl) ?_
      |refine fn [] [] Tryz.func95 rfl (by kernel_rfl) ?_
     |((with_reducible refine bt ?_ ?_);focus(simp[h54]<;>omega))
     |((with_reducible refine bf ?_ ?_);focus(simp[h54]<;>omega))
     |((with_reducible refine bf ?_ ?_);focus(simp[hkk]<;>omega))
     |with_reducible first
      |refine vS _ ?_
      |refine ny _ htb ?_
      |refine nS C.it _ fl (λi k e v i0 k0 he hv hh=>?_) (λhh=>?_)
      |refine jv he ?_
      |refine jv hv ?_
     |((with_reducible refine L6 C n h0 h1 _ _ _ _ _ _ _ _ _ _ ‹_› (by omega) (by omega) (λv ty va lo sc q1 q2 ex hF w=>?_) (λd hF=>?_));(dsimp only at hF;cases hF))
     |with_reducible refine SC.call ?_
     |((with_reducible refine bb (λh=>?_) (λh=>?_))<;>(try simp at h))
    all_goals(clear hok hbad hV;try clear hR)
    all_goals(try clear hf hx ht htl htb w l0 l1;first|(simp[nM,B1,tv,oI,ai,aN.then,cy,cj,bg,aI, *];done)|simp_all[nM,B1,tv,oI,ai,aN.then,cy,cj,bg,aI])
   ·have he0:ax C.ns n 0=a:=by simp[ax,hkk]
    have a2:a<(C.ns.length:Int):=by omega
    have hR:=vR C g fl io f a (by omega) a0 a2 ae
    intro q1 q2 ex K w l0 l1 hok hbad
    refine aX [] [] [4,5] Tryz.func274 rfl (by kernel_rfl) ?_
    have htb:t.length<2^62:=by have:=w.ll;unfold cU at htl;dsimp only at this;omega
    have hlb:2000000<=cU lo.length:=Nat.le_add_right _ _
    repeat' first
     |((with_reducible refine W.of ?_);conv=>whnf)
     |with_reducible first
      |refine W.fin (K:=K) (hok () _ _ _ _ _ _ _ ?_ ‹_›) rfl rfl
      |refine W.fin (K:=K) (hbad ⟨_,_,_⟩ ?_) rfl rfl
      |refine W.fin (K:=K) (hbad _ ?_) rfl rfl
      |refine bt (decide_eq_true ‹_›) ?_
      |refine aq ‹_› ‹_› ?_
      |refine W.and (by kernel_rfl) ?_
      |refine fn [] [] Tryz.func157 rfl (by kernel_rfl) ?_
      |refine fn [] [] Tryz.func95 rfl (by kernel_rfl) ?_
     |((with_reducible refine on (aB a) ?_ ?_);focus(simp[hkk];done))
     |((with_reducible refine bt ?_ ?_);focus(simp[h54]<;>omega))
     |((with_reducible refine bf ?_ ?_);focus(simp[h54]<;>omega))
     |((with_reducible refine bt ?_ ?_);focus(simp[hkk]<;>omega))
     |((with_reducible refine bf ?_ ?_);focus(simp[hkk]<;>omega))
     |with_reducible first
      |refine vS _ ?_
      |refine ny _ htb ?_
     |((with_reducible refine nS C.it _ fl (λi k e v i0 k0 he hv hh=>?_) (λhh=>?_));obtain⟨_,hv1,hv2⟩:=io.variant hh;have hv3:cM ([]++v.ty):=.inl hv1;have hv4:cM ([38]++v.ty):=.inr ⟨v.ty,.inr rfl,hv1⟩;have hv5:cM ([38,109,117,116,32]++v.ty):=.inr ⟨v.ty,.inl rfl,hv1⟩)
     |with_reducible first
      |refine jv he ?_
      |refine jv hv ?_
     |((with_reducible refine bt ?_ ?_);focus(simp[]<;>omega))
     |with_reducible refine hR _ ‹_› _ _ _ _ _ (by simp;omega) _ _ _ _ ‹_› (by omega) (by omega) (λv ty va lo sc q1 q2 ex hF w=>?_) (λd hF=>?_)
     |((with_reducible refine L6 C n h0 h1 _ _ _ _ _ _ _ _ _ _ ‹_› (by omega) (by omega) (λv ty va lo sc q1 q2 ex hF w=>?_) (λd hF=>?_));(dsimp only at hF;cases hF))
     |with_reducible refine SC.call ?_
     |((with_reducible refine bb (λh=>?_) (λh=>?_))<;>(try simp at h))
    all_goals(clear hok hbad hV;try clear hR)
    all_goals(try clear hf hx ht htl htb w l0 l1;first|(simp[nM,B1,tv,oI,ai,aN.then,cy,cj,bg,aI, *];done)|simp_all[nM,B1,tv,oI,ai,aN.then,cy,cj,bg,aI])
  ·intro q1 q2 ex K w l0 l1 hok hbad
   refine aX [] [] [4,5] Tryz.func274 rfl (by kernel_rfl) ?_
   have htb:t.length<2^62:=by have:=w.ll;unfold cU at htl;dsimp only at this;omega
   repeat' first
    |((with_reducible refine W.of ?_);conv=>whnf)
    |with_reducible first
     |refine W.fin (K:=K) (hok () _ _ _ _ _ _ _ ?_ ‹_›) rfl rfl
     |refine W.fin (K:=K) (hbad ⟨_,_,_⟩ ?_) rfl rfl
     |refine W.fin (K:=K) (hbad _ ?_) rfl rfl
     |refine bt (decide_eq_true ‹_›) ?_
     |refine aq ‹_› ‹_› ?_
     |refine W.and (by kernel_rfl) ?_
     |refine fn [] [] Tryz.func157 rfl (by kernel_rfl) ?_
     |refine fn [] [] Tryz.func95 rfl (by kernel_rfl) ?_
    |((with_reducible refine bf ?_ ?_);focus(simp[h54]<;>omega))
    |with_reducible first
     |refine vS _ ?_
     |refine ny _ htb ?_
    |((with_reducible refine hV _ _ _ _ _ _ ‹_› (by omega) (by omega) (λv ty va lo sc q1 q2 ex hF w=>?_) (λd hF=>?_));(have hF:=iW hF);rotate_left;(have hF:=iX hF);rotate_right)
    |((with_reducible refine L6 C n h0 h1 _ _ _ _ _ _ _ _ _ _ ‹_› (by omega) (by omega) (λv ty va lo sc q1 q2 ex hF w=>?_) (λd hF=>?_));(dsimp only at hF;cases hF))
    |with_reducible refine SC.call ?_
    |((with_reducible refine bb (λh=>?_) (λh=>?_))<;>(try simp at h))
   all_goals(clear hok hbad hV;try clear hR)
   all_goals(try clear hf hx ht htl htb w l0 l1;first|(simp[nM,B1,tv,oI,ai,aN.then,cy,cj,bg,aI, *];done)|simp_all[nM,B1,tv,oI,ai,aN.then,cy,cj,bg,aI])
end
section
set_option maxRecDepth 100000
set_option maxHeartbeats 4000000
open Go.Vv Go.Ee
theorem Dr {ns:List Nd} {l:List Int} {i k:Int} {st:St} (h0:0<=i) (hk:l[i.toNat]?=some k):w6 ns (l.drop i.toNat) st=(r7 ns k false st).then λ_ st=>w6 ns (l.drop (i+1).toNat) st:=by
 obtain⟨h1,rfl⟩:=List.getElem?_eq_some_iff.1 hk
 rw[List.drop_eq_getElem_cons h1,E0,show(i+1).toNat=i.toNat+1 by omega]
theorem Ef {ns:List Nd} {it:aw} {n:Int} {l:List Int} {i k:Int} {st:St} (h0:0<=i) (hk:l[i.toNat]?=some k):uj ns it n (l.drop i.toNat) st=(si ns it k st).then λ_ st=>uj ns it n (l.drop (i+1).toNat) st:=by
 obtain⟨h1,rfl⟩:=List.getElem?_eq_some_iff.1 hk
 rw[List.drop_eq_getElem_cons h1,FL,show(i+1).toNat=i.toNat+1 by omega]
theorem L5 {ns:List Nd} (g:Good ns) {n:Int} (may:Bool) (st:St) (h0:0<=n) (h1:n<(ns.length:Int)):r7 ns n may st=if may=false/\((nd ns n).kind=14\/(nd ns n).kind=15) then ai ns 142 n else w6 ns (nd ns n).kids st:=by
 unfold r7;rw[eC g may h0 h1]
 by_cases h:may=false/\((nd ns n).kind=14\/(nd ns n).kind=15)
 ·rw[if_pos h,if_pos h]
 ·rw[if_neg h,if_neg h];rfl
theorem Of {ns:List Nd} (g:Good ns) {it:aw} {n:Int} (st:St) (h0:0<=n) (h1:n<(ns.length:Int)):si ns it n st=if(nd ns n).kind=13/\cw it (nd ns n).name=false then ai ns 141 n else uj ns it n (nd ns n).kids st:=by
 unfold si;rw[iu g it h0 h1]
 by_cases h:(nd ns n).kind=13/\cw it (nd ns n).name=false
 ·rw[if_pos h,if_pos h]
 ·rw[if_neg h,if_neg h];rfl
theorem L2 {ns:List Nd} {l:List Int} {i:Int} {st:St} (h:(l.length:Int)<=i):w6 ns (l.drop i.toNat) st=.ok () st:=by rw[List.drop_of_length_le (by omega)];rfl
theorem Od {ns:List Nd} {it:aw} {n:Int} {l:List Int} {i:Int} {st:St} (h:(l.length:Int)<=i):uj ns it n (l.drop i.toNat) st=.ok (cz ns n.toNat) st:=by rw[List.drop_of_length_le (by omega)];rfl
abbrev Ro (n:Nat) (P:Int->Prop):Type:={a:Int×Option Nat×Option Nat×List (List PV)//0<=a.1/\a.1<=n/\P a.1}
section
variable(C:Cx) (g:Good C.ns)
include g
theorem zM:∀(m:Nat) (n:Int) (may:Bool),n.toNat<=m->0<=n->n<(C.ns.length:Int)->iA C 333 [.i n,.b may] (r7 C.ns n may) (λ_=>.bR []) 0
 |m,n,may,hm,h0,h1=>by
  have hkl:=g.kids _ (List.mem_of_getElem? (Good.at h0 h1))
  have hks:=g.num h0 h1
  have hS:=λst=>L5 g may st h0 h1
  have hR:=λk (k0:0<=k) (k1:k<n)=>zM (m-1) k false (by omega) k0 (by omega)
  intro ty va lo sc lp q1 q2 ex K w l0 l1 hok hbad
  refine aX [] [] [4,5] Tryz.func333 rfl (by kernel_rfl) ?_
  repeat' first
   |((with_reducible refine W.of ?_);conv=>whnf)
   |with_reducible first
    |refine W.fin (K:=K) (hok () _ _ _ _ _ _ _ ?_ ‹_›) rfl rfl
    |refine W.fin (K:=K) (hbad ⟨_,_,_⟩ ?_) rfl rfl
    |refine W.fin (K:=K) (hbad _ ?_) rfl rfl
    |refine bt (decide_eq_true ‹_›) ?_
    |refine aq ‹_› ‹_› ?_
    |refine W.and (by kernel_rfl) ?_
    |refine fn [] [] Tryz.func157 rfl (by kernel_rfl) ?_
    |refine fn [] [] Tryz.func95 rfl (by kernel_rfl) ?_
   |((with_reducible refine bT [] [] [30] [4,5,6] (λa:Ro (nd C.ns n).kids.length λi=>w6 C.ns ((nd C.ns n).kids.drop i.toNat) ⟨ty,va,lo,sc,lp⟩=w6 C.ns (nd C.ns n).kids ⟨ty,va,lo,sc,lp⟩=>[.i a.1.1]) (λa=>F5 8 9 10 [(7,b8 (nd C.ns n))] C ⟨ty,va,lo,sc,a.1.2.1,a.1.2.2.1,a.1.2.2.2⟩ lp) (λa=>(nd C.ns n).kids.length-a.1.1.toNat) ⟨(0,q1,q2,ex),by omega,by omega,rfl⟩ (by kernel_rfl) ?_ ?_);(focus((with_reducible refine W.of ?_);(conv=>whnf);exact⟨rfl,rfl⟩));rintro⟨⟨i,r1,r2,ex2⟩,i0,i1,hi⟩;dsimp only;(dsimp only at i0 i1 hi))
   |((with_reducible refine aj (l:=(nd C.ns n).kids) (by omega) (λk hk=>?_));obtain⟨k0,k1⟩:=hks k (List.mem_of_getElem? hk))
   |((with_reducible refine hR k k0 k1 _ _ _ _ _ _ _ _ _ ‹_› (by omega) (by omega) (λv ty va lo sc q1 q2 ex hF w=>?_) (λd hF=>?_));cases Qo hF)
   |((with_reducible refine bt ?_ ?_);focus(simp[]<;>omega))
   |with_reducible refine SC.call ?_
   |((with_reducible refine bb (λh=>?_) (λh=>?_))<;>(try simp at h))
  all_goals(clear hok hbad hR hks)
  all_goals first
   |(refine⟨⟨⟨(i+1,q1,q2,ex),by omega,by omega,?_⟩,ao i0 (by omega),rfl,rfl⟩,rfl⟩;rw[<-hi,Dr i0 hk,hF];rfl)
   |(rw[Dr i0 hk,hF] at hi;have hi:=hi.symm;simp_all[aN.then];done)
   |(rw[L2 (by omega)] at hi;have hi:=hi.symm;simp_all;done)
   |(simp_all[ai];done)
variable(fl:Fl C.it) (hT:∀(n:Int) (K:aR->SH->Prop),0<=n->n<(C.ns.length:Int)->aJ (nd C.ns n).kind=true->W (K (.ret (.bR [.f (.p (.str (cz C.ns n.toNat))),.f (.p (.int .i64 0))])) H0)->SC Tryz.prog 339 [.agg [.p (.vs (C.ns.map aH) none C.nb)],.i n] H0 K)
include fl hT
theorem Ot:∀(m:Nat) (n:Int) (may:Bool),n.toNat<=m->0<=n->n<(C.ns.length:Int)->aJ (nd C.ns n).kind=true->iA C 332 [.i n,.b may] (si C.ns C.it n) EV.s 0
 |m,n,may,hm,h0,h1,ht=>by
  have hkl:=g.kids _ (List.mem_of_getElem? (Good.at h0 h1))
  have hks:=g.num h0 h1
  have hkt:=KU g h0 h1 ht
  have hS:=λst=>Of g (it:=C.it) st h0 h1
  have hR:=λk (k0:0<=k) (k1:k<n) (kt:aJ (nd C.ns k).kind=true)=>Ot (m-1) k may (by omega) k0 (by omega) kt
  have sf:=λx hx=>(fl.sf x hx).2
  have ef:=λx hx=>(fl.ef x hx).2.1
  intro ty va lo sc lp q1 q2 ex K w l0 l1 hok hbad
  refine aX [(3,[(0,[]),(1,[]),(2,[]),(3,[]),(4,[]),(5,[]),(6,[]),(11,[]),(7,[11]),(8,[]),(9,[]),(10,[]),(12,[]),(13,[])]),(4,[(0,[]),(1,[]),(2,[]),(3,[]),(4,[]),(5,[]),(6,[]),(11,[]),(7,[11]),(8,[]),(9,[]),(10,[]),(12,[]),(13,[])])] [] [4,5] Tryz.func332 rfl (by kernel_rfl) ?_
  repeat' first
   |((with_reducible refine W.of ?_);conv=>whnf)
   |with_reducible first
    |refine W.fin (K:=K) (hok _ _ _ _ _ _ _ _ ?_ ‹_›) rfl rfl
    |refine W.fin (K:=K) (hbad ⟨_,_,_⟩ ?_) rfl rfl
    |refine W.fin (K:=K) (hbad _ ?_) rfl rfl
    |refine bt (decide_eq_true ‹_›) ?_
    |refine aq ‹_› ‹_› ?_
    |refine W.and (by kernel_rfl) ?_
    |refine fn [] [] Tryz.func157 rfl (by kernel_rfl) ?_
    |refine fn [] [] Tryz.func95 rfl (by kernel_rfl) ?_
    |refine ug C.it _ fl.n1 fl.n2 fl.n3 sf (λx c b hs=>?_) (λhs=>?_)
    |refine P7 C.it _ fl.n1 fl.n2 fl.n3 ef (λx c b he=>?_) (λhe=>?_)
    |refine hT n _ h0 h1 ht ?_
   |((with_reducible refine bT [] [] [56] [4,5,6] (λa:Ro (nd C.ns n).kids.length λi=>uj C.ns C.it n ((nd C.ns n).kids.drop i.toNat) ⟨ty,va,lo,sc,lp⟩=uj C.ns C.it n (nd C.ns n).kids ⟨ty,va,lo,sc,lp⟩=>[.i a.1.1]) (λa=>F5 8 9 10 [(7,b8 (nd C.ns n))] C ⟨ty,va,lo,sc,a.1.2.1,a.1.2.2.1,a.1.2.2.2⟩ lp) (λa=>(nd C.ns n).kids.length-a.1.1.toNat) ⟨(0,q1,q2,ex),by omega,by omega,rfl⟩ (by kernel_rfl) ?_ ?_);(focus((with_reducible refine W.of ?_);(conv=>whnf);exact⟨rfl,rfl⟩));rintro⟨⟨i,r1,r2,ex2⟩,i0,i1,hi⟩;dsimp only;(dsimp only at i0 i1 hi))
   |((with_reducible refine bT [] [] [56] [4,5,6,8,9] (λa:Ro (nd C.ns n).kids.length λi=>uj C.ns C.it n ((nd C.ns n).kids.drop i.toNat) ⟨ty,va,lo,sc,lp⟩=uj C.ns C.it n (nd C.ns n).kids ⟨ty,va,lo,sc,lp⟩=>[.i a.1.1]) (λa=>F5 10 11 12 [(7,b8 (nd C.ns n))] C ⟨ty,va,lo,sc,a.1.2.1,a.1.2.2.1,a.1.2.2.2⟩ lp) (λa=>(nd C.ns n).kids.length-a.1.1.toNat) ⟨(0,q1,q2,ex),by omega,by omega,rfl⟩ (by kernel_rfl) ?_ ?_);(focus((with_reducible refine W.of ?_);(conv=>whnf);exact⟨rfl,rfl⟩));rintro⟨⟨i,r1,r2,ex2⟩,i0,i1,hi⟩;dsimp only;(dsimp only at i0 i1 hi))
   |((with_reducible refine aj (l:=(nd C.ns n).kids) (by omega) (λk hk=>?_));obtain⟨k0,k1⟩:=hks k (List.mem_of_getElem? hk))
   |((with_reducible refine hR k k0 k1 (hkt k (List.mem_of_getElem? hk)) _ _ _ _ _ _ _ _ _ ‹_› (by omega) (by omega) (λv ty va lo sc q1 q2 ex hF w=>?_) (λd hF=>?_));cases SN hF)
   |((with_reducible refine bt ?_ ?_);focus(simp[]<;>omega))
   |with_reducible refine SC.call ?_
   |((with_reducible refine bb (λh=>?_) (λh=>?_))<;>(try simp at h))
  all_goals(clear hok hbad hR hks)
  all_goals first
   |(refine⟨⟨⟨(i+1,q1,q2,ex),by omega,by omega,?_⟩,ao i0 (by omega),rfl,rfl⟩,rfl⟩;rw[<-hi,Ef i0 hk,hF];rfl)
   |(rw[hS,if_neg (by simp_all[cw])];first
      |rw[<-hi,Ef i0 hk,hF];rfl
      |rw[<-hi,Od (by omega)])
   |(simp_all[ai,cw];done)
end
end
end Go.Proofs.YtdjkoddnnogejaaGreat
