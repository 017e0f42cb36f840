/- Part of the proof of CheckTrees: plain laws and steps of its walks, for all arguments. -/
import Derived.Test.YtdjkoddnnogejaaGreatZFg
set_option linter.unusedSimpArgs false
set_option linter.unusedVariables false
set_option linter.unusedSectionVars false
namespace Go.Proofs.YtdjkoddnnogejaaGreat
section
set_option maxRecDepth 100000
set_option maxHeartbeats 4000000
open Go.Vv Go.Ee
attribute [local irreducible] bC aP bZ nd ax typeAt
theorem D1 {α:Type} {f:α->List PV} {l:List α} {i:Nat} {a:α} (h:i<l.length):((l.set i a).map f)[i]?=some (f a):=by simp[h]
section
variable(C:Cx) (E:Rec) (g:Good C.ns) (fl:Fl C.it) (io:fg C.it) (n:Int) (h0:0<=n) (h1:n<(C.ns.length:Int)) (hE:Oo C E n) (hO:HO C E n) (hkI:∀s,(cV C.ns (ak C.ns)).contains s=cw C.it s) (hkl:(cV C.ns (ak C.ns)).length<=1048576)
include h0 h1
theorem Se (hk:(nd C.ns n).kind=33):dS C 239 [.i n] (dc C.ns C.it C.ret E n) EV.s (BS n) n:=by
 intro ty va lo sc lp ex K w l0 l1 hok hbad
 refine aX [(10,[(0,[]),(1,[]),(2,[]),(3,[]),(4,[]),(5,[]),(6,[]),(7,[]),(8,[3]),(9,[]),(10,[])])] [] [3,4] Tryz.func239 rfl (by kernel_rfl) ?_
 have hvl:va.length=C.ns.length:=w.vl
 have hsl:sc.length<=1048576:=by have h2:=w.sl;have h3:=w.ll;dsimp only at h2 h3;omega
 have hnv:n.toNat<va.length:=by omega
 repeat' first
  |((with_reducible refine W.of ?_);conv=>whnf)
  |with_reducible first
   |refine W.fin (K:=K) (hok _ _ _ _ _ _ ?_ (Ek w _ _) (Nat.le_refl _)) rfl rfl
   |refine W.fin (K:=K) (hok _ _ _ _ _ _ ?_ ‹_› ?_) rfl rfl
   |refine W.fin (K:=K) (hbad _ _ _ _ _ _ _ _ _ ?_ ?_ ?_ ?_ ?_ ?_) rfl rfl
   |refine bt (decide_eq_true ‹_›) ?_
   |refine bt (eO ‹_› ‹_›) ?_
   |refine aq ‹_› ‹_› ?_
   |refine dj ?_
   |refine W.and (by kernel_rfl) ?_
   |refine fn [] [] Tryz.func51 rfl (by kernel_rfl) ?_
   |refine fn [] [] Tryz.func173 rfl (by kernel_rfl) ?_
  |((with_reducible refine ND C _ _ _ _ _ _ _ _ _ _ hsl (λv hv=>?_) (λhv=>?_));(obtain⟨p,hp,rfl⟩:=vL hv;obtain⟨v0,v1⟩:=w.sc p hp;dsimp only at v1))
  |with_reducible first
   |refine on (aB p.2) (D1 hnv) ?_
   |refine on (aB (-1)) (D1 hnv) ?_
   |refine bt (decide_eq_true (And.intro v0 v1)) ?_
   |refine aj (l:=lo) (by omega) (λx hx=>?_)
   |refine aj (l:=va) (by omega) (λy hy=>?_)
  |((with_reducible refine bt ?_ ?_);focus(simp[hk]<;>omega))
  |((with_reducible refine bf ?_ ?_);focus(simp[hk]<;>omega))
  |with_reducible refine SC.call ?_
 all_goals(clear hok hbad)
 all_goals first|assumption|exact Wf.tl ‹_›|exact Wf.vl ‹_›|exact trivial|omega|(simp_all[dc,Cs,List.length_set,BS,aN.then,ai];done)|(simp_all[dc,Cs,List.length_set,BS,aN.then,ai];omega)|(simp only[BS,bg,aI,aE,aF,List.length_cons,List.length_nil,List.length_append] at*;omega)|skip
include g fl io hE hO hkI hkl
theorem Ki (hx:aG (nd C.ns n).kind=true):dS C 239 [.i n] (dc C.ns C.it C.ret E n) EV.s (BS n) n:=by
 have hgl:=g.len
 have hnl:=g.pX h0 h1
 by_cases h33:(nd C.ns n).kind=33
 ·exact Se C E n h0 h1 h33
 by_cases h41:(nd C.ns n).kind=41
 ·intro ty va lo sc lp ex K w l0 l1 hok hbad
  refine aX [(10,[(0,[]),(1,[]),(2,[]),(3,[]),(4,[]),(5,[]),(6,[]),(7,[]),(8,[3]),(9,[]),(10,[])])] [] [3,4] Tryz.func239 rfl (by kernel_rfl) ?_
  repeat' first
   |((with_reducible refine W.of ?_);conv=>whnf)
   |with_reducible first
    |refine W.fin (K:=K) (hok _ _ _ _ _ _ ?_ ‹_› ?_) rfl rfl
    |refine W.fin (K:=K) (hbad _ _ _ _ _ _ _ _ _ ?_ ?_ ?_ ?_ ?_ ?_) rfl rfl
    |refine bt (decide_eq_true ‹_›) ?_
    |refine aq ‹_› ‹_› ?_
    |refine W.and (by kernel_rfl) ?_
   |((with_reducible refine bf ?_ ?_);focus(simp[h41]<;>omega))
   |with_reducible first
    |refine RT C E g n h0 h1 hE hO fl io h41 _ _ _ _ _ _ _ ‹_› (by omega) (by omega) (λv ty va lo sc ex hF w hs=>?_) (λv de df dt ty va lo sc ex hF hB he ht hv hs=>?_)
    |refine SC.call ?_
   |((with_reducible refine bb (λh=>?_) (λh=>?_))<;>(try simp at h))
  all_goals(clear hok hbad hE hO hkI hkl)
  all_goals first|assumption|exact Wf.tl ‹_›|exact Wf.vl ‹_›|exact trivial|omega|(simp_all[dc,aN.then,ai];done)|(simp_all[dc,aN.then,ai];omega)|(simp only[BS,bg,aI,aE,aF,List.length_cons,List.length_nil,List.length_append] at*;omega)|skip
 by_cases h42:(nd C.ns n).kind=42
 ·intro ty va lo sc lp ex K w l0 l1 hok hbad
  refine aX [(10,[(0,[]),(1,[]),(2,[]),(3,[]),(4,[]),(5,[]),(6,[]),(7,[]),(8,[3]),(9,[]),(10,[])])] [] [3,4] Tryz.func239 rfl (by kernel_rfl) ?_
  repeat' first
   |((with_reducible refine W.of ?_);conv=>whnf)
   |with_reducible first
    |refine W.fin (K:=K) (hok _ _ _ _ _ _ ?_ ‹_› ?_) rfl rfl
    |refine W.fin (K:=K) (hbad _ _ _ _ _ _ _ _ _ ?_ ?_ ?_ ?_ ?_ ?_) rfl rfl
    |refine bt (decide_eq_true ‹_›) ?_
    |refine aq ‹_› ‹_› ?_
    |refine W.and (by kernel_rfl) ?_
   |((with_reducible refine bf ?_ ?_);focus(simp[h42]<;>omega))
   |with_reducible first
    |refine NO C E g n h0 h1 hE hO h42 _ _ _ _ _ _ _ ‹_› (by omega) (by omega) (λv ty va lo sc ex hF w hs=>?_) (λv de df dt ty va lo sc ex hF hB he ht hv hs=>?_)
    |refine SC.call ?_
   |((with_reducible refine bb (λh=>?_) (λh=>?_))<;>(try simp at h))
  all_goals(clear hok hbad hE hO hkI hkl)
  all_goals first|assumption|exact Wf.tl ‹_›|exact Wf.vl ‹_›|exact trivial|omega|(simp_all[dc,aN.then,ai];done)|(simp_all[dc,aN.then,ai];omega)|(simp only[BS,bg,aI,aE,aF,List.length_cons,List.length_nil,List.length_append] at*;omega)|skip
 by_cases h43:(nd C.ns n).kind=43
 ·intro ty va lo sc lp ex K w l0 l1 hok hbad
  refine aX [(10,[(0,[]),(1,[]),(2,[]),(3,[]),(4,[]),(5,[]),(6,[]),(7,[]),(8,[3]),(9,[]),(10,[])])] [] [3,4] Tryz.func239 rfl (by kernel_rfl) ?_
  repeat' first
   |((with_reducible refine W.of ?_);conv=>whnf)
   |with_reducible first
    |refine W.fin (K:=K) (hok _ _ _ _ _ _ ?_ ‹_› ?_) rfl rfl
    |refine W.fin (K:=K) (hbad _ _ _ _ _ _ _ _ _ ?_ ?_ ?_ ?_ ?_ ?_) rfl rfl
    |refine bt (decide_eq_true ‹_›) ?_
    |refine aq ‹_› ‹_› ?_
    |refine W.and (by kernel_rfl) ?_
   |((with_reducible refine bf ?_ ?_);focus(simp[h43]<;>omega))
   |with_reducible first
    |refine Fq C E g n h0 h1 hE hO h43 _ _ _ _ _ _ _ ‹_› (by omega) (by omega) (λv ty va lo sc ex hF w hs=>?_) (λv de df dt ty va lo sc ex hF hB he ht hv hs=>?_)
    |refine SC.call ?_
   |((with_reducible refine bb (λh=>?_) (λh=>?_))<;>(try simp at h))
  all_goals(clear hok hbad hE hO hkI hkl)
  all_goals first|assumption|exact Wf.tl ‹_›|exact Wf.vl ‹_›|exact trivial|omega|(simp_all[dc,aN.then,ai];done)|(simp_all[dc,aN.then,ai];omega)|(simp only[BS,bg,aI,aE,aF,List.length_cons,List.length_nil,List.length_append] at*;omega)|skip
 by_cases h44:(nd C.ns n).kind=44
 ·intro ty va lo sc lp ex K w l0 l1 hok hbad
  refine aX [(10,[(0,[]),(1,[]),(2,[]),(3,[]),(4,[]),(5,[]),(6,[]),(7,[]),(8,[3]),(9,[]),(10,[])])] [] [3,4] Tryz.func239 rfl (by kernel_rfl) ?_
  repeat' first
   |((with_reducible refine W.of ?_);conv=>whnf)
   |with_reducible first
    |refine W.fin (K:=K) (hok _ _ _ _ _ _ ?_ ‹_› ?_) rfl rfl
    |refine W.fin (K:=K) (hbad _ _ _ _ _ _ _ _ _ ?_ ?_ ?_ ?_ ?_ ?_) rfl rfl
    |refine bt (decide_eq_true ‹_›) ?_
    |refine aq ‹_› ‹_› ?_
    |refine W.and (by kernel_rfl) ?_
   |((with_reducible refine bf ?_ ?_);focus(simp[h44]<;>omega))
   |with_reducible first
    |refine Sa C E g n h0 h1 hE hO h44 _ _ _ _ _ _ _ ‹_› (by omega) (by omega) (λv ty va lo sc ex hF w hs=>?_) (λv de df dt ty va lo sc ex hF hB he ht hv hs=>?_)
    |refine SC.call ?_
   |((with_reducible refine bb (λh=>?_) (λh=>?_))<;>(try simp at h))
  all_goals(clear hok hbad hE hO hkI hkl)
  all_goals first|assumption|exact Wf.tl ‹_›|exact Wf.vl ‹_›|exact trivial|omega|(simp_all[dc,aN.then,ai];done)|(simp_all[dc,aN.then,ai];omega)|(simp only[BS,bg,aI,aE,aF,List.length_cons,List.length_nil,List.length_append] at*;omega)|skip
 intro ty va lo sc lp ex K w l0 l1 hok hbad
 refine aX [(10,[(0,[]),(1,[]),(2,[]),(3,[]),(4,[]),(5,[]),(6,[]),(7,[]),(8,[3]),(9,[]),(10,[])])] [] [3,4] Tryz.func239 rfl (by kernel_rfl) ?_
 have hM:(nd C.ns n).kind=46->oM C.ns C.it E n ⟨ty,va,lo,sc,lp⟩=lI C.ns C.it E n ⟨ty,va,lo,sc,lp⟩:=λhk=>E9 g io h0 h1 hO hk w
 have hBr:(nd C.ns n).kind=45->ik C.ns E n ⟨ty,va,lo,sc,lp⟩=iO C.ns E n ⟨ty,va,lo,sc,lp⟩:=λhk=>by
  obtain⟨b1,b2,b3⟩:=yT g h0 h1 hk hO
  exact B3 C.ns w b1 b2 b3
 repeat' first
  |((with_reducible refine W.of ?_);conv=>whnf)
  |with_reducible first
   |refine W.fin (K:=K) (hok _ _ _ _ _ _ ?_ ‹_› ?_) rfl rfl
   |refine W.fin (K:=K) (hbad _ _ _ _ _ _ _ _ _ ?_ ?_ ?_ ?_ ?_ ?_) rfl rfl
   |refine bt (decide_eq_true ‹_›) ?_
   |refine aq ‹_› ‹_› ?_
   |refine W.and (by kernel_rfl) ?_
   |refine NA C E g fl n h0 h1 hE io ‹_› _ _ _ _ _ _ _ ‹_› (by omega) (by omega) (λv ty va lo sc ex hF w hs=>?_) (λv de df dt ty va lo sc ex hF hB he ht hv hs=>?_)
   |refine NH C E g fl n h0 h1 hE ‹_› hnl _ _ _ _ _ _ _ ‹_› (by omega) (by omega) (λv ty va lo sc ex hF w hs=>?_) (λv de df dt ty va lo sc ex hF hB he ht hv hs=>?_)
   |refine NL C E g fl n h0 h1 hE ‹_› _ _ _ _ _ _ _ ‹_› (by omega) (by omega) (λv ty va lo sc ex hF w hs=>?_) (λv de df dt ty va lo sc ex hF hB he ht hv hs=>?_)
   |refine RM C E g n h0 h1 hE ‹_› _ _ _ _ _ _ _ ‹_› (by omega) (by omega) (λv ty va lo sc ex hF w hs=>?_) (λv de df dt ty va lo sc ex hF hB he ht hv hs=>?_)
  |((with_reducible refine NB C E g n h0 h1 hE hO ‹_› _ _ _ _ _ _ _ ‹_› (by omega) (by omega) (λv ty va lo sc ex hF w hs=>?_) (λv de df dt ty va lo sc ex hF hB he ht hv hs=>?_));(rw[hBr ‹_›] at hF;rotate_left;rw[hBr ‹_›] at hF;rotate_right))
  |((with_reducible refine J8 C E g fl io n h0 h1 hE hO ‹_› _ _ _ _ _ _ _ ‹_› (by omega) (by omega) (λv ty va lo sc ex hF w hs=>?_) (λv de df dt ty va lo sc ex hF hB he ht hv hs=>?_));(rw[hM ‹_›] at hF;rotate_left;rw[hM ‹_›] at hF;rotate_right))
  |with_reducible refine RN C E g n h0 h1 hE hO hkI hkl ‹_› _ _ _ _ _ _ _ ‹_› (by omega) (by omega) (λv ty va lo sc ex hF w hs=>?_) (λv de df dt ty va lo sc ex hF hB he ht hv hs=>?_)
  |((with_reducible refine bf ?_ ?_);focus(simp[h33,h41,h42,h43,h44]<;>omega))
  |((with_reducible refine O4 (g.ej h0 h1 (by omega)) ?_);obtain⟨k0,k1,ke⟩:=T6 (g.ej h0 h1 (by omega));have k2:ax C.ns n 0<(C.ns.length:Int):=by omega)
  |with_reducible first
   |refine dM C E (ax C.ns n 0) k0 k2 (ax C.ns n 0) (hE _ k0 k1 ke) _ _ _ _ _ _ _ _ ‹_› (by omega) (by omega) (λv ty va lo sc ex hF w hs=>?_) (λv de df dt ty va lo sc ex hF hB he ht hv hs=>?_)
   |refine SC.call ?_
  |((with_reducible refine bb (λh=>?_) (λh=>?_))<;>(try simp at h))
 all_goals(clear hok hbad hE hO hkI hkl)
 all_goals(try clear hM hBr)
 all_goals first|assumption|exact Wf.tl ‹_›|exact Wf.vl ‹_›|exact trivial|omega|(simp_all[dc,BS,bg,aI,aE,aN.then,ai];done)|(simp_all[dc,BS,bg,aI,aE,aN.then,ai];omega)|(simp only[BS,bg,aI,aE,aF,List.length_cons,List.length_nil,List.length_append] at*;omega)|skip
 all_goals(simp[aG] at hx;omega)
theorem J2 (hx:aG (nd C.ns n).kind=true):dS C 174 [.i n] (λst=>(dc C.ns C.it C.ret E n st).then λs st=>.ok s {st with types:=st.types.set n.toNat s}) EV.s (BS n) n:=by
 intro ty va lo sc lp ex K w l0 l1 hok hbad
 refine aX [] [] [3,4] Tryz.func174 rfl (by kernel_rfl) ?_
 repeat' first
  |((with_reducible refine W.of ?_);conv=>whnf)
  |with_reducible first
   |refine W.fin (K:=K) (hok _ _ _ _ _ _ ?_ (Wf.setType w _ _) ?_) rfl rfl
   |refine W.fin (K:=K) (hok _ _ _ _ _ _ ?_ ‹_› ?_) rfl rfl
   |refine W.fin (K:=K) (hbad _ _ _ _ _ _ _ _ _ ?_ ?_ ?_ ?_ ?_ ?_) rfl rfl
   |refine bt (eO ‹_› ‹_›) ?_
   |refine gi ‹_› ‹_› ‹_› ?_
   |refine dj ?_
   |refine fn [] [] Tryz.func51 rfl (by kernel_rfl) ?_
   |refine Ki C E g fl io n h0 h1 hE hO hkI hkl hx _ _ _ _ _ _ _ ‹_› (by omega) (by omega) (λv ty va lo sc ex hF w hs=>?_) (λv de df dt ty va lo sc ex hF hB he ht hv hs=>?_)
   |refine aj (l:=ty) (by omega) (λs hts=>?_)
   |refine SC.call ?_
 all_goals(clear hok hbad hE hO hkI hkl)
 all_goals first|assumption|exact Wf.tl ‹_›|exact Wf.vl ‹_›|exact trivial|omega|(simp_all[List.length_set,aN.then,ai];done)|(simp_all[List.length_set,aN.then,ai];omega)|(simp only[BS,bg,aI,aE,aF,List.length_cons,List.length_nil,List.length_append] at*;omega)|skip
end
theorem DV (C:Cx) (g:Good C.ns) (fl:Fl C.it) (io:fg C.it) (hkI:∀s,(cV C.ns (ak C.ns)).contains s=cw C.it s) (hkl:(cV C.ns (ak C.ns)).length<=1048576):∀(f:Nat) (n:Int),n.toNat<f->0<=n->n<(C.ns.length:Int)->aG (nd C.ns n).kind=true->dS C 174 [.i n] (pF C.ns C.it C.ret f n) EV.s (BS n) n
 |0,n,hf,h0,_,_=>by omega
 |f+1,n,hf,h0,h1,hx=>J2 C (pF C.ns C.it C.ret f) g fl io n h0 h1 (λk k0 k1 ke=>DV C g fl io hkI hkl f k (by omega) k0 (by omega) ke) (λk k0 k1 ke=>wI g io f k k0 (by omega) (by omega) ke) hkI hkl hx
end
end Go.Proofs.YtdjkoddnnogejaaGreat
