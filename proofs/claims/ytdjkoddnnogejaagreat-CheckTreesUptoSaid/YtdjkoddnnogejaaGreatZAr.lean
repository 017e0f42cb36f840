/- Part of the proof of CheckTrees: plain laws and steps of its walks, for all arguments. -/
import Derived.Test.YtdjkoddnnogejaaGreatZEo
import Derived.Test.YtdjkoddnnogejaaGreatZAk
import Derived.Test.YtdjkoddnnogejaaGreatZAp
set_option linter.unusedSimpArgs false
set_option linter.unusedVariables false
set_option linter.unusedSectionVars false
namespace Go.Proofs.YtdjkoddnnogejaaGreat
section
set_option maxRecDepth 100000
set_option maxHeartbeats 4000000
open Go.Vv Go.Ee
theorem uf {ns:List Nd} {it:aw} {ret:ah} {E:Rec} {tail:Bool} {l:List Int} {i k:Int} {o:ah} {st:St} (h0:0<=i) (hk:l[i.toNat]?=some k):eh ns it ret E tail (l.drop i.toNat) o st=
 if tail=true/\i+1=l.length then E k st else(cW ns it ret E k st).then λ_ st=>eh ns it ret E tail (l.drop (i+1).toNat) (vv ns l (i+1).toNat st) st:=by
 obtain⟨h1,rfl⟩:=List.getElem?_eq_some_iff.1 hk
 rw[List.drop_eq_getElem_cons h1,show(i+1).toNat=i.toNat+1 by omega]
 have e:(l.drop (i.toNat+1)=[])=(i+1=(l.length:Int)):=by rw[List.drop_eq_nil_iff];simp only[eq_iff_iff];omega
 simp only[eh,e,vv,List.getElem?_eq_getElem h1]
theorem Bi {ns:List Nd} {l:List Int} {i e:Int} {st:St} (hi:i.toNat=l.length) (he:l[((l.length:Int)-1).toNat]?=some e):vv ns l i.toNat st=if pE ns st e=true then aF else aE:=by
 obtain⟨m,hm⟩:∃m,l.length=m+1:=⟨l.length-1,by have:=(List.getElem?_eq_some_iff.1 he).1;omega⟩
 rw[hi,hm]
 rw[hm,show(((m+1:Nat):Int)-1).toNat=m by omega] at he
 simp only[vv,he]
section
variable(C:Cx) (E:Rec) (g:Good C.ns) (fl:Fl C.it) (n:Int) (h0:0<=n) (h1:n<(C.ns.length:Int)) (hE:HE C E n) (hO:HO C E n) (hT:HT C)
include g fl h0 h1 hE hO hT
theorem Lu (hkd:(nd C.ns n).kind=20):iA C 229 [.i n] (jk C.ns C.it C.ret E n) EV.s n:=by
 have hgl:=g.len
 have hkl:=g.kids _ (List.mem_of_getElem? (Good.at h0 h1))
 have hl:=g.qJ h0 h1 hkd
 intro ty va lo s0 lp q1 q2 ex K w l0 l1 hok hbad
 refine aX [] [] [4,5] Tryz.func229 rfl (by kernel_rfl) ?_
 repeat' first
  |((with_reducible refine W.of ?_);conv=>whnf)
  |with_reducible first
   |refine W.fin (K:=K) (hok _ _ _ _ _ _ _ _ ?_ ‹_›) rfl rfl
   |refine W.fin (K:=K) (hbad ⟨_,_,_⟩ ?_) rfl rfl
   |refine W.fin (K:=K) (hbad _ ?_) rfl rfl
   |refine bt (decide_eq_true ‹_›) ?_
   |refine aq ‹_› ‹_› ?_
   |refine W.and (by kernel_rfl) ?_
   |refine fn [] [] Tryz.func95 rfl (by kernel_rfl) ?_
  |((with_reducible refine W.fin (K:=K) (hok _ ty va lo (sc.take s0.length) (some s0.length) q2 ((sc.drop s0.length).map ky++ex) ?_ (w.cut _)) rfl ?_);rotate_left;focus(dsimp only[WA,Tg,Int.toNat_natCast];rw[(uQ (ex:=ex) (show s0.length<=sc.length by omega)).1,(uQ (ex:=ex) (show s0.length<=sc.length by omega)).2];done))
  |with_reducible first
   |refine fn [] [] Tryz.func96 rfl (by kernel_rfl) ?_
   |refine fn [] [] Tryz.func275 rfl (by kernel_rfl) ?_
  |((with_reducible refine bT [] [] [9] [4,5,7] (λa:{a:Int×Ws//0<=a.1/\a.1<=(nd C.ns n).kids.length/\Wf C.ns (a.2.st lp)/\s0.length<=a.2.sc.length/\((nd C.ns n).num=1->a.1<(nd C.ns n).kids.length\/(nd C.ns n).kids.length=0)/\eh C.ns C.it C.ret E ((nd C.ns n).num==1) ((nd C.ns n).kids.drop a.1.toNat) (vv C.ns (nd C.ns n).kids a.1.toNat (a.2.st lp)) (a.2.st lp)=eh C.ns C.it C.ret E ((nd C.ns n).num==1) (nd C.ns n).kids aE ⟨ty,va,lo,s0,lp⟩}=>[.i a.1.1]) (λa=>F5 10 11 12 [(9,.cells [.p (.str aE)]),(8,b8 (nd C.ns n)),(6,.cells [.ptr 0 0])] C a.1.2 lp) (λa=>(nd C.ns n).kids.length-a.1.1.toNat) ⟨(0,⟨ty,va,lo,s0,q1,q2,ex⟩),by omega,by omega,w,Nat.le_refl _,by dsimp only;omega,rfl⟩ (by kernel_rfl) ?_ ?_);(focus((with_reducible refine W.of ?_);(conv=>whnf);exact⟨rfl,rfl⟩));rintro⟨⟨i,ty,va,lo,sc,q1,q2,ex⟩,i0,i1,w,hsc,hnm,hR⟩;dsimp only[F5];dsimp only[Ws.st] at w hR i0 i1 hsc hnm)
  |((with_reducible refine aj (l:=(nd C.ns n).kids) (i:=i.toNat) (by omega) (λk hk=>?_));obtain⟨k0,k1,kd⟩:=hl _ k hk;have k2:k<(C.ns.length:Int):=by omega)
  |((with_reducible refine aj (l:=(nd C.ns n).kids) (by simp only[List.length_map] at*;omega) (λe he=>?_));rw[List.length_map] at he;obtain⟨e0,e1,ed⟩:=hl _ e he;have e2:e<(C.ns.length:Int):=by omega)
  |((with_reducible refine hE k k0 k1 (by rw[if_pos (by omega)] at kd;exact kd) _ _ _ _ _ _ _ _ _ ‹_› (by omega) (by omega) (λv ty va lo sc q1 q2 ex hF w=>?_) (λd hF=>?_));(have t2:=hO k k0 k1 (by rw[if_pos (by omega)] at kd;exact kd) _ _ _ ‹_› hF;have m2s:=t2.mv.sc.length_le;clear t2;dsimp only at m2s))
  |((with_reducible refine Sq C E g fl k k0 k2 (λj j0 j1=>hE j j0 (by omega)) (λj j0 j1=>hO j j0 (by omega)) hT (by rw[if_neg (by omega)] at kd;exact kd) _ _ _ _ _ _ _ _ _ ‹_› (by omega) (by omega) (λv ty va lo sc q1 q2 ex hF w=>?_) (λd hF=>?_));(have m2:=D7 g k0 k2 (λj j0 j1=>hO j j0 (by omega)) (by rw[if_neg (by omega)] at kd;exact kd) ‹_› hF;have m2s:=m2.sc.length_le;clear m2;dsimp only at m2s))
  |((with_reducible refine bt ?_ ?_);focus(simp[]<;>omega))
  |((with_reducible refine P4 C g e e0 e2 (by rw[if_neg (by omega)] at ed;exact ed) _ _ _ _ _ _ _ _ _ ‹_› (by omega) (by omega) (λv ty va lo sc q1 q2 ex hF w=>?_) (λd hF=>?_));(dsimp only at hF;cases hF))
  |with_reducible refine SC.call ?_
  |((with_reducible refine bb (λh=>?_) (λh=>?_))<;>(try simp at h))
 all_goals(clear hok hbad hE hO hT hl)
 all_goals first
  |(dsimp only at hF;cases hF;done)
  |(refine⟨⟨⟨(i+1,⟨ty,va,lo,sc,q1,q2,ex⟩),by dsimp only;omega,by dsimp only;omega,w,by dsimp only;omega,by dsimp only;omega,?_⟩,ao i0 (by omega),rfl,rfl⟩,rfl⟩;dsimp only;rw[<-hR,uf i0 hk,if_neg (by simp;omega),hF];rfl)
  |(rw[uf i0 hk,if_pos (by simp;omega),hF] at hR;simp[jk,<-hR,aN.then];done)
  |(rw[uf i0 hk,if_neg (by simp;omega),hF] at hR;simp[jk,<-hR,aN.then];done)
  |(rw[List.drop_of_length_le (by omega),Bi (by omega) he,h] at hR;simp[jk,<-hR,eh,aN.then,aF];done)
  |(rw[List.drop_of_length_le (by omega),show i.toNat=0 by rw[h] at i1;simp at i1;omega] at hR;simp[jk,<-hR,eh,vv,aN.then];done)
end
end
section
set_option maxRecDepth 100000
set_option maxHeartbeats 4000000
open Go.Vv Go.Ee
open Fo (eL gF)
theorem O4 {ns:List Nd} {n:Int} {P:Int->Prop} {k:List PV->Prop} (h:∃a,(nd ns n).kids=[a]/\P a) (hk:W (k (aB (ax ns n 0)))):iK ((nd ns n).kids.map aB)[Int.toNat 0]? k:=by
 obtain⟨a,ha,_⟩:=h
 refine on _ ?_ hk
 simp[ha,ax]
theorem T6 {ns:List Nd} {n:Int} {P:Int->Prop} (h:∃a,(nd ns n).kids=[a]/\P a):P (ax ns n 0):=by
 obtain⟨a,ha,hp⟩:=h
 simpa[ha,ax] using hp
abbrev HV (C:Cx):Prop:=∀n,0<=n->n<(C.ns.length:Int)->iA C 215 [.i n] (Cs C.ns n) EV.s 0
section
variable(C:Cx) (E:Rec) (g:Good C.ns) (fl:Fl C.it) (io:fg C.it) (n:Int) (h0:0<=n) (h1:n<(C.ns.length:Int)) (hE:HE C E n) (hO:HO C E n) (hT:HT C) (hV:HV C)
include g fl io h0 h1 hE hO hT hV
theorem Ob (hx:aG (nd C.ns n).kind=true):iA C 159 [.i n] (dc C.ns C.it C.ret E n) EV.s n:=by
 have hgl:=g.len
 have sf:=λx hx=>(fl.sf x hx).2
 intro ty va lo sc lp q1 q2 ex K w l0 l1 hok hbad
 refine aX [] [] [4,5] Tryz.func159 rfl (by kernel_rfl) ?_
 repeat' first
  |((with_reducible refine W.of ?_);conv=>whnf)
  |with_reducible first
   |refine W.fin (K:=K) (hok _ _ _ _ _ _ _ _ ?_ ‹_›) rfl rfl
   |refine W.fin (K:=K) (hbad ⟨_,_,_⟩ ?_) rfl rfl
   |refine W.fin (K:=K) (hbad _ ?_) rfl rfl
   |refine bt (decide_eq_true ‹_›) ?_
   |refine aq ‹_› ‹_› ?_
   |refine W.and (by kernel_rfl) ?_
   |refine fn [] [] Tryz.func157 rfl (by kernel_rfl) ?_
   |refine fn [] [] Tryz.func95 rfl (by kernel_rfl) ?_
   |refine PJ C E g fl n h0 h1 hE ‹_› _ _ _ _ _ _ _ _ _ ‹_› (by omega) (by omega) (λv ty va lo sc q1 q2 ex hF w=>?_) (λd hF=>?_)
   |refine Q7 C E g fl n h0 h1 hE ‹_› _ _ _ _ _ _ _ _ _ ‹_› (by omega) (by omega) (λv ty va lo sc q1 q2 ex hF w=>?_) (λd hF=>?_)
   |refine RC C E g fl n h0 h1 hE ‹_› _ _ _ _ _ _ _ _ _ ‹_› (by omega) (by omega) (λv ty va lo sc q1 q2 ex hF w=>?_) (λd hF=>?_)
   |refine Tu C E g n h0 h1 hE ‹_› _ _ _ _ _ _ _ _ _ ‹_› (by omega) (by omega) (λv ty va lo sc q1 q2 ex hF w=>?_) (λd hF=>?_)
   |refine Gt C E g n h0 h1 hE hO ‹_› _ _ _ _ _ _ _ _ _ ‹_› (by omega) (by omega) (λv ty va lo sc q1 q2 ex hF w=>?_) (λd hF=>?_)
   |refine Gu C E g n h0 h1 hE ‹_› _ _ _ _ _ _ _ _ _ ‹_› (by omega) (by omega) (λv ty va lo sc q1 q2 ex hF w=>?_) (λd hF=>?_)
   |refine Mr C E g fl io n h0 h1 hE hO ‹_› _ _ _ _ _ _ _ _ _ ‹_› (by omega) (by omega) (λv ty va lo sc q1 q2 ex hF w=>?_) (λd hF=>?_)
   |refine hV n h0 h1 _ _ _ _ _ _ _ _ _ ‹_› (by omega) (by omega) (λv ty va lo sc q1 q2 ex hF w=>?_) (λd hF=>?_)
   |refine Lu C E g fl n h0 h1 hE hO hT (by simp[aG] at hx;omega) _ _ _ _ _ _ _ _ _ ‹_› (by omega) (by omega) (λv ty va lo sc q1 q2 ex hF w=>?_) (λd hF=>?_)
  |((with_reducible refine O4 (g.ej h0 h1 (by omega)) ?_);obtain⟨k0,k1,ke⟩:=T6 (g.ej h0 h1 (by omega));have k2:ax C.ns n 0<(C.ns.length:Int):=by omega)
  |with_reducible refine eN C E (ax C.ns n 0) k0 k2 (ax C.ns n 0) (hE _ k0 k1 ke) _ _ _ _ _ _ _ _ _ _ ‹_› (by omega) (by omega) (λv ty va lo sc q1 q2 ex hF w=>?_) (λd hF=>?_)
  |((with_reducible refine fN C E (ax C.ns n 0) k0 k2 (ax C.ns n 0) (hE _ k0 k1 ke) _ _ _ _ _ _ _ _ _ ‹_› (by omega) (by omega) (λv ty va lo sc q1 q2 ex hF w=>?_) (λd hF=>?_));(have T:=(bq (hO _ k0 k1 ke) ‹_› hF).bound (by omega)))
  |((with_reducible refine PF C E (ax C.ns n 0) k0 k2 (ax C.ns n 0) (hE _ k0 k1 ke) _ _ _ _ _ _ _ _ _ ‹_› (by omega) (by omega) (λv ty va lo sc q1 q2 ex hF w=>?_) (λd hF=>?_));(have T:=(pj (hO _ k0 k1 ke) ‹_› hF).1.bound (by omega)))
  |with_reducible first
   |refine Ha _ (by omega) ?_
   |refine ny _ (by omega) ?_
   |refine s7 _ ?_
   |refine Dh C.it _ _ fl.n1 fl.n2 fl.n3 sf (λj f hf=>?_) (λhf=>?_)
  |((with_reducible refine bt ?_ ?_);focus(simp[]<;>omega))
  |with_reducible refine SC.call ?_
  |((with_reducible refine bb (λh=>?_) (λh=>?_))<;>(try simp at h))
 all_goals(clear hok hbad hE hO hT hV)
 all_goals(try clear T)
 all_goals first
  |(simp_all[dc,aN.then,ai,bg,aI,aE,EZ,rL,Fc,sB,eL,gF];done)
  |(cases hi:Fo.aC v<;>simp_all[dc,rL,aN.then,ai];done)
theorem LO (hx:aG (nd C.ns n).kind=true):iA C 99 [.i n] (λst=>(dc C.ns C.it C.ret E n st).then λs st=>.ok s {st with types:=st.types.set n.toNat s}) EV.s n:=by
 intro ty va lo sc lp q1 q2 ex K w l0 l1 hok hbad
 refine aX [] [] [4,5] Tryz.func99 rfl (by kernel_rfl) ?_
 repeat' first
  |((with_reducible refine W.of ?_);conv=>whnf)
  |with_reducible first
   |refine W.fin (K:=K) (hok _ _ _ _ _ _ _ _ ?_ ‹_›) rfl rfl
   |refine W.fin (K:=K) (hbad ⟨_,_,_⟩ ?_) rfl rfl
   |refine W.fin (K:=K) (hbad _ ?_) rfl rfl
   |refine Ob C E g fl io n h0 h1 hE hO hT hV hx _ _ _ _ _ _ _ _ _ ‹_› (by omega) (by omega) (λv ty va lo sc q1 q2 ex hF w=>?_) (λd hF=>?_)
  |((with_reducible refine L6 C n h0 h1 _ _ _ _ _ _ _ _ _ _ ‹_› (by omega) (by omega) (λv ty va lo sc q1 q2 ex hF w=>?_) (λd hF=>?_));(dsimp only at hF;cases hF))
  |with_reducible refine SC.call ?_
 all_goals(clear hok hbad hE hO hT hV)
 all_goals(try dsimp only at hF)
 all_goals(simp_all[aN.then])
end
theorem GO (C:Cx) (g:Good C.ns) (fl:Fl C.it) (io:fg C.it) (hT:HT C) (hV:HV C):∀(f:Nat) (n:Int),n.toNat<f->0<=n->n<(C.ns.length:Int)->aG (nd C.ns n).kind=true->iA C 99 [.i n] (pF C.ns C.it C.ret f n) EV.s n
 |0,n,hf,h0,_,_=>by omega
 |f+1,n,hf,h0,h1,hx=>LO C (pF C.ns C.it C.ret f) g fl io n h0 h1 (λk k0 k1 ke=>GO C g fl io hT hV f k (by omega) k0 (by omega) ke) (λk k0 k1 ke=>wI g io f k k0 (by omega) (by omega) ke) hT hV hx
end
section
set_option maxRecDepth 100000
set_option maxHeartbeats 4000000
open Go.Vv Go.Ee
abbrev Xl (l a z:Nat) (C:Cx) (ty:List ah) (va:List Int) (lp:Int) (r:ah) (c1:Option Nat) (ex:List (List PV)) (x:PV) (lv:List (List PV)) (b:Bool):SH:=
 ⟨[(a,.arr 2 ex true),(l,.arr 1 lv b),(2,.arr 1 (va.map aB) false),(1,.arr 1 (ty.map bL) false),
  (0,.cells [.p (.vs (C.ns.map aH) none C.nb),.p (.vs (C.it.ss.map iT) none C.it.sn),.p (.vs (C.it.es.map iT) none C.it.en),.p (.vs (C.it.fns.map sC) none C.it.yG),.ref 1 C.ns.length 1 (some C.ns.length),.ref 2 C.ns.length 1 (some C.ns.length),.ref l lv.length 1 none,.p (.int .i64 C.fi),.p (.str r),.ref a 0 2 c1,.p (.int .i64 lp),.p x])],z⟩
abbrev W5 (f:Fx):EV:=.agg [.p (.str f.name),.p (.vs (f.ps.map nZ) none f.pn),.p (.vs (f.ms.map uP) none f.mn),.p (.str f.ret),.p (.int .i64 f.node)]
theorem ML {α:Type} {f:α->List PV} {l:List α} {m i:Nat} {k:List PV->Prop} (h:i<m) (h2:i<l.length) (hk:∀x,l[i]?=some x->W (k (f x))):iK (List.take m (l.map f))[i]? k:=by
 refine on (f l[i]) ?_ (hk _ (by simp only[List.getElem?_eq_getElem h2]))
 rw[List.getElem?_take_of_lt h,List.getElem?_map,List.getElem?_eq_getElem h2];rfl
theorem nL {ns:List Nd} {l:List Int} {ps:List Fd} {ms:List Bool} {i k:Int} {p:Fd} {m:Bool} {st:St} (h0:0<=i) (hk:l[i.toNat]?=some k) (hp:ps[i.toNat]?=some p) (hm:ms[i.toNat]?=some m):gX ns (l.drop i.toNat) (ps.drop i.toNat) (ms.drop i.toNat) st=
 (bw ns k p.name p.ty m st).then λ_ st=>gX ns (l.drop (i+1).toNat) (ps.drop (i+1).toNat) (ms.drop (i+1).toNat) st:=by
 obtain⟨h1,rfl⟩:=List.getElem?_eq_some_iff.1 hk
 obtain⟨h2,rfl⟩:=List.getElem?_eq_some_iff.1 hp
 obtain⟨h3,rfl⟩:=List.getElem?_eq_some_iff.1 hm
 rw[List.drop_eq_getElem_cons h1,List.drop_eq_getElem_cons h2,List.drop_eq_getElem_cons h3,show(i+1).toNat=i.toNat+1 by omega];rfl
theorem vP {ns:List Nd} {l:List Int} {ps:List Fd} {ms:List Bool} {i:Int} {st:St} (h:(ps.length:Int)<=i):gX ns l (ps.drop i.toNat) ms st=.ok () st:=by
 rw[List.drop_of_length_le (by omega)];cases l<;>cases ms<;>rfl
theorem Wf.empty {ns:List Nd} {ty:List ah} {va:List Int} {lo:List Lc} {sc:List (ah×Int)} {lp:Int} (w:Wf ns ⟨ty,va,lo,sc,lp⟩):Wf ns ⟨ty,va,[],[],0⟩:=⟨w.tl,w.vl,by simp,by simp,by simp,by simp⟩
theorem AI:dy Tryz.prog 92=24:=by kernel_rfl
abbrev Cx.fun (C:Cx) (f:Fx):Cx:={C with ret:=f.ret}
theorem By (C:Cx) (g:Good C.ns) (fl:Fl C.it) (io:fg C.it) (f:Fx) (hT:HT (C.fun f)) (hV:HV (C.fun f)) (n0:0<=f.node) (n1:f.node<(C.ns.length:Int)) (nk:(nd C.ns f.node).kind=2) (fe:f=yH C.ns f.node) (hfm:f∈C.it.fns) (hlen:C.lv.length<=1048576)
 {K:aR->SH->Prop} (ty:List ah) (va:List Int) (lp:Int) (r:ah) (c1:Option Nat) (ex:List (List PV)) (xl:PV) (hxl:xl.isAgg=false) (lo0:List Lc) (w:Wf C.ns ⟨ty,va,[],[],0⟩)
 (hok:∀ty' va' lo' sc' c1' ex',dg C.ns C.it f ⟨ty,va,lo0,[],lp⟩=.ok () ⟨ty',va',lo',sc',0⟩->Wf C.ns ⟨ty',va',[],[],0⟩->W (K (.ret (.bR [])) (Xl 5 6 7 C ty' va' 0 f.ret c1' ex' (.vs (lo'.map vK) none true) (C.lv++[[.vs (lo'.map vK) none true]]) true)))
 (hbad:∀d,dg C.ns C.it f ⟨ty,va,lo0,[],lp⟩=.bad d->W (K (.panic (WY d)) ⟨[],5⟩)):SC Tryz.prog 48 [.f (.ptr 0 0),W5 f] (Xl 3 4 5 C ty va lp r c1 ex xl C.lv C.W8) K:=by
 have hgl:=g.len
 have hkl:=g.kids _ (List.mem_of_getElem? (Good.at n0 n1))
 have hks:=g.num n0 n1
 obtain⟨f1,f2,f3,f4,f5,f6,f7⟩:=g.fn n0 n1 nk
 have hb:(nd C.ns f.node).kids[((nd C.ns f.node).kids.length-1:Int).toNat]?=some (ax C.ns f.node ((nd C.ns f.node).kids.length-1)):=by
  rw[show((nd C.ns f.node).kids.length-1:Int).toNat=(nd C.ns f.node).kids.length-1 by omega,ax,List.getElem?_eq_getElem (by omega)];rfl
 generalize hbb:ax C.ns f.node ((nd C.ns f.node).kids.length-1)=b at*
 have hpl:f.ps.length=(nd C.ns f.node).kids.length-2:=by rw[fe];simp[yH,ar,nk]
 have hml:f.ms.length=(nd C.ns f.node).kids.length-2:=by rw[fe];simp[yH,ar,nk]
 have b2:b<(C.ns.length:Int):=by omega
 have be:aG (nd C.ns b).kind=true:=by rw[f7];decide
 have hfn:=(io.fn f hfm).2.2
 have l0:(0:Int)<=0:=Int.le_refl 0
 have l1:(0:Int)+20000<=40000:=by decide
 refine aX [(2,[(0,[]),(1,[]),(2,[]),(3,[]),(4,[]),(5,[]),(6,[]),(7,[2,1]),(8,[]),(9,[]),(10,[2]),(11,[]),(12,[]),(13,[])]),(4,[(0,[]),(1,[]),(2,[]),(3,[]),(4,[]),(5,[]),(6,[]),(7,[]),(8,[]),(9,[]),(10,[]),(11,[0]),(12,[]),(13,[]),(14,[]),(15,[])])] [(4,[(5,some 11)])] [3,4] Tryz.func48 rfl (by kernel_rfl) ?_
 repeat' first
  |((with_reducible refine W.of ?_);conv=>whnf)
  |with_reducible first
   |refine W.fin (K:=K) (hok () _ _ _ _ _ _ _ ?_ ‹_›) rfl rfl
   |refine W.fin (K:=K) (hbad ⟨_,_,_⟩ ?_) rfl rfl
   |refine W.fin (K:=K) (hbad _ ?_) rfl rfl
   |refine bt (decide_eq_true ‹_›) ?_
   |refine aq ‹_› ‹_› ?_
   |refine W.and (by kernel_rfl) ?_
   |refine fn [] [] Tryz.func95 rfl (by kernel_rfl) ?_
  |((with_reducible refine SC.nil 0 11 3 ?_);(conv=>whnf);(with_reducible refine fn [] [] Tryz.func96 rfl (by kernel_rfl) ?_))
  |with_reducible first
   |refine fn [] [] Tryz.func97 rfl (by kernel_rfl) ?_
   |refine bt Hx ?_
   |refine bt lj ?_
  |((with_reducible refine bT [] [] [15] [4,7,9] (λa:Tm f.ps.length λi w=>Wf C.ns (w.st 0)/\gX C.ns ((nd C.ns f.node).kids.drop i.toNat) (f.ps.drop i.toNat) (f.ms.drop i.toNat) (w.st 0)=gX C.ns (nd C.ns f.node).kids f.ps f.ms ⟨ty,va,[],[],0⟩=>[.i a.1.1]) (λa=>F5 10 11 12 [(8,b8 (nd C.ns f.node)),(6,Ta f),(5,.cells [.ptr 0 0])] (C.fun f) a.1.2 0) (λa=>f.ps.length-a.1.1.toNat) ⟨(0,⟨ty,va,[],[],c1,none,ex⟩),by omega,by omega,w,rfl⟩ (by kernel_rfl) ?_ ?_);(focus((with_reducible refine W.of ?_);(conv=>whnf);exact⟨rfl,rfl⟩));rintro⟨⟨i,ty,va,lo,sc,q1,q2,ex⟩,i0,i1,w,hR⟩;dsimp only[F5];dsimp only[Ws.st] at w hR i0 i1)
  |((with_reducible refine ML (l:=(nd C.ns f.node).kids) (by simp only[List.length_map];omega) (by omega) (λk hk=>?_));obtain⟨k0,k1⟩:=hks k (List.mem_of_getElem? hk);have k2:k<(C.ns.length:Int):=by omega)
  |with_reducible refine jv (l:=f.ps) hp ?_
  |((with_reducible refine aj (l:=f.ps) (by omega) (λp hp=>?_));have hpt:=hfn p (List.mem_of_getElem? hp))
  |with_reducible refine aj (l:=f.ms) (by omega) (λm hm=>?_)
  |((with_reducible refine on (aB b) ?_ ?_);focus(rw[List.length_map,List.getElem?_map,hb];rfl))
  |with_reducible first
   |refine W.fin (K:=K) (hok ty va lo sc _ _ ?_ (Wf.empty w)) rfl rfl
   |refine iQ ?_
   |refine OV ?_
  |((with_reducible refine lP (C.fun f) (n:=k) k0 k2 _ _ _ hpt.1 _ _ _ _ _ (by unfold cU;omega) _ _ _ _ ‹_› (by omega) (by omega) (λv ty va lo sc q1 q2 ex hF w=>?_) (λd hF=>?_));(have hF:=iW hF);rotate_left;(have hF:=iX hF);rotate_right)
  |((with_reducible refine GO (C.fun f) g fl io hT hV (b.toNat+1) b (by omega) f5 b2 be _ _ _ _ _ _ _ _ _ ‹_› (by omega) (by omega) (λv ty va lo sc q1 q2 ex hF w=>?_) (λd hF=>?_));have hE1:=hF)
  |((with_reducible refine tk (C.fun f) b f5 b2 _ _ _ _ _ _ _ _ _ _ ‹_› (by omega) (by omega) (λv ty va lo sc q1 q2 ex hF w=>?_) (λd hF=>?_));cases lC hF)
  |((with_reducible refine bt ?_ ?_);focus(simp[AI]<;>omega))
  |with_reducible refine SC.call ?_
  |((with_reducible refine bb (λh=>?_) (λh=>?_))<;>(try simp at h))
 all_goals(clear hok hbad hT hV)
 all_goals first
  |(refine⟨⟨⟨(i+1,⟨ty,va,lo,sc,q1,q2,ex⟩),by dsimp only;omega,by dsimp only;omega,w,?_⟩,ao i0 (by omega),rfl,rfl⟩,rfl⟩;dsimp only;rw[<-hR,nL i0 hk hp hm,hF];rfl)
  |(rw[nL i0 hk hp hm,hF] at hR;simp[dg,<-hR,aN.then];done)
  |(rw[vP (by omega)] at hR;simp only[dg,hbb,<-hR,GN,aN.then];first|(simp only[hF];done)|(simp only[hE1,aN.then,hF];done))
end
section
set_option maxRecDepth 100000
set_option maxHeartbeats 4000000
open Go.Vv Go.Ee
theorem XW {f:FuncId} {F:Func} {r0 rest:Code} {args:List EV} {os:List (Nat×SO)} {nx:Nat} {K:aR->SH->Prop} (T:fI) (pol:vn) (mv:List Nat) (hf:Tryz.prog.funcs[f]?=some F) (hb:F.body=some (.seq r0 rest)) (hc:jn Tryz.prog f args.length=true)
 (hk:W (zn lH args λfr=>er Tryz.prog (SC Tryz.prog) (SL Tryz.prog ⟨F.ntmps,[]⟩) T pol r0 (λx fr s=>match x with
   |.normal=>es Tryz.prog (SC Tryz.prog) (SL Tryz.prog ⟨F.ntmps,iE F⟩) (SG Tryz.prog ⟨F.ntmps,iE F⟩ f) T pol rest (QF Tryz.prog F fr λe s1=>zp e s1 λe s2=>Fs mv nx e s2 K) [] fr s
   |_=>False) fr ⟨os,nx⟩)):SC Tryz.prog f args ⟨os,nx⟩ K:=.nX mv (.vy (.Gs uV T pol hf hb hc hk))
variable(C:Cx)
theorem Sh {ns:List Nd} {st:St} (w:Wf ns st):(st.scope.map ky).length<=1000000:=by rw[List.length_map];have:=w.sl;have:=w.ll;omega
theorem UL {sc:List (ah×Int)} {i:Nat} {r:List PV} (h:(sc.map ky)[i]?=some r):∃p,sc[i]?=some p/\r=ky p:=by
 rw[List.getElem?_map,Option.map_eq_some_iff] at h
 obtain⟨p,h1,h2⟩:=h
 exact⟨p,h1,h2.symm⟩
theorem Ek {ns:List Nd} {ty:List ah} {va:List Int} {lo:List Lc} {sc:List (ah×Int)} {lp:Int} (w:Wf ns ⟨ty,va,lo,sc,lp⟩) (i:Nat) (v:Int):Wf ns ⟨ty,va.set i v,lo,sc,lp⟩:=⟨w.tl,by simpa using w.vl,w.ll,w.sl,w.sc,w.lt⟩
theorem x6:HV C:=by
 intro n h0 h1 ty va lo sc lp q1 q2 ex K w l0 l1 hok hbad
 refine XW [(3,[(0,[]),(1,[]),(2,[]),(3,[]),(4,[1]),(5,[]),(6,[])])] [] [4,5] Tryz.func215 rfl (by kernel_rfl) ?_
 have hvl:va.length=C.ns.length:=w.vl
 repeat' first
  |((with_reducible refine W.of ?_);conv=>whnf)
  |with_reducible first
   |refine W.fin (K:=K) (hok _ _ _ _ _ _ _ _ ?_ ‹_›) rfl rfl
   |refine W.fin (K:=K) (hbad ⟨_,_,_⟩ ?_) rfl rfl
   |refine W.fin (K:=K) (hbad _ ?_) rfl rfl
   |refine bt (decide_eq_true ‹_›) ?_
   |refine bt (eO ‹_› ‹_›) ?_
   |refine aq ‹_› ‹_› ?_
   |refine dj ?_
   |refine W.and (by kernel_rfl) ?_
   |refine fn [] [] Tryz.func157 rfl (by kernel_rfl) ?_
   |refine fn [] [] Tryz.func95 rfl (by kernel_rfl) ?_
   |refine aj (l:=va) (by omega) (λy hy=>?_)
   |refine W.fin (K:=K) (hok _ _ _ _ _ _ _ _ ?_ (Ek w _ _)) rfl rfl
   |refine fn [] [] Tryz.func266 rfl (by kernel_rfl) ?_
   |refine aj (l:=lo) (by omega) (λx hx=>?_)
  |((with_reducible refine bt ?_ ?_);focus(simp[]<;>omega))
  |((refine SG.back uV [(3,[(0,[]),(1,[]),(2,[]),(3,[]),(4,[1]),(5,[]),(6,[])])] [] (λi=>∀p∈sc.drop i,p.1≠(nd C.ns n).name) (rs:=sc.map ky) (ex:=ex) (cap:=q1) (n:=true) (oc:=9) (os:=4) Ls (by kernel_rfl) (Sh w) (show _=_ from rfl) (by rw[List.length_map];rfl) rfl (by kernel_rfl) (by simp) (λi r hr hJ=>?_) (λhJ=>?_));(focus((obtain⟨⟨s,v⟩,hp,rfl⟩:=UL hr);(have hvb:=w.sc _ (List.mem_of_getElem? hp));(dsimp only at hvb))))
  |with_reducible refine SC.call ?_
  |((with_reducible refine bb (λh=>?_) (λh=>?_))<;>(try simp at h))
 all_goals(try clear hok hbad)
 ·obtain⟨hi,e⟩:=List.getElem?_eq_some_iff.1 hp
  rw[Cs,BQ hi (by rw[e];exact h) hJ,e]
  simp only[hx];rfl
 ·refine⟨rfl,λp hq=>?_⟩
  obtain⟨hi,e⟩:=List.getElem?_eq_some_iff.1 hp
  rw[List.drop_eq_getElem_cons hi,e] at hq
  rcases List.mem_cons.1 hq with rfl|hq
  ·exact h
  ·exact hJ p hq
 ·rw[Cs,BP (by simpa using hJ)];rfl
end
end Go.Proofs.YtdjkoddnnogejaaGreat
