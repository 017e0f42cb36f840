/- Part of the proof of CheckTrees: plain laws and steps of its walks, for all arguments. -/
import Derived.Test.YtdjkoddnnogejaaGreatZSb
import Derived.Test.YtdjkoddnnogejaaGreatZFn
import Derived.Test.YtdjkoddnnogejaaGreatZDq
import Derived.Test.YtdjkoddnnogejaaGreatZFk
set_option linter.unusedSimpArgs false
set_option linter.unusedVariables false
set_option linter.unusedSectionVars false
namespace Go.Proofs.YtdjkoddnnogejaaGreat
section
set_option maxRecDepth 100000
set_option maxHeartbeats 4000000
open Go.Vv Go.Ee
attribute [local irreducible] bC aP bZ nd ax typeAt
section
variable(C:Cx) (n:Int) (name t:ah) (mt:Bool) (ty:List ah) (va:List Int) (lo:List Lc) (sc:List (ah×Int)) (lp:Int) (ex:List (List PV)) (hl:lo.length=256) {K:aR->SH->Prop}
include hl
theorem JQ (h0:0<=n) (h1:n<(C.ns.length:Int)) (hK:W (K (.ret (.bR [])) (DW C ty va lo sc lp ex 2 (nd C.ns n).mE (nd C.ns n).to))):SC Tryz.prog 108 (S2 [.i n,.s name,.s t,.b mt]) (DW C ty va lo sc lp ex 0 0 0) K:=by
 refine aX [] [] [] Tryz.func108 rfl (by kernel_rfl) ?_
 repeat' first
  |((with_reducible refine W.of ?_);conv=>whnf)
  |with_reducible refine W.fin (K:=K) hK ?_ rfl
  |((with_reducible refine bt ?_ ?_);focus(simp[hl]<;>omega))
  |with_reducible first
   |refine W.fin (K:=K) (hok _ _ _ _ _ _ ?_ ‹_› ?_) rfl rfl
   |refine W.fin (K:=K) (hbad _ _ _ _ _ _ _ _ _ ?_ ?_ ?_ ?_ ?_ ?_) rfl rfl
   |refine aq ‹_› ‹_› ?_
   |refine W.and (by kernel_rfl) ?_
   |refine fn [] [] Tryz.func51 rfl (by kernel_rfl) ?_
   |refine fn [] [] Tryz.func173 rfl (by kernel_rfl) ?_
   |refine SC.call ?_
 all_goals rfl
theorem JR (e f d:Int) (he:¬e=0) (hK:W (K (.ret (.bR [])) (DW C ty va lo sc lp ex e f d))):SC Tryz.prog 108 (S2 [.i n,.s name,.s t,.b mt]) (DW C ty va lo sc lp ex e f d) K:=by
 refine aX [] [] [] Tryz.func108 rfl (by kernel_rfl) ?_
 repeat' first
  |((with_reducible refine W.of ?_);conv=>whnf)
  |with_reducible refine W.fin (K:=K) hK ?_ rfl
  |((with_reducible refine bt ?_ ?_);focus(simp[hl]<;>omega))
  |with_reducible first
   |refine W.fin (K:=K) (hok _ _ _ _ _ _ ?_ ‹_› ?_) rfl rfl
   |refine W.fin (K:=K) (hbad _ _ _ _ _ _ _ _ _ ?_ ?_ ?_ ?_ ?_ ?_) rfl rfl
   |refine bf (qv ‹_›) ?_
   |refine fn [] [] Tryz.func51 rfl (by kernel_rfl) ?_
   |refine fn [] [] Tryz.func173 rfl (by kernel_rfl) ?_
   |refine SC.call ?_
 all_goals rfl
end
abbrev V9 (a z:Nat) (C:Cx) (ty:List ah) (va:List Int) (lp:Int) (r:ah) (rs:List (List PV)) (m:Nat) (x:PV) (e f t:Int):SH:=
 ⟨[(a,.arr 2 rs true),(2,.arr 1 (va.map aB) true),(1,.arr 1 (ty.map bL) true),
  (0,.cells [.p (.vs (C.ns.map aH) none C.nb),.p (.vs (C.it.ss.map iT) none C.it.sn),.p (.vs (C.it.es.map iT) none C.it.en),.p (.vs (C.it.fns.map sC) none C.it.yG),.ref 1 C.ns.length 1 none,.ref 2 C.ns.length 1 none,.p x,.ref a m 2 none,.p (.str r),.p (.int .i64 lp),.p (.int .i64 e),.p (.int .i64 f),.p (.int .i64 t)])],z⟩
abbrev Xx (C:Cx) (f:Fx) (R:aN Unit):Type:={a:Int×Rs//0<=a.1/\a.1<=f.ps.length/\(¬a.2.e=0->a.2.lo.length=256)/\RI C.ns 0 0 a.2 (gX C.ns ((nd C.ns f.node).kids.drop a.1.toNat) (f.ps.drop a.1.toNat) (f.ms.drop a.1.toNat) (a.2.st 0)=R) R}
theorem Ak (C:Cx) (g:Good C.ns) (fl:Fl C.it) (io:fg C.it) (hkI:∀s,(cV C.ns (ak C.ns)).contains s=cw C.it s) (hkl:(cV C.ns (ak C.ns)).length<=1048576) (f:Fx) (n0:0<=f.node) (n1:f.node<(C.ns.length:Int)) (nk:(nd C.ns f.node).kind=2) (fe:f=yH C.ns f.node) (hfm:f∈C.it.fns)
 {K:aR->SH->Prop} (ty:List ah) (va:List Int) (lp:Int) (r:ah) (rs:List (List PV)) (m:Nat) (xl:PV) (hxl:xl.isAgg=false) (lo0:List Lc) (w:Wf C.ns ⟨ty,va,[],[],0⟩)
 (hok:∀ty' va' lo' sc' ex',dg C.ns C.it f ⟨ty,va,lo0,[],lp⟩=.ok () ⟨ty',va',lo',sc',0⟩->Wf C.ns ⟨ty',va',[],[],0⟩->lo'.length<=256->W (K (.ret (.f (.p (.vs (lo'.map vK) none true)))) (V9 4 5 C ty' va' 0 f.ret (sc'.map ky++ex') sc'.length (.vs (lo'.map vK) none true) 0 0 0)))
 (hbad:∀(e d t:Int) (ty':List ah) (va':List Int) (lo':List Lc) (sc':List (ah×Int)) (ex':List (List PV)),dg C.ns C.it f ⟨ty,va,lo0,[],lp⟩=.bad ⟨e,d,t⟩->¬e=0->W (K (.ret (.f (.p (.vs (lo'.map vK) none true)))) (V9 4 5 C ty' va' 0 f.ret (sc'.map ky++ex') sc'.length (.vs (lo'.map vK) none true) e d t))):SC Tryz.prog 50 [.f (.ptr 0 0),W5 f] (V9 3 4 C ty va lp r rs m xl 0 0 0) K:=by
 have hgl:=g.len
 have hkl2:=g.kids _ (List.mem_of_getElem? (Good.at n0 n1))
 have hks:=g.num n0 n1
 obtain⟨f1,f2,f3,f4,f5,f6,f7⟩:=g.fn n0 n1 nk
 have hb:(nd C.ns f.node).kids[((nd C.ns f.node).kids.length-1:Int).toNat]?=some (ax C.ns f.node ((nd C.ns f.node).kids.length-1)):=by
  rw[show((nd C.ns f.node).kids.length-1:Int).toNat=(nd C.ns f.node).kids.length-1 by omega];simp only[ax];rw[List.getElem?_eq_getElem (by omega)];rfl
 generalize hbb:ax C.ns f.node ((nd C.ns f.node).kids.length-1)=b at*
 have hpl:f.ps.length=(nd C.ns f.node).kids.length-2:=by rw[fe];simp[yH,ar,nk]
 have hml:f.ms.length=(nd C.ns f.node).kids.length-2:=by rw[fe];simp[yH,ar,nk]
 have b2:b<(C.ns.length:Int):=by omega
 have be:aG (nd C.ns b).kind=true:=by rw[f7];decide
 have hfn:=(io.fn f hfm).2.2
 have hEb:=DV (C.fun f) g fl io hkI hkl (b.toNat+1) b (Nat.lt_succ_self _) f5 b2 be
 have hOb:=wI (ret:=f.ret) g io (b.toNat+1) b f5 b2 (Nat.lt_succ_self _) be
 have l0:(0:Int)<=0:=Int.le_refl 0
 have l1:(0:Int)+20000<=40000:=by decide
 refine aX [] [] [3] Tryz.func50 rfl (by kernel_rfl) ?_
 repeat' first
  |((with_reducible refine W.of ?_);conv=>whnf)
  |with_reducible first
   |refine W.fin (K:=K) (hok _ _ _ _ _ ?_ (Wf.empty ‹_›) ?_) rfl rfl
   |refine W.fin (K:=K) (hbad _ _ _ _ _ _ _ _ ?_ ?_) rfl rfl
   |refine W.fin (K:=K) (hok _ _ _ _ _ _ ?_ ‹_› ?_) rfl rfl
   |refine W.fin (K:=K) (hok () _ _ _ _ _ ?_ ‹_› ?_) rfl rfl
   |refine W.fin (K:=K) (hbad _ _ _ _ _ _ _ _ _ ?_ ?_ ?_ ?_ ?_ ?_) rfl rfl
   |refine W.fin (K:=K) (hbad () _ _ _ _ _ _ _ _ ?_ ?_ ?_ ?_ ?_ ?_) rfl rfl
   |refine bt (decide_eq_true ‹_›) ?_
   |refine aq ‹_› ‹_› ?_
   |refine W.and (by kernel_rfl) ?_
   |refine bt lj ?_
  |((with_reducible refine SL.oP 0 6 3 ?_);(with_reducible refine W.of ?_);(conv=>whnf);(with_reducible refine SL.oP 0 7 2 ?_);(with_reducible refine W.of ?_);(conv=>whnf);(with_reducible refine bT [] [] [6] [3,6,7] (λa:Xx C f (gX C.ns (nd C.ns f.node).kids f.ps f.ms ⟨ty,va,[],[],0⟩)=>[.i a.1.1]) (λa=>vX 8 9 10 [(5,b8 (nd C.ns f.node)),(4,Ta f)] (C.fun f) a.1.2 0) (λa=>f.ps.length-a.1.1.toNat) ⟨(0,⟨ty,va,[],[],[],0,0,0⟩),Int.le_refl _,by dsimp only;omega,(λh=>absurd rfl h),.inl ⟨rfl,rfl,rfl,w,Nat.le_refl _,rfl⟩⟩ (by kernel_rfl) ?_ ?_);(focus((with_reducible refine W.of ?_);(conv=>whnf);exact⟨rfl,rfl⟩));rintro⟨⟨i,ty,va,lo,sc,ex,de,df,dt⟩,i0,i1,hfu,hR⟩;dsimp only[vX];(dsimp only[Rs.st,RI] at i0 i1 hfu hR;rcases hR with⟨rfl,rfl,rfl,w,hs,hR⟩|⟨he,ht,hv,hs,hR⟩;(focus(rcases Nat.decEq lo.length 256 with hfull|hfull))))
  |with_reducible first
   |refine on (aB k) (bE hk) ?_
   |refine on (nZ p) (bE hp) ?_
  |((with_reducible refine on (aB b) ?_ ?_);focus(rw[List.length_map,List.getElem?_map,hb];rfl))
  |((with_reducible refine aj (l:=(nd C.ns f.node).kids) (i:=i.toNat) (by omega) (λk hk=>?_));obtain⟨k0,k1⟩:=hks k (List.mem_of_getElem? hk);have k2:k<(C.ns.length:Int):=by omega)
  |((with_reducible refine aj (l:=f.ps) (by omega) (λp hp=>?_));have hpt:=hfn p (List.mem_of_getElem? hp))
  |with_reducible first
   |refine aj (l:=f.ms) (by omega) (λmt hm=>?_)
   |refine JQ (C.fun f) k _ _ _ _ _ _ _ _ _ ‹_› k0 k2 ?_
   |refine JR (C.fun f) k _ _ _ _ _ _ _ _ _ (hfu ‹_›) _ _ _ ‹_› ?_
  |((with_reducible refine qa (C.fun f) k k0 k2 _ _ _ hpt.1 _ _ _ _ _ (by unfold cU;omega) _ _ ‹_› (by omega) (by omega) (λv ty va lo sc ex hF w hs=>?_) (λv de df dt ty va lo sc ex hF hB he ht hv hs=>?_));(rotate_left;(focus(exfalso;simp[bw,hfull] at hF;done))))
  |((with_reducible refine qW (C.fun f) (pF C.ns C.it f.ret (b.toNat+1)) b f5 b2 b hEb _ _ _ _ _ _ _ _ ‹_› (by omega) (by omega) (λv ty va lo sc ex hF w hs=>?_) (λv de df dt ty va lo sc ex hF hB he ht hv hs=>?_));(rw[jX C.ns hOb ‹_›] at hF;rotate_left;rw[jX C.ns hOb ‹_›] at hF;rotate_right))
  |((with_reducible refine bt ?_ ?_);focus(simp[]<;>omega))
  |with_reducible first
   |refine qX (C.fun f) _ _ _ _ _ _ _ _ _ _ _ _ (by first|assumption|decide) ?_
   |refine SC.call ?_
  |((with_reducible refine bb (λh=>?_) (λh=>?_))<;>(try simp at h))
 all_goals(clear hok hbad)
 all_goals first
  |assumption
  |exact Wf.ll ‹_›
  |omega
  |decide
  |exact⟨⟨⟨(i+1,⟨ty,va,lo,sc,ex,de,df,dt⟩),by dsimp only;omega,by dsimp only;omega,hfu,.inr ⟨he,ht,hv,hs,hR⟩⟩,ao i0 (by omega),rfl,rfl⟩,rfl⟩
  |exact⟨⟨⟨(i+1,⟨ty,va,lo,sc,ex,0,0,0⟩),by dsimp only;omega,by dsimp only;omega,(λh=>absurd rfl h),.inl ⟨rfl,rfl,rfl,w,Nat.zero_le _,by dsimp only;rw[<-hR,nL i0 hk hp hm,hF];rfl⟩⟩,ao i0 (by omega),rfl,rfl⟩,rfl⟩
  |exact⟨⟨⟨(i+1,⟨ty,va,lo,sc,ex,2,(nd C.ns k).mE,(nd C.ns k).to⟩),by dsimp only;omega,by dsimp only;omega,(λ_=>hfull),.inr ⟨(show¬(2:Int)=0 by decide),w.tl,w.vl,Nat.zero_le _,by rw[<-hR,nL i0 hk hp hm];simp[bw,hfull,ai,aN.then]⟩⟩,ao i0 (by omega),rfl,rfl⟩,rfl⟩
  |(rw[vP (by omega)] at hR;simp only[dg,hbb];rw[<-hR];exact hF)
  |(simp only[dg,hbb];rw[hR];rfl)
  |skip
end
section
set_option maxRecDepth 100000
set_option maxHeartbeats 4000000
open Go.Vv Go.Ee
theorem TG {f:FuncId} {F:Func} {c:Code} {args:List EV} {os:List (Nat×SO)} {nx:Nat} {K:aR->SH->Prop} (T:fI) (pol:vn) (mv:List Nat) (hf:Tryz.prog.funcs[f]?=some F) (hb:F.body=some c) (hc:fD Tryz.prog f args.length=true)
 (hk:W (zn lH args λfr=>er Tryz.prog (SC Tryz.prog) (SL Tryz.prog ⟨F.ntmps,[]⟩) T pol c (QB Tryz.prog F.results.toList λe s1=>tr e s1 λe s2=>Fs mv nx e s2 K) fr ⟨os,nx⟩)):SC Tryz.prog f args ⟨os,nx⟩ K:=.nX mv (.wT (.body uV T pol hf hb hc hk))
abbrev Wx (ns:List Nd) (nb:Bool) (it:aw) (outs:List (List Lc)) (st:St):List FC:=.p (.vs (ns.map aH) none nb)::ry it++[.p (.vs (st.types.map bL) none true),.p (.vs (st.vars.map aB) none true),.p (.vs (outs.map xw) none true)]
theorem RP {α:Type} {f:α->List PV} {a:α} {i:Int} {k:List (List PV)->Prop} (i0:0<=i) (h:W (k ((List.replicate (i+1).toNat a).map f))):Fold ((List.replicate i.toNat a).map f++[f a]) k:=fold_eq _ (by rw[show(i+1).toNat=i.toNat+1 by omega,List.replicate_succ'];simp) h
theorem Q5 {α β:Type} {f:α->β} {a:α} {m:Nat} {k:Nat->Prop} (h:W (k m)):S4 ((List.replicate m a).map f).length k:=⟨by rw[List.length_map,List.length_replicate];exact h⟩
theorem PG {α β:Type} {f:α->β} {a:α} {m:Nat} {k1 k2:Prop} (h:W k1):Br (Nat.beq ((List.replicate m a).map f).length m) k1 k2:=bt (by simp) h
abbrev Xc (ns:List Nd) (nb:Bool) (it:aw) (t v l i:FC) (r:ah) (lp e f d:Int):SO:=.cells (.p (.vs (ns.map aH) none nb)::ry it++[t,v,l,i,.p (.str r),.p (.int .i64 lp),.p (.int .i64 e),.p (.int .i64 f),.p (.int .i64 d)])
abbrev Xe (ns:List Nd) (nb:Bool) (it:aw) (ty:List ah) (va:List Int) (c:SO):List (Nat×SO):=[(9,.arr 1 (va.map aB) true),(8,.arr 1 (ty.map bL) true),(5,c),(4,.cells dz),(3,.cells (ry it)),(2,.cells dz),(1,.cells Fe),(0,.cells [.p (.vs (ns.map aH) none nb)])]
abbrev Wb (ns:List Nd) (nb:Bool) (it:aw) (i:Int):SH:=⟨Xe ns nb it (List.replicate i.toNat []) (List.replicate i.toNat (-1)) (Xc ns nb it (.ref 8 i.toNat 1 none) (.ref 9 i.toNat 1 none) (.p (.vs [] none true)) (.p (.vs [] none true)) [] 0 0 0 0),10⟩
structure WQ where
 i:Int
 outs:List (List Lc)
 st:St
 r:ah
 rs:List (List PV)
 m:Nat
abbrev XH (ns:List Nd) (it:aw):Type:={q:WQ//0<=q.i/\q.i<=it.fns.length/\q.outs.length<=q.i/\Wf ns ⟨q.st.types,q.st.vars,[],[],0⟩/\b9 ns it (it.fns.drop q.i.toNat) q.outs q.st=b9 ns it it.fns [] (eQ ns)/\∀l∈q.outs,l.length<=256}
abbrev Wc (ns:List Nd) (nb:Bool) (it:aw) (q:WQ):SH:=⟨(14,.arr 1 (q.outs.map xw) true)::(13,.arr 2 q.rs true)::(10,.cells (.p (.vs (ns.map aH) none nb)::ry it++[.p (.vs [] none true),.p (.vs [] none true),.ref 14 q.outs.length 1 none]))::Xe ns nb it q.st.types q.st.vars (Xc ns nb it (.ref 8 ns.length 1 none) (.ref 9 ns.length 1 none) (.p (.vs (q.st.locals.map vK) none true)) (.ref 13 q.m 2 none) q.r q.st.loops 0 0 0),15⟩
theorem Wd {ns:List Nd} {it:aw}:0<=(0:Int)/\(0:Int)<=it.fns.length/\([]:List (List Lc)).length<=(0:Int)/\Wf ns ⟨(eQ ns).types,(eQ ns).vars,[],[],0⟩/\b9 ns it (it.fns.drop (0:Int).toNat) [] (eQ ns)=b9 ns it it.fns [] (eQ ns)/\∀l∈([]:List (List Lc)),l.length<=256:=
 ⟨(EC (it:=it) (ns:=ns)).1,(EC (it:=it) (ns:=ns)).2.1,(EC (it:=it) (ns:=ns)).2.2.1,(EC (it:=it) (ns:=ns)).2.2.2.1,(EC (it:=it) (ns:=ns)).2.2.2.2,λ_ h=>absurd h List.not_mem_nil⟩
theorem DY {K:aR->SH->Prop} (ns:List Nd) (nb:Bool) (hb:(ns.length:Int)<=9223372036854775807) (hkl:∀x∈ns,x.kids.length<=17592186044415) (hnl:∀x∈ns,x.name.length<4294967281) (hnum:∀x∈ns, -9223372036854775808<=x.num) (hgood:bK ns=true->Good ns)
 (hg:∀it outs st,iC ns=.inl (it,outs,st)->st.types.length=ns.length->st.vars.length=ns.length->outs.length<=64->(∀l∈outs,l.length<=256)->W (K (.ret (.bR [.agg (Wx ns nb it outs st),.agg dz])) H0)) (hd:∀e f t,iC ns=.inr ⟨e,f,t⟩->W (K (.ret (.bR [.agg Fe,.agg [.p (.int .i64 e),.p (.int .i64 f),.p (.int .i64 t)]])) H0)):SC Tryz.prog 14 [qh ns nb] H0 K:=by
 cases hof:kM ns with
 |inr d=>
  refine TG [(3,[(0,[]),(1,[]),(2,[1]),(3,[])]),(14,[(0,[]),(1,[]),(2,[]),(3,[]),(4,[]),(5,[]),(6,[]),(7,[]),(8,[1]),(9,[]),(10,[]),(11,[]),(12,[])]),(16,[(0,[]),(1,[]),(2,[]),(3,[]),(4,[]),(5,[4]),(6,[])])] [] [] Tryz.func14 rfl (by kernel_rfl) ?_
  repeat' first
   |((with_reducible refine W.of ?_);conv=>whnf)
   |with_reducible first
    |refine W.fin (K:=K) (hd _ _ _ ?_) rfl rfl
    |refine W.and (by kernel_rfl) ?_
    |refine bt (Vg ‹_›) ?_
    |refine Pa ns nb hb hkl hnl hnum hgood (λit2 e2=>absurd (hof.symm.trans e2) (by simp)) (λe f t e2 hne=>?_)
    |refine SC.call ?_
   |((with_reducible refine bb (λh=>?_) (λh=>?_))<;>(try simp at h))
  exact C6 e2
 |inl it=>
  have g:=hgood (qQ hof)
  have hlen:=g.len
  have ia:=xr g hof
  have hroots:∀n∈ak ns,0<=n/\n<(ns.length:Int)/\((nd ns n).kind=2\/(nd ns n).kind=3\/(nd ns n).kind=4):=λn hn=>by
   have:=g.roots n hn
   exact⟨this.1,by omega,this.2.2⟩
  have hkI:∀s,(cV ns (ak ns)).contains s=cw it s:=by rw[ia.eq];exact zT ns (ak ns) λn hn=>(hroots n hn).2.2
  have hkt:(cV ns (ak ns)).length<=1048576:=by
   have hrl:(ak ns).length<=1048576:=g.kids _ (cB (by omega) (by omega))
   unfold cV
   rw[List.length_map]
   exact Nat.le_trans (List.length_filter_le _ _) hrl
  have hfl:=ia.iZ
  refine TG [(3,[(0,[]),(1,[]),(2,[1]),(3,[])]),(14,[(0,[]),(1,[]),(2,[]),(3,[]),(4,[]),(5,[]),(6,[]),(7,[]),(8,[1]),(9,[]),(10,[]),(11,[]),(12,[])]),(16,[(0,[]),(1,[]),(2,[]),(3,[]),(4,[]),(5,[4]),(6,[])])] [] [] Tryz.func14 rfl (by kernel_rfl) ?_
  repeat' first
   |((with_reducible refine W.of ?_);conv=>whnf)
   |with_reducible first
    |refine W.fin (K:=K) (hg it _ _ ?_ htl hvl (by omega) hou) rfl rfl
    |refine W.fin (K:=K) (hd _ _ _ ?_) rfl rfl
    |refine W.and (by kernel_rfl) ?_
   |((with_reducible refine Pa ns nb hb hkl hnl hnum hgood (λit2 e2=>?_) (λe f t e2 hne=>absurd (hof.symm.trans e2) (by simp)));(obtain rfl:=Sum.inl.inj (hof.symm.trans e2)))
   |with_reducible first
    |refine RP ‹_› ?_
    |refine Q5 ?_
    |refine PG ?_
    |refine pH (f:=xw) ?_
    |refine fj ?_
    |refine bt lj ?_
   |((with_reducible refine SL.oP 5 4 1 ?_);(with_reducible refine W.of ?_);(conv=>whnf);(with_reducible refine SL.oP 5 5 1 ?_);(with_reducible refine W.of ?_);(conv=>whnf);(with_reducible refine bT [] [] [7] [6,7] (λa:So ns.length λ_=>True=>[.i a.1]) (λa=>Wb ns nb it a.1) (λa=>ns.length-a.1.toNat) ⟨0,by omega,by omega,trivial⟩ (by kernel_rfl) ?_ ?_);(focus((with_reducible refine W.of ?_);(conv=>whnf);exact⟨rfl,rfl⟩));rintro⟨j,j0,j1,_⟩;dsimp only)
   |((with_reducible refine SL.oP 10 6 1 ?_);(with_reducible refine W.of ?_);(conv=>whnf);(with_reducible refine SL.oP 5 7 2 ?_);(with_reducible refine W.of ?_);(conv=>whnf);(with_reducible refine bT [(14,[(0,[]),(1,[]),(2,[]),(3,[]),(4,[]),(5,[]),(6,[]),(7,[]),(8,[1]),(9,[]),(10,[]),(11,[]),(12,[])]),(16,[(0,[]),(1,[]),(2,[]),(3,[]),(4,[]),(5,[4]),(6,[])])] [] [9] [11,12] (λq:XH ns it=>[.i q.1.i]) (λq=>Wc ns nb it q.1) (λq=>it.fns.length-q.1.i.toNat) ⟨⟨0,[],eQ ns,[],[],0⟩,Wd⟩ (by kernel_rfl) ?_ ?_);(focus((with_reducible refine W.of ?_);(conv=>whnf);exact⟨rfl,by rw[show j=(ns.length:Int) by omega];rfl⟩));rintro⟨⟨i,outs,st,r,rs,m⟩,i0,i1,hol,hw,hi,hou⟩;dsimp only;(dsimp only at i0 i1 hol hw hi hou;have htl:st.types.length=ns.length:=hw.tl;have hvl:st.vars.length=ns.length:=hw.vl))
   |((with_reducible refine aj (l:=it.fns) (by omega) (λf hf=>?_));(obtain⟨m0,m1,m2,m3⟩:=ia.ms f (List.mem_of_getElem? hf)))
   |with_reducible first
    |refine Ak ⟨ns,nb,it,[],0,[],true⟩ g ia.fl ia.ok hkI hkt f m0 m1 m2 m3 (List.mem_of_getElem? hf) _ _ _ _ _ _ _ rfl st.locals hw (λty2 va2 lo2 sc2 ex2 hF hw2 hl2=>?_) (λe d t ty2 va2 lo2 sc2 ex2 hF hne=>?_)
    |refine fn [] [] Tryz.func51 rfl (by kernel_rfl) ?_
    |refine bt (nz ‹_›) ?_
   |((with_reducible refine bt ?_ ?_);focus(simp[hC,gZ,AI]<;>omega))
   |with_reducible refine SC.call ?_
   |((with_reducible refine bb (λh=>?_) (λh=>?_))<;>(try simp at h))
  ·exact⟨⟨⟨j+1,by omega,by omega,trivial⟩,ao j0 (by omega),rfl,rfl⟩,rfl⟩
  ·exact⟨⟨⟨⟨i+1,outs++[lo2],⟨ty2,va2,lo2,sc2,0⟩,f.ret,sc2.map ky++ex2,sc2.length⟩,by dsimp only;omega,by dsimp only;omega,by dsimp only;rw[List.length_append];simp only[List.length_cons,List.length_nil];omega,hw2,((wP i0 hf).trans (by rw[wU,hF];rfl)).symm.trans hi,λl hl=>by rcases List.mem_append.1 hl with h3|h3;exact hou l h3;rw[List.mem_singleton.1 h3];exact hl2⟩,ao i0 (by omega),rfl,rfl⟩,rfl⟩
  ·exact C5 hof (hi.symm.trans ((wP i0 hf).trans (by rw[wU,hF];rfl)))
  ·exact C8 hof (hi.symm.trans (by rw[List.drop_of_length_le (by omega)];rfl))
end
section
set_option maxRecDepth 100000
set_option maxHeartbeats 4000000
open Go.Vv Go.Ee
variable{K:aR->SH->Prop}
theorem Ay {s:SH} (hK:W (K (.ret (.b true)) s)):SC Tryz.prog 16 [] s K:=
 ⟨λρ h vargs hs ha=>by
  rcases vargs with _|⟨a,l⟩
  ·refine(bA.closed rfl rfl xR h).mono λr h' hh=>?_
   obtain⟨rfl,rfl⟩:=hh
   exact⟨_,s,ρ,hK,⟨rfl,rfl⟩,hs,.refl ρ _⟩
  ·exact ha.elim⟩
theorem Sg (hK:KB K true):SC Tryz.prog 15 [.agg Fe,.agg Fe] H0 K:=As true true true true true true true true [] aw.none [] [] [] (Nat.zero_le _) (λ_ h=>absurd h List.not_mem_nil) ⟨Nat.zero_le _,Nat.zero_le _,Nat.zero_le _,λ_ h=>absurd h List.not_mem_nil,λ_ h=>absurd h List.not_mem_nil,λ_ h=>absurd h List.not_mem_nil,λ_ h=>absurd h List.not_mem_nil⟩ (Nat.zero_le _) (Nat.zero_le _) (Nat.zero_le _) (λ_ h=>absurd h List.not_mem_nil) hK
theorem PO (ns:List Nd) (b:Bool) (hb:ns.length<=1000000000) (hkl:∀x∈ns,x.kids.length<=17592186044415) (hnl:∀x∈ns,x.name.length<4294967281) (hnum:∀x∈ns, -9223372036854775808<=x.num/\x.num<=9223372036854775807) (hK:KB K true):SC Tryz.prog 3 [qh ns b] H0 K:=by
 have hgood:bK ns=true->Good ns:=od hnum
 have hkl2:∀x∈ns,x.kids.length<=4611686018427387904:=λx hx=>Nat.le_trans (hkl x hx) (by decide)
 have hnm:=λx hx=>(hnum x hx).1
 cases hc:iC ns with
 |inr d=>
  refine aX [] [] [] Tryz.func3 rfl (by kernel_rfl) ?_
  repeat' first
   |((with_reducible refine W.of ?_);conv=>whnf)
   |with_reducible first
    |refine W.fin (K:=K) hK ?_ rfl
    |refine W.and (by kernel_rfl) ?_
   |((with_reducible refine vo ns b (by omega) hkl hnl hgood (λit2 outs2 st2 e2=>absurd (hc.symm.trans e2) (by simp)) (λd2 e2=>?_));(obtain rfl:=Sum.inr.inj (hc.symm.trans e2)))
   |((with_reducible refine DY ns b (by omega) hkl hnl hnm hgood (λit2 outs2 st2 e2 _ _ _ _=>absurd (hc.symm.trans e2) (by simp)) (λe f t e2=>?_));(obtain rfl:=Sum.inr.inj (hc.symm.trans e2)))
   |with_reducible first
    |refine Sg ?_
    |refine Ay ?_
    |refine QJ OS ?_
   |((with_reducible refine bt ?_ ?_);focus(simp[]<;>omega))
   |with_reducible refine SC.call ?_
  all_goals rfl
 |inl p=>
  obtain⟨it,outs,st⟩:=p
  have hof:kM ns=.inl it:=by
   unfold iC at hc
   cases ho:kM ns with
   |inr d=>rw[ho] at hc;cases hc
   |inl it'=>
    rw[ho] at hc
    simp only at hc
    split at hc
    ·cases hc;rfl
    ·cases hc
  have g:=od hnum (qQ hof)
  have hlen:=g.len
  have hit:=xr g hof
  have fw:Pq it:=⟨hit.fl.n1,hit.fl.n2,hit.fl.n3,λx hx=>(hit.fl.sf x hx).2,λx hx=>(hit.fl.ef x hx).2.1,hit.fl.ff,λx hx=>by
   obtain⟨n0,n1,nk,fe⟩:=hit.ms x hx
   have hm:x.ms=(ar ns x.node).map (λk=>(nd ns k).num==1):=congrArg Fx.ms fe
   rw[hm,List.length_map,ar,if_pos nk,List.length_take]
   have:=g.kids _ (List.mem_of_getElem? (Good.at n0 n1))
   omega⟩
  refine aX [] [] [] Tryz.func3 rfl (by kernel_rfl) ?_
  repeat' first
   |((with_reducible refine W.of ?_);conv=>whnf)
   |with_reducible first
    |refine W.fin (K:=K) hK ?_ rfl
    |refine W.and (by kernel_rfl) ?_
   |((with_reducible refine vo ns b (by omega) hkl hnl hgood (λit2 outs2 st2 e2=>?_) (λd2 e2=>absurd (hc.symm.trans e2) (by simp)));(have e3:=Sum.inl.inj (hc.symm.trans e2));(cases e3))
   |((with_reducible refine DY ns b (by omega) hkl hnl hnm hgood (λit2 outs2 st2 e2 q1 q2 q3 q4=>?_) (λe f t e2=>absurd (hc.symm.trans e2) (by simp)));(have e3:=Sum.inl.inj (hc.symm.trans e2));(cases e3))
   |with_reducible first
    |refine As true b false true false true true true ns it st.types st.vars outs (by omega) hkl2 fw (by omega) (by omega) (by omega) (λl hl=>by have:=q4 l hl;omega) ?_
    |refine Ay ?_
    |refine QJ OS ?_
   |((with_reducible refine bt ?_ ?_);focus(simp[]<;>omega))
   |with_reducible refine SC.call ?_
  all_goals rfl
end
section
set_option maxRecDepth 10000
open Go.Vv Go.Ee
def Um (x:Nd):List VV:=[.int .i64 x.kind,.str x.name,.int .i64 x.num,yI (x.kids.map λk=>[.int .i64 k]) none x.kn,.int .i64 x.mE,.int .i64 x.to]
abbrev Eb (b:Bool) (ns:List Nd):VV:=.agg [yI (ns.map Um) none b]
theorem SE (b:Bool) (ns:List Nd):(PV.vs (ns.map aH) none b).v=yI (ns.map Um) none b:=by
 show yI (PV.n7 (ns.map aH)) none b=_
 rw[fF,List.map_map]
 congr 1
 refine List.map_congr_left λx _=>?_
 have e:PV.n7 (x.kids.map aB)=x.kids.map λk=>[VV.int .i64 k]:=by rw[fF,List.map_map];rfl
 unfold Um
 rw[<-e]
 rfl
theorem E5 (b:Bool) (ns:List Nd) (hb:ns.length<=1000000000) (hkl1:∀x∈ns,x.kids.length<=17592186044415) (hnl1:∀x∈ns,x.name.length<4294967281) (hnum:∀x∈ns, -9223372036854775808<=x.num/\x.num<=9223372036854775807):bA Tryz.prog 3 [Eb b ns] aa.empty λr _=>r=.ret (.bool true):=by
 refine((PO ns b hb hkl1 hnl1 hnum (K:=λe _=>e=.ret (.b true)) rfl).run (λ_=>.un) aa.empty [Eb b ns] ⟨λo x h=>by simp[ay] at h,(λo o' i h=>by cases h),(λo i h=>by cases h),λ_ _=>rfl⟩ ⟨⟨_,rfl,⟨(SE b ns).symm,rfl⟩,trivial⟩,trivial⟩).mono λr h' hr=>?_
 obtain⟨e,s',ρ',rfl,h2,_⟩:=hr
 cases r with
 |ret v=>exact congrArg fQ.ret h2.1
 |panic v=>exact h2.elim
end
end Go.Proofs.YtdjkoddnnogejaaGreat
