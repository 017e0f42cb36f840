/- Part of the proof of CheckTrees: plain laws and steps of its walks, for all arguments. -/
import Derived.Test.YtdjkoddnnogejaaGreatZBf
set_option linter.unusedSimpArgs false
set_option linter.unusedVariables false
set_option linter.unusedSectionVars false
namespace Go.Proofs.YtdjkoddnnogejaaGreat
section
set_option maxRecDepth 100000
set_option maxHeartbeats 4000000
open Go.Vv Go.Ee
theorem ui {ns:List Nd} (g:Good ns) {n:Int} (h0:0<=n) (h1:n<(ns.length:Int)) (hk:(nd ns n).kind=14\/(nd ns n).kind=15\/(nd ns n).kind=16):
 ∃a,(nd ns n).kids=[a]/\0<=a/\a<n/\aJ (nd ns a).kind=true/\cz ns n.toNat=if(nd ns n).kind=14 then 38::cz ns a.toNat else if(nd ns n).kind=15 then[38,109,117,116,32]++cz ns a.toNat else[66,111,120,60]++cz ns a.toNat++[62]:=by
 obtain⟨k,y,e1,e2,e3,e4⟩:=g.type1 (kK h0 h1) hk
 have e5:nd ns (k:Int)=y:=by simp[nd,e3]
 refine⟨k,e1,by omega,by omega,by rw[e5];exact e4,?_⟩
 rw[jD (kK h0 h1),e1]
 rcases hk with hk|hk|hk<;>simp[hk,e2]
theorem xV {ns:List Nd} {n:Int} (h0:0<=n) (h1:n<(ns.length:Int)) (hk:¬((nd ns n).kind=14\/(nd ns n).kind=15\/(nd ns n).kind=16)):cz ns n.toNat=if(nd ns n).kind=10 then[105,54,52] else if(nd ns n).kind=11 then[98,111,111,108] else if(nd ns n).kind=12 then[40,41] else(nd ns n).name:=by
 rw[jD (kK h0 h1)]
 rw[not_or,not_or] at hk
 simp[hk]
abbrev F9 (f:FuncId) (ns:List Nd) (nb:Bool) (m:Nat):Prop:=∀(n:Int) {K:aR->SH->Prop},n.toNat<m->0<=n->n<(ns.length:Int)->aJ (nd ns n).kind=true->W (K (.ret (.s (cz ns n.toNat))) H0)->SC Tryz.prog f [.agg [.p (.vs (ns.map aH) none nb)],.i n] H0 K
theorem N8 {ns:List Nd} (g:Good ns) (nb:Bool):∀m,F9 344 ns nb m
 |0,n,K,hm,h0,h1,ht,hK=>by omega
 |m+1,n,K,hm,h0,h1,ht,hK=>by
  by_cases hk:(nd ns n).kind=14\/(nd ns n).kind=15\/(nd ns n).kind=16
  ·obtain⟨a,hkk,a0,a1,Ev,e⟩:=ui g h0 h1 hk
   have hal:=g.iU a0 (by omega)
   refine aX [] [] [] Tryz.func344 rfl (by kernel_rfl) ?_
   repeat' first
    |((with_reducible refine W.of ?_);conv=>whnf)
    |with_reducible first
     |refine W.fin (K:=K) hK ?_ rfl
     |refine W.and (by kernel_rfl) ?_
    |((with_reducible refine bt ?_ ?_);focus(simp[]<;>omega))
    |with_reducible refine aq h0 h1 ?_
    |((with_reducible refine on (aB a) ?_ ?_);focus(simp[hkk];done))
    |with_reducible first
     |refine N8 g nb m a (by omega) a0 (by omega) Ev ?_
     |refine SC.call ?_
    |((with_reducible refine bb (λh=>?_) (λh=>?_))<;>(try simp at h))
   all_goals first|(exfalso;omega)|(rw[e];simp[*])
  ·refine aX [] [] [] Tryz.func344 rfl (by kernel_rfl) ?_
   repeat' first
    |((with_reducible refine W.of ?_);conv=>whnf)
    |with_reducible first
     |refine W.fin (K:=K) hK ?_ rfl
     |refine W.and (by kernel_rfl) ?_
     |refine aq h0 h1 ?_
    |((with_reducible refine bb (λh=>?_) (λh=>?_))<;>(try simp at h))
   all_goals first|(rw[xV h0 h1 hk];simp[*];done)|(exfalso;omega)
theorem Dz {ns:List Nd} (g:Good ns) (nb:Bool):∀m,F9 150 ns nb m
 |0,n,K,hm,h0,h1,ht,hK=>by omega
 |m+1,n,K,hm,h0,h1,ht,hK=>by
  by_cases hk:(nd ns n).kind=14\/(nd ns n).kind=15\/(nd ns n).kind=16
  ·obtain⟨a,hkk,a0,a1,Ev,e⟩:=ui g h0 h1 hk
   have hal:=g.iU a0 (by omega)
   refine aX [] [] [] Tryz.func150 rfl (by kernel_rfl) ?_
   repeat' first
    |((with_reducible refine W.of ?_);conv=>whnf)
    |with_reducible first
     |refine W.fin (K:=K) hK ?_ rfl
     |refine W.and (by kernel_rfl) ?_
    |((with_reducible refine bt ?_ ?_);focus(simp[]<;>omega))
    |with_reducible refine aq h0 h1 ?_
    |((with_reducible refine on (aB a) ?_ ?_);focus(simp[hkk];done))
    |with_reducible first
     |refine Dz g nb m a (by omega) a0 (by omega) Ev ?_
     |refine SC.call ?_
    |((with_reducible refine bb (λh=>?_) (λh=>?_))<;>(try simp at h))
   all_goals first|(exfalso;omega)|(rw[e];simp[*])
  ·refine aX [] [] [] Tryz.func150 rfl (by kernel_rfl) ?_
   repeat' first
    |((with_reducible refine W.of ?_);conv=>whnf)
    |with_reducible first
     |refine W.fin (K:=K) hK ?_ rfl
     |refine W.and (by kernel_rfl) ?_
     |refine aq h0 h1 ?_
    |((with_reducible refine bb (λh=>?_) (λh=>?_))<;>(try simp at h))
   all_goals first|(rw[xV h0 h1 hk];simp[*];done)|(exfalso;omega)
theorem xL {ns:List Nd} (g:Good ns) (nb:Bool):∀m,F9 170 ns nb m
 |0,n,K,hm,h0,h1,ht,hK=>by omega
 |m+1,n,K,hm,h0,h1,ht,hK=>by
  by_cases hk:(nd ns n).kind=14\/(nd ns n).kind=15\/(nd ns n).kind=16
  ·obtain⟨a,hkk,a0,a1,Ev,e⟩:=ui g h0 h1 hk
   have hal:=g.iU a0 (by omega)
   refine aX [] [] [] Tryz.func170 rfl (by kernel_rfl) ?_
   repeat' first
    |((with_reducible refine W.of ?_);conv=>whnf)
    |with_reducible first
     |refine W.fin (K:=K) hK ?_ rfl
     |refine W.and (by kernel_rfl) ?_
    |((with_reducible refine bt ?_ ?_);focus(simp[]<;>omega))
    |with_reducible refine aq h0 h1 ?_
    |((with_reducible refine on (aB a) ?_ ?_);focus(simp[hkk];done))
    |with_reducible first
     |refine xL g nb m a (by omega) a0 (by omega) Ev ?_
     |refine SC.call ?_
    |((with_reducible refine bb (λh=>?_) (λh=>?_))<;>(try simp at h))
   all_goals first|(exfalso;omega)|(rw[e];simp[*])
  ·refine aX [] [] [] Tryz.func170 rfl (by kernel_rfl) ?_
   repeat' first
    |((with_reducible refine W.of ?_);conv=>whnf)
    |with_reducible first
     |refine W.fin (K:=K) hK ?_ rfl
     |refine W.and (by kernel_rfl) ?_
     |refine aq h0 h1 ?_
    |((with_reducible refine bb (λh=>?_) (λh=>?_))<;>(try simp at h))
   all_goals first|(rw[xV h0 h1 hk];simp[*];done)|(exfalso;omega)
end
section
set_option maxRecDepth 100000
set_option maxHeartbeats 4000000
open Go.Vv Go.Ee
abbrev F2 (it:aw):SH:=⟨[(3,.map (kJ (it.fns.map Fx.name) it.fns.length)),(2,.map (kJ (it.es.map Sd.name) it.es.length)),(1,.map (kJ (it.ss.map Sd.name) it.ss.length)),(0,.cells [.mp 1,.mp 2,.mp 3])],4⟩
abbrev yJ (ns:List Nd) (nb:Bool) (it:aw):SH:=⟨[(4,.map (kJ (it.fns.map Fx.name) it.fns.length)),(3,.map (kJ (it.es.map Sd.name) it.es.length)),(2,.map (kJ (it.ss.map Sd.name) it.ss.length)),(1,.cells [.mp 2,.mp 3,.mp 4]),(0,.cells [.p (.vs (ns.map aH) none nb),.p (.vs (it.ss.map iT) none it.sn),.p (.vs (it.es.map iT) none it.en),.p (.vs (it.fns.map sC) none it.yG),.ptr 1 0])],5⟩
theorem MB {K:aR->SH->Prop} (it:aw) (s:ah) (hK:W (K (.ret (.b (cw it s))) (F2 it))):SC Tryz.prog 213 [.f (.ptr 0 0),.s s] (F2 it) K:=by
 refine aX [] [] [] Tryz.func213 rfl (by kernel_rfl) ?_
 repeat' first
  |((with_reducible refine W.of ?_);conv=>whnf)
  |with_reducible first
   |refine W.fin (K:=K) hK ?_ rfl
   |refine fn [] [] Tryz.func92 rfl (by kernel_rfl) ?_
   |refine jW rfl (λk x hx hm=>?_) (λhm=>?_)
 all_goals(clear hK;simp[cw,aM, *])
theorem sK {f:Int->Option Int} {l:List Int} {x i:Int} (h0:0<=i) (hx:l[i.toNat]?=some x):(l.drop i.toNat).findSome? f=match f x with|some b=>some b|none=>(l.drop (i+1).toNat).findSome? f:=by
 obtain⟨h1,rfl⟩:=List.getElem?_eq_some_iff.1 hx
 rw[List.drop_eq_getElem_cons h1,List.findSome?_cons,show(i+1).toNat=i.toNat+1 by omega];cases f l[i.toNat]<;>rfl
theorem Ax {f:Int->Option Int} {l:List Int} {i:Int} (h:(l.length:Int)<=i):(l.drop i.toNat).findSome? f=none:=by rw[List.drop_of_length_le (by omega)];rfl
abbrev XN (ns:List Nd) (nb:Bool) (it:aw) (m:Nat):Prop:=∀(n:Int) {K:aR->SH->Prop},n.toNat<m->0<=n->n<(ns.length:Int)->W (K (.ret (.i (eg (bm ns it n)))) (yJ ns nb it))->SC Tryz.prog 153 [.f (.ptr 0 0),.i n] (yJ ns nb it) K
theorem lL {o:Option Int} (h:eg o<0) (h1:∀u,o=some u->0<=u):o=none:=by cases o with|none=>rfl|some u=>have:=h1 u rfl;simp[eg] at h;omega
theorem xu {o:Option Int} (h:0<=eg o):o=some (eg o):=by cases o with|none=>simp[eg] at h|some u=>rfl
theorem zi {o:Option Int} (h:0<=eg o):∃u,o=some u:=⟨_,xu h⟩
theorem vZ {ns:List Nd} (g:Good ns) (nb:Bool) (it:aw):∀m,XN ns nb it m
 |0,n,K,hm,h0,h1,hK=>by omega
 |m+1,n,K,hm,h0,h1,hK=>by
  have hkl:=g.kids _ (cB h0 h1)
  have e:=iu g it h0 h1
  refine aX [] [] [] Tryz.func153 rfl (by kernel_rfl) ?_
  repeat' first
   |((with_reducible refine W.of ?_);conv=>whnf)
   |with_reducible first
    |refine W.fin (K:=K) hK ?_ rfl
    |refine W.and (by kernel_rfl) ?_
   |((with_reducible refine bt ?_ ?_);focus(simp[]<;>omega))
   |with_reducible first
    |refine aq h0 h1 ?_
    |refine MB it _ ?_
   |((with_reducible refine bT [] [] [34] [] (λa:So (nd ns n).kids.length λi=>((nd ns n).kids.drop i.toNat).findSome? (bm ns it)=(nd ns n).kids.findSome? (bm ns it)=>[.i a.1]) (λ_=>⟨(5,b8 (nd ns n))::(yJ ns nb it).bp,6⟩) (λa=>(nd ns n).kids.length-a.1.toNat) ⟨0,by omega,by omega,rfl⟩ (by kernel_rfl) ?_ ?_);(focus((with_reducible refine W.of ?_);(conv=>whnf);exact⟨rfl,rfl⟩));rintro⟨i,i0,i1,hi⟩;dsimp only)
   |((with_reducible refine aj (l:=(nd ns n).kids) (by omega) (λk hk=>?_));(have hkb:=g.num h0 h1 k (List.mem_of_getElem? hk)))
   |with_reducible first
    |refine vZ g nb it m k (by omega) hkb.1 (by omega) ?_
    |refine SC.call ?_
   |((with_reducible refine bb (λh=>?_) (λh=>?_))<;>(try simp at h))
  all_goals(clear hK)
  all_goals first
   |(rw[e,if_pos ⟨by assumption,by assumption⟩];rfl)
   |(rw[e,if_neg (by simp[*]),<-hi,Ax (by omega)];rfl)
   |(rw[e,if_neg (by simp[*]),<-hi,sK i0 hk];obtain⟨u,hu⟩:=zi ‹_›;simp only[hu])
   |exact⟨⟨⟨i+1,by omega,by omega,by rw[<-hi,sK i0 hk,lL (by omega) λu hu=>(dU g it k.toNat k (Nat.le_refl _) hkb.1 (by omega) u hu).1]⟩,ao i0 (by omega),rfl,rfl⟩,rfl⟩
abbrev Xz (ns:List Nd) (nb:Bool) (it:aw) (m:Nat):Prop:=∀(n:Int) (may:Bool) {K:aR->SH->Prop},n.toNat<m->0<=n->n<(ns.length:Int)->W (K (.ret (.i (eg (bj ns n may)))) (yJ ns nb it))->SC Tryz.prog 154 [.f (.ptr 0 0),.i n,.b may] (yJ ns nb it) K
theorem zJ {ns:List Nd} (g:Good ns) (nb:Bool) (it:aw):∀m,Xz ns nb it m
 |0,n,may,K,hm,h0,h1,hK=>by omega
 |m+1,n,may,K,hm,h0,h1,hK=>by
  have hkl:=g.kids _ (cB h0 h1)
  have e:=eC g may h0 h1
  refine aX [] [] [] Tryz.func154 rfl (by kernel_rfl) ?_
  repeat' first
   |((with_reducible refine W.of ?_);conv=>whnf)
   |with_reducible first
    |refine W.fin (K:=K) hK ?_ rfl
    |refine W.and (by kernel_rfl) ?_
   |((with_reducible refine bt ?_ ?_);focus(simp[]<;>omega))
   |with_reducible refine aq h0 h1 ?_
   |((with_reducible refine bT [] [] [35] [] (λa:So (nd ns n).kids.length λi=>((nd ns n).kids.drop i.toNat).findSome? (λa=>bj ns a false)=(nd ns n).kids.findSome? (λa=>bj ns a false)=>[.i a.1]) (λ_=>⟨(5,b8 (nd ns n))::(yJ ns nb it).bp,6⟩) (λa=>(nd ns n).kids.length-a.1.toNat) ⟨0,by omega,by omega,rfl⟩ (by kernel_rfl) ?_ ?_);(focus((with_reducible refine W.of ?_);(conv=>whnf);exact⟨rfl,rfl⟩));rintro⟨i,i0,i1,hi⟩;dsimp only)
   |((with_reducible refine aj (l:=(nd ns n).kids) (by omega) (λk hk=>?_));(have hkb:=g.num h0 h1 k (List.mem_of_getElem? hk)))
   |with_reducible first
    |refine zJ g nb it m k false (by omega) hkb.1 (by omega) ?_
    |refine SC.call ?_
   |((with_reducible refine bb (λh=>?_) (λh=>?_))<;>(try simp at h))
  all_goals(clear hK)
  all_goals first
   |(rw[e,if_pos (by simp[*])];rfl)
   |(rw[e,if_neg (by simp[*]),<-hi,Ax (by omega)];rfl)
   |(rw[e,if_neg (by simp[*]),<-hi,sK i0 hk];obtain⟨u,hu⟩:=zi ‹_›;simp only[hu])
   |exact⟨⟨⟨i+1,by omega,by omega,by rw[<-hi,sK i0 hk,lL (by omega) λu hu=>(fK g k.toNat k false (Nat.le_refl _) hkb.1 (by omega) u hu).1]⟩,ao i0 (by omega),rfl,rfl⟩,rfl⟩
theorem w5 {K:aR->SH->Prop} (ns:List Nd) (nb:Bool) (it:aw) (n:Int) (h0:0<=n) (h1:n<(ns.length:Int)) (h2:(nd ns n).kind=2->2<=(nd ns n).kids.length) (hkl:(nd ns n).kids.length<=17592186044415) (hK:∀es c nl,es=(ar ns n).map aB->W (K (.ret (.f (.p (.vs es c nl)))) (yJ ns nb it))):SC Tryz.prog 152 [.f (.ptr 0 0),.i n] (yJ ns nb it) K:=by
 refine aX [] [] [] Tryz.func152 rfl (by kernel_rfl) ?_
 repeat' first
  |((with_reducible refine W.of ?_);conv=>whnf)
  |with_reducible first
   |refine W.fin (K:=K) (hK _ _ _ ?_) rfl rfl
   |refine aq h0 h1 ?_
  |((with_reducible refine bt ?_ ?_);focus(simp[]<;>omega))
  |with_reducible refine bt eK ?_
  |((with_reducible refine bb (λh=>?_) (λh=>?_))<;>(try simp at h))
 all_goals(clear hK;simp[ar, *];try omega)
end
section
set_option maxRecDepth 100000
set_option maxHeartbeats 4000000
open Go.Vv Go.Ee
theorem uN {f:FuncId} {F:Func} {c:Code} {args:List EV} {os:List (Nat×SO)} {nx:Nat} {K:aR->SH->Prop} (T:fI) (pol:vn) (mv:List Nat) (hf:Tryz.prog.funcs[f]?=some F) (hb:F.body=some c) (hc:fD Tryz.prog f args.length=true)
 (hk:W (zn lH args λfr=>er Tryz.prog (SC Tryz.prog) (SL Tryz.prog ⟨F.ntmps,[]⟩) T pol c (QB Tryz.prog F.results.toList λe s1=>Fs mv nx e s1 K) fr ⟨os,nx⟩)):SC Tryz.prog f args ⟨os,nx⟩ K:=.nX mv (.body uV T pol hf hb hc hk)
theorem oH {α:Type} {f:α->List PV} {l:List α} {a:α} {k:List (List PV)->Prop} (h:W (k ((l++[a]).map f))):Fold (l.map f++[f a]) k:=fold_eq _ (by simp) h
abbrev XX (it:aw) (l:List ah):SH:=⟨(4,.arr 1 (l.map bL) true)::(F2 it).bp,5⟩
abbrev WJ (fs:List Fd) (F:List Fd->List ah):Type:={p:Int×List ah//0<=p.1/\p.1<=fs.length/\p.2=F (fs.take p.1.toNat)/\p.2.length<=p.1}
abbrev u7 (l:List Fd):List ah:=l.map Fd.ty
abbrev oW (l:List Fd):List ah:=(l.map Fd.ty).filter (λt=>!(t==[]))
theorem wK {fs:List Fd} {i:Int} {x:Fd} (h0:0<=i) (hx:fs[i.toNat]?=some x):fs.take (i+1).toNat=fs.take i.toNat++[x]:=by
 rw[show(i+1).toNat=i.toNat+1 by omega,List.take_add_one,hx];rfl
theorem SM {l:List Fd} {y:Fd} (h:¬y.ty=[]):oW (l++[y])=oW l++[y.ty]:=by simp[oW,h]
theorem SK {l:List Fd} {y:Fd} (h:y.ty=[]):oW (l++[y])=oW l:=by simp[oW,h]
theorem Hp {it:aw} {s:ah} {x:Sd} (h:aM it.ss s=some x):hX it s=(u7 x.fs,false):=by simp[hX,h]
theorem Ho {it:aw} {s:ah} {x:Sd} (h:aM it.ss s=none) (h2:aM it.es s=some x):hX it s=(oW x.fs,true):=by unfold hX;rw[h,h2]
theorem Hq {it:aw} {s:ah} (h:aM it.ss s=none) (h2:aM it.es s=none):hX it s=([],false):=by unfold hX;rw[h,h2]
theorem nR {α:Type} {l:List α} {i:Int} (h:(l.length:Int)<=i):l.take i.toNat=l:=List.take_of_length_le (by omega)
theorem wZ {K:aR->SH->Prop} (it:aw) (iZ:A1 it) (s:ah) (hs:∀l en,hX it s=(l,en)->W (K (.ret (.bR [.f (.ref 4 l.length 1 none),.f (.p (.bool en))])) (XX it l))) (hn:hX it s=([],false)->W (K (.ret (.bR [.f (.p (.vs [] none true)),.f (.p (.bool false))])) (F2 it))):SC Tryz.prog 214 [L8 it,.f (.ptr 0 0),.s s] (F2 it) K:=by
 refine uN [] [] [] Tryz.func214 rfl (by kernel_rfl) ?_
 repeat' first
  |((with_reducible refine W.of ?_);conv=>whnf)
  |with_reducible refine W.fin (K:=K) (hn ?_) rfl rfl
  |((with_reducible refine W.fin (K:=K) (hs _ _ ?_) rfl rfl))
  |with_reducible refine fn [] [] Tryz.func92 rfl (by kernel_rfl) ?_
  |((with_reducible refine jW rfl (λk x hx hm=>?_) (λhm=>?_));(focus(first|(have hfx:=iZ.sf x (List.mem_of_getElem? hx))|(have hfx:=iZ.ef x (List.mem_of_getElem? hx)))))
  |with_reducible refine Il ‹_› ?_
  |((with_reducible refine bt ?_ ?_);focus(simp[hC]<;>omega))
  |((with_reducible refine SL.nil 8 1 ?_);(with_reducible refine W.of ?_);(conv=>whnf);(with_reducible refine bT [] [] [8,33] [5] (λa:WJ x.fs u7=>[.f (.ref 6 a.1.2.length 1 none),.i a.1.1]) (λa=>⟨(6,.arr 1 (a.1.2.map bL) true)::(4,.cells [.p (.vs (it.ss.map iT) none it.sn),.p (.vs (it.es.map iT) none it.en),.p (.vs (it.fns.map sC) none it.yG)])::(F2 it).bp,7⟩) (λa=>x.fs.length-a.1.1.toNat) ⟨(0,[]),by omega,by omega,rfl,by decide⟩ (by kernel_rfl) ?_ ?_);(focus((with_reducible refine W.of ?_);(conv=>whnf);exact⟨rfl,rfl⟩));rintro⟨⟨i,l⟩,i0,i1,hi,hl⟩;dsimp only;(dsimp only at i0 i1 hi hl))
  |((with_reducible refine SL.nil 8 1 ?_);(with_reducible refine W.of ?_);(conv=>whnf);(with_reducible refine bT [] [] [8,60] [5] (λa:WJ x.fs oW=>[.f (.ref 6 a.1.2.length 1 none),.i a.1.1]) (λa=>⟨(6,.arr 1 (a.1.2.map bL) true)::(4,.cells [.p (.vs (it.ss.map iT) none it.sn),.p (.vs (it.es.map iT) none it.en),.p (.vs (it.fns.map sC) none it.yG)])::(F2 it).bp,7⟩) (λa=>x.fs.length-a.1.1.toNat) ⟨(0,[]),by omega,by omega,rfl,by decide⟩ (by kernel_rfl) ?_ ?_);(focus((with_reducible refine W.of ?_);(conv=>whnf);exact⟨rfl,rfl⟩));rintro⟨⟨i,l⟩,i0,i1,hi,hl⟩;dsimp only;(dsimp only at i0 i1 hi hl))
  |((with_reducible refine aj (l:=x.fs) (by omega) (λy hy=>?_)))
  |with_reducible first
   |refine oH (f:=bL) ?_
   |refine fj ?_
   |refine bt lj ?_
  |((with_reducible refine bb (λh=>?_) (λh=>?_))<;>(try simp at h))
 all_goals(clear hs hn)
 all_goals first
  |exact⟨⟨⟨(i+1,l++[y.ty]),(by dsimp only;omega),(by dsimp only;omega),by dsimp only;rw[wK i0 hy,hi];simp,by simp;omega⟩,ao i0 (by omega),rfl,rfl⟩,rfl⟩
  |exact⟨⟨⟨(i+1,l++[y.ty]),(by dsimp only;omega),(by dsimp only;omega),by dsimp only;rw[wK i0 hy,hi,SM ‹_›],by simp;omega⟩,ao i0 (by omega),rfl,rfl⟩,rfl⟩
  |exact⟨⟨⟨(i+1,l),(by dsimp only;omega),(by dsimp only;omega),by dsimp only;rw[wK i0 hy,hi,SK ‹_›],by dsimp only;omega⟩,ao i0 (by omega),rfl,rfl⟩,rfl⟩
  |(rw[hi,nR ‹_›];exact Hp ‹_›)
  |(rw[hi,nR ‹_›];exact Ho ‹_› ‹_›)
  |exact Hq ‹_› ‹_›
end
section
set_option maxRecDepth 100000
set_option maxHeartbeats 4000000
open Go.Vv Go.Ee
def lh (m:List (ah×PV)) (l:List ah):Prop:=∀t,bS t m=if l.contains t=true then some (.int .i64 1) else none
theorem nG {s:ah} {v:PV}:∀{m:List (ah×PV)} (t:ah),bS t (fk s v m)=if t=s then some v else bS t m
 |[],t=>by
  by_cases h:t=s
  ·simp[fk,bS,h]
  ·have:(t==s)=false:=by simp[h]
   simp[fk,bS,h,this]
 |(a,w)::m,t=>by
  by_cases e:s=a
  ·subst e
   by_cases f:t=s
   ·simp[fk,bS,f]
   ·have:(t==s)=false:=by simp[f]
    simp[fk,bS,f,this]
  ·have e2:(s==a)=false:=by simp[e]
   simp only[fk,e2,bS]
   by_cases f:t=a
   ·subst f
    have:¬t=s:=λh=>e h.symm
    simp[this]
   ·have:(t==a)=false:=by simp[f]
    simp only[this]
    exact nG t
theorem lh.nil:lh [] []:=λ_=>rfl
theorem lh.put {m:List (ah×PV)} {l:List ah} (h:lh m l) (s:ah):lh (fk s (.int .i64 1) m) (s::l):=λt=>by
 rw[nG,h t]
 by_cases e:t=s<;>simp[e]
theorem tG {m:List (ah×PV)} {l:List ah} {s:ah} {k1:PV->Prop} {k2:Prop} (h:lh m l) (h1:l.contains s=true->W (k1 (.int .i64 1))) (h2:l.contains s=false->W k2):Mt (bS s m) k1 k2:=by
 have e:=h s
 cases hc:l.contains s with
 |true=>rw[hc,if_pos rfl] at e;simp only[Mt];rw[e];exact h1 hc
 |false=>rw[hc,if_neg (by simp)] at e;simp only[Mt];rw[e];exact h2 hc
theorem Mi {l ex:List ah} {x:ah} (h:(l++ex)[((l.length:Int)-1).toNat]?=some x) (h0:(0:Int)<l.length):∃td,l=td++[x]:=by
 rw[List.getElem?_append_left (by omega),show((l.length:Int)-1).toNat=l.length-1 by omega] at h
 obtain⟨h1,rfl⟩:=List.getElem?_eq_some_iff.1 h
 refine⟨l.take (l.length-1),?_⟩
 have:=List.take_append_drop (l.length-1) l
 rw[List.drop_eq_getElem_cons h1,List.drop_of_length_le (by omega)] at this
 exact this.symm
abbrev xS (it:aw) (seen todo:List ah):Nat:=dq (bB it) (cG it) seen todo
theorem Kr {it:aw} {seen todo:List ah} {n:Nat} (h:xS it seen todo<=n):todo.length<=n:=by unfold xS dq at h;omega
theorem SA {l:List ah} {x:ah} {n:Nat} (h:(l++[x]).length<=n):l.length+1<=n:=by simpa using h
abbrev F6 (it:aw) (name:ah):Type:={p:(List ah×List ah)×List ah×List (ah×PV)//eI (bB it) name p.1.1 p.1.2/\lh p.2.2 p.1.1/\(∀t∈p.1.2,t∈cG it)/\xS it p.1.1 p.1.2<=100000000/\∃ex,p.2.1=p.1.2++ex}
abbrev W0 (it:aw) (l:List ah) (m:List (ah×PV)):SH:=⟨(7,.arr 1 (l.map bL) true)::(5,.map m)::(4,.cells [.p (.vs (it.ss.map iT) none it.sn),.p (.vs (it.es.map iT) none it.en),.p (.vs (it.fns.map sC) none it.yG)])::(F2 it).bp,8⟩
theorem LL (it:aw) (iZ:A1 it) (name:ah) (hsm:((cG it).map (λu=>(bB it u).length+1)).sum+1048576<=100000000):eI (bB it) name [] (bB it name)/\lh [] []/\(∀t∈bB it name,t∈cG it)/\xS it [] (bB it name)<=100000000:=by
 refine⟨⟨by simp,λs h=>?_,λs h=>.inr h,λs h=>by simp at h⟩,.nil,vt it name,?_⟩
 ·rcases h with h|h
  ·simp at h
  ·exact .one h
 ·have:=vu iZ name
  have e:xS it [] (bB it name)=((cG it).map (λu=>(bB it u).length+1)).sum+(bB it name).length:=by simp only[xS,dq,List.contains_nil,Bool.not_false];rw[List.filter_eq_self.2 (λ_ _=>rfl)]
  omega
def OA (it:aw) (iZ:A1 it) (name:ah) (hsm:((cG it).map (λu=>(bB it u).length+1)).sum+1048576<=100000000) (l:List ah) (h:bB it name=l):F6 it name:=⟨(([],l),l,[]),have e:=h▸LL it iZ name hsm;⟨e.1,e.2.1,e.2.2.1,e.2.2.2,[],by simp⟩⟩
theorem GI {it:aw} {s:ah} {l:List ah} {en:Bool} (h:hX it s=(l,en)):bB it s=l:=by rw[bB,h]
theorem Bg {it:aw} (iZ:A1 it) {s:ah} {l:List ah} (h:bB it s=l):l.length<=1048576:=h▸vu iZ s
theorem Qe {td ex l:List ah} {x:ah} {k:List (List PV)->Prop} (h:W (k ((td++l).map bL))):Fold (List.take (((td++[x]).length:Int)-1).toNat ((td++[x]++ex).map bL)++l.map bL) k:=fold_eq _ (by
 rw[show(((td++[x]).length:Int)-1).toNat=td.length by simp,<-List.map_take,List.append_assoc,List.take_left',List.map_append];rfl) h
theorem KF (td:List ah) (x:ah):(((td++[x]).length:Int)-1).toNat=td.length:=by simp
theorem vC {td:List ah} {x t:ah}:t∈td++[x]↔t=x\/t∈td:=by simp[or_comm]
theorem GJ {it:aw} {name x:ah} {seen td ex:List ah} {m:List (ah×PV)} (hS:eI (bB it) name seen (td++[x])) (hm:lh m seen) (hal:∀t∈td++[x],t∈cG it) (hM:xS it seen (td++[x])<=100000000) (hc:seen.contains x=true):
 ∃a:F6 it name,xS it a.1.1.1 a.1.1.2<xS it seen (td++[x])/\a.1.1.2=td/\a.1.2=(td++[x]++ex,m):=by
 have h:xS it seen td<xS it seen (td++[x]):=by unfold xS dq;simp
 exact⟨⟨((seen,td),td++[x]++ex,m),hS.skip (λt=>vC) (by simpa using hc),hm,λt ht=>hal t (vC.2 (.inr ht)),by dsimp only;omega,[x]++ex,by simp⟩,h,rfl,rfl⟩
theorem te {it:aw} {name x:ah} {seen td all l:List ah} {m:List (ah×PV)} (hS:eI (bB it) name seen (td++[x])) (hm:lh m seen) (hal:∀t∈td++[x],t∈cG it) (hM:xS it seen (td++[x])<=100000000) (hc:seen.contains x=false) (hx:¬x=name) (hl:bB it x=l) (ha:∃ex,all=td++l++ex):
 ∃a:F6 it name,xS it a.1.1.1 a.1.1.2<xS it seen (td++[x])/\a.1.1.2=td++l/\a.1.2=(all,fk x (.int .i64 1) m):=by
 have h:xS it (x::seen) (td++l)<xS it seen (td++[x]):=qe (hal x (vC.2 (.inl rfl))) hc (by rw[<-hl];simp;omega)
 refine⟨⟨((x::seen,td++l),all,fk x (.int .i64 1) m),hS.take (λt=>vC) hx (λt=>by rw[<-hl];simp),hm.put x,λt ht=>?_,by dsimp only;omega,ha⟩,h,rfl,rfl⟩
 rcases List.mem_append.1 ht with ht|ht
 ·exact hal t (vC.2 (.inr ht))
 ·exact vt it x t (by rw[hl];exact ht)
theorem EO {K:aR->SH->Prop} (it:aw) (iZ:A1 it) (hsm:((cG it).map (λu=>(bB it u).length+1)).sum+1048576<=100000000) (name:ah) (hK:W (K (.ret (.b (wF it name))) (F2 it))):SC Tryz.prog 155 [L8 it,.f (.ptr 0 0),.s name] (F2 it) K:=by
 refine uN [] [] [] Tryz.func155 rfl (by kernel_rfl) ?_
 repeat' first
  |((with_reducible refine W.of ?_);conv=>whnf)
  |with_reducible refine W.fin (K:=K) hK ?_ rfl
  |((with_reducible refine bt ?_ ?_);focus(simp[hC]<;>omega))
  |with_reducible refine bt lj ?_
  |((with_reducible refine wZ it iZ _ (λl en he=>?_) (λhe=>?_));(all_goals(have hed:=GI he));(focus(have hlb:=Bg iZ hed)))
  |((with_reducible refine SL.nil 8 1 ?_);(with_reducible refine W.of ?_);(conv=>whnf);(with_reducible refine bT [] [] [8] [6] (λa:F6 it name=>[.f (.ref 7 a.1.1.2.length 1 none)]) (λa=>W0 it a.1.2.1 a.1.2.2) (λa=>xS it a.1.1.1 a.1.1.2) (OA it iZ name hsm [] hed) (by kernel_rfl) ?_ ?_);(focus((with_reducible refine W.of ?_);(conv=>whnf);exact⟨rfl,rfl⟩));rintro⟨⟨⟨seen,todo⟩,all,m⟩,hS,hm,hal,hM,ex,hex⟩;dsimp only;(dsimp only at hS hm hal hM hex;subst hex;have hlb:=trivial;have hed:=trivial;have htl:=Kr hM))
  |((with_reducible refine bT [] [] [8] [6] (λa:F6 it name=>[.f (.ref 7 a.1.1.2.length 1 none)]) (λa=>W0 it a.1.2.1 a.1.2.2) (λa=>xS it a.1.1.1 a.1.1.2) (OA it iZ name hsm l hed) (by kernel_rfl) ?_ ?_);(focus((with_reducible refine W.of ?_);(conv=>whnf);exact⟨rfl,rfl⟩));rintro⟨⟨⟨seen,todo⟩,all,m⟩,hS,hm,hal,hM,ex,hex⟩;dsimp only;(dsimp only at hS hm hal hM hex;subst hex;have hlb:=trivial;have hed:=trivial;have htl:=Kr hM))
  |((with_reducible refine aj (l:=todo++ex) (by rw[List.length_append];omega) (λx hx=>?_));(obtain⟨td,rfl⟩:=Mi hx (by omega));(have htd:=SA htl))
  |with_reducible first
   |refine tG hm (λhc=>?_) (λhc=>?_)
   |refine Qe ?_
   |refine fj ?_
   |refine iQ ?_
   |refine SC.call ?_
  |((with_reducible refine bb (λh=>?_) (λh=>?_))<;>(try simp at h))
 all_goals(clear hK)
 all_goals first
  |(rw[qE (hS.hit (vC.2 (.inl (Eq.symm ‹_›))))];done)
  |(have ee:=GJ (ex:=ex) hS hm hal hM hc;obtain⟨a,a1,a2,a3⟩:=ee;exact⟨⟨a,a1,by rw[a2,KF],by rw[a3]⟩,rfl⟩)
  |(have hz:=‹l=[]›;subst hz;have ee:=te (all:=td++[x]++ex) (l:=[]) hS hm hal hM hc ‹_› hed ⟨[x]++ex,by simp⟩;obtain⟨a,a1,a2,a3⟩:=ee;exact⟨⟨a,a1,by rw[a2,KF];simp,by rw[a3]⟩,rfl⟩)
  |(have ee:=te (all:=td++[x]++ex) (l:=[]) hS hm hal hM hc ‹_› hed ⟨[x]++ex,by simp⟩;obtain⟨a,a1,a2,a3⟩:=ee;exact⟨⟨a,a1,by rw[a2,KF];simp,by rw[a3]⟩,rfl⟩)
  |(have ee:=te (all:=td++l) hS hm hal hM hc ‹_› hed ⟨[],by simp⟩;obtain⟨a,a1,a2,a3⟩:=ee;exact⟨⟨a,a1,by rw[a2],by rw[a3]⟩,rfl⟩)
  |(have:todo=[]:=(by simpa using h);subst this;rw[tc hS.done];done)
end
section
set_option maxRecDepth 100000
set_option maxHeartbeats 4000000
open Go.Vv Go.Ee
abbrev Wo (w p:Int):PV:=.agg [.int .i64 w,.int .i64 p]
def Lj (it:aw) (s:ah) (w p:Int):Prop:=0<=w/\0<=p/\S7 it s w.toNat p.toNat
def ml (it:aw) (m:List (ah×PV)):Prop:=∀t v,bS t m=some v->∃w p,v=Wo w p/\Lj it t w p
theorem ml.nil (it:aw):ml it []:=λt v h=>by simp[bS] at h
theorem ml.put {it:aw} {m:List (ah×PV)} (h:ml it m) {s:ah} {w p:Int} (hs:Lj it s w p):ml it (fk s (Wo w p) m):=λt v e=>by
 rw[nG] at e
 by_cases f:t=s
 ·rw[if_pos f] at e;cases e;exact⟨w,p,rfl,f▸hs⟩
 ·rw[if_neg f] at e;exact h t v e
theorem xk {it:aw} {m:List (ah×PV)} {s:ah} {k1:PV->Prop} {k2:Prop} (h:ml it m) (h1:∀w p,Lj it s w p->W (k1 (Wo w p))) (h2:W k2):Mt (bS s m) k1 k2:=by
 cases e:bS s m with
 |none=>exact h2
 |some v=>obtain⟨w,p,rfl,hs⟩:=h s v e;exact h1 w p hs
theorem VW {l:List Sd} {s:ah} {x:Sd} {k1:PV->Prop} {k2:Prop} (h:aM l s=some x) (h1:∀k:Nat,W (k1 (.int .i64 k))):Mt (bS s (kJ (l.map Sd.name) l.length)) k1 k2:=jW rfl (λk _ _ _=>h1 k) λe=>by rw[aM,e] at h;cases h
theorem Uk {l:List Sd} {s:ah} {k1:PV->Prop} {k2:Prop} (h:aM l s=none) (h2:W k2):Mt (bS s (kJ (l.map Sd.name) l.length)) k1 k2:=jW rfl (λk _ _ e=>by rw[aM,e] at h;cases h) λ_=>h2
abbrev Xg (it:aw) (m:List (ah×PV)):SH:=⟨(4,.map m)::(F2 it).bp,5⟩
abbrev XZ (it:aw):SO:=.cells [.p (.vs (it.ss.map iT) none it.sn),.p (.vs (it.es.map iT) none it.en),.p (.vs (it.fns.map sC) none it.yG)]
abbrev Xh (it:aw) (l:List ah) (w p:Int) (m:List (ah×PV)):SH:=⟨(9,.cells [.p (.int .i64 w),.p (.int .i64 p)])::(8,.arr 1 (l.map bL) true)::(7,.cells [.p (.int .i64 0),.p (.int .i64 0)])::(6,.cells [.p (.int .i64 0),.p (.int .i64 0)])::(5,XZ it)::(4,.map m)::(F2 it).bp,10⟩
abbrev Vp (it:aw) (s:ah) (l:List ah):Type:={q:(Int×Int×Int)×List (ah×PV)//0<=q.1.1/\q.1.1<=l.length/\0<=q.1.2.1/\q.1.2.1<=66+jy it s/\0<=q.1.2.2/\q.1.2.2<=1025/\sg it (l.drop q.1.1.toNat) (q.1.2.1.toNat,q.1.2.2.toNat)=sg it l (1,1)/\ml it q.2}
abbrev Vq (it:aw) (l:List ah):Type:={q:(Int×Int×Int)×List (ah×PV)//0<=q.1.1/\q.1.1<=l.length/\0<=q.1.2.1/\q.1.2.1<=65/\0<=q.1.2.2/\q.1.2.2<=1025/\sh it (l.drop q.1.1.toNat) (q.1.2.1.toNat,q.1.2.2.toNat)=sh it l (0,1)/\ml it q.2}
abbrev Ps (it:aw) (n:Nat):Prop:=∀(s:ah) (m:List (ah×PV)) {K:aR->SH->Prop},jy it s<n->ml it m->(∀w p m',Lj it s w p->ml it m'->W (K (.ret (.agg [.p (.int .i64 w),.p (.int .i64 p)])) (Xg it m')))->SC Tryz.prog 156 [L8 it,.f (.ptr 0 0),.s s,.f (.mp 4)] (Xg it m) K
theorem drop_cons {α:Type} {l:List α} {i:Int} {t:α} (i0:0<=i) (ht:l[i.toNat]?=some t):l.drop i.toNat=t::l.drop (i+1).toNat:=by
 obtain⟨h1,rfl⟩:=List.getElem?_eq_some_iff.1 ht
 rw[List.drop_eq_getElem_cons h1,show(i+1).toNat=i.toNat+1 by omega]
theorem Sz {it:aw} {l:List ah} {t:ah} {i w p w2 p2:Int} (i0:0<=i) (ht:l[i.toNat]?=some t) (w0:0<=w) (p0:0<=p) (h:Lj it t w2 p2):sh it (l.drop i.toNat) (w.toNat,p.toNat)=sh it (l.drop (i+1).toNat) ((min (w+w2) 65).toNat,(min (p+p2) 1025).toNat):=by
 obtain⟨q0,q1,q2,q3,q4⟩:=h
 rw[drop_cons i0 ht,FG q3 q2,show(min (w+w2) 65).toNat=min (w.toNat+w2.toNat) 65 by omega,show(min (p+p2) 1025).toNat=min (p.toNat+p2.toNat) 1025 by omega]
theorem Sy {it:aw} {l:List ah} {t:ah} {i w p w2 p2:Int} (i0:0<=i) (ht:l[i.toNat]?=some t) (w0:0<=w) (p0:0<=p) (h:Lj it t w2 p2):sg it (l.drop i.toNat) (w.toNat,p.toNat)=sg it (l.drop (i+1).toNat) ((max w (1+w2)).toNat,(min (p+p2) 1025).toNat):=by
 obtain⟨q0,q1,q2,q3,q4⟩:=h
 rw[drop_cons i0 ht,FF q3 q2,show(max w (1+w2)).toNat=max w.toNat (1+w2.toNat) by omega,show(min (p+p2) 1025).toNat=min (p.toNat+p2.toNat) 1025 by omega]
theorem gf {α:Type} {l:List α} {i:Int} (h:(l.length:Int)<=i):l.drop i.toNat=[]:=List.drop_of_length_le (by omega)
theorem sN {it:aw} (hac:gD it) {s:ah} {x:Sd} (h1:aM it.ss s=some x) {i w p:Int} (h:((u7 x.fs).length:Int)<=i) (w0:0<=w) (w1:w<=65) (p0:0<=p) (p1:p<=1025) (hF:sh it ((u7 x.fs).drop i.toNat) (w.toNat,p.toNat)=sh it (u7 x.fs) (0,1)):Lj it s w p:=
 ⟨w0,p0,Ky hac h1 rfl (by omega) (by rw[<-hF,gf h]) (by omega)⟩
theorem sM {it:aw} (hac:gD it) {s:ah} {x:Sd} (h0:aM it.ss s=none) (h1:aM it.es s=some x) {i w p:Int} (h:((oW x.fs).length:Int)<=i) (w0:0<=w) (w1:w<=66+jy it s) (p0:0<=p) (p1:p<=1025) (hF:sg it ((oW x.fs).drop i.toNat) (w.toNat,p.toNat)=sg it (oW x.fs) (1,1)):Lj it s w p:=
 ⟨w0,p0,Kx hac h0 h1 rfl (by omega) (by rw[<-hF,gf h]) (by omega)⟩
theorem N4 {it:aw} {s:ah} (h0:aM it.ss s=none) (h1:aM it.es s=none):Lj it s (if s=[40,41] then 0 else 1) 1:=by
 refine⟨by split<;>omega,by omega,?_⟩
 unfold S7
 rw[Pc h0 h1]
 split<;>simp<;>omega
theorem NW (it:aw) (iZ:A1 it) (hac:gD it):∀n,Ps it n
 |0,s,m,K,hr,hm,hK=>by omega
 |n+1,s,m,K,hr,hm,hK=>by
  have hnl:(aY it).length<=2097152:=by have:=iZ.ss;have:=iZ.es;simp[aY];omega
  have hrk:=tT it s
  cases h1:aM it.ss s with
  |some x=>
   have hh:=Hp h1
   have hed:=GI hh
   have hlb:=Bg iZ hed
   have hlx:(u7 x.fs).length=x.fs.length:=by simp
   refine uN [] [] [] Tryz.func156 rfl (by kernel_rfl) ?_
   repeat' first
    |((with_reducible refine W.of ?_);conv=>whnf)
    |((with_reducible refine W.fin (K:=K) (hK _ _ _ ?_ ?_) rfl rfl))
    |((with_reducible refine bt ?_ ?_);focus(simp[]<;>omega))
    |with_reducible refine xk hm (λw p hw=>?_) ?_
    |((with_reducible refine wZ it iZ s (λl en he=>?_) (λhe=>?_));(focus((obtain⟨rfl,rfl⟩:=Prod.mk.inj (he.symm.trans hh)))))
    |with_reducible first
     |refine fn [] [] Tryz.func92 rfl (by kernel_rfl) ?_
     |refine VW h1 (λk=>?_)
     |refine iQ ?_
    |((with_reducible refine bT [] [] [79] [] (λa:Vq it (u7 x.fs)=>[.i a.1.1.1]) (λa=>Xh it (u7 x.fs) a.1.1.2.1 a.1.1.2.2 a.1.2) (λa=>(u7 x.fs).length-a.1.1.1.toNat) ⟨((0,0,1),m),by simp,by simp,by simp,by simp,by simp,by simp,rfl,hm⟩ (by kernel_rfl) ?_ ?_);(focus((with_reducible refine W.of ?_);(conv=>whnf);exact⟨rfl,rfl⟩));rintro⟨⟨⟨i,w,p⟩,m2⟩,i0,i1,w0,w1,p0,p1,hF,hm2⟩;dsimp only;(dsimp only at i0 i1 w0 w1 p0 p1 hF hm2))
    |((with_reducible refine aj (l:=u7 x.fs) (by omega) (λt ht=>?_));(have hlt:=mW hac (jR h1) (b:=t) (by rw[hed];exact List.mem_of_getElem? ht)))
    |((with_reducible refine NW it iZ hac n t m2 (by omega) hm2 (λw2 p2 m3 hw2 hm3=>?_));(have hw3:=hw2);(obtain⟨q0,q1,q2,q3,q4⟩:=hw3))
    |with_reducible first
     |refine un 1 (by kernel_rfl) ?_
     |refine SC.call ?_
    |((with_reducible refine bb (λh=>?_) (λh=>?_))<;>(try simp at h))
   all_goals(clear hK)
   all_goals first
    |exact hw
    |exact hm
    |exact hm2.put (sN hac h1 (i:=i) (by omega) w0 w1 p0 p1 hF)
    |exact sN hac h1 (i:=i) (by omega) w0 w1 p0 p1 hF
    |exact hm.put (sN hac h1 (i:=0) (w:=0) (p:=1) (by rw[(Prod.mk.inj (hh.symm.trans he)).1];simp) (by omega) (by omega) (by omega) (by omega) rfl)
    |exact sN hac h1 (i:=0) (w:=0) (p:=1) (by rw[(Prod.mk.inj (hh.symm.trans he)).1];simp) (by omega) (by omega) (by omega) (by omega) rfl
    |exact⟨⟨⟨((i+1,min (w+w2) 65,min (p+p2) 1025),m3),(by dsimp only;omega),(by dsimp only;omega),(by dsimp only;omega),(by dsimp only;omega),(by dsimp only;omega),(by dsimp only;omega),by dsimp only;rw[<-Sz i0 ht w0 p0 hw2,hF],hm3⟩,ao i0 (by omega),rfl,rfl⟩,rfl⟩
  |none=>
   cases h2:aM it.es s with
   |some x=>
    have hh:=Ho h1 h2
    have hed:=GI hh
    have hlb:=Bg iZ hed
    refine uN [] [] [] Tryz.func156 rfl (by kernel_rfl) ?_
    repeat' first
     |((with_reducible refine W.of ?_);conv=>whnf)
     |((with_reducible refine W.fin (K:=K) (hK _ _ _ ?_ ?_) rfl rfl))
     |((with_reducible refine bt ?_ ?_);focus(simp[]<;>omega))
     |with_reducible refine xk hm (λw p hw=>?_) ?_
     |((with_reducible refine wZ it iZ s (λl en he=>?_) (λhe=>?_));(focus((obtain⟨rfl,rfl⟩:=Prod.mk.inj (he.symm.trans hh)))))
     |with_reducible first
      |refine fn [] [] Tryz.func92 rfl (by kernel_rfl) ?_
      |refine Uk h1 ?_
      |refine iQ ?_
     |((with_reducible refine bT [] [] [50] [] (λa:Vp it s (oW x.fs)=>[.i a.1.1.1]) (λa=>Xh it (oW x.fs) a.1.1.2.1 a.1.1.2.2 a.1.2) (λa=>(oW x.fs).length-a.1.1.1.toNat) ⟨((0,1,1),m),by simp,by simp,by simp,by simp;omega,by simp,by simp,rfl,hm⟩ (by kernel_rfl) ?_ ?_);(focus((with_reducible refine W.of ?_);(conv=>whnf);exact⟨rfl,rfl⟩));rintro⟨⟨⟨i,w,p⟩,m2⟩,i0,i1,w0,w1,p0,p1,hF,hm2⟩;dsimp only;(dsimp only at i0 i1 w0 w1 p0 p1 hF hm2))
     |((with_reducible refine aj (l:=oW x.fs) (by omega) (λt ht=>?_));(have hlt:=mW hac (jQ h2) (b:=t) (by rw[hed];exact List.mem_of_getElem? ht)))
     |((with_reducible refine NW it iZ hac n t m2 (by omega) hm2 (λw2 p2 m3 hw2 hm3=>?_));(have hw3:=hw2);(obtain⟨q0,q1,q2,q3,q4⟩:=hw3))
     |with_reducible first
      |refine un 1 (by kernel_rfl) ?_
      |refine SC.call ?_
     |((with_reducible refine bb (λh=>?_) (λh=>?_))<;>(try simp at h))
    all_goals(clear hK)
    all_goals first
     |exact hw
     |exact hm
     |exact hm2.put (sM hac h1 h2 (i:=i) (by omega) w0 w1 p0 p1 hF)
     |exact sM hac h1 h2 (i:=i) (by omega) w0 w1 p0 p1 hF
     |(exfalso;exact absurd (Prod.mk.inj (hh.symm.trans he)).2 (by decide))
     |exact hm.put (sM hac h1 h2 (i:=0) (w:=1) (p:=1) (by rw[(Prod.mk.inj (hh.symm.trans he)).1];simp) (by omega) (by omega) (by omega) (by omega) rfl)
     |exact sM hac h1 h2 (i:=0) (w:=1) (p:=1) (by rw[(Prod.mk.inj (hh.symm.trans he)).1];simp) (by omega) (by omega) (by omega) (by omega) rfl
     |exact⟨⟨⟨((i+1,max w (1+w2),min (p+p2) 1025),m3),(by dsimp only;omega),(by dsimp only;omega),(by dsimp only;omega),(by dsimp only;omega),(by dsimp only;omega),(by dsimp only;omega),by dsimp only;rw[<-Sy i0 ht w0 p0 hw2,hF],hm3⟩,ao i0 (by omega),rfl,rfl⟩,rfl⟩
   |none=>
    have hh:=Hq h1 h2
    refine uN [] [] [] Tryz.func156 rfl (by kernel_rfl) ?_
    repeat' first
     |((with_reducible refine W.of ?_);conv=>whnf)
     |((with_reducible refine W.fin (K:=K) (hK _ _ _ ?_ ?_) rfl rfl))
     |((with_reducible refine bt ?_ ?_);focus(simp[]<;>omega))
     |with_reducible refine xk hm (λw p hw=>?_) ?_
     |((with_reducible refine wZ it iZ s (λl en he=>?_) (λhe=>?_));(focus((obtain⟨rfl,rfl⟩:=Prod.mk.inj (he.symm.trans hh)))))
     |with_reducible first
      |refine fn [] [] Tryz.func92 rfl (by kernel_rfl) ?_
      |refine Uk h1 ?_
      |refine iQ ?_
      |refine SC.call ?_
     |((with_reducible refine bb (λh=>?_) (λh=>?_))<;>(try simp at h))
    all_goals(clear hK;have hz:=N4 h1 h2)
    all_goals first
     |exact hw
     |exact hm
     |(rw[if_pos ‹_›] at hz;first|exact hz|exact hm.put hz)
     |(rw[if_neg ‹_›] at hz;first|exact hz|exact hm.put hz)
end
section
set_option maxRecDepth 100000
set_option maxHeartbeats 4000000
open Go.Vv Go.Ee
abbrev Vz (ns:List Nd) (o:Option (Int×Int)):List FC:=match o with|none=>[.p (.int .i64 0),.p (.int .i64 0),.p (.int .i64 0)]|some e=>[.p (.int .i64 e.2),.p (.int .i64 (nd ns e.1).mE),.p (.int .i64 (nd ns e.1).to)]
theorem tg {f:Int->Bool} {l:List Int} {x i:Int} (h0:0<=i) (hx:l[i.toNat]?=some x):(l.drop i.toNat).find? f=if f x=true then some x else(l.drop (i+1).toNat).find? f:=by
 rw[drop_cons h0 hx,List.find?_cons];cases f x<;>rfl
theorem LQ {f:Int->Bool} {l:List Int} {i:Int} (h:(l.length:Int)<=i):(l.drop i.toNat).find? f=none:=by rw[gf h];rfl
theorem zD {ns:List Nd} {it:aw} {n w p:Int} (hk:¬(nd ns n).kind=2) (h:Lj it (nd ns n).name w p):cn ns it n=(decide (64<w)||decide (1024<p)):=by
 obtain⟨q0,q1,q2,q3,q4⟩:=h
 unfold cn au
 rw[show((nd ns n).kind==2)=false by simpa using hk,Bool.not_false,Bool.true_and]
 congr 1<;>simp only[decide_eq_decide]<;>omega
theorem Hn {ns:List Nd} {it:aw} {n:Int} (hk:(nd ns n).kind=2):cn ns it n=false:=by simp[cn,au,hk]
theorem wG (ns:List Nd) (it:aw) (n:Int):aW ns it n=(!((nd ns n).kind==2)&&wF it (nd ns n).name||((nd ns n).kind==4&&(nd ns n).kids.isEmpty)):=rfl
theorem Pv {ns:List Nd} {it:aw} {l:List Int} (hac:(∀n∈l,(nd ns n).kind=3\/(nd ns n).kind=4->¬Reach (bB it) (nd ns n).name (nd ns n).name)->gD it) (h:l.find? (aW ns it)=none):gD it:=by
 refine hac λn hn hk hr=>?_
 have:=(List.find?_eq_none.1 h) n hn
 rw[wG,qE hr] at this
 rcases hk with hk|hk<;>simp[hk] at this
theorem sA {f:Int->Bool} {l:List Int} {i:Int} (hi:(l.drop i.toNat).find? f=l.find? f) (h:(l.length:Int)<=i):l.find? f=none:=by rw[<-hi,LQ h]
theorem UM {ns:List Nd} {it:aw} {l:List Int} {i n:Int} (hi:(l.drop i.toNat).find? (aW ns it)=l.find? (aW ns it)) (i0:0<=i) (hn:l[i.toNat]?=some n) (h:aW ns it n=true):cq ns it l=some (n,143):=by
 unfold cq;rw[<-hi,tg i0 hn,if_pos h]
theorem UN {ns:List Nd} {it:aw} {l:List Int} {i j n:Int} (hi:(l.drop i.toNat).find? (aW ns it)=l.find? (aW ns it)) (h:(l.length:Int)<=i) (hj:(l.drop j.toNat).find? (cn ns it)=l.find? (cn ns it)) (j0:0<=j) (hn:l[j.toNat]?=some n) (hg:cn ns it n=true):cq ns it l=some (n,2):=by
 unfold cq;rw[sA hi h,<-hj,tg j0 hn,if_pos hg];rfl
theorem UO {ns:List Nd} {it:aw} {l:List Int} {i j:Int} (hi:(l.drop i.toNat).find? (aW ns it)=l.find? (aW ns it)) (h:(l.length:Int)<=i) (hj:(l.drop j.toNat).find? (cn ns it)=l.find? (cn ns it)) (hh:(l.length:Int)<=j):cq ns it l=none:=by
 unfold cq;rw[sA hi h,sA hj hh];rfl
section
variable{K:aR->SH->Prop} {ns:List Nd} (g:Good ns) (nb:Bool) (it:aw)
include g
theorem NX (iZ:A1 it) (l:List Int) (hac:(∀n∈l,(nd ns n).kind=3\/(nd ns n).kind=4->¬Reach (bB it) (nd ns n).name (nd ns n).name)->gD it) (hsm:((cG it).map (λu=>(bB it u).length+1)).sum+1048576<=100000000) (c0:Option Nat) (n0:Bool) (hll:l.length<=1048576) (hl:∀n∈l,0<=n/\n<(ns.length:Int))
 (hK:∀o,cq ns it l=o->W (K (.ret (.agg (Vz ns o))) (yJ ns nb it))):SC Tryz.prog 91 [.f (.ptr 0 0),.f (.p (.vs (l.map aB) c0 n0))] (yJ ns nb it) K:=by
 refine uN [(14,[(0,[]),(1,[]),(2,[]),(3,[]),(4,[]),(5,[]),(6,[]),(7,[]),(8,[]),(9,[]),(10,[]),(12,[]),(11,[12]),(13,[])])] [] [] Tryz.func91 rfl (by kernel_rfl) ?_
 repeat' first
  |((with_reducible refine W.of ?_);conv=>whnf)
  |with_reducible first
   |refine W.fin (K:=K) (hK (some (_,_)) ?_) rfl rfl
   |refine W.fin (K:=K) (hK none ?_) rfl rfl
   |refine W.and (by kernel_rfl) ?_
  |((with_reducible refine bt ?_ ?_);focus(simp[]<;>omega))
  |((with_reducible refine aj (l:=l) (by omega) (λn hn=>?_));(obtain⟨h0,h1⟩:=hl n (List.mem_of_getElem? hn)))
  |with_reducible first
   |refine aq h0 h1 ?_
   |refine EO it iZ hsm _ ?_
  |((with_reducible refine bT [] [] [15] [] (λa:So l.length λi=>(l.drop i.toNat).find? (aW ns it)=l.find? (aW ns it)=>[.i a.1]) (λ_=>⟨(5,.cells [.p (.int .i64 0),.p (.int .i64 0),.p (.int .i64 0)])::(yJ ns nb it).bp,6⟩) (λa=>l.length-a.1.toNat) ⟨0,by omega,by omega,rfl⟩ (by kernel_rfl) ?_ ?_);(focus((with_reducible refine W.of ?_);(conv=>whnf);exact⟨rfl,rfl⟩));rintro⟨i,i0,i1,hi⟩;dsimp only)
  |((with_reducible refine bT [(14,[(0,[]),(1,[]),(2,[]),(3,[]),(4,[]),(5,[]),(6,[]),(7,[]),(8,[]),(9,[]),(10,[]),(12,[]),(11,[12]),(13,[])])] [] [61] [] (λa:{q:Int×List (ah×PV)//0<=q.1/\q.1<=l.length/\(l.drop q.1.toNat).find? (cn ns it)=l.find? (cn ns it)/\ml it q.2}=>[.i a.1.1]) (λa=>⟨(6,.map a.1.2)::(5,.cells [.p (.int .i64 0),.p (.int .i64 0),.p (.int .i64 0)])::(yJ ns nb it).bp,7⟩) (λa=>l.length-a.1.1.toNat) ⟨(0,[]),by omega,by dsimp only;omega,rfl,.nil it⟩ (by kernel_rfl) ?_ ?_);(focus((with_reducible refine W.of ?_);(conv=>whnf);exact⟨rfl,rfl⟩));rintro⟨⟨j,m⟩,j0,j1,hj,hm⟩;dsimp only;(dsimp only at j0 j1 hj hm))
  |with_reducible first
   |refine NW it iZ (Pv hac (sA hi (by omega))) _ _ m (Nat.lt_succ_self _) hm (λw p m3 hw hm3=>?_)
   |refine fn [] [] Tryz.func87 rfl (by kernel_rfl) ?_
   |refine SC.call ?_
  |((with_reducible refine bb (λh=>?_) (λh=>?_))<;>(try simp at h))
 all_goals(clear hK)
 all_goals first
  |(exfalso;omega)
  |exact UM hi i0 hn (by rw[wG];simp[*];done)
  |exact⟨⟨⟨i+1,by omega,by omega,by rw[<-hi,tg i0 hn,if_neg (by rw[wG];simp[*];done)]⟩,ao i0 (by omega),rfl,rfl⟩,rfl⟩
  |exact UN hi (by omega) hj j0 hn (by rw[zD ‹_› hw];simp[*];done)
  |exact⟨⟨⟨(j+1,m),(by dsimp only;omega),(by dsimp only;omega),by dsimp only;rw[<-hj,tg j0 hn,if_neg (by rw[Hn ‹_›];simp)],hm⟩,ao j0 (by omega),rfl,rfl⟩,rfl⟩
  |exact⟨⟨⟨(j+1,m3),(by dsimp only;omega),(by dsimp only;omega),by dsimp only;rw[<-hj,tg j0 hn,if_neg (by rw[zD ‹_› hw];simp[*];done)],hm3⟩,ao j0 (by omega),rfl,rfl⟩,rfl⟩
  |exact UO hi (by omega) hj (by omega)
end
end
end Go.Proofs.YtdjkoddnnogejaaGreat
