/- Part of the proof of CheckTrees: plain laws and steps of its walks, for all arguments. -/
import Derived.Test.YtdjkoddnnogejaaGreatZRc
import Derived.Test.YtdjkoddnnogejaaGreatZDd
import Derived.Test.YtdjkoddnnogejaaGreatZCf
set_option linter.unusedSimpArgs false
set_option linter.unusedVariables false
set_option linter.unusedSectionVars false
namespace Go.Proofs.YtdjkoddnnogejaaGreat
section
set_option maxRecDepth 100000
set_option maxHeartbeats 4000000
open Go.Vv Go.Ee
abbrev dF (d:Dg):List FC:=[.p (.int .i64 d.code),.p (.int .i64 d.mE),.p (.int .i64 d.to)]
abbrev ry (it:aw):List FC:=[.p (.vs (it.ss.map iT) none it.sn),.p (.vs (it.es.map iT) none it.en),.p (.vs (it.fns.map sC) none it.yG)]
abbrev cx (ns:List Nd):List Int:=(nd ns ((ns.length:Int)-1)).kids
section
variable{ns:List Nd} (hr:bK ns=true)
include hr
theorem V0 {it:aw} {u:Int} (hc:aU ns (cx ns) aw.none none=(it,some u)):kM ns=.inr ⟨2,(nd ns u).mE,(nd ns u).to⟩:=by
 unfold kM;rw[if_neg (by simp[hr])];simp only[hc];rfl
theorem V1 {it:aw} {e1 e2:Int} (hc:aU ns (cx ns) aw.none none=(it,none)) (hn:ba ns (cx ns) [] bG=some (e1,e2)):kM ns=.inr ⟨e2,(nd ns e1).mE,(nd ns e1).to⟩:=by
 unfold kM;rw[if_neg (by simp[hr])];simp only[hc,hn];rfl
theorem V2 {it:aw} {e1 e2:Int} (hc:aU ns (cx ns) aw.none none=(it,none)) (hn:ba ns (cx ns) [] bG=none) (ht:bz ns it (cx ns)=some (e1,e2)):kM ns=.inr ⟨e2,(nd ns e1).mE,(nd ns e1).to⟩:=by
 unfold kM;rw[if_neg (by simp[hr])];simp only[hc,hn,ht];rfl
theorem V3 {it:aw} {e1 e2:Int} (hc:aU ns (cx ns) aw.none none=(it,none)) (hn:ba ns (cx ns) [] bG=none) (ht:bz ns it (cx ns)=none) (hs:cq ns it (cx ns)=some (e1,e2)):kM ns=.inr ⟨e2,(nd ns e1).mE,(nd ns e1).to⟩:=by
 unfold kM;rw[if_neg (by simp[hr])];simp only[hc,hn,ht,hs];rfl
theorem V4 {it:aw} (hc:aU ns (cx ns) aw.none none=(it,none)) (hn:ba ns (cx ns) [] bG=none) (ht:bz ns it (cx ns)=none) (hs:cq ns it (cx ns)=none) (hf:findF it.fns oq=none):kM ns=.inr ⟨144,0,0⟩:=by
 unfold kM;rw[if_neg (by simp[hr])];simp only[hc,hn,ht,hs,hf]
theorem V5 {it:aw} {f:Fx} (hc:aU ns (cx ns) aw.none none=(it,none)) (hn:ba ns (cx ns) [] bG=none) (ht:bz ns it (cx ns)=none) (hs:cq ns it (cx ns)=none) (hf:findF it.fns oq=some f) (h:¬(f.ps.isEmpty=true/\f.ret=aE)):kM ns=.inr ⟨144,(nd ns f.node).mE,(nd ns f.node).to⟩:=by
 unfold kM;rw[if_neg (by simp[hr])];simp only[hc,hn,ht,hs,hf];rw[if_neg h];rfl
theorem V6 {it:aw} {f:Fx} (hc:aU ns (cx ns) aw.none none=(it,none)) (hn:ba ns (cx ns) [] bG=none) (ht:bz ns it (cx ns)=none) (hs:cq ns it (cx ns)=none) (hf:findF it.fns oq=some f) (h:f.ps.isEmpty=true/\f.ret=aE):kM ns=.inl it:=by
 unfold kM;rw[if_neg (by simp[hr])];simp only[hc,hn,ht,hs,hf];rw[if_pos h]
end
theorem nB {ns:List Nd} {l:List Int} {it:aw} {b:Option Int} (h:aU ns l aw.none none=(it,b)):∃ss es fns,it=⟨true,ss,true,es,true,fns⟩/\it=aD ns l:=by
 have e:=jo ns l
 rw[h] at e
 exact⟨_,_,_,e,e⟩
theorem PM {ns:List Nd} {l:List Int} {it:aw} (h:aU ns l aw.none none=(it,none)):it.ss.length<=1048576/\it.es.length<=1048576/\it.fns.length<=1048576:=by
 obtain⟨_,a,b,c⟩:=jP ns l aw.none none (by rw[h]) (by decide) (by decide) (by decide)
 rw[h] at a b c
 simp only at a b c
 omega
theorem Gz {ns:List Nd} {l:List Int} {it:aw} {u:Int} (h:aU ns l aw.none none=(it,some u)):u∈l:=by
 rcases yX l aw.none none u (by rw[h]) with h|h
 ·cases h
 ·exact h
theorem C9 {K:aR->SH->Prop} {ns:List Nd} {nb:Bool} {z:Int} (hb:(ns.length:Int)<=9223372036854775807) (hkl:∀x∈ns,x.kids.length<=17592186044415) (hnl:∀x∈ns,x.name.length<4294967281) (hr:(if bK ns=true then 0 else 3)=z) (hK:W (K (.ret (.i z)) H0)):SC Tryz.prog 85 [.agg [.p (.vs (ns.map aH) none nb)]] H0 K:=C7 ns nb hb hkl hnl (by subst hr;exact hK)
theorem KT {ns:List Nd} {it:aw} {l:List Int} {i n:Int} (i0:0<=i) (hn:l[i.toNat]?=some n):bz ns it (l.drop i.toNat)=match bn ns it (au ns n) (typesOf ns n) with|some e=>some e|none=>bz ns it (l.drop (i+1).toNat):=by rw[drop_cons i0 hn];rfl
theorem Wt {ns:List Nd} {it:aw} {l:List Int} {i n:Int} {e:Int×Int} (i0:0<=i) (hn:l[i.toNat]?=some n) (hi:bz ns it (l.drop i.toNat)=bz ns it l) (h:bn ns it (au ns n) (typesOf ns n)=some e):bz ns it l=some e:=by rw[<-hi,KT i0 hn,h]
theorem Wu {ns:List Nd} {it:aw} {l:List Int} {i n:Int} (i0:0<=i) (hn:l[i.toNat]?=some n) (hi:bz ns it (l.drop i.toNat)=bz ns it l) (h:bn ns it (au ns n) (typesOf ns n)=none):bz ns it (l.drop (i+1).toNat)=bz ns it l:=by rw[<-hi,KT i0 hn,h]
theorem Wv {ns:List Nd} {it:aw} {l:List Int} {i:Int} (hi:bz ns it (l.drop i.toNat)=bz ns it l) (h:(l.length:Int)<=i):bz ns it l=none:=by rw[<-hi,gf h];rfl
section
variable{ns:List Nd} (g:Good ns) {it:aw} (hc:aU ns (cx ns) aw.none none=(it,none))
include g hc
theorem tO:∀n∈cx ns,0<=n/\n<(ns.length:Int)/\((nd ns n).kind=2\/(nd ns n).kind=3\/(nd ns n).kind=4):=λn hn=>by have:=g.roots n hn;exact⟨this.1,by omega,this.2.2⟩
theorem Rm (hn:ba ns (cx ns) [] bG=none):A1 it/\((cG it).map (λu=>(bB it u).length+1)).sum+1048576<=100000000:=by
 obtain⟨_,a,b,c⟩:=jP ns (cx ns) aw.none none (by rw[hc]) (by decide) (by decide) (by decide)
 obtain⟨_,_,_,_,e⟩:=nB hc
 rw[hc] at a b c
 subst e
 exact GU g (tO g hc) (tJ ns _ _ _ hn) a b c
theorem MI (h:∀n∈cx ns,(nd ns n).kind=3\/(nd ns n).kind=4->¬Reach (bB it) (nd ns n).name (nd ns n).name):gD it:=by
 obtain⟨_,_,_,_,e⟩:=nB hc
 subst e
 exact CX g (tO g hc) h
theorem MJ {x:Fx} {k:Nat} (hx:it.fns[k]?=some x):0<=x.node/\x.node<(ns.length:Int):=by
 obtain⟨_,_,_,_,e⟩:=nB hc
 subst e
 obtain⟨n,hn,_,rfl⟩:=tn g (tO g hc) (List.mem_of_getElem? hx)
 have:=tO g hc n hn
 exact⟨this.1,this.2.1⟩
end
abbrev X3 (ns:List Nd) (nb:Bool) (it:aw):SH:=⟨[(11,.cells [.p (.int .i64 0),.p (.int .i64 0),.p (.int .i64 0)]),(10,.cells [.mp 9,.mp 8,.mp 7]),(9,.map (kJ (it.ss.map Sd.name) it.ss.length)),(8,.map (kJ (it.es.map Sd.name) it.es.length)),(7,.map (kJ (it.fns.map Fx.name) it.fns.length)),(3,.cells [.p (.vs (ns.map aH) none nb),.p (.vs (it.ss.map iT) none it.sn),.p (.vs (it.es.map iT) none it.en),.p (.vs (it.fns.map sC) none it.yG),.ptr 10 0]),(2,.cells [.p (.int .i64 0),.p (.int .i64 0),.p (.int .i64 0)]),(1,.cells [.p (.vs [] none true),.p (.vs [] none true),.p (.vs [] none true)]),(0,.cells [.p (.vs (ns.map aH) none nb)])],12⟩
abbrev X5 (ns:List Nd) (nb:Bool):SH:=⟨[(3,.arr 5 [] true),(2,.arr 2 [] true),(1,.arr 2 [] true),(0,.cells [.p (.vs (ns.map aH) none nb),.ref 1 0 2 none,.ref 2 0 2 none,.ref 3 0 5 none,.p .iF])],4⟩
theorem EF {K:aR->SH->Prop} {ns:List Nd} (g:Good ns) (nb:Bool) (l:List Int) (c0:Option Nat) (n0:Bool) (hll:l.length<=1048576) (hl:∀n∈l,0<=n/\n<(ns.length:Int)/\((nd ns n).kind=2\/(nd ns n).kind=3\/(nd ns n).kind=4)) (hn:∀it,aU ns l aw.none none=(it,none)->W (K (.ret (.bR [.f (.p (.int .i64 (-1))),.f (.p (.bool true))])) (Vi ns nb it))) (hs:∀it u,aU ns l aw.none none=(it,some u)->0<=u->W (K (.ret (.bR [.f (.p (.int .i64 u)),.f (.p (.bool false))])) (Vi ns nb it))):SC Tryz.prog 86 [.f (.ptr 0 0),.f (.p (.vs (l.map aB) c0 n0))] (X5 ns nb) K:=ED g nb l c0 n0 hll hl λit b hc=>by
 cases b with
 |none=>exact hn it hc
 |some u=>
  have hu:=(hl u (Gz hc)).1
  have e:decide (eg (some u)<0)=false:=decide_eq_false (by show¬u<0;omega)
  rw[e];exact hs it u hc hu
theorem vE {K:aR->SH->Prop} (ns:List Nd) (nb:Bool) (hb:(ns.length:Int)<=9223372036854775807) (hkl:∀x∈ns,x.kids.length<=17592186044415) (hnl:∀x∈ns,x.name.length<4294967281) (hgood:bK ns=true->Good ns)
 (hg:∀it,kM ns=.inl it->W (K (.ret (.bR [.agg (ry it),.agg [.p (.int .i64 0),.p (.int .i64 0),.p (.int .i64 0)]])) H0)) (hd:∀d,kM ns=.inr d->W (K (.ret (.bR [.agg [.p (.vs [] none true),.p (.vs [] none true),.p (.vs [] none true)],.agg (dF d)])) H0)):SC Tryz.prog 45 [.agg [.p (.vs (ns.map aH) none nb)]] H0 K:=by
 cases hr:bK ns with
 |false=>
  have hz:(if bK ns=true then(0:Int) else 3)=3:=by rw[hr];rfl
  refine uN [(12,[(0,[]),(1,[]),(2,[1]),(3,[])]),(19,[(0,[]),(1,[]),(2,[1]),(3,[])]),(23,[(0,[]),(1,[]),(2,[1]),(3,[])])] [] [] Tryz.func45 rfl (by kernel_rfl) ?_
  repeat' first
   |((with_reducible refine W.of ?_);conv=>whnf)
   |with_reducible first
    |refine W.fin (K:=K) (hd ⟨_,_,_⟩ ?_) rfl rfl
    |refine C9 hb hkl hnl hz ?_
    |refine SC.call ?_
   |((with_reducible refine bb (λh=>?_) (λh=>?_))<;>(try simp at h))
  unfold kM;rw[if_pos hr]
 |true=>
  have hz:(if bK ns=true then(0:Int) else 3)=0:=by rw[hr];rfl
  have g:=hgood hr
  have hlen:=g.len
  have hl:=g.roots
  have hll:(cx ns).length<=1048576:=g.kids _ (cB (by omega) (by omega))
  refine uN [(12,[(0,[]),(1,[]),(2,[1]),(3,[])]),(19,[(0,[]),(1,[]),(2,[1]),(3,[])]),(23,[(0,[]),(1,[]),(2,[1]),(3,[])])] [(9,[(5,some 1),(5,some 2),(5,some 3)])] [] Tryz.func45 rfl (by kernel_rfl) ?_
  repeat' first
   |((with_reducible refine W.of ?_);conv=>whnf)
   |with_reducible first
    |refine W.fin (K:=K) (hd ⟨_,_,_⟩ ?_) rfl rfl
    |refine W.and (by kernel_rfl) ?_
   |((with_reducible refine bt ?_ ?_);focus(simp[]<;>omega))
   |with_reducible first
    |refine C9 hb hkl hnl hz ?_
    |refine sG (by omega) ?_
   |((with_reducible refine SC.nil 0 1 2 ?_);(conv=>whnf);(with_reducible refine SC.nil 0 2 2 ?_);(conv=>whnf);(with_reducible refine SC.nil 0 3 5 ?_);(conv=>whnf);(with_reducible refine EF g nb (cx ns) _ _ hll (λn hn=>⟨(hl n hn).1,by have:=(hl n hn).2.1;omega,(hl n hn).2.2⟩) (λit hc=>?_) (λit u hc hu0=>?_));(all_goals(obtain⟨ss,es,fns,rfl,hit⟩:=nB hc));(focus(have hfw:=PM hc)))
   |((have hu:=Gz hc);(have hu2:=hl u hu);(with_reducible refine aq hu2.1 (by omega) ?_))
   |with_reducible first
    |refine fn [] [] Tryz.func87 rfl (by kernel_rfl) ?_
    |refine sD ⟨true,ss,true,es,true,fns⟩ hfw.1 hfw.2.1 hfw.2.2 ?_
   |((with_reducible refine MC g nb ⟨true,ss,true,es,true,fns⟩ (cx ns) _ _ hll (λn hn=>⟨(hl n hn).1,by have:=(hl n hn).2.1;omega,(hl n hn).2.2⟩) (λo hnm=>?_));(rcases o with _|⟨e1,e2⟩);(all_goals first|(have hne:e2≠0:=tI _ _ _ _ hnm)|(obtain⟨iZ,hsm⟩:=Rm g hc hnm)))
   |((with_reducible refine bT [(12,[(0,[]),(1,[]),(2,[1]),(3,[])]),(19,[(0,[]),(1,[]),(2,[1]),(3,[])]),(23,[(0,[]),(1,[]),(2,[1]),(3,[])])] [] [69] [] (λa:So (cx ns).length λi=>bz ns ⟨true,ss,true,es,true,fns⟩ ((cx ns).drop i.toNat)=bz ns ⟨true,ss,true,es,true,fns⟩ (cx ns)=>[.i a.1]) (λ_=>X3 ns nb ⟨true,ss,true,es,true,fns⟩) (λa=>(cx ns).length-a.1.toNat) ⟨0,by omega,by omega,rfl⟩ (by kernel_rfl) ?_ ?_);(focus((with_reducible refine W.of ?_);(conv=>whnf);exact⟨rfl,rfl⟩));rintro⟨i,i0,i1,hi⟩;dsimp only)
   |((with_reducible refine aj (l:=(nd ns ((ns.length:Int)-1)).kids) (by omega) (λn hn=>?_));(obtain⟨h0,h1,h2⟩:=tO g hc n (List.mem_of_getElem? hn)))
   |((with_reducible refine Oc g nb ⟨true,ss,true,es,true,fns⟩ n h0 h1 h2 (λo hw=>?_));(rcases o with _|⟨e1,e2⟩);(all_goals try(have hne:e2≠0:=CJ _ _ hw)))
   |((have hty:=Wv hi (by omega));(with_reducible refine NX g nb ⟨true,ss,true,es,true,fns⟩ iZ (cx ns) (MI g hc) hsm _ _ hll (λn hn=>⟨(tO g hc n hn).1,(tO g hc n hn).2.1⟩) (λo hsz=>?_));(rcases o with _|⟨e1,e2⟩);(all_goals try(have hne:e2≠0:=uc hsz)))
   |with_reducible refine fn [] [] Tryz.func92 rfl (by kernel_rfl) ?_
   |((with_reducible refine jW rfl (λk x hx hm=>?_) (λhm=>?_));(focus(obtain⟨b0,b1⟩:=MJ g hc hx)))
   |with_reducible first
    |refine Il hx ?_
    |refine aq b0 b1 ?_
   |((with_reducible refine W.fin (K:=K) (hg ⟨true,ss,true,es,true,fns⟩ ?_) rfl rfl))
   |with_reducible refine SC.call ?_
   |((with_reducible refine bb (λh=>?_) (λh=>?_))<;>(try simp at h))
  all_goals(clear hg hd)
  all_goals first
   |exact V0 hr hc
   |exact V1 hr hc hnm
   |exact V2 hr hc hnm (Wt i0 hn hi hw)
   |exact V3 hr hc hnm hty hsz
   |exact V4 hr hc hnm hty hsz hm
   |exact V5 hr hc hnm hty hsz hm (by rintro⟨a,b⟩;simp_all[aE])
   |exact V6 hr hc hnm hty hsz hm (by refine⟨?_,?_⟩<;>simp_all[aE])
   |exact⟨⟨⟨i+1,by omega,by show i+1<=((nd ns ((ns.length:Int)-1)).kids.length:Int);omega,Wu i0 hn hi hw⟩,ao i0 (by show i<((nd ns ((ns.length:Int)-1)).kids.length:Int);omega),rfl,rfl⟩,rfl⟩
end
section
set_option maxRecDepth 100000
set_option maxHeartbeats 4000000
open Go.Vv Go.Ee
theorem Ul (l:List Nd):fits 6 (l.map aH)=true:=pG (λ_=>rfl) l
theorem Wz:dy Tryz.prog 47=72:=by kernel_rfl
theorem Gy {K:aR->SH->Prop} (ns:List Nd) (hne:1<=ns.length) (hl:ns.length<=1048576) (c0:Option Nat) (n0:Bool) (hK:W (K (.ret (.f (.ref 0 ns.length 6 none))) ⟨[(0,.arr 6 (ns.map aH) true)],1⟩)):SC Tryz.prog 93 [.f (.p (.vs (ns.map aH) c0 n0))] H0 K:=by
 cases ns with
 |nil=>simp at hne
 |cons a l=>
  have hl2:l.length<=1048575:=by simp at hl;omega
  refine uN [] [] [] Tryz.func93 rfl (by kernel_rfl) ?_
  repeat' first
   |((with_reducible refine W.of ?_);conv=>whnf)
   |with_reducible first
    |refine W.fin (K:=K) hK ?_ rfl
    |refine W.and (by kernel_rfl) ?_
    |refine bt (Ul (a::l)) ?_
   |((with_reducible refine bt ?_ ?_);focus(simp[Wz]<;>omega))
   |with_reducible first
    |refine wQ ?_
    |refine fj ?_
   |((with_reducible refine bb (λh=>?_) (λh=>?_))<;>(try simp at h))
  all_goals first|rfl|(cases n0<;>contradiction)
def Es (p:PV) (l:List Int) (n:Bool):Prop:=p.isAgg=false/\Bo p.v=(PV.vs (l.map aB) none n).v
theorem Gx {K:aR->SH->Prop} (l:List Int) (hl:l.length<=1048576) (c0:Option Nat) (n0:Bool) (hK:∀c n,Es (.vs (l.map aB) c n) l n0->W (K (.ret (.f (.p (.vs (l.map aB) c n)))) H0)):SC Tryz.prog 94 [.f (.p (.vs (l.map aB) c0 n0))] H0 K:=by
 cases l with
 |nil=>
  cases n0
  all_goals
   refine aX [] [] [] Tryz.func94 rfl (by kernel_rfl) ?_
   repeat' first
    |((with_reducible refine W.of ?_);conv=>whnf)
    |with_reducible first
     |refine W.fin (K:=K) (hK _ _ ?_) rfl rfl
     |refine W.and (by kernel_rfl) ?_
    |((with_reducible refine bb (λh=>?_) (λh=>?_))<;>(try simp at h))
  all_goals exact⟨rfl,rfl⟩
 |cons a l=>
  have hl2:l.length<=1048575:=by simp at hl;omega
  refine aX [] [] [] Tryz.func94 rfl (by kernel_rfl) ?_
  repeat' first
   |((with_reducible refine W.of ?_);conv=>whnf)
   |with_reducible first
    |refine W.fin (K:=K) (hK _ _ ?_) rfl rfl
    |refine W.and (by kernel_rfl) ?_
    |refine bt eK ?_
   |((with_reducible refine bt ?_ ?_);focus(simp[gZ]<;>omega))
   |with_reducible first
    |refine wQ ?_
    |refine fj ?_
   |((with_reducible refine bb (λh=>?_) (λh=>?_))<;>(try simp at h))
  all_goals first|exact⟨rfl,rfl⟩|(cases n0<;>contradiction)
abbrev Re (x:Nd) (p:PV):List PV:=[.int .i64 x.kind,.str x.name,.int .i64 x.num,p,.int .i64 x.mE,.int .i64 x.to]
abbrev WN (ns:List Nd):Type:={q:Int×List (List PV)//0<=q.1/\q.1<=ns.length/\q.2.length=ns.length/\∀(j:Nat) x,ns[j]?=some x->(if(j:Int)<q.1 then∃p,Es p x.kids x.kn/\q.2[j]?=some (Re x p) else q.2[j]?=some (aH x))}
theorem Rv {ns:List Nd} {i:Int} {rs:List (List PV)} (i0:0<=i) (ii:i<(ns.length:Int)) (h:∀(j:Nat) x,ns[j]?=some x->(if(j:Int)<i then∃p,Es p x.kids x.kn/\rs[j]?=some (Re x p) else rs[j]?=some (aH x))):rs[i.toNat]?=some (aH (nd ns i)):=by
 have:=h i.toNat _ (kK i0 ii)
 rwa [if_neg (by omega)] at this
theorem Rw {ns:List Nd} {i:Int} {rs:List (List PV)} {p:PV} (i0:0<=i) (ii:i<(ns.length:Int)) (hl:rs.length=ns.length) (h:∀(j:Nat) x,ns[j]?=some x->(if(j:Int)<i then∃p,Es p x.kids x.kn/\rs[j]?=some (Re x p) else rs[j]?=some (aH x))) (hp:Es p (nd ns i).kids (nd ns i).kn):
 ∃a:WN ns,a.1=(i+1,rs.set i.toNat (Re (nd ns i) p)):=by
 refine⟨⟨(i+1,rs.set i.toNat (Re (nd ns i) p)),by dsimp only;omega,by dsimp only;omega,by simpa using hl,λj x hx=>?_⟩,rfl⟩
 dsimp only
 have hj:j<ns.length:=(List.getElem?_eq_some_iff.1 hx).1
 by_cases e:j=i.toNat
 ·subst e
  have:nd ns i=x:=by have:=kK i0 ii;rw[hx] at this;exact(Option.some.inj this).symm
  rw[if_pos (by omega),<-this]
  exact⟨p,hp,by rw[List.getElem?_set_self (by omega)]⟩
 ·rw[List.getElem?_set_ne (Ne.symm e)]
  have:=h j x hx
  by_cases e2:(j:Int)<i
  ·rw[if_pos e2] at this;rw[if_pos (by omega)];exact this
  ·rw[if_neg e2] at this;rw[if_neg (by omega)];exact this
theorem Ru {ns:List Nd} {i:Int} {rs:List (List PV)} (hh:(ns.length:Int)<=i) (hl:rs.length=ns.length) (h:∀(j:Nat) x,ns[j]?=some x->(if(j:Int)<i then∃p,Es p x.kids x.kn/\rs[j]?=some (Re x p) else rs[j]?=some (aH x))):Vm 6 rs (ns.map aH):=by
 refine⟨?_,⟨by decide,λr hr=>?_⟩,?_⟩
 ·have key:rs.map (λr=>(r.map PV.v).map Bo)=(ns.map aH).map (λr=>r.map PV.v):=by
   refine List.ext_getElem? λj=>?_
   rw[List.getElem?_map,List.getElem?_map,List.getElem?_map]
   cases hx:ns[j]? with
   |none=>rw[List.getElem?_eq_none (by rw[hl];exact List.getElem?_eq_none_iff.1 hx)];rfl
   |some x=>
    have hj:j<ns.length:=(List.getElem?_eq_some_iff.1 hx).1
    have:=h j x hx
    rw[if_pos (by omega)] at this
    obtain⟨p,⟨_,hp⟩,e⟩:=this
    rw[e]
    simp only[Option.map_some,Re,aH,List.map_cons,List.map_nil,hp]
    rfl
  unfold ck
  rw[List.map_flatten,List.map_map,<-key];rfl
 ·obtain⟨x,_,rfl⟩:=List.mem_map.1 hr
  exact⟨rfl,λp hp=>by simp[aH] at hp;rcases hp with rfl|rfl|rfl|rfl|rfl|rfl<;>rfl⟩
 ·rw[List.map_eq_nil_iff,<-List.length_eq_zero_iff,<-List.length_eq_zero_iff,hl]
theorem Rx {K:aR->SH->Prop} (ns:List Nd) (nb:Bool) (hne:1<=ns.length) (hl:ns.length<=1048576) (hk:∀x∈ns,x.kids.length<=1048576) (hK:∀rs,Vm 6 rs (ns.map aH)->W (K (.ret (.agg [.ref 0 ns.length 6 none])) ⟨[(0,.arr 6 rs true)],1⟩)):SC Tryz.prog 47 [.agg [.p (.vs (ns.map aH) none nb)]] H0 K:=by
 refine uN [(5,[(0,[]),(1,[]),(2,[]),(3,[]),(4,[]),(5,[]),(6,[]),(7,[]),(8,[]),(9,[1]),(10,[]),(11,[]),(12,[])])] [] [] Tryz.func47 rfl (by kernel_rfl) ?_
 repeat' first
  |((with_reducible refine W.of ?_);conv=>whnf)
  |with_reducible first
   |refine W.fin (K:=K) (hK _ ?_) rfl rfl
   |refine W.and (by kernel_rfl) ?_
  |((with_reducible refine bt ?_ ?_);focus(simp[]<;>omega))
  |with_reducible refine Gy ns hne hl _ _ ?_
  |((with_reducible refine bT [(5,[(0,[]),(1,[]),(2,[]),(3,[]),(4,[]),(5,[]),(6,[]),(7,[]),(8,[]),(9,[1]),(10,[]),(11,[]),(12,[])])] [] [12] [] (λa:WN ns=>[.i a.1.1]) (λa=>⟨[(3,.cells [.ref 2 ns.length 6 none]),(2,.arr 6 a.1.2 true),(1,.cells [.p (.vs [] none true)]),(0,.cells [.p (.vs (ns.map aH) none nb)])],4⟩) (λa=>ns.length-a.1.1.toNat) ⟨(0,ns.map aH),by omega,by dsimp only;omega,by simp,λj x hx=>by rw[if_neg (by dsimp only;omega)];exact bE hx⟩ (by kernel_rfl) ?_ ?_);(focus((with_reducible refine W.of ?_);(conv=>whnf);exact⟨rfl,rfl⟩));rintro⟨⟨i,rs⟩,i0,i1,hrl,hi⟩;dsimp only;(dsimp only at i0 i1 hrl hi))
  |with_reducible first
   |refine on (aH (nd ns i)) (Rv i0 (by omega) hi) ?_
   |refine Gx _ (hk _ (cB i0 (by omega))) _ _ (λc n hlk=>?_)
   |refine iQ ?_
   |refine SC.call ?_
  |((with_reducible refine bb (λh=>?_) (λh=>?_))<;>(try simp at h))
 ·obtain⟨a,ea⟩:=Rw (p:=.vs ((nd ns i).kids.map aB) c n) i0 (by omega) hrl hi hlk
  exact⟨⟨a,by rw[ea];exact ao i0 (by omega),by rw[ea],by rw[ea]⟩,rfl⟩
 ·exact Ru (by omega) hrl hi
theorem Uv {K:aR->SH->Prop} (ns:List Nd) (nb:Bool) (hne:1<=ns.length) (hl:ns.length<=1048576) (hk:∀x∈ns,x.kids.length<=1048576) (hK:W (K (.ret (.agg [.p (.vs (ns.map aH) none true)])) H0)):SC Tryz.prog 47 [.agg [.p (.vs (ns.map aH) none nb)]] H0 K:=by
 refine SC.nX [] (.vy (.OD (Rx ns nb hne hl hk λrs h=>⟨_,_,_,_,_,_,rfl,h,?_⟩)))
 refine W.of ?_
 conv=>whnf
 repeat' first
  |((with_reducible refine W.of ?_);conv=>whnf)
  |with_reducible refine W.fin (K:=K) hK ?_ rfl
  |((with_reducible refine bb (λh=>?_) (λh=>?_))<;>(try simp at h))
 rfl
end
section
set_option maxRecDepth 100000
set_option maxHeartbeats 4000000
open Go.Vv Go.Ee
variable{K:aR->SH->Prop}
theorem nQ (ns:List Nd) (nb:Bool) (h1:1<=ns.length) (hl:ns.length<=1000000000) (hK:W (K (.ret (.f (.p (.vs ((ak ns).map aB) none (Sb ns))))) H0)):SC Tryz.prog 164 [.agg [.p (.vs (ns.map aH) none nb)]] H0 K:=by
 refine aX [] [] [] Tryz.func164 rfl (by kernel_rfl) ?_
 repeat' first
  |((with_reducible refine W.of ?_);conv=>whnf)
  |with_reducible refine W.fin (K:=K) hK ?_ rfl
  |((with_reducible refine bt ?_ ?_);focus(simp[]<;>omega))
  |with_reducible refine sG (by omega) ?_
 all_goals rfl
theorem Lw (s:ah) (hK:KB K (gN s)):SC Tryz.prog 165 [.s s] H0 K:=by
 refine aX [] [] [] Tryz.func165 rfl (by kernel_rfl) ?_
 repeat' first
  |((with_reducible refine W.of ?_);conv=>whnf)
  |with_reducible refine W.fin (K:=K) hK ?_ rfl
  |((with_reducible refine bb (λh=>?_) (λh=>?_))<;>(try simp at h))
 all_goals(clear hK;simp_all[gN])
theorem tz (ns:List Nd) (nb:Bool) (n:Int) (h0:0<=n) (h1:n<(ns.length:Int)) (hK:KB K (au ns n)):SC Tryz.prog 166 [.agg [.p (.vs (ns.map aH) none nb)],.i n] H0 K:=by
 refine aX [] [] [] Tryz.func166 rfl (by kernel_rfl) ?_
 repeat' first
  |((with_reducible refine W.of ?_);conv=>whnf)
  |with_reducible first
   |refine W.fin (K:=K) hK ?_ rfl
   |refine aq h0 h1 ?_
  |((with_reducible refine bt ?_ ?_);focus(simp[]<;>omega))
 all_goals rfl
theorem qN (ns:List Nd) (nb:Bool) (g:Good ns) (n:Int) (h0:0<=n) (h1:n<(ns.length:Int)) (hK:W (K (.ret (.f (.p (.vs ((ar ns n).map aB) none (Ra ns n))))) H0)):SC Tryz.prog 167 [.agg [.p (.vs (ns.map aH) none nb)],.i n] H0 K:=by
 have hkl:=g.kids _ (cB h0 h1)
 refine aX [] [] [] Tryz.func167 rfl (by kernel_rfl) ?_
 have hf:(nd ns n).kind=2->(nd ns n).num=(nd ns n).kids.length-2/\2<=(nd ns n).kids.length:=λhk=>by
  have:=(g.fn h0 h1 hk).1
  rw[g.VH h0 h1 hk];omega
 repeat' first
  |((with_reducible refine W.of ?_);conv=>whnf)
  |with_reducible first
   |refine W.fin (K:=K) hK ?_ rfl
   |refine aq h0 h1 ?_
   |refine bt eK ?_
  |((have hff:=hf ‹_›);(with_reducible refine bt ?_ ?_);focus(simp<;>omega))
  |((with_reducible refine bt ?_ ?_);focus(simp[]<;>omega))
  |((with_reducible refine bb (λh=>?_) (λh=>?_))<;>(try simp at h))
 all_goals(clear hK)
 ·obtain⟨e1,e2⟩:=hf ‹_›
  have:(nd ns n).kids≠[]:=λe=>by rw[e] at e2;simp at e2
  simp only[ar,Ra,‹(nd ns n).kind=2›,if_true,List.map_take]
  rw[show(nd ns n).num.toNat=(nd ns n).kids.length-2 by omega]
  cases(nd ns n).kn<;>simp[n5,this]
 ·simp[ar,Ra, *]
theorem mz (ns:List Nd) (nb:Bool) (n c:Int) (h0:0<=n) (h1:n<(ns.length:Int)) (hK:W (K (.ret (.agg (dF ⟨c,(nd ns n).mE,(nd ns n).to⟩))) H0)):SC Tryz.prog 107 [.agg [.p (.vs (ns.map aH) none nb)],.i n,.i c] H0 K:=by
 refine aX [] [] [] Tryz.func107 rfl (by kernel_rfl) ?_
 repeat' first
  |((with_reducible refine W.of ?_);conv=>whnf)
  |with_reducible first
   |refine W.fin (K:=K) hK ?_ rfl
   |refine W.and (by kernel_rfl) ?_
   |refine aq h0 h1 ?_
  |((with_reducible refine bt ?_ ?_);focus(simp[]<;>omega))
 all_goals rfl
end
end Go.Proofs.YtdjkoddnnogejaaGreat
