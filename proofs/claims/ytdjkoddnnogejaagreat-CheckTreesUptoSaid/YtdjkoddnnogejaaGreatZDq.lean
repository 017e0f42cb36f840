/- Part of the proof of CheckTrees: plain laws and steps of its walks, for all arguments. -/
import Derived.Test.YtdjkoddnnogejaaGreatZDm
set_option linter.unusedSimpArgs false
set_option linter.unusedVariables false
set_option linter.unusedSectionVars false
namespace Go.Proofs.YtdjkoddnnogejaaGreat
section
set_option maxRecDepth 100000
set_option maxHeartbeats 4000000
open Go.Vv Go.Ee
variable{K:aR->SH->Prop}
abbrev Rh:List FC:=[.p (.vs [] none true),.p (.vs [] none true),.p (.vs [] none true)]
def GS (ns:List Nd) (m:List Int) (j:Int):List Fd:=(m.take j.toNat).map (cm ns)
def My (ns:List Nd) (m:List Int) (j:Int):List Bool:=(m.take j.toNat).map λk=>(nd ns k).num==1
theorem LP (ns:List Nd) (m:List Int) (j:Int):(GS ns m j).length<=m.length:=by unfold GS;rw[List.length_map];exact List.length_take_le' _ _
theorem Mz (ns:List Nd) (m:List Int) (j:Int):(My ns m j).length<=m.length:=by unfold My;rw[List.length_map];exact List.length_take_le' _ _
theorem Qa {ns:List Nd} {m:List Int} {j k:Int} {t:ah} (j0:0<=j) (hk:m[j.toNat]?=some k) (ht:(cm ns k).ty=t):(GS ns m j).map nZ++[[PV.str (nd ns k).name,PV.str t]]=(GS ns m (j+1)).map nZ:=by
 unfold GS;rw[show(j+1).toNat=j.toNat+1 by omega,List.take_add_one,hk,<-ht];simp[cm]
theorem Rc {ns:List Nd} {m:List Int} {j k:Int} (j0:0<=j) (hk:m[j.toNat]?=some k):(My ns m j).map uP++[[PV.bool ((nd ns k).num==1)]]=(My ns m (j+1)).map uP:=by
 unfold My;rw[show(j+1).toNat=j.toNat+1 by omega,List.take_add_one,hk];simp
theorem BH {ns:List Nd} {l:List Int} {i n:Int} (i0:0<=i) (hn:l[i.toNat]?=some n):aD ns (l.take (i+1).toNat)=if(nd ns n).kind=3 then{aD ns (l.take i.toNat) with ss:=(aD ns (l.take i.toNat)).ss++[mj ns n]} else if(nd ns n).kind=4 then{aD ns (l.take i.toNat) with es:=(aD ns (l.take i.toNat)).es++[mj ns n]} else{aD ns (l.take i.toNat) with fns:=(aD ns (l.take i.toNat)).fns++[yH ns n]}:=by
 rw[show(i+1).toNat=i.toNat+1 by omega,List.take_add_one,hn];exact BG ns _ n
theorem L9 (ns:List Nd) (l:List Int) (i:Nat) (h:l.length<=1048576):(aD ns (l.take i)).ss.length<=1048576/\(aD ns (l.take i)).es.length<=1048576/\(aD ns (l.take i)).fns.length<=1048576:=by
 have ht:(l.take i).length<=1048576:=Nat.le_trans (List.length_take_le' _ _) h
 refine⟨?_,?_,?_⟩<;>(simp only[aD,List.length_map];exact Nat.le_trans (List.length_filter_le _ _) ht)
theorem Si {ns:List Nd} {l:List Sd} {n j:Int} (hk:¬(nd ns n).kind=2) (hj:((ar ns n).length:Int)<=j):l.map iT++[[PV.str (nd ns n).name,PV.vs ((GS ns (ar ns n) j).map nZ) none true]]=(l++[mj ns n]).map iT:=by
 have:ar ns n=(nd ns n).kids:=by unfold ar;rw[if_neg hk]
 rw[List.map_append];unfold GS;rw[List.take_of_length_le (by omega),this];rfl
theorem Qf {ns:List Nd} {l:List Fx} {n j:Int} (hj:((ar ns n).length:Int)<=j):l.map sC++[[PV.str (nd ns n).name,PV.vs ((GS ns (ar ns n) j).map nZ) none true,PV.vs ((My ns (ar ns n) j).map uP) none true,PV.str (cz ns (dL ns n).toNat),PV.int .i64 n]]=(l++[yH ns n]).map sC:=by
 rw[List.map_append];unfold GS My;rw[List.take_of_length_le (by omega)];rfl
abbrev Xf (ns:List Nd) (nb:Bool) (it:aw):SH:=⟨[(8,.arr 5 (it.fns.map sC) true),(7,.arr 2 (it.es.map iT) true),(6,.arr 2 (it.ss.map iT) true),(2,.cells [.ref 6 it.ss.length 2 none,.ref 7 it.es.length 2 none,.ref 8 it.fns.length 5 none]),(1,.cells Rh),(0,.cells [.p (.vs (ns.map aH) none nb)])],9⟩
abbrev X8 (ns:List Nd) (nb:Bool) (it:aw) (x:Nd) (fs:List Fd) (ms:List Bool):SH:=⟨(13,.arr 1 (ms.map uP) true)::(12,.arr 2 (fs.map nZ) true)::(9,b8 x)::(Xf ns nb it).bp,14⟩
theorem Kk (ns:List Nd) (nb:Bool) (g:Good ns) (hK:W (K (.ret (.agg (ry (aD ns (ak ns))))) H0)):SC Tryz.prog 105 [qh ns nb] H0 K:=by
 have hlen:=g.len
 have hrl:(ak ns).length<=1048576:=g.kids _ (cB (by omega) (by omega))
 refine aX [(20,[(0,[]),(1,[]),(2,[]),(3,[]),(4,[]),(5,[]),(6,[]),(7,[]),(8,[]),(9,[]),(10,[]),(11,[]),(12,[]),(14,[]),(15,[]),(16,[]),(17,[]),(13,[17,3,1]),(18,[]),(19,[]),(20,[]),(21,[]),(22,[])])] [(19,[(7,none),(8,none)])] [] Tryz.func105 rfl (by kernel_rfl) ?_
 repeat' first
  |((with_reducible refine W.of ?_);conv=>whnf)
  |with_reducible first
   |refine W.fin (K:=K) hK ?_ rfl
   |refine W.and (by kernel_rfl) ?_
   |refine nQ ns nb hlen.1 (by omega) ?_
  |((with_reducible refine SL.oP 2 0 2 ?_);(with_reducible refine W.of ?_);(conv=>whnf);(with_reducible refine SL.oP 2 1 2 ?_);(with_reducible refine W.of ?_);(conv=>whnf);(with_reducible refine SL.oP 2 2 5 ?_);(with_reducible refine W.of ?_);(conv=>whnf);(with_reducible refine bT [(20,[(0,[]),(1,[]),(2,[]),(3,[]),(4,[]),(5,[]),(6,[]),(7,[]),(8,[]),(9,[]),(10,[]),(11,[]),(12,[]),(14,[]),(15,[]),(16,[]),(17,[]),(13,[17,3,1]),(18,[]),(19,[]),(20,[]),(21,[]),(22,[])])] [(19,[(7,none),(8,none)])] [5] [3,4,5] (λa:So (ak ns).length λ_=>True=>[.i a.1]) (λa=>Xf ns nb (aD ns ((ak ns).take a.1.toNat))) (λa=>(ak ns).length-a.1.toNat) ⟨0,by omega,by omega,trivial⟩ (by kernel_rfl) ?_ ?_);(focus((with_reducible refine W.of ?_);(conv=>whnf);exact⟨rfl,rfl⟩));rintro⟨i,i0,i1,_⟩;dsimp only;(obtain⟨l1,l2,l3⟩:=L9 ns (ak ns) i.toNat hrl))
  |with_reducible refine on (aB n) (bE hn) ?_
  |((with_reducible refine aj (l:=ar ns n) (by omega) (λk hkm=>?_));(obtain⟨_,⟨k2,k3,hkf⟩,_⟩:=hme k (List.mem_of_getElem? hkm));(rcases hkf with hkk|⟨a,hkk,a0,a1,hat⟩);(focus(have hty:(cm ns k).ty=[]:=by simp[cm,hkk]));(rotate_left);(have hty:(cm ns k).ty=cz ns a.toNat:=by simp[cm,hkk]))
  |((with_reducible refine aj (l:=ak ns) (by omega) (λn hn=>?_));(obtain⟨h0,h1,hk⟩:=g.roots n (List.mem_of_getElem? hn));(have hme:=g.members h0 (by omega) hk);(have hml:(ar ns n).length<=1048576:=Nat.le_trans (mR ns n) (g.kids _ (cB h0 (by omega)))))
  |with_reducible first
   |refine aq (n:=n) h0 (by omega) ?_
   |refine aq k2 k3 ?_
   |refine qN ns nb g n h0 (by omega) ?_
  |((with_reducible refine SL.nil 8 1 ?_);(with_reducible refine W.of ?_);(conv=>whnf);(with_reducible refine bT [(20,[(0,[]),(1,[]),(2,[]),(3,[]),(4,[]),(5,[]),(6,[]),(7,[]),(8,[]),(9,[]),(10,[]),(11,[]),(12,[]),(14,[]),(15,[]),(16,[]),(17,[]),(13,[17,3,1]),(18,[]),(19,[]),(20,[]),(21,[]),(22,[])])] [(19,[(7,none),(8,none)])] [7,8,10] [10,11] (λa:So (ar ns n).length λ_=>True=>[.f (.ref 12 (GS ns (ar ns n) a.1).length 2 none),.f (.ref 13 (My ns (ar ns n) a.1).length 1 none),.i a.1]) (λa=>X8 ns nb (aD ns ((ak ns).take i.toNat)) (nd ns n) (GS ns (ar ns n) a.1) (My ns (ar ns n) a.1)) (λa=>(ar ns n).length-a.1.toNat) ⟨0,by omega,by omega,trivial⟩ (by kernel_rfl) ?_ ?_);(focus((with_reducible refine W.of ?_);(conv=>whnf);exact⟨rfl,rfl⟩));rintro⟨j,j0,j1,_⟩;dsimp only;(have f1:=Nat.le_trans (LP ns (ar ns n) j) hml;have f2:=Nat.le_trans (Mz ns (ar ns n) j) hml))
  |((with_reducible refine SL.nil 7 2 ?_);(with_reducible refine W.of ?_);(conv=>whnf))
  |((with_reducible refine bt ?_ ?_);focus(simp[hkk]<;>omega))
  |((with_reducible refine bf ?_ ?_);focus(simp[hkk]<;>omega))
  |((with_reducible refine bt ?_ ?_);focus(simp[Ph,Pj,UY,UZ,Xk]<;>omega))
  |((with_reducible refine on (aB a) ?_ ?_);focus(simp[hkk];done))
  |with_reducible first
   |refine xL g nb _ a (Nat.lt_succ_self _) a0 (by omega) hat ?_
   |refine fold_eq _ (Qa j0 hkm hty) ?_
   |refine fold_eq _ (Rc j0 hkm) ?_
   |refine fold_eq _ (Si (by omega) (by omega)) ?_
   |refine fold_eq _ (Qf (by omega)) ?_
   |refine fj ?_
  |((have hk2:(nd ns n).kind=2:=by omega);(obtain⟨q1,q2,q3,q4,_⟩:=g.fn h0 (by omega) hk2);(with_reducible refine Im g h0 (by omega) (by simpa[au] using hk2) ?_))
  |with_reducible first
   |refine xL g nb _ (dL ns n) (Nat.lt_succ_self _) q2 (by omega) q4 ?_
   |refine SC.call ?_
  |((with_reducible refine bb (λh=>?_) (λh=>?_))<;>(try simp at h))
 all_goals(try clear hK)
 all_goals first
  |exact⟨⟨⟨j+1,by omega,by omega,trivial⟩,ao j0 (by omega),rfl,rfl⟩,rfl⟩
  |(refine⟨⟨⟨i+1,by omega,by omega,trivial⟩,ao i0 (by omega),rfl,?_⟩,rfl⟩;dsimp only;rw[BH i0 hn,if_pos (by omega)];done)
  |(refine⟨⟨⟨i+1,by omega,by omega,trivial⟩,ao i0 (by omega),rfl,?_⟩,rfl⟩;dsimp only;rw[BH i0 hn,if_neg (by omega),if_pos (by omega)];done)
  |(refine⟨⟨⟨i+1,by omega,by omega,trivial⟩,ao i0 (by omega),rfl,?_⟩,rfl⟩;dsimp only;rw[BH i0 hn,if_neg (by omega),if_neg (by omega)];done)
  |(rw[List.take_of_length_le (by omega)];rfl)
  |skip
end
section
set_option maxRecDepth 100000
set_option maxHeartbeats 4000000
open Go.Vv Go.Ee
variable{K:aR->SH->Prop}
theorem nO (ns:List Nd) (nb b:Bool) (hb:(ns.length:Int)<=9223372036854775807) (hkl:∀x∈ns,x.kids.length<=17592186044415) (hnl:∀x∈ns,x.name.length<4294967281) (hr:fE ns=b) (hK:KB K b):SC Tryz.prog 101 [qh ns nb] H0 K:=NG ns nb hb hkl hnl (by rw[hr];exact hK)
theorem Vg {e:Int} (h:¬e=0):(e !=0)=true:=by simp[h]
abbrev dE (ns:List Nd) (n e:Int):List FC:=[.p (.int .i64 e),.p (.int .i64 (nd ns n).mE),.p (.int .i64 (nd ns n).to)]
section
variable(ns:List Nd) (nb:Bool) (g:Good ns)
include g
theorem xi (h:l9 ns (ak ns) (0,0,0)=none) (hK:W (K (.ret (.agg dz)) H0)):SC Tryz.prog 102 [qh ns nb] H0 K:=HY ns nb g (by rw[show DG ns (ak ns) 0 0 0=none from h];exact hK)
theorem Q8 {n:Int} (h:l9 ns (ak ns) (0,0,0)=some n) (hK:W (K (.ret (.agg (dE ns n 2))) H0)):SC Tryz.prog 102 [qh ns nb] H0 K:=HY ns nb g (by rw[show DG ns (ak ns) 0 0 0=some n from h];exact hK)
theorem uJ (h:ba ns (ak ns) [] bG=none) (hK:W (K (.ret (.agg dz)) H0)):SC Tryz.prog 103 [qh ns nb] H0 K:=AT ns nb g (by rw[h];exact hK)
theorem K9 {n e:Int} (h:ba ns (ak ns) [] bG=some (n,e)) (hK:W (K (.ret (.agg (dE ns n e))) H0)):SC Tryz.prog 103 [qh ns nb] H0 K:=AT ns nb g (by rw[h];exact hK)
theorem AZ (it:aw) (hkn:∀s,(cV ns (ak ns)).contains s=cw it s) (h:bz ns it (ak ns)=none) (hK:W (K (.ret (.agg dz)) H0)):SC Tryz.prog 104 [qh ns nb] H0 K:=AY ns nb g it hkn (by rw[h];exact hK)
theorem Lg (it:aw) (hkn:∀s,(cV ns (ak ns)).contains s=cw it s) {n e:Int} (h:bz ns it (ak ns)=some (n,e)) (hK:W (K (.ret (.agg (dE ns n e))) H0)):SC Tryz.prog 104 [qh ns nb] H0 K:=AY ns nb g it hkn (by rw[h];exact hK)
end
section
variable(ns:List Nd) (nb:Bool) (g:Good ns) (it:aw) (iZ:A1 it) (hn0:([]:ah)∉aY it) (hu0:aE∉aY it) (hfe:∀x∈it.ss,∀f∈x.fs,f.ty≠[]) (hsm:∀s,yK it [] [s]<=1000000) (hend:∀x∈ak ns,au ns x=false->eM it (nd ns x).name=aW ns it x)
 (hacy:(∀n∈ak ns,(nd ns n).kind=3\/(nd ns n).kind=4->¬Reach (bB it) (nd ns n).name (nd ns n).name)->gD it)
include g iZ hn0 hu0 hfe hsm hend hacy
theorem Ld (h:cq ns it (ak ns)=none) (hK:W (K (.ret (.agg dz)) H0)):SC Tryz.prog 106 [qh ns nb,E1 it] H0 K:=AX ns nb g it iZ hn0 hu0 hfe hsm hend hacy (by rw[h];exact hK)
theorem Lf {n e:Int} (h:cq ns it (ak ns)=some (n,e)) (hK:W (K (.ret (.agg (dE ns n e))) H0)):SC Tryz.prog 106 [qh ns nb,E1 it] H0 K:=AX ns nb g it iZ hn0 hu0 hfe hsm hend hacy (by rw[h];exact hK)
end
theorem PY (ns:List Nd) (nb:Bool) (n c:Int) (h0:0<=n) (h1:n<(ns.length:Int)) (hK:W (K (.ret (.agg (dE ns n c))) H0)):SC Tryz.prog 107 [qh ns nb,.i n,.i c] H0 K:=mz ns nb n c h0 h1 hK
theorem Pa (ns:List Nd) (nb:Bool) (hb:(ns.length:Int)<=9223372036854775807) (hkl:∀x∈ns,x.kids.length<=17592186044415) (hnl:∀x∈ns,x.name.length<4294967281) (hnum:∀x∈ns, -9223372036854775808<=x.num) (hgood:bK ns=true->Good ns)
 (hg:∀it,kM ns=.inl it->W (K (.ret (.bR [.agg (ry it),.agg dz])) H0)) (hd:∀e f t,kM ns=.inr ⟨e,f,t⟩->¬e=0->W (K (.ret (.bR [.agg Rh,.agg [.p (.int .i64 e),.p (.int .i64 f),.p (.int .i64 t)]])) H0)):SC Tryz.prog 49 [qh ns nb] H0 K:=by
 have hre:=J4 ns hnum
 rcases hr:bK ns with _|_
 ·have hof:kM ns=.inr ⟨3,0,0⟩:=by unfold kM;rw[if_pos hr]
  refine uN [(9,[(0,[]),(1,[]),(2,[1]),(3,[])]),(13,[(0,[]),(1,[]),(2,[1]),(3,[])])] [] [] Tryz.func49 rfl (by kernel_rfl) ?_
  repeat' first
   |((with_reducible refine W.of ?_);conv=>whnf)
   |with_reducible first
    |refine W.fin (K:=K) (hd _ _ _ hof (by decide)) rfl rfl
    |refine W.and (by kernel_rfl) ?_
    |refine nO ns nb _ hb hkl hnl (hre.symm.trans hr) ?_
    |refine SC.call ?_
   |((with_reducible refine bb (λh=>?_) (λh=>?_))<;>(try simp at h))
 have g:=hgood hr
 have hlen:=g.len
 have hrl:(ak ns).length<=1048576:=g.kids _ (cB (by omega) (by omega))
 have hroots:∀n∈ak ns,0<=n/\n<(ns.length:Int)/\((nd ns n).kind=2\/(nd ns n).kind=3\/(nd ns n).kind=4):=λn hn=>by
  have:=g.roots n hn
  exact⟨this.1,by omega,this.2.2⟩
 have hkn:=zT ns (ak ns) (λn hn=>(hroots n hn).2.2)
 have hofk:=Rl (ns:=ns) (by simp[hr])
 rcases hmk:l9 ns (ak ns) (0,0,0) with _|n
 rotate_left
 ·rw[hmk] at hofk
  have hof:kM ns=.inr ⟨2,(nd ns n).mE,(nd ns n).to⟩:=hofk
  refine uN [(9,[(0,[]),(1,[]),(2,[1]),(3,[])]),(13,[(0,[]),(1,[]),(2,[1]),(3,[])])] [] [] Tryz.func49 rfl (by kernel_rfl) ?_
  repeat' first
   |((with_reducible refine W.of ?_);conv=>whnf)
   |with_reducible first
    |refine W.fin (K:=K) (hd _ _ _ hof (by decide)) rfl rfl
    |refine W.and (by kernel_rfl) ?_
    |refine nO ns nb _ hb hkl hnl (hre.symm.trans hr) ?_
    |refine Q8 ns nb g hmk ?_
    |refine SC.call ?_
   |((with_reducible refine bb (λh=>?_) (λh=>?_))<;>(try simp at h))
 rw[hmk] at hofk
 simp only at hofk
 rcases hnk:ba ns (ak ns) [] bG with _|⟨n,e⟩
 rotate_left
 ·rw[hnk] at hofk
  have hof:kM ns=.inr ⟨e,(nd ns n).mE,(nd ns n).to⟩:=hofk
  have hne:¬e=0:=tI _ _ _ _ hnk
  refine uN [(9,[(0,[]),(1,[]),(2,[1]),(3,[])]),(13,[(0,[]),(1,[]),(2,[1]),(3,[])])] [] [] Tryz.func49 rfl (by kernel_rfl) ?_
  repeat' first
   |((with_reducible refine W.of ?_);conv=>whnf)
   |with_reducible first
    |refine W.fin (K:=K) (hd _ _ _ hof hne) rfl rfl
    |refine W.and (by kernel_rfl) ?_
    |refine nO ns nb _ hb hkl hnl (hre.symm.trans hr) ?_
    |refine xi ns nb g hmk ?_
    |refine K9 ns nb g hnk ?_
    |refine bt (Vg hne) ?_
    |refine bf (qv hne) ?_
    |refine SC.call ?_
   |((with_reducible refine bb (λh=>?_) (λh=>?_))<;>(try simp at h))
 rw[hnk] at hofk
 simp only at hofk
 rcases htk:bz ns (aD ns (ak ns)) (ak ns) with _|⟨n,e⟩
 rotate_left
 ·rw[htk] at hofk
  have hof:kM ns=.inr ⟨e,(nd ns n).mE,(nd ns n).to⟩:=hofk
  have hne:¬e=0:=rM htk
  refine uN [(9,[(0,[]),(1,[]),(2,[1]),(3,[])]),(13,[(0,[]),(1,[]),(2,[1]),(3,[])])] [] [] Tryz.func49 rfl (by kernel_rfl) ?_
  repeat' first
   |((with_reducible refine W.of ?_);conv=>whnf)
   |with_reducible first
    |refine W.fin (K:=K) (hd _ _ _ hof hne) rfl rfl
    |refine W.and (by kernel_rfl) ?_
    |refine nO ns nb _ hb hkl hnl (hre.symm.trans hr) ?_
    |refine xi ns nb g hmk ?_
    |refine uJ ns nb g hnk ?_
    |refine Lg ns nb g _ hkn htk ?_
    |refine bt (Vg hne) ?_
    |refine bf (qv hne) ?_
    |refine SC.call ?_
   |((with_reducible refine bb (λh=>?_) (λh=>?_))<;>(try simp at h))
 rw[htk] at hofk
 simp only at hofk
 have hcf:=jP ns (ak ns) aw.none none (by rw[DE];exact hmk) (by decide) (by decide) (by decide)
 rw[jo] at hcf
 obtain⟨_,c1,c2,c3⟩:=hcf
 have hmems:=tJ ns _ _ _ hnk
 obtain⟨hfew,_⟩:=GU g hroots hmems c1 c2 c3
 have hn0:=MF g hroots
 have hu0:aE∉aY (aD ns (ak ns)):=λhh=>by
  have:=xo g hroots hh
  rw[AF] at this
  cases this
 have hfe:=xT g hroots
 have hsm:=At g hroots hmems c1 c2
 have hend:=λx hx hf=>ze g hroots hnk (x:=x) hx hf
 have hacy:=λhh=>CX g hroots hh
 have hfn:∀f∈(aD ns (ak ns)).fns,0<=f.node/\f.node<(ns.length:Int):=λf hf=>by
  obtain⟨n,hn,_,rfl⟩:=tn g hroots hf
  exact⟨(hroots n hn).1,(hroots n hn).2.1⟩
 rcases hsk:cq ns (aD ns (ak ns)) (ak ns) with _|⟨n,e⟩
 rotate_left
 ·rw[hsk] at hofk
  have hof:kM ns=.inr ⟨e,(nd ns n).mE,(nd ns n).to⟩:=hofk
  have hne:¬e=0:=uc hsk
  refine uN [(9,[(0,[]),(1,[]),(2,[1]),(3,[])]),(13,[(0,[]),(1,[]),(2,[1]),(3,[])])] [] [] Tryz.func49 rfl (by kernel_rfl) ?_
  repeat' first
   |((with_reducible refine W.of ?_);conv=>whnf)
   |with_reducible first
    |refine W.fin (K:=K) (hd _ _ _ hof hne) rfl rfl
    |refine W.and (by kernel_rfl) ?_
    |refine nO ns nb _ hb hkl hnl (hre.symm.trans hr) ?_
    |refine xi ns nb g hmk ?_
    |refine uJ ns nb g hnk ?_
    |refine AZ ns nb g _ hkn htk ?_
    |refine Kk ns nb g ?_
    |refine Lf ns nb g _ hfew hn0 hu0 hfe hsm hend hacy hsk ?_
    |refine bt (Vg hne) ?_
    |refine SC.call ?_
   |((with_reducible refine bb (λh=>?_) (λh=>?_))<;>(try simp at h))
 rw[hsk] at hofk
 simp only at hofk
 refine uN [(9,[(0,[]),(1,[]),(2,[1]),(3,[])]),(13,[(0,[]),(1,[]),(2,[1]),(3,[])])] [] [] Tryz.func49 rfl (by kernel_rfl) ?_
 repeat' first
  |((with_reducible refine W.of ?_);conv=>whnf)
  |with_reducible first
   |refine W.fin (K:=K) (hg _ ?_) rfl rfl
   |refine W.fin (K:=K) (hd _ _ _ ?_ (by decide)) rfl rfl
   |refine W.and (by kernel_rfl) ?_
   |refine nO ns nb _ hb hkl hnl (hre.symm.trans hr) ?_
   |refine xi ns nb g hmk ?_
   |refine uJ ns nb g hnk ?_
   |refine AZ ns nb g _ hkn htk ?_
   |refine Kk ns nb g ?_
   |refine Ld ns nb g _ hfew hn0 hu0 hfe hsm hend hacy hsk ?_
  |((with_reducible refine bT [] [] [6] [] (λa:On (λx=>x.name==oq) (aD ns (ak ns)).fns=>[.i a.1]) (λ_=>⟨[(4,.cells (ry (aD ns (ak ns)))),(3,.cells dz),(2,.cells dz),(1,.cells Rh),(0,.cells [.p (.vs (ns.map aH) none nb)])],5⟩) (λa=>(aD ns (ak ns)).fns.length-a.1.toNat) ⟨0,by omega,by omega,rfl⟩ (by kernel_rfl) ?_ ?_);(focus((with_reducible refine W.of ?_);(conv=>whnf);exact⟨rfl,rfl⟩));rintro⟨i,i0,i1,hi⟩;dsimp only)
  |((with_reducible refine aj (l:=(aD ns (ak ns)).fns) (by omega) (λf hf=>?_));obtain⟨f0,f1⟩:=hfn f (List.mem_of_getElem? hf))
  |with_reducible refine PY ns nb f.node _ f0 f1 ?_
  |((with_reducible refine bt ?_ ?_);focus(simp[]<;>omega))
  |with_reducible refine SC.call ?_
  |((with_reducible refine bb (λh=>?_) (λh=>?_))<;>(try simp at h))
 all_goals(clear hg hd)
 all_goals first
  |exact⟨⟨⟨i+1,by omega,by omega,by rw[<-hi,bX i0 hf,if_neg (by simp[oq, *])]⟩,ao i0 (by omega),rfl,rfl⟩,rfl⟩
  |(have hm:findF (aD ns (ak ns)).fns oq=some f:=by
     show List.find? _ _=some f
     rw[<-hi,bX i0 hf,if_pos (by simp[oq, *])]
    rw[hm] at hofk
    simp only at hofk
    rw[hofk]
    first
     |(rw[if_pos (by refine⟨?_,?_⟩<;>simp_all[aE])];done)
     |(rw[if_neg (by rintro⟨a,b⟩;simp_all[aE])];rfl))
  |(have hm:findF (aD ns (ak ns)).fns oq=none:=by
     show List.find? _ _=none
     rw[<-hi,fa (by omega)]
    rw[hm] at hofk
    exact hofk)
  |skip
end
end Go.Proofs.YtdjkoddnnogejaaGreat
