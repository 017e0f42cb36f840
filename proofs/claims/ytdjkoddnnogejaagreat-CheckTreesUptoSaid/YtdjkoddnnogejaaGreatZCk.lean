/- Part of the proof of CheckTrees: plain laws and steps of its walks, for all arguments. -/
import Derived.Test.YtdjkoddnnogejaaGreatZAr
import Derived.Test.YtdjkoddnnogejaaGreatZCi
set_option linter.unusedSimpArgs false
set_option linter.unusedVariables false
set_option linter.unusedSectionVars false
namespace Go.Proofs.YtdjkoddnnogejaaGreat
section
set_option maxRecDepth 100000
set_option maxHeartbeats 4000000
open Go.Vv Go.Ee
abbrev xw (l:List Lc):List PV:=[.vs (l.map vK) none true]
abbrev Fe:List FC:=[.p (.vs [] none true),.p (.vs [] none true),.p (.vs [] none true),.p (.vs [] none true),.p (.vs [] none true),.p (.vs [] none true),.p (.vs [] none true)]
abbrev Ww (ns:List Nd) (it:aw) (outs:List (List Lc)) (st:St):List FC:=.p (.vs (ns.map aH) none true)::ry it++[.p (.vs (st.types.map bL) none false),.p (.vs (st.vars.map aB) none false),.p (.vs (outs.map xw) none true)]
abbrev dz:List FC:=[.p (.int .i64 0),.p (.int .i64 0),.p (.int .i64 0)]
theorem TH {f:FuncId} {F:Func} {r0 rest:Code} {args:List EV} {os:List (Nat×SO)} {nx:Nat} {K:aR->SH->Prop} (T:fI) (pol:vn) (mv:List Nat) (hf:Tryz.prog.funcs[f]?=some F) (hb:F.body=some (.seq r0 rest)) (hc:jn Tryz.prog f args.length=true)
 (hk:W (zn lH args λfr=>er Tryz.prog (SC Tryz.prog) (SL Tryz.prog ⟨F.ntmps,[]⟩) T pol r0 (λx fr s=>match x with
   |.normal=>es Tryz.prog (SC Tryz.prog) (SL Tryz.prog ⟨F.ntmps,iE F⟩) (SG Tryz.prog ⟨F.ntmps,iE F⟩ f) T pol rest (QF Tryz.prog F fr λe s1=>tr e s1 λe s2=>Fs mv nx e s2 K) [] fr s
   |_=>False) fr ⟨os,nx⟩)):SC Tryz.prog f args ⟨os,nx⟩ K:=.nX mv (.wT (.Gs uV T pol hf hb hc hk))
theorem X7 {f:FuncId} {F:Func} {c:Code} {args:List EV} {pan:Option EV} {s:SH} {K:Option EV->SH->Prop} (T:fI) (pol:vn) {o0 o1:Oper} {rest:Code} (hf:Tryz.prog.funcs[f]?=some F) (hb:F.body=some c) (hsh:kP c=some (o0,o1,rest)) (hv1:∀fr h K Q,ez Tryz.prog o1 fr h K Q->dB Tryz.prog o1 fr h K)
 (hc:(!(F.name== "runtime.NumGoroutine")&&jb o0&&o1.guard.isNone&&bd ⟨F.ntmps,[]⟩ o0&&bd ⟨F.ntmps,[]⟩ o1&&aT ⟨F.ntmps,[]⟩ rest&&decide (args.length<=F.ntmps))=true)
 (hk:W (zn lH args λfr=>kO fr o0.dst (pan.getD (.f (.p .ec))) λfr=>EP Tryz.prog (SC Tryz.prog) o1.op fr s (λ_ _ _=>False) λv s=>kO fr o1.dst v λfr=>
   er Tryz.prog (SC Tryz.prog) (SL Tryz.prog ⟨F.ntmps,[]⟩) T pol rest (λx fr s=>match x with|.normal|.ret=>Ai Tryz.prog fr s F.results.toList λ_=>K none s|_=>False) fr s)):SD Tryz.prog f args pan s K:=.UF uV T pol hf hb hsh hv1 hc hk
theorem UG {l:List Nd} {k:List (List PV)->Prop} (h:W (k ((List.replicate l.length ([]:ah)).map bL))):Fold (List.replicate (Int.toNat ((l.map aH).length:Int)) [PV.str []]) k:=fold_eq _ (by simp) h
theorem wU (ns:List Nd) (it:aw) (f:Fx) (st:St) (lo:List Lc) (lp:Int):dg ns it f st=dg ns it f ⟨st.types,st.vars,lo,[],lp⟩:=rfl
theorem wP {ns:List Nd} {it:aw} {l:List Fx} {i:Int} {f:Fx} {outs:List (List Lc)} {st:St} (i0:0<=i) (hf:l[i.toNat]?=some f):b9 ns it (l.drop i.toNat) outs st=(dg ns it f st).then λ_ st=>b9 ns it (l.drop (i+1).toNat) (outs++[st.locals]) st:=by rw[drop_cons i0 hf];rfl
theorem C6 {ns:List Nd} {d:Dg} (h:kM ns=.inr d):iC ns=.inr d:=by unfold iC;rw[h]
theorem C5 {ns:List Nd} {it:aw} {d:Dg} (h:kM ns=.inl it) (h2:b9 ns it it.fns [] (eQ ns)=.bad d):iC ns=.inr d:=by unfold iC;rw[h];simp only[h2]
theorem C8 {ns:List Nd} {it:aw} {outs:List (List Lc)} {st:St} (h:kM ns=.inl it) (h2:b9 ns it it.fns [] (eQ ns)=.ok outs st):iC ns=.inl (it,outs,st):=by unfold iC;rw[h];simp only[h2]
structure WD where
 i:Int
 outs:List (List Lc)
 st:St
 fi:Int
 r:ah
 c1:Option Nat
 ex:List (List PV)
abbrev Xq (ns:List Nd) (it:aw):Type:={q:WD//0<=q.i/\q.i<=it.fns.length/\q.outs.length<=q.i/\Wf ns ⟨q.st.types,q.st.vars,[],[],0⟩/\b9 ns it (it.fns.drop q.i.toNat) q.outs q.st=b9 ns it it.fns [] (eQ ns)}
abbrev WX (ns:List Nd) (it:aw) (l a:FC) (fi:Int) (r:ah) (x:PV):SO:=.cells (.p (.vs (ns.map aH) none true)::ry it++[.ref 4 ns.length 1 (some ns.length),.ref 5 ns.length 1 (some ns.length),l,.p (.int .i64 fi),.p (.str r),a,.p (.int .i64 0),.p x])
abbrev WW (ns:List Nd) (nb:Bool) (it:aw) (ty:List ah) (va:List Int) (w:SO):List (Nat×SO):=[(6,w),(5,.arr 1 (va.map aB) false),(4,.arr 1 (ty.map bL) false),(3,.cells (ry it)),(2,.cells dz),(1,.cells Fe),(0,.cells [.p (.vs (ns.map aH) none nb)])]
theorem X6 {f:FuncId} {args:List EV} {pan:Option EV} {s:SH} {K:Option EV->SH->Prop} (h:SD Tryz.prog f args pan s K):SD Tryz.prog f args pan s K:=h
abbrev Vw (ns:List Nd) (nb:Bool) (it:aw) (i:Int):SH:=⟨WW ns nb it (List.replicate ns.length []) (gJ ns.length i) (WX ns it (.p (.vs [] none true)) (.p (.vs [] none true)) 0 [] (.vs [] none true)),7⟩
abbrev PL (ns:List Nd) (nb:Bool) (it:aw) (q:WD):SH:=⟨(10,.arr 2 q.ex true)::(9,.arr 1 (q.outs.map xw) true)::WW ns nb it q.st.types q.st.vars (WX ns it (.ref 9 (q.outs.map xw).length 1 none) (.ref 10 0 2 q.c1) q.fi q.r (.vs (q.st.locals.map vK) none true)),11⟩
theorem EC {ns:List Nd} {it:aw}:0<=(0:Int)/\(0:Int)<=it.fns.length/\([]:List (List Lc)).length<=(0:Int)/\Wf ns ⟨(eQ ns).types,(eQ ns).vars,[],[],0⟩/\b9 ns it (it.fns.drop (0:Int).toNat) [] (eQ ns)=b9 ns it it.fns [] (eQ ns):=
 ⟨by omega,by omega,by simp,⟨by simp[eQ],by simp[eQ],by simp,by simp,by simp,by simp⟩,rfl⟩
theorem vo {K:aR->SH->Prop} (ns:List Nd) (nb:Bool) (hb:(ns.length:Int)<=9223372036854775807) (hkl:∀x∈ns,x.kids.length<=17592186044415) (hnl:∀x∈ns,x.name.length<4294967281) (hgood:bK ns=true->Good ns)
 (hg:∀it outs st,iC ns=.inl (it,outs,st)->W (K (.ret (.bR [.agg (Ww ns it outs st),.agg dz])) H0)) (hd:∀d,iC ns=.inr d->W (K (.ret (.bR [.agg Fe,.agg (dF d)])) H0)):SC Tryz.prog 13 [.agg [.p (.vs (ns.map aH) none nb)]] H0 K:=by
 cases hof:kM ns with
 |inr d=>
  have hdc:=Ih hof
  refine TH [(3,[(0,[]),(1,[]),(2,[1]),(3,[])]),(5,[(0,[]),(2,[]),(3,[]),(4,[]),(5,[]),(6,[]),(7,[]),(8,[]),(9,[]),(10,[]),(1,[10,9,8,6,5,4,2]),(11,[]),(12,[]),(13,[]),(14,[])])] [] [] Tryz.func13 rfl (by kernel_rfl) ?_
  repeat' first
   |((with_reducible refine W.of ?_);conv=>whnf)
   |with_reducible first
    |refine W.fin (K:=K) (hd d (C6 hof)) rfl rfl
    |refine W.and (by kernel_rfl) ?_
   |((with_reducible refine bt ?_ ?_);focus(simp[hdc]<;>omega))
   |((with_reducible refine vE ns nb hb hkl hnl hgood (λit2 e2=>absurd (hof.symm.trans e2) (by simp)) (λd2 e2=>?_));(obtain rfl:=Sum.inr.inj (hof.symm.trans e2)))
   |with_reducible refine SC.call ?_
   |((with_reducible refine bb (λh=>?_) (λh=>?_))<;>(try simp at h))
 |inl it=>
  have g:=hgood (qQ hof)
  have hlen:=g.len
  have ia:=xr g hof
  refine TH [(3,[(0,[]),(1,[]),(2,[1]),(3,[])]),(5,[(0,[]),(2,[]),(3,[]),(4,[]),(5,[]),(6,[]),(7,[]),(8,[]),(9,[]),(10,[]),(1,[10,9,8,6,5,4,2]),(11,[]),(12,[]),(13,[]),(14,[])])] [] [] Tryz.func13 rfl (by kernel_rfl) ?_
  repeat' first
   |((with_reducible refine W.of ?_);conv=>whnf)
   |with_reducible refine W.and (by kernel_rfl) ?_
   |((with_reducible refine bt ?_ ?_);focus(simp[hC,gZ]<;>omega))
   |((with_reducible refine vE ns nb hb hkl hnl hgood (λit2 e2=>?_) (λd2 e2=>absurd (hof.symm.trans e2) (by simp)));(obtain rfl:=Sum.inl.inj (hof.symm.trans e2)))
   |with_reducible first
    |refine Uv ns nb hlen.1 (by omega) g.kids ?_
    |refine UG ?_
    |refine Bq ?_
    |refine dj ?_
   |((with_reducible refine bT [(3,[(0,[]),(1,[]),(2,[1]),(3,[])]),(5,[(0,[]),(2,[]),(3,[]),(4,[]),(5,[]),(6,[]),(7,[]),(8,[]),(9,[]),(10,[]),(1,[10,9,8,6,5,4,2]),(11,[]),(12,[]),(13,[]),(14,[])])] [] [40] [] (λa:{i:Int//0<=i/\i<=ns.length}=>[.i a.1]) (λa=>Vw ns nb it a.1) (λa=>ns.length-a.1.toNat) ⟨0,by omega,by omega⟩ (by kernel_rfl) ?_ ?_);(focus((with_reducible refine W.of ?_);(conv=>whnf);exact⟨rfl,by simp only[List.length_map,Int.toNat_natCast];rfl⟩));rintro⟨j,j0,j1⟩;dsimp only)
   |((with_reducible refine aj (l:=gJ ns.length j) (by simp;omega) (λx hx=>?_)))
   |((with_reducible refine SL.oP 6 6 1 ?_);(with_reducible refine W.of ?_);(conv=>whnf);(with_reducible refine SL.oP 6 9 2 ?_);(with_reducible refine W.of ?_);(conv=>whnf);(with_reducible refine bT [(3,[(0,[]),(1,[]),(2,[1]),(3,[])]),(5,[(0,[]),(2,[]),(3,[]),(4,[]),(5,[]),(6,[]),(7,[]),(8,[]),(9,[]),(10,[]),(1,[10,9,8,6,5,4,2]),(11,[]),(12,[]),(13,[]),(14,[])])] [] [54] [7,8] (λq:Xq ns it=>[.i q.1.i]) (λq=>PL ns nb it q.1) (λq=>it.fns.length-q.1.i.toNat) ⟨⟨0,[],eQ ns,0,[],none,[]⟩,EC⟩ (by kernel_rfl) ?_ ?_);(focus((with_reducible refine W.of ?_);(conv=>whnf);exact⟨rfl,by rw[GV ‹_› j1];rfl⟩));rintro⟨⟨i,outs,st,fi,r,c1,ex⟩,i0,i1,hol,hw,hi⟩;dsimp only;(dsimp only at i0 i1 hol hw hi;have htl:st.types.length=ns.length:=hw.tl;have hvl:st.vars.length=ns.length:=hw.vl;have hfl:=ia.iZ))
   |((with_reducible refine aj (l:=it.fns) (by omega) (λf hf=>?_));(obtain⟨m0,m1,m2,m3⟩:=ia.ms f (List.mem_of_getElem? hf)))
   |with_reducible refine By ⟨ns,true,it,r,i,outs.map xw,true⟩ g ia.fl ia.ok f (SJ _ g) (x6 _) m0 m1 m2 m3 (List.mem_of_getElem? hf) (by rw[List.length_map];omega) _ _ _ _ _ _ _ rfl st.locals hw (λty2 va2 lo2 sc2 c12 ex2 hF hw2=>?_) (λd hF=>?_)
   |((with_reducible refine X6 ?_);(refine X7 [(5,[(0,[]),(1,[]),(2,[]),(3,[2]),(4,[])])] [] Tryz.func46 rfl rfl (λ_ _ _ _ h=>h) (by kernel_rfl) ?_))
   |with_reducible refine SC.call ?_
   |((with_reducible refine bb (λh=>?_) (λh=>?_))<;>(try simp at h))
  ·exact⟨⟨⟨j+1,by omega,by omega⟩,ao j0 (by omega),rfl,by rw[wM j0 h];rfl⟩,rfl⟩
  ·refine⟨⟨⟨⟨i+1,outs++[lo2],⟨ty2,va2,lo2,sc2,0⟩,i,f.ret,c12,ex2⟩,by dsimp only;omega,by dsimp only;omega,by dsimp only;rw[List.length_append];simp only[List.length_cons,List.length_nil];omega,hw2,((wP i0 hf).trans (by rw[wU,hF];rfl)).symm.trans hi⟩,ao i0 (by omega),rfl,?_⟩,rfl⟩
   show _=PL ns nb it _
   simp only[PL,List.map_append,List.map_cons,List.map_nil,List.length_append,List.length_map,List.length_cons,List.length_nil]
   rfl
  ·exact hd d (C5 hof (hi.symm.trans ((wP i0 hf).trans (by rw[wU,hF];rfl))))
  ·exact hg it outs st (C8 hof (hi.symm.trans (by rw[List.drop_of_length_le (by omega)];rfl)))
end
section
set_option maxRecDepth 100000
set_option maxHeartbeats 4000000
open Go.Vv Go.Ee
variable{K:aR->SH->Prop}
def DG (ns:List Nd) (l:List Int) (s e f:Int):Option Int:=l9 ns l (s.toNat,e.toNat,f.toNat)
theorem Uh {ns:List Nd} {l:List Int} {i n s e f:Int} (i0:0<=i) (hn:l[i.toNat]?=some n) (s0:0<=s) (e1:e<=64) (f1:f<=64) (hk:(nd ns n).kind=3):DG ns (l.drop i.toNat) s e f=if 64<s+1 then some n else DG ns (l.drop (i+1).toNat) (s+1) e f:=by
 unfold DG
 rw[drop_cons i0 hn,l9,A2,if_pos hk,show(s+1).toNat=s.toNat+1 by omega]
 by_cases h:64<s+1
 ·rw[if_pos h,if_pos (by dsimp only;omega)]
 ·rw[if_neg h,if_neg (by dsimp only;omega)]
theorem Ui {ns:List Nd} {l:List Int} {i n s e f:Int} (i0:0<=i) (hn:l[i.toNat]?=some n) (e0:0<=e) (s1:s<=64) (f1:f<=64) (hk:(nd ns n).kind=4):DG ns (l.drop i.toNat) s e f=if 64<e+1 then some n else DG ns (l.drop (i+1).toNat) s (e+1) f:=by
 unfold DG
 rw[drop_cons i0 hn,l9,A2,if_neg (show¬(nd ns n).kind=3 by omega),if_pos hk,show(e+1).toNat=e.toNat+1 by omega]
 by_cases h:64<e+1
 ·rw[if_pos h,if_pos (by dsimp only;omega)]
 ·rw[if_neg h,if_neg (by dsimp only;omega)]
theorem Ug {ns:List Nd} {l:List Int} {i n s e f:Int} (i0:0<=i) (hn:l[i.toNat]?=some n) (f0:0<=f) (s1:s<=64) (e1:e<=64) (h3:¬(nd ns n).kind=3) (h4:¬(nd ns n).kind=4):DG ns (l.drop i.toNat) s e f=if 64<f+1 then some n else DG ns (l.drop (i+1).toNat) s e (f+1):=by
 unfold DG
 rw[drop_cons i0 hn,l9,A2,if_neg h3,if_neg h4,show(f+1).toNat=f.toNat+1 by omega]
 by_cases h:64<f+1
 ·rw[if_pos h,if_pos (by dsimp only;omega)]
 ·rw[if_neg h,if_neg (by dsimp only;omega)]
structure XC where
 i:Int
 s:Int
 e:Int
 f:Int
abbrev WM (ns:List Nd) (l:List Int):Type:={q:XC//0<=q.i/\q.i<=l.length/\0<=q.s/\q.s<=64/\0<=q.e/\q.e<=64/\0<=q.f/\q.f<=64/\DG ns (l.drop q.i.toNat) q.s q.e q.f=DG ns l 0 0 0}
def VU (ns:List Nd) (l:List Int):WM ns l:=⟨⟨0,0,0,0⟩,Int.le_refl 0,Int.natCast_nonneg _,Int.le_refl 0,(by decide:(0:Int)<=64),Int.le_refl 0,(by decide:(0:Int)<=64),Int.le_refl 0,(by decide:(0:Int)<=64),rfl⟩
abbrev U9 (ns:List Nd) (nb:Bool):SH:=⟨[(1,.cells dz),(0,.cells [.p (.vs (ns.map aH) none nb)])],2⟩
theorem HY (ns:List Nd) (nb:Bool) (g:Good ns) (hK:W (K (.ret (.agg (dF (uY ns ((DG ns (ak ns) 0 0 0).map λn=>(n,2)))))) H0)):SC Tryz.prog 102 [.agg [.p (.vs (ns.map aH) none nb)]] H0 K:=by
 have hlen:=g.len
 have hrl:(ak ns).length<=1048576:=g.kids _ (cB (by omega) (by omega))
 refine aX [] [] [] Tryz.func102 rfl (by kernel_rfl) ?_
 repeat' first
  |((with_reducible refine W.of ?_);conv=>whnf)
  |with_reducible first
   |refine W.fin (K:=K) hK ?_ rfl
   |refine W.and (by kernel_rfl) ?_
   |refine nQ ns nb hlen.1 (by omega) ?_
  |((with_reducible refine bT [] [] [3,4,5,7] [] (λa:WM ns (ak ns)=>[.i a.1.s,.i a.1.e,.i a.1.f,.i a.1.i]) (λ_=>U9 ns nb) (λa=>(ak ns).length-a.1.i.toNat) (VU ns (ak ns)) (by kernel_rfl) ?_ ?_);(focus((with_reducible refine W.of ?_);(conv=>whnf);exact⟨rfl,rfl⟩));rintro⟨⟨i,s,e,f⟩,i0,i1,s0,s1,e0,e1,f0,f1,hi⟩;dsimp only;(dsimp only at i0 i1 s0 s1 e0 e1 f0 f1 hi))
  |with_reducible refine on (aB n) (bE hn) ?_
  |((with_reducible refine aj (l:=ak ns) (by omega) (λn hn=>?_));(obtain⟨h0,h1,hk⟩:=g.roots n (List.mem_of_getElem? hn)))
  |with_reducible refine aq h0 (by omega) ?_
  |((with_reducible refine bt ?_ ?_);focus(simp[]<;>omega))
  |((with_reducible refine bf ?_ ?_);focus(simp[]<;>omega))
  |with_reducible first
   |refine mz ns nb n 2 h0 (by omega) ?_
   |refine SC.call ?_
  |((with_reducible refine bb (λh=>?_) (λh=>?_))<;>(try simp at h))
 all_goals(clear hK)
 all_goals first
  |(rw[<-hi,Uh i0 hn s0 e1 f1 ‹_›,if_pos (by omega)];rfl)
  |(rw[<-hi,Ui i0 hn e0 s1 f1 ‹_›,if_pos (by omega)];rfl)
  |(rw[<-hi,Ug i0 hn f0 s1 e1 ‹_› ‹_›,if_pos (by omega)];rfl)
  |exact⟨⟨⟨⟨i+1,s+1,e,f⟩,by dsimp only;omega,by dsimp only;omega,by dsimp only;omega,by dsimp only;omega,by dsimp only;omega,by dsimp only;omega,by dsimp only;omega,by dsimp only;omega,by dsimp only;rw[<-hi,Uh i0 hn s0 e1 f1 ‹_›,if_neg (by omega)]⟩,ao i0 (by omega),rfl,rfl⟩,rfl⟩
  |exact⟨⟨⟨⟨i+1,s,e+1,f⟩,by dsimp only;omega,by dsimp only;omega,by dsimp only;omega,by dsimp only;omega,by dsimp only;omega,by dsimp only;omega,by dsimp only;omega,by dsimp only;omega,by dsimp only;rw[<-hi,Ui i0 hn e0 s1 f1 ‹_›,if_neg (by omega)]⟩,ao i0 (by omega),rfl,rfl⟩,rfl⟩
  |exact⟨⟨⟨⟨i+1,s,e,f+1⟩,by dsimp only;omega,by dsimp only;omega,by dsimp only;omega,by dsimp only;omega,by dsimp only;omega,by dsimp only;omega,by dsimp only;omega,by dsimp only;omega,by dsimp only;rw[<-hi,Ug i0 hn f0 s1 e1 ‹_› ‹_›,if_neg (by omega)]⟩,ao i0 (by omega),rfl,rfl⟩,rfl⟩
  |(rw[<-hi,List.drop_of_length_le (by omega)];rfl)
end
section
set_option maxRecDepth 100000
set_option maxHeartbeats 4000000
open Go.Vv Go.Ee
abbrev qh (ns:List Nd) (nb:Bool):EV:=.agg [.p (.vs (ns.map aH) none nb)]
abbrev XG (ns:List Nd) (nb:Bool) (m:Nat):Prop:=∀(k:Int) {K:aR->SH->Prop},k.toNat<m->0<=k->k<(ns.length:Int)->aJ (nd ns k).kind=true->W (K (.ret (.i (eg (bj ns k false)))) H0)->SC Tryz.prog 236 [qh ns nb,.i k] H0 K
theorem K7 {ns:List Nd} (g:Good ns) (nb:Bool):∀m,XG ns nb m
 |0,k,K,hm,h0,h1,ht,hK=>by omega
 |m+1,k,K,hm,h0,h1,ht,hK=>by
  have e:=ru ns g h0 h1 ht
  rcases g.Cn h0 h1 ht with hkk|⟨a,hkk,a0,a1,hat⟩
  ·refine aX [] [] [] Tryz.func236 rfl (by kernel_rfl) ?_
   repeat' first
    |((with_reducible refine W.of ?_);conv=>whnf)
    |with_reducible first
     |refine W.fin (K:=K) hK ?_ rfl
     |refine aq h0 h1 ?_
     |refine W.and (by kernel_rfl) ?_
    |((with_reducible refine bt ?_ ?_);focus(simp[]<;>omega))
    |((with_reducible refine bf ?_ ?_);focus(simp[hkk]<;>omega))
    |with_reducible refine SC.call ?_
    |((with_reducible refine bb (λh=>?_) (λh=>?_))<;>(try simp at h))
   all_goals(clear hK;rw[e,hkk];simp[*,eg];done)
  ·refine aX [] [] [] Tryz.func236 rfl (by kernel_rfl) ?_
   repeat' first
    |((with_reducible refine W.of ?_);conv=>whnf)
    |with_reducible first
     |refine W.fin (K:=K) hK ?_ rfl
     |refine aq h0 h1 ?_
     |refine W.and (by kernel_rfl) ?_
    |((with_reducible refine bt ?_ ?_);focus(simp[hkk]<;>omega))
    |((with_reducible refine on (aB a) ?_ ?_);focus(simp[hkk];done))
    |with_reducible first
     |refine K7 g nb m a (by omega) a0 (by omega) hat ?_
     |refine SC.call ?_
    |((with_reducible refine bb (λh=>?_) (λh=>?_))<;>(try simp at h))
   all_goals(clear hK;rw[e,hkk];simp[*,eg];done)
theorem Bc {l:List ah} {s x:ah} {i:Int} (i0:0<=i) (hx:l[i.toNat]?=some x) (h:x=s):(l.drop i.toNat).contains s=true:=by rw[drop_cons i0 hx];simp[h]
theorem GA {l:List ah} {s x:ah} {i:Int} (i0:0<=i) (hx:l[i.toNat]?=some x) (h:¬x=s):(l.drop i.toNat).contains s=(l.drop (i+1).toNat).contains s:=by rw[drop_cons i0 hx];simp[Ne.symm h]
theorem Bb {l:List ah} {s:ah} {i:Int} (h:(l.length:Int)<=i):(l.drop i.toNat).contains s=false:=by rw[List.drop_of_length_le (by omega)];rfl
abbrev XI (ns:List Nd) (nb:Bool) (it:aw) (kl:List ah) (c0:Option Nat) (n0:Bool) (m:Nat):Prop:=∀(k:Int) {K:aR->SH->Prop},k.toNat<m->0<=k->k<(ns.length:Int)->aJ (nd ns k).kind=true->W (K (.ret (.i (eg (bm ns it k)))) H0)->SC Tryz.prog 235 [qh ns nb,.i k,.f (.p (.vs (kl.map bL) c0 n0))] H0 K
theorem CK {ns:List Nd} (g:Good ns) (nb:Bool) (it:aw) (kl:List ah) (c0:Option Nat) (n0:Bool) (hkl:kl.length<=1048576) (hkn:∀s,kl.contains s=cw it s):∀m,XI ns nb it kl c0 n0 m
 |0,k,K,hm,h0,h1,ht,hK=>by omega
 |m+1,k,K,hm,h0,h1,ht,hK=>by
  have e:=AG ns g it h0 h1 ht
  have hkn':=hkn (nd ns k).name
  rcases g.Cn h0 h1 ht with hkk|⟨a,hkk,a0,a1,hat⟩
  ·refine aX [] [] [] Tryz.func235 rfl (by kernel_rfl) ?_
   repeat' first
    |((with_reducible refine W.of ?_);conv=>whnf)
    |with_reducible first
     |refine W.fin (K:=K) hK ?_ rfl
     |refine aq h0 h1 ?_
     |refine W.and (by kernel_rfl) ?_
    |((with_reducible refine bT [] [] [8] [] (λa:So kl.length λi=>(kl.drop i.toNat).contains (nd ns k).name=kl.contains (nd ns k).name=>[.i a.1]) (λ_=>zj ns nb (nd ns k)) (λa=>kl.length-a.1.toNat) ⟨0,by omega,by omega,rfl⟩ (by kernel_rfl) ?_ ?_);(focus((with_reducible refine W.of ?_);(conv=>whnf);exact⟨rfl,rfl⟩));rintro⟨i,i0,i1,hi⟩;dsimp only)
    |with_reducible refine aj (l:=kl) (by omega) (λx hx=>?_)
    |((with_reducible refine bt ?_ ?_);focus(simp[]<;>omega))
    |((with_reducible refine bf ?_ ?_);focus(simp[hkk]<;>omega))
    |with_reducible refine SC.call ?_
    |((with_reducible refine bb (λh=>?_) (λh=>?_))<;>(try simp at h))
   all_goals(clear hK)
   all_goals first
    |(rw[e,if_pos ‹_›,<-hkn',<-hi,Bc i0 hx ‹_›];rfl)
    |exact⟨⟨⟨i+1,by omega,by omega,by rw[<-hi,GA i0 hx ‹_›]⟩,ao i0 (by omega),rfl,rfl⟩,rfl⟩
    |(rw[e,if_pos ‹_›,<-hkn',<-hi,Bb ‹_›];rfl)
    |(rw[e,if_neg ‹_›];simp[hkk,eg];done)
  ·refine aX [] [] [] Tryz.func235 rfl (by kernel_rfl) ?_
   repeat' first
    |((with_reducible refine W.of ?_);conv=>whnf)
    |with_reducible first
     |refine W.fin (K:=K) hK ?_ rfl
     |refine aq h0 h1 ?_
     |refine W.and (by kernel_rfl) ?_
    |((with_reducible refine bT [] [] [8] [] (λa:So kl.length λi=>(kl.drop i.toNat).contains (nd ns k).name=kl.contains (nd ns k).name=>[.i a.1]) (λ_=>zj ns nb (nd ns k)) (λa=>kl.length-a.1.toNat) ⟨0,by omega,by omega,rfl⟩ (by kernel_rfl) ?_ ?_);(focus((with_reducible refine W.of ?_);(conv=>whnf);exact⟨rfl,rfl⟩));rintro⟨i,i0,i1,hi⟩;dsimp only)
    |with_reducible refine aj (l:=kl) (by omega) (λx hx=>?_)
    |((with_reducible refine bt ?_ ?_);focus(simp[hkk]<;>omega))
    |((with_reducible refine on (aB a) ?_ ?_);focus(simp[hkk];done))
    |with_reducible first
     |refine CK g nb it kl c0 n0 hkl hkn m a (by omega) a0 (by omega) hat ?_
     |refine SC.call ?_
    |((with_reducible refine bb (λh=>?_) (λh=>?_))<;>(try simp at h))
   all_goals(clear hK)
   all_goals first
    |(rw[e,if_pos ‹_›,<-hkn',<-hi,Bc i0 hx ‹_›];rfl)
    |exact⟨⟨⟨i+1,by omega,by omega,by rw[<-hi,GA i0 hx ‹_›]⟩,ao i0 (by omega),rfl,rfl⟩,rfl⟩
    |(rw[e,if_pos ‹_›,<-hkn',<-hi,Bb ‹_›];rfl)
    |(rw[e,if_neg ‹_›];simp[hkk,eg];done)
variable{K:aR->SH->Prop}
theorem lX {ns:List Nd} (g:Good ns) (nb:Bool) (it:aw) (kl:List ah) (c0:Option Nat) (n0:Bool) (hkl:kl.length<=1048576) (hkn:∀s,kl.contains s=cw it s) (k i:Int) (h0:0<=k) (h1:k<(ns.length:Int)) (ht:aJ (nd ns k).kind=true) (hi:eg (bm ns it k)=i) (hK:W (K (.ret (.i i)) H0)):SC Tryz.prog 235 [qh ns nb,.i k,.f (.p (.vs (kl.map bL) c0 n0))] H0 K:=by
 subst hi;exact CK g nb it kl c0 n0 hkl hkn _ k (Nat.lt_succ_self _) h0 h1 ht hK
theorem uH {ns:List Nd} (g:Good ns) (nb:Bool) (k i:Int) (h0:0<=k) (h1:k<(ns.length:Int)) (ht:aJ (nd ns k).kind=true) (hi:eg (bj ns k false)=i) (hK:W (K (.ret (.i i)) H0)):SC Tryz.prog 236 [qh ns nb,.i k] H0 K:=by
 subst hi;exact K7 g nb _ k (Nat.lt_succ_self _) h0 h1 ht hK
theorem Ds {ns:List Nd} (g:Good ns) {k:Int} (h0:0<=k) (h1:k<(ns.length:Int)) {o:Option Int} (ho:∀u,o=some u->0<=u/\u<=k):∃i,eg o=i/\i<(ns.length:Int)/\(i<0->o=none):=by
 refine⟨_,rfl,?_,λh=>lL h λu hu=>(ho u hu).1⟩
 cases o with
 |none=>simp[eg];omega
 |some u=>have:=ho u rfl;simp[eg];omega
theorem zN {o:Option Int} {i:Int} (h:eg o=i) (h0:0<=i):o=some i:=by subst h;exact xu h0
theorem Rt {o:Option Int} {u:Int} (h:o=some u):eg o=u:=by subst h;rfl
theorem sQ {ns:List Nd} (g:Good ns) (nb:Bool) (it:aw) (kl:List ah) (c0:Option Nat) (n0:Bool) (hkl:kl.length<=1048576) (hkn:∀s,kl.contains s=cw it s) (k:Int) (may:Bool) (h0:0<=k) (h1:k<(ns.length:Int)) (ht:aJ (nd ns k).kind=true) (hK:W (K (.ret (.agg (dF (uY ns (ct ns it may k))))) H0)):SC Tryz.prog 169 [qh ns nb,.i k,.f (.p (.vs (kl.map bL) c0 n0)),.b may] H0 K:=by
 have hu:=dU g it k.toNat k (Nat.le_refl _) h0 h1
 cases hun:bm ns it k with
 |some u=>
  obtain⟨u0,u1⟩:=hu u hun
  refine aX [] [] [] Tryz.func169 rfl (by kernel_rfl) ?_
  repeat' first
   |((with_reducible refine W.of ?_);conv=>whnf)
   |with_reducible first
    |refine W.fin (K:=K) hK ?_ rfl
    |refine W.and (by kernel_rfl) ?_
    |refine lX g nb it kl c0 n0 hkl hkn k u h0 h1 ht (Rt hun) ?_
    |refine mz ns nb u 141 u0 (by omega) ?_
    |refine aq h0 h1 ?_
   |((with_reducible refine bt ?_ ?_);focus(simp[]<;>omega))
   |((with_reducible refine bf ?_ ?_);focus(simp[]<;>omega))
   |with_reducible refine SC.call ?_
   |((with_reducible refine bb (λh=>?_) (λh=>?_))<;>(try simp at h))
  all_goals(clear hK;simp[ct,hun,uY,jq];done)
 |none=>
  have hn:=congrArg eg hun
  have e:=ru ns g h0 h1 ht
  have e2:=BE ns g h0 h1 ht
  have hw:ct ns it may k=(bj ns k may).map λi=>(i,142):=by unfold ct;rw[hun];cases bj ns k may<;>rfl
  cases may with
  |false=>
   obtain⟨i,hi,hil,hin⟩:=Ds g h0 h1 (o:=bj ns k false) λu hu=>(fK g _ k false (Nat.le_refl _) h0 h1 u hu)
   rw[hw] at hK
   refine aX [] [] [] Tryz.func169 rfl (by kernel_rfl) ?_
   repeat' first
    |((with_reducible refine W.of ?_);conv=>whnf)
    |with_reducible first
     |refine W.fin (K:=K) hK ?_ rfl
     |refine W.and (by kernel_rfl) ?_
     |refine lX g nb it kl c0 n0 hkl hkn k _ h0 h1 ht hn ?_
     |refine uH g nb k i h0 h1 ht hi ?_
     |refine aq h0 h1 ?_
     |refine mz ns nb i 142 ‹_› hil ?_
    |((with_reducible refine bt ?_ ?_);focus(simp[]<;>omega))
    |((with_reducible refine bf ?_ ?_);focus(simp[]<;>omega))
    |with_reducible refine SC.call ?_
    |((with_reducible refine bb (λh=>?_) (λh=>?_))<;>(try simp at h))
   ·rw[zN hi ‹_›];rfl
   ·rw[hin ‹_›];rfl
  |true=>
   rcases g.Oa h0 h1 ht with⟨hkk,k1,k2,k3⟩|⟨a,hkk,a0,a1,hat,hk3⟩
   ·have e3:bj ns k true=none:=by rw[e2,hkk]
    rw[hw,e3] at hK
    refine aX [] [] [] Tryz.func169 rfl (by kernel_rfl) ?_
    repeat' first
     |((with_reducible refine W.of ?_);conv=>whnf)
     |with_reducible first
      |refine W.fin (K:=K) hK ?_ rfl
      |refine W.and (by kernel_rfl) ?_
      |refine lX g nb it kl c0 n0 hkl hkn k _ h0 h1 ht hn ?_
      |refine aq h0 h1 ?_
     |((with_reducible refine bt ?_ ?_);focus(simp[]<;>omega))
     |((with_reducible refine bf ?_ ?_);focus(simp[k1,k2,k3]<;>omega))
     |with_reducible refine SC.call ?_
     |((with_reducible refine bb (λh=>?_) (λh=>?_))<;>(try simp at h))
    all_goals rfl
   ·obtain⟨i,hi,hil,hin⟩:=Ds g h0 h1 (o:=bj ns a false) λu hu=>by have:=fK g _ a false (Nat.le_refl _) a0 (by omega) u hu;omega
    have e3:bj ns k true=bj ns a false:=by rw[e2,hkk]
    have e4:(nd ns k).kind=16->eg (bj ns k false)=i:=λh=>by rw[e,if_neg (by omega),hkk];exact hi
    rw[hw,e3] at hK
    refine aX [] [] [] Tryz.func169 rfl (by kernel_rfl) ?_
    repeat' first
     |((with_reducible refine W.of ?_);conv=>whnf)
     |with_reducible first
      |refine W.fin (K:=K) hK ?_ rfl
      |refine W.and (by kernel_rfl) ?_
      |refine lX g nb it kl c0 n0 hkl hkn k _ h0 h1 ht hn ?_
      |refine uH g nb a i a0 (by omega) hat hi ?_
      |refine uH g nb k i h0 h1 ht (e4 (by omega)) ?_
      |refine aq h0 h1 ?_
     |((with_reducible refine on (aB a) ?_ ?_);focus(simp[hkk];done))
     |with_reducible refine mz ns nb i 142 ‹_› hil ?_
     |((with_reducible refine bt ?_ ?_);focus(simp[hkk]<;>omega))
     |((with_reducible refine bf ?_ ?_);focus(simp[]<;>omega))
     |with_reducible refine SC.call ?_
     |((with_reducible refine bb (λh=>?_) (λh=>?_))<;>(try simp at h))
    all_goals first
     |(rw[zN hi ‹_›];rfl)
     |(rw[hin ‹_›];rfl)
     |omega
end
section
set_option maxRecDepth 100000
set_option maxHeartbeats 4000000
open Go.Vv Go.Ee
variable{K:aR->SH->Prop}
theorem UT {ns:List Nd} {l:List Int} {i n:Int} (i0:0<=i) (hn:l[i.toNat]?=some n) (h:au ns n=false):cV ns (l.take (i+1).toNat)=cV ns (l.take i.toNat)++[(nd ns n).name]:=by
 rw[show(i+1).toNat=i.toNat+1 by omega,List.take_add_one,hn];simp[cV,h]
theorem Pd {ns:List Nd} {l:List Int} {i n:Int} (i0:0<=i) (hn:l[i.toNat]?=some n) (h:au ns n=true):cV ns (l.take (i+1).toNat)=cV ns (l.take i.toNat):=by
 rw[show(i+1).toNat=i.toNat+1 by omega,List.take_add_one,hn];simp[cV,h]
theorem KN (ns:List Nd) (l:List Int):(cV ns l).length<=l.length:=by unfold cV;rw[List.length_map];exact List.length_filter_le _ _
theorem SI {ns:List Nd} {l:List Int} {i n:Int} (i0:0<=i) (hn:l[i.toNat]?=some n) (h:au ns n=false):(cV ns (l.take i.toNat)).map bL++[[PV.str (nd ns n).name]]=(cV ns (l.take (i+1).toNat)).map bL:=by
 rw[UT i0 hn h,List.map_append];rfl
theorem uI (ns:List Nd) (nb:Bool) (g:Good ns) (hK:W (K (.ret (.f (.p (.vs ((cV ns (ak ns)).map bL) none true)))) H0)):SC Tryz.prog 168 [qh ns nb] H0 K:=by
 have hlen:=g.len
 have hrl:(ak ns).length<=1048576:=g.kids _ (cB (by omega) (by omega))
 refine aX [] [] [] Tryz.func168 rfl (by kernel_rfl) ?_
 repeat' first
  |((with_reducible refine W.of ?_);conv=>whnf)
  |with_reducible first
   |refine W.fin (K:=K) hK ?_ rfl
   |refine W.and (by kernel_rfl) ?_
   |refine nQ ns nb hlen.1 (by omega) ?_
  |((with_reducible refine SL.nil 3 1 ?_);(with_reducible refine W.of ?_);(conv=>whnf);(with_reducible refine bT [] [] [3,5] [1] (λa:So (ak ns).length λ_=>True=>[.f (.ref 2 (cV ns ((ak ns).take a.1.toNat)).length 1 none),.i a.1]) (λa=>⟨[(2,.arr 1 ((cV ns ((ak ns).take a.1.toNat)).map bL) true),(0,.cells [.p (.vs (ns.map aH) none nb)])],3⟩) (λa=>(ak ns).length-a.1.toNat) ⟨0,by omega,by omega,trivial⟩ (by kernel_rfl) ?_ ?_);(focus((with_reducible refine W.of ?_);(conv=>whnf);exact⟨rfl,rfl⟩));rintro⟨i,i0,i1,_⟩;dsimp only;(have htl:(cV ns ((ak ns).take i.toNat)).length<=1048576:=Nat.le_trans (KN _ _) (Nat.le_trans (List.length_take_le _ _) (by omega))))
  |with_reducible refine on (aB n) (bE hn) ?_
  |((with_reducible refine aj (l:=ak ns) (by omega) (λn hn=>?_));(obtain⟨h0,h1,hk⟩:=g.roots n (List.mem_of_getElem? hn)))
  |with_reducible first
   |refine aq h0 (by omega) ?_
   |refine tz ns nb n h0 (by omega) ?_
   |refine fold_eq _ (SI i0 hn ‹_›) ?_
   |refine fj ?_
  |((with_reducible refine bt ?_ ?_);focus(simp[hC]<;>omega))
  |with_reducible refine SC.call ?_
  |((with_reducible refine bb (λh=>?_) (λh=>?_))<;>(try simp at h))
 all_goals(clear hK)
 ·exact⟨⟨⟨i+1,by omega,by omega,trivial⟩,ao i0 (by omega),rfl,rfl⟩,rfl⟩
 ·exact⟨⟨⟨i+1,by omega,by omega,trivial⟩,ao i0 (by omega),by rw[Pd i0 hn h],by rw[Pd i0 hn h]⟩,rfl⟩
 ·rw[List.take_of_length_le (by omega)]
end
section
set_option maxRecDepth 100000
set_option maxHeartbeats 4000000
open Go.Vv Go.Ee
variable{K:aR->SH->Prop}
theorem Ea {ns:List Nd} {it:aw} {l:List Int} {i n:Int} (i0:0<=i) (hn:l[i.toNat]?=some n):bz ns it (l.drop i.toNat)=match jM ns it (au ns n) (ar ns n) with
 |some e=>some e
 |none=>if au ns n=true then(match ct ns it true (dL ns n) with|some e=>some e|none=>bz ns it (l.drop (i+1).toNat)) else bz ns it (l.drop (i+1).toNat):=by rw[drop_cons i0 hn];exact Cr ns it n _
theorem K8 {ns:List Nd} {it:aw} {fn:Bool} {l:List Int} {i k:Int} (i0:0<=i) (hk:l[i.toNat]?=some k):jM ns it fn (l.drop i.toNat)=match bn ns it fn (nd ns k).kids with|some e=>some e|none=>jM ns it fn (l.drop (i+1).toNat):=by rw[drop_cons i0 hk];exact AW ns it fn k _
theorem CI {ns:List Nd} {it:aw} {fn:Bool} {l:List Int} {i:Int} (h:(l.length:Int)<=i):jM ns it fn (l.drop i.toNat)=none:=by rw[List.drop_of_length_le (by omega)];rfl
theorem Eo {ns:List Nd} {it:aw} {fn:Bool} {a:Int} (h:¬(uY ns (ct ns it fn a)).code=0):∃e,ct ns it fn a=some e:=by
 cases hw:ct ns it fn a with
 |none=>rw[hw] at h;exact absurd rfl h
 |some e=>exact⟨e,rfl⟩
theorem En {ns:List Nd} {it:aw} {fn:Bool} {a:Int} (h:(uY ns (ct ns it fn a)).code=0):ct ns it fn a=none:=by
 cases hw:ct ns it fn a with
 |none=>rfl
 |some e=>
  exfalso
  rw[hw] at h
  unfold ct at hw
  split at hw
  ·cases hw;simp[uY,jq] at h
  ·split at hw
   ·cases hw;simp[uY,jq] at h
   ·cases hw
theorem RQ {ns:List Nd} (g:Good ns) {n:Int} (h0:0<=n) (h1:n<(ns.length:Int)) (hk:au ns n=true):(nd ns n).kids[(ar ns n).length]?=some (dL ns n):=by
 have hk2:(nd ns n).kind=2:=by simpa[au] using hk
 have:=(g.fn h0 h1 hk2).1
 unfold ar dL ax
 rw[if_pos hk2,List.length_take,Nat.min_eq_left (by omega)]
 have h3:(nd ns n).kids.length-2<(nd ns n).kids.length:=by omega
 simp[h3]
theorem Im {ns:List Nd} (g:Good ns) {n:Int} (h0:0<=n) (h1:n<(ns.length:Int)) (hk:au ns n=true) {k:List PV->Prop} (h:W (k (aB (dL ns n)))):iK ((nd ns n).kids.map aB)[(((ar ns n).map aB).length:Int).toNat]? k:=
 on (aB (dL ns n)) (by rw[List.length_map,Int.toNat_natCast];exact bE (RQ g h0 h1 hk)) h
theorem Hz {ns:List Nd} {n:Int} (hk:au ns n=true):(nd ns n).kind=2:=by simpa[au] using hk
abbrev XM (ns:List Nd) (it:aw):Type:=So (ak ns).length λi=>bz ns it ((ak ns).drop i.toNat)=bz ns it (ak ns)
abbrev XP (ns:List Nd) (it:aw) (n:Int):Type:=So (ar ns n).length λj=>jM ns it (au ns n) ((ar ns n).drop j.toNat)=jM ns it (au ns n) (ar ns n)
theorem AY (ns:List Nd) (nb:Bool) (g:Good ns) (it:aw) (hkn:∀s,(cV ns (ak ns)).contains s=cw it s) (hK:W (K (.ret (.agg (dF (uY ns (bz ns it (ak ns)))))) H0)):SC Tryz.prog 104 [qh ns nb] H0 K:=by
 have hlen:=g.len
 have hrl:(ak ns).length<=1048576:=g.kids _ (cB (by omega) (by omega))
 have htl:(cV ns (ak ns)).length<=1048576:=Nat.le_trans (KN _ _) hrl
 refine aX [(12,[(0,[]),(1,[]),(2,[]),(3,[]),(4,[]),(5,[]),(6,[]),(7,[]),(8,[]),(9,[]),(12,[]),(10,[12,3,0]),(11,[12]),(13,[])]),(16,[(0,[]),(1,[]),(2,[]),(3,[]),(4,[]),(5,[]),(6,[]),(7,[]),(8,[]),(9,[]),(10,[]),(11,[]),(12,[]),(13,[]),(14,[]),(16,[]),(15,[16]),(17,[])])] [] [] Tryz.func104 rfl (by kernel_rfl) ?_
 repeat' first
  |((with_reducible refine W.of ?_);conv=>whnf)
  |with_reducible first
   |refine W.fin (K:=K) hK ?_ rfl
   |refine W.and (by kernel_rfl) ?_
   |refine uI ns nb g ?_
   |refine nQ ns nb hlen.1 (by omega) ?_
  |((with_reducible refine bT [(12,[(0,[]),(1,[]),(2,[]),(3,[]),(4,[]),(5,[]),(6,[]),(7,[]),(8,[]),(9,[]),(12,[]),(10,[12,3,0]),(11,[12]),(13,[])]),(16,[(0,[]),(1,[]),(2,[]),(3,[]),(4,[]),(5,[]),(6,[]),(7,[]),(8,[]),(9,[]),(10,[]),(11,[]),(12,[]),(13,[]),(14,[]),(16,[]),(15,[16]),(17,[])])] [] [5] [] (λa:XM ns it=>[.i a.1]) (λ_=>U9 ns nb) (λa=>(ak ns).length-a.1.toNat) ⟨0,by omega,by omega,rfl⟩ (by kernel_rfl) ?_ ?_);(focus((with_reducible refine W.of ?_);(conv=>whnf);exact⟨rfl,rfl⟩));rintro⟨i,i0,i1,hi⟩;dsimp only)
  |with_reducible refine on (aB n) (bE hn) ?_
  |((with_reducible refine aj (l:=ak ns) (by omega) (λn hn=>?_));(obtain⟨h0,h1,hk⟩:=g.roots n (List.mem_of_getElem? hn));(have hme:=g.members h0 (by omega) hk);(have hml:(ar ns n).length<=1048576:=Nat.le_trans (mR ns n) (g.kids _ (cB h0 (by omega)))))
  |with_reducible first
   |refine qN ns nb g n h0 (by omega) ?_
   |refine tz ns nb n h0 (by omega) ?_
  |((with_reducible refine bT [(12,[(0,[]),(1,[]),(2,[]),(3,[]),(4,[]),(5,[]),(6,[]),(7,[]),(8,[]),(9,[]),(12,[]),(10,[12,3,0]),(11,[12]),(13,[])]),(16,[(0,[]),(1,[]),(2,[]),(3,[]),(4,[]),(5,[]),(6,[]),(7,[]),(8,[]),(9,[]),(10,[]),(11,[]),(12,[]),(13,[]),(14,[]),(16,[]),(15,[16]),(17,[])])] [] [7] [] (λa:XP ns it n=>[.i a.1]) (λ_=>U9 ns nb) (λa=>(ar ns n).length-a.1.toNat) ⟨0,by omega,by omega,rfl⟩ (by kernel_rfl) ?_ ?_);(focus((with_reducible refine W.of ?_);(conv=>whnf);exact⟨rfl,rfl⟩));rintro⟨j,j0,j1,hj⟩;dsimp only)
  |((with_reducible refine aj (l:=ar ns n) (by omega) (λk hkm=>?_));(obtain⟨k1,⟨k2,k3,hf⟩,_⟩:=hme k (List.mem_of_getElem? hkm));(rcases hf with hkk|⟨a,hkk,a0,a1,hat⟩))
  |with_reducible first
   |refine aq (n:=k) (by omega) (by omega) ?_
   |refine aq h0 (by omega) ?_
  |((with_reducible refine bt ?_ ?_);focus(simp[hkk]<;>omega))
  |((with_reducible refine bf ?_ ?_);focus(simp[hkk]<;>omega))
  |((with_reducible refine bt ?_ ?_);focus(simp[]<;>omega))
  |((with_reducible refine bf ?_ ?_);focus(simp[]<;>omega))
  |with_reducible refine Im g h0 (by omega) ‹_› ?_
  |((obtain⟨f1,f2,f3,f4,_⟩:=g.fn h0 (by omega) (Hz ‹_›));(with_reducible refine sQ g nb it _ _ _ htl hkn (dL ns n) true f2 (by omega) f4 ?_))
  |((with_reducible refine on (aB a) ?_ ?_);focus(simp[hkk];done))
  |with_reducible first
   |refine sQ g nb it _ _ _ htl hkn a _ a0 (by omega) hat ?_
   |refine SC.call ?_
  |((with_reducible refine bb (λh=>?_) (λh=>?_))<;>(try simp at h))
 all_goals(clear hK)
 all_goals first
  |exact⟨⟨⟨j+1,by omega,by omega,by rw[<-hj,K8 j0 hkm,hkk];rfl⟩,ao j0 (by omega),rfl,rfl⟩,rfl⟩
  |(obtain⟨e,he⟩:=Eo ‹_›;rw[<-hi,Ea i0 hn,<-hj,K8 j0 hkm,hkk,o9,he];done)
  |exact⟨⟨⟨j+1,by omega,by omega,by rw[<-hj,K8 j0 hkm,hkk,o9,En ‹_›]⟩,ao j0 (by omega),rfl,rfl⟩,rfl⟩
  |(rw[<-hi,List.drop_of_length_le (by omega)];rfl)
  |exact⟨⟨⟨i+1,by omega,by omega,by rw[<-hi,Ea i0 hn,<-hj,CI (by omega),‹au ns n=false›];rfl⟩,ao i0 (by omega),rfl,rfl⟩,rfl⟩
  |exact⟨⟨⟨i+1,by omega,by omega,by rw[<-hi,Ea i0 hn,<-hj,CI (by omega),‹au ns n=true›,En ‹_›];rfl⟩,ao i0 (by omega),rfl,rfl⟩,rfl⟩
  |(obtain⟨e,he⟩:=Eo ‹_›;rw[<-hi,Ea i0 hn,<-hj,CI (by omega),‹au ns n=true›,he];rfl)
  |skip
end
section
set_option maxRecDepth 100000
set_option maxHeartbeats 4000000
open Go.Vv Go.Ee
variable{K:aR->SH->Prop}
theorem TJ (ns:List Nd) (n:Int):((nd ns n).kind=2/\au ns n=true)\/(¬(nd ns n).kind=2/\au ns n=false):=by
 unfold au
 by_cases h:(nd ns n).kind=2
 ·exact .inl ⟨h,by simp[h]⟩
 ·exact .inr ⟨h,by simp[h]⟩
theorem WB (ns:List Nd) (l:List Int):ba ns (l.drop (Int.toNat 0)) (cV ns (l.take (Int.toNat 0))) (tp ns (l.take (Int.toNat 0)))=ba ns l [] bG:=(z8 ns l).symm
theorem El {ns:List Nd} {l:List Int} {i n:Int} (i0:0<=i) (hn:l[i.toNat]?=some n):ba ns (l.drop i.toNat) (cV ns (l.take i.toNat)) (tp ns (l.take i.toNat))=
 if(au ns n&&gN (nd ns n).name||jB ns n (l.take i.toNat))=true then some (n,140) else
 if(ar ns n).length>(if au ns n=true then 6 else 16) then some (n,2) else
 match s9 ns (ar ns n) [] with
 |some k=>some (k,140)
 |none=>ba ns (l.drop (i+1).toNat) (cV ns (l.take (i+1).toNat)) (tp ns (l.take (i+1).toNat)):=by
 rw[drop_cons i0 hn,BV,show kC ns (ar ns n) []=s9 ns (ar ns n) [] from LI ns _ [],show(i+1).toNat=i.toNat+1 by omega,List.take_add_one,hn];rfl
theorem Kl {ns:List Nd} {l:List Int} {j k n:Int} (j0:0<=j) (hk:l[j.toNat]?=some k):jB ns n (l.take (j+1).toNat)=(jB ns n (l.take j.toNat)||((nd ns k).name==(nd ns n).name&&au ns k==au ns n)):=by
 rw[show(j+1).toNat=j.toNat+1 by omega,List.take_add_one,hk];simp[jB,List.any_append]
theorem Oz {ns:List Nd} {m:List Int} {j k:Int} (j0:0<=j) (hk:m[j.toNat]?=some k):s9 ns (m.drop j.toNat) (m.take j.toNat)=if(m.take j.toNat).any (λa=>(nd ns a).name==(nd ns k).name)=true then some k else s9 ns (m.drop (j+1).toNat) (m.take (j+1).toNat):=by
 rw[drop_cons j0 hk,s9,show(j+1).toNat=j.toNat+1 by omega,List.take_add_one,hk];rfl
theorem eq_go {ns:List Nd} {m:List Int} {q a:Int} {s:ah} (q0:0<=q) (hq:m[q.toNat]?=some a) (h:(m.take q.toNat).any (λa=>(nd ns a).name==s)=false) (hne:¬(nd ns a).name=s):(m.take (q+1).toNat).any (λa=>(nd ns a).name==s)=false:=by
 rw[show(q+1).toNat=q.toNat+1 by omega,List.take_add_one,hq,List.any_append,h];simp[hne]
theorem P8 {ns:List Nd} {m:List Int} {j q a:Int} {s:ah} (q0:0<=q) (hqj:q<j) (hq:m[q.toNat]?=some a) (he:(nd ns a).name=s):(m.take j.toNat).any (λa=>(nd ns a).name==s)=true:=by
 rw[List.any_eq_true]
 obtain⟨h1,h2⟩:=List.getElem?_eq_some_iff.1 hq
 exact⟨a,List.mem_take_iff_getElem.2 ⟨q.toNat,by omega,h2⟩,by simp[he]⟩
theorem Ou {α:Type} {l:List α} {p:Int} (p0:0<=p) (h:p<l.length):∃r,l[p.toNat]?=some r:=⟨_,List.getElem?_eq_getElem (by omega)⟩
theorem Wk {ns:List Nd} {l:List Int} {n p i:Int} {b:Bool} (p0:0<=p) (h1:i<=p) (h2:p<=i) (hb:b=(au ns n&&gN (nd ns n).name||jB ns n (l.take p.toNat))) (e:b=true):(au ns n&&gN (nd ns n).name||jB ns n (l.take i.toNat))=true:=by
 obtain rfl:i=p:=Int.le_antisymm h1 h2
 rw[<-hb,e]
theorem Sp {ns:List Nd} {l:List Int} {n p i:Int} {b:Bool} (p0:0<=p) (h1:i<=p) (h2:p<=i) (hb:b=(au ns n&&gN (nd ns n).name||jB ns n (l.take p.toNat))) (e:b=false):(au ns n&&gN (nd ns n).name||jB ns n (l.take i.toNat))=false:=by
 obtain rfl:i=p:=Int.le_antisymm h1 h2
 rw[<-hb,e]
abbrev XQ (ns:List Nd) (l:List Int):Type:=So l.length λi=>ba ns (l.drop i.toNat) (cV ns (l.take i.toNat)) (tp ns (l.take i.toNat))=ba ns l [] bG
structure XJ where
 j:Int
 b:Bool
abbrev U8 (ns:List Nd) (l:List Int) (n i:Int):Type:={p:XJ//0<=p.j/\p.j<=i/\p.b=(au ns n&&gN (nd ns n).name||jB ns n (l.take p.j.toNat))}
def Wh {ns:List Nd} {l:List Int} {n i:Int} (i0:0<=i) (h:au ns n=true):U8 ns l n i:=⟨⟨0,gN (nd ns n).name⟩,by simp,i0,by dsimp only;rw[h];simp[jB]⟩
def Wg {ns:List Nd} {l:List Int} {n i:Int} (i0:0<=i) (h:au ns n=false):U8 ns l n i:=⟨⟨0,false⟩,by simp,i0,by dsimp only;rw[h];simp[jB]⟩
abbrev Xs (ns:List Nd) (m:List Int):Type:=So m.length λj=>s9 ns (m.drop j.toNat) (m.take j.toNat)=s9 ns m []
abbrev Xt (ns:List Nd) (m:List Int) (j:Int):Type:={q:Int//0<=q/\q<=j/\∀k,m[j.toNat]?=some k->(m.take q.toNat).any (λa=>(nd ns a).name==(nd ns k).name)=false}
abbrev Va (ns:List Nd) (nb:Bool) (x:Nd):SH:=⟨[(2,b8 x),(1,.cells dz),(0,.cells [.p (.vs (ns.map aH) none nb)])],3⟩
theorem AT (ns:List Nd) (nb:Bool) (g:Good ns) (hK:W (K (.ret (.agg (dF (uY ns (ba ns (ak ns) [] bG))))) H0)):SC Tryz.prog 103 [qh ns nb] H0 K:=by
 have hlen:=g.len
 have hrl:(ak ns).length<=1048576:=g.kids _ (cB (by omega) (by omega))
 refine aX [(10,[(0,[]),(1,[]),(2,[]),(3,[]),(4,[]),(5,[]),(6,[]),(7,[]),(8,[]),(9,[]),(10,[]),(11,[]),(12,[]),(13,[]),(14,[]),(15,[]),(16,[]),(17,[]),(18,[]),(19,[]),(21,[]),(22,[]),(23,[]),(24,[]),(25,[]),(20,[25,21]),(26,[]),(27,[]),(28,[]),(29,[]),(30,[])])] [] [] Tryz.func103 rfl (by kernel_rfl) ?_
 repeat' first
  |((with_reducible refine W.of ?_);conv=>whnf)
  |with_reducible first
   |refine W.fin (K:=K) hK ?_ rfl
   |refine W.and (by kernel_rfl) ?_
   |refine nQ ns nb hlen.1 (by omega) ?_
  |((with_reducible refine bT [(10,[(0,[]),(1,[]),(2,[]),(3,[]),(4,[]),(5,[]),(6,[]),(7,[]),(8,[]),(9,[]),(10,[]),(11,[]),(12,[]),(13,[]),(14,[]),(15,[]),(16,[]),(17,[]),(18,[]),(19,[]),(21,[]),(22,[]),(23,[]),(24,[]),(25,[]),(20,[25,21]),(26,[]),(27,[]),(28,[]),(29,[]),(30,[])])] [] [4] [] (λa:XQ ns (ak ns)=>[.i a.1]) (λ_=>U9 ns nb) (λa=>(ak ns).length-a.1.toNat) ⟨0,by omega,by omega,WB ns _⟩ (by kernel_rfl) ?_ ?_);(focus((with_reducible refine W.of ?_);(conv=>whnf);exact⟨rfl,rfl⟩));rintro⟨i,i0,i1,hi⟩;dsimp only)
  |with_reducible first
   |refine on (aB n) (bE hn) ?_
   |refine on (aB r) (bE hr) ?_
   |refine on (aB k) (bE hkm) ?_
  |((with_reducible refine aj (l:=ar ns n) (show q.toNat<_ by omega) (λa ha=>?_));(obtain⟨_,⟨a2,a3,_⟩,_⟩:=hme a (List.mem_of_getElem? ha)))
  |((with_reducible refine aj (l:=ar ns n) (by omega) (λk hkm=>?_));(obtain⟨_,⟨k2,k3,_⟩,_⟩:=hme k (List.mem_of_getElem? hkm)))
  |((with_reducible refine aj (l:=ak ns) (show p.toNat<_ by omega) (λr hr=>?_));(obtain⟨r0,r1,_⟩:=g.roots r (List.mem_of_getElem? hr)))
  |((with_reducible refine aj (l:=ak ns) (by omega) (λn hn=>?_));(obtain⟨h0,h1,hk⟩:=g.roots n (List.mem_of_getElem? hn));(have hme:=g.members h0 (by omega) hk);(have hml:(ar ns n).length<=1048576:=Nat.le_trans (mR ns n) (g.kids _ (cB h0 (by omega))));(rcases TJ ns n with⟨hk2,hfn⟩|⟨hk2,hfn⟩))
  |with_reducible first
   |refine aq h0 (by omega) ?_
   |refine aq r0 (by omega) ?_
   |refine aq a2 (by omega) ?_
   |refine aq k2 (by omega) ?_
   |refine Lw _ ?_
  |((with_reducible refine bT [(10,[(0,[]),(1,[]),(2,[]),(3,[]),(4,[]),(5,[]),(6,[]),(7,[]),(8,[]),(9,[]),(10,[]),(11,[]),(12,[]),(13,[]),(14,[]),(15,[]),(16,[]),(17,[]),(18,[]),(19,[]),(21,[]),(22,[]),(23,[]),(24,[]),(25,[]),(20,[25,21]),(26,[]),(27,[]),(28,[]),(29,[]),(30,[])])] [] [6,7] [] (λa:U8 ns (ak ns) n i=>[.b a.1.b,.i a.1.j]) (λ_=>Va ns nb (nd ns n)) (λa=>(i-a.1.j).toNat) (Wh i0 hfn) (by kernel_rfl) ?_ ?_);(focus((with_reducible refine W.of ?_);(conv=>whnf);exact⟨rfl,rfl⟩));rintro⟨⟨p,b⟩,p0,p1,hb⟩;dsimp only;(dsimp only at p0 p1 hb))
  |((with_reducible refine bT [(10,[(0,[]),(1,[]),(2,[]),(3,[]),(4,[]),(5,[]),(6,[]),(7,[]),(8,[]),(9,[]),(10,[]),(11,[]),(12,[]),(13,[]),(14,[]),(15,[]),(16,[]),(17,[]),(18,[]),(19,[]),(21,[]),(22,[]),(23,[]),(24,[]),(25,[]),(20,[25,21]),(26,[]),(27,[]),(28,[]),(29,[]),(30,[])])] [] [6,7] [] (λa:U8 ns (ak ns) n i=>[.b a.1.b,.i a.1.j]) (λ_=>Va ns nb (nd ns n)) (λa=>(i-a.1.j).toNat) (Wg i0 hfn) (by kernel_rfl) ?_ ?_);(focus((with_reducible refine W.of ?_);(conv=>whnf);exact⟨rfl,rfl⟩));rintro⟨⟨p,b⟩,p0,p1,hb⟩;dsimp only;(dsimp only at p0 p1 hb))
  |((with_reducible refine bT [(10,[(0,[]),(1,[]),(2,[]),(3,[]),(4,[]),(5,[]),(6,[]),(7,[]),(8,[]),(9,[]),(10,[]),(11,[]),(12,[]),(13,[]),(14,[]),(15,[]),(16,[]),(17,[]),(18,[]),(19,[]),(21,[]),(22,[]),(23,[]),(24,[]),(25,[]),(20,[25,21]),(26,[]),(27,[]),(28,[]),(29,[]),(30,[])])] [] [10] [] (λa:Xs ns (ar ns n)=>[.i a.1]) (λ_=>Va ns nb (nd ns n)) (λa=>(ar ns n).length-a.1.toNat) ⟨0,by omega,by omega,rfl⟩ (by kernel_rfl) ?_ ?_);(focus((with_reducible refine W.of ?_);(conv=>whnf);exact⟨rfl,rfl⟩));rintro⟨j,j0,j1,hj⟩;dsimp only)
  |((with_reducible refine bT [(10,[(0,[]),(1,[]),(2,[]),(3,[]),(4,[]),(5,[]),(6,[]),(7,[]),(8,[]),(9,[]),(10,[]),(11,[]),(12,[]),(13,[]),(14,[]),(15,[]),(16,[]),(17,[]),(18,[]),(19,[]),(21,[]),(22,[]),(23,[]),(24,[]),(25,[]),(20,[25,21]),(26,[]),(27,[]),(28,[]),(29,[]),(30,[])])] [] [11] [] (λa:Xt ns (ar ns n) j=>[.i a.1]) (λ_=>Va ns nb (nd ns n)) (λa=>j.toNat-a.1.toNat) ⟨0,by omega,by omega,λ_ _=>rfl⟩ (by kernel_rfl) ?_ ?_);(focus((with_reducible refine W.of ?_);(conv=>whnf);exact⟨rfl,rfl⟩));rintro⟨q,q0,q1,hq⟩;dsimp only)
  |with_reducible first
   |refine qN ns nb g n h0 (by omega) ?_
   |refine tz ns nb n h0 (by omega) ?_
   |refine tz ns nb r r0 (by omega) ?_
   |refine mz ns nb n _ h0 (by omega) ?_
   |refine mz ns nb k _ k2 (by omega) ?_
  |((with_reducible refine bt ?_ ?_);focus(simp[hk2]<;>omega))
  |((with_reducible refine bf ?_ ?_);focus(simp[hk2]<;>omega))
  |((with_reducible refine bt ?_ ?_);focus(simp[]<;>omega))
  |with_reducible refine SC.call ?_
  |((with_reducible refine bb (λh=>?_) (λh=>?_))<;>(try simp at h))
 all_goals(clear hK)
 all_goals first
  |(have e:=‹b=true›;obtain⟨r,hr⟩:=Ou (l:=ak ns) p0 (by omega);exact⟨⟨⟨⟨p+1,true⟩,by dsimp only;omega,by dsimp only;omega,by dsimp only;rw[Kl p0 hr,<-Bool.or_assoc,<-hb,e];rfl⟩,by dsimp only;omega,rfl,rfl⟩,rfl⟩)
  |(have e:=‹(nd ns r).name=(nd ns n).name›;exact⟨⟨⟨⟨p+1,au ns r==au ns n⟩,by dsimp only;omega,by dsimp only;omega,by dsimp only;rw[Kl p0 hr,<-Bool.or_assoc,<-hb,‹b=false›,e];simp⟩,by dsimp only;omega,rfl,rfl⟩,rfl⟩)
  |(have e:=‹¬(nd ns r).name=(nd ns n).name›;exact⟨⟨⟨⟨p+1,false⟩,by dsimp only;omega,by dsimp only;omega,by dsimp only;rw[Kl p0 hr,<-Bool.or_assoc,<-hb,‹b=false›];simp[e]⟩,by dsimp only;omega,rfl,rfl⟩,rfl⟩)
  |(have e:=‹(nd ns a).name=(nd ns k).name›;rw[<-hi,El i0 hn,Sp p0 ‹i<=p› p1 hb ‹b=false›,if_neg (by simp),if_neg (by rw[hfn];simp;omega),<-hj,Oz j0 hkm,if_pos (P8 q0 ‹q<j› ha e)];rfl)
  |(have e:=‹¬(nd ns a).name=(nd ns k).name›;exact⟨⟨⟨q+1,by omega,by omega,λk' hk'=>by obtain rfl:=Option.some.inj (hkm.symm.trans hk');exact eq_go q0 ha (hq _ hkm) e⟩,by dsimp only;omega,rfl,rfl⟩,rfl⟩)
  |(have e:=‹j<=q›;obtain⟨k,hkm⟩:=Ou (l:=ar ns n) j0 (by omega);obtain rfl:q=j:=Int.le_antisymm q1 e;exact⟨⟨⟨q+1,by omega,by omega,by rw[<-hj,Oz j0 hkm,if_neg (by rw[hq k hkm];simp)]⟩,ao j0 (by omega),rfl,rfl⟩,rfl⟩)
  |(have e:=‹((ar ns n).length:Int)<=j›;exact⟨⟨⟨i+1,by omega,by omega,by rw[<-hi,El i0 hn,Sp p0 ‹i<=p› p1 hb ‹b=false›,if_neg (by simp),if_neg (by rw[hfn];simp;omega),<-hj,List.drop_of_length_le (by omega),s9]⟩,ao i0 (by omega),rfl,rfl⟩,rfl⟩)
  |(have e:=‹b=true›;rw[<-hi,El i0 hn,Wk p0 ‹i<=p› p1 hb e,if_pos rfl];rfl)
  |(have e:=‹b=false›;rw[<-hi,El i0 hn,Sp p0 ‹i<=p› p1 hb e,if_neg (by simp),if_pos (by rw[hfn];simp;omega)];rfl)
  |(rw[<-hi,List.drop_of_length_le (by omega)];rfl)
end
end Go.Proofs.YtdjkoddnnogejaaGreat
