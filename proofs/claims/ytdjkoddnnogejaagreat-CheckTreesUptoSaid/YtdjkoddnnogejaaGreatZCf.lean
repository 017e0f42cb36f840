/- Part of the proof of CheckTrees: plain laws and steps of its walks, for all arguments. -/
import Derived.Test.YtdjkoddnnogejaaGreatZBo
set_option linter.unusedSimpArgs false
set_option linter.unusedVariables false
set_option linter.unusedSectionVars false
namespace Go.Proofs.YtdjkoddnnogejaaGreat
section
set_option maxRecDepth 100000
set_option maxHeartbeats 4000000
open Go.Vv Go.Ee
theorem G6 {α:Type} {f:α->List PV} {l m:List α} {k:List (List PV)->Prop} (h:W (k ((l++m).map f))):Fold (l.map f++m.map f) k:=fold_eq _ (by simp) h
theorem Lb {ns:List Nd} {it:aw} {b:Bool} {l:List Int} {i k:Int} (i0:0<=i) (hk:l[i.toNat]?=some k):bn ns it b (l.drop i.toNat)=match bm ns it k with
 |some i=>some (i,141)
 |none=>match bj ns k b with
  |some i=>some (i,142)
  |none=>bn ns it b (l.drop (i+1).toNat):=by rw[drop_cons i0 hk];rfl
abbrev Vr (ns:List Nd) (n:Int):Type:={q:Int×List Int//0<=q.1/\q.1<=(ar ns n).length/\q.2=((ar ns n).take q.1.toNat).flatMap (λk=>(nd ns k).kids)/\q.2.length<=q.1/\∀k∈q.2,0<=k/\k<(ns.length:Int)}
abbrev Vl (ns:List Nd) (nb:Bool) (it:aw) (n:Int) (z z2:Nat) (l:List Int):SH:=⟨(z,.arr 1 (l.map aB) true)::(6,b8 (nd ns n))::(5,.cells [.p (.int .i64 0),.p (.int .i64 0),.p (.int .i64 0)])::(yJ ns nb it).bp,z2⟩
theorem Ec {ns:List Nd} (g:Good ns) {n k i:Int} {l:List Int} (hf:su ns k) (i0:0<=i) (hk:(ar ns n)[i.toNat]?=some k) (hi:l=((ar ns n).take i.toNat).flatMap (λk=>(nd ns k).kids)) (hl:l.length<=i) (ha:∀k∈l,0<=k/\k<(ns.length:Int)) (h:i<(ar ns n).length):
 ∃a:Vr ns n,a.1=(i+1,l++(nd ns k).kids):=by
 obtain⟨f0,f1,f2⟩:=hf
 refine⟨⟨(i+1,l++(nd ns k).kids),by dsimp only;omega,by dsimp only;omega,?_,?_,λa ha2=>?_⟩,rfl⟩
 ·dsimp only
  rw[show(i+1).toNat=i.toNat+1 by omega,List.take_add_one,hk,hi];simp
 ·dsimp only
  rw[List.length_append]
  rcases f2 with f2|⟨a,f2,_⟩<;>simp[f2]<;>omega
 ·rcases List.mem_append.1 ha2 with h2|h2
  ·exact ha a h2
  ·rcases f2 with f2|⟨b,f2,f3,f4,_⟩
   ·rw[f2] at h2;simp at h2
   ·rw[f2] at h2;simp at h2;subst h2;omega
theorem Io {l:List Int} {k:List PV->Prop} (h:2<=l.length) (hk:∀x,l[l.length-2]?=some x->W (k (aB x))):iK (l.map aB)[(((l.map aB).length:Int)-2).toNat]? k:=by
 rw[List.length_map,show((l.length:Int)-2).toNat=l.length-2 by omega];exact aj (by omega) hk
theorem Pg {ns:List Nd} (g:Good ns) {n x:Int} {l:List Int} (h0:0<=n) (h1:n<(ns.length:Int)) (ha:∀k∈l,0<=k/\k<(ns.length:Int)) {j:Nat} (hx:(nd ns n).kids[j]?=some x):∀k∈l++[x],0<=k/\k<(ns.length:Int):=by
 intro k hk
 rcases List.mem_append.1 hk with hk|hk
 ·exact ha k hk
 ·have:=g.num h0 h1 x (List.mem_of_getElem? hx)
  simp at hk;subst hk;omega
theorem rD {o:Option Int} {y z:Int} (h:0<=eg o) (hu:∀u,o=some u->0<=u/\u<=y) (hy:y<z):0<=eg o/\eg o<z:=by
 have:=hu _ (xu h);omega
theorem U3 {ns:List Nd} {it:aw} {b:Bool} {l:List Int} {i k:Int} (i0:0<=i) (hk:l[i.toNat]?=some k) (hi:bn ns it b (l.drop i.toNat)=bn ns it b l) (h:0<=eg (bm ns it k)):bn ns it b l=some (eg (bm ns it k),141):=by
 obtain⟨u,hu⟩:=zi h
 rw[<-hi,Lb i0 hk,hu];rfl
theorem U4 {ns:List Nd} (g:Good ns) {it:aw} {b:Bool} {l:List Int} {i k:Int} (i0:0<=i) (hk:l[i.toNat]?=some k) (k0:0<=k) (k1:k<(ns.length:Int)) (hi:bn ns it b (l.drop i.toNat)=bn ns it b l) (h:eg (bm ns it k)<0) (h2:0<=eg (bj ns k b)):bn ns it b l=some (eg (bj ns k b),142):=by
 obtain⟨u,hu⟩:=zi h2
 rw[<-hi,Lb i0 hk,lL h λu hu=>(dU g it k.toNat k (Nat.le_refl _) k0 k1 u hu).1,hu];rfl
theorem U5 {ns:List Nd} (g:Good ns) {it:aw} {b:Bool} {l:List Int} {i k:Int} (i0:0<=i) (hk:l[i.toNat]?=some k) (k0:0<=k) (k1:k<(ns.length:Int)) (hi:bn ns it b (l.drop i.toNat)=bn ns it b l) (h:eg (bm ns it k)<0) (h2:eg (bj ns k b)<0):bn ns it b (l.drop (i+1).toNat)=bn ns it b l:=by
 rw[<-hi,Lb i0 hk,lL h λu hu=>(dU g it k.toNat k (Nat.le_refl _) k0 k1 u hu).1,lL h2 λu hu=>(fK g k.toNat k b (Nat.le_refl _) k0 k1 u hu).1]
theorem Cp {ns:List Nd} {n i x:Int} {l:List Int} (hk:(nd ns n).kind=2) (hi:l=((ar ns n).take i.toNat).flatMap (λk=>(nd ns k).kids)) (h:((ar ns n).length:Int)<=i) (hx:(nd ns n).kids[(nd ns n).kids.length-2]?=some x):typesOf ns n=l++[x]:=by
 rw[typesOf,hi,nR h,au,hk,dL,ax,hx];rfl
theorem Co {ns:List Nd} {n i:Int} {l:List Int} (hk:¬(nd ns n).kind=2) (hi:l=((ar ns n).take i.toNat).flatMap (λk=>(nd ns k).kids)) (h:((ar ns n).length:Int)<=i):typesOf ns n=l:=by
 rw[typesOf,hi,nR h,if_neg (by simpa[au] using hk),List.append_nil]
section
variable{K:aR->SH->Prop} {ns:List Nd} (g:Good ns) (nb:Bool) (it:aw)
include g
theorem Oc (n:Int) (h0:0<=n) (h1:n<(ns.length:Int)) (hk:(nd ns n).kind=2\/(nd ns n).kind=3\/(nd ns n).kind=4) (hK:∀o,bn ns it (au ns n) (typesOf ns n)=o->W (K (.ret (.agg (Vz ns o))) (yJ ns nb it))):SC Tryz.prog 90 [.f (.ptr 0 0),.i n] (yJ ns nb it) K:=by
 have hkl:=g.kids _ (cB h0 h1)
 have hml:(ar ns n).length<=(nd ns n).kids.length:=by unfold ar;split<;>simp
 have hme:=g.members h0 h1 hk
 by_cases hk2:(nd ns n).kind=2
 ·have hfn:=g.fn h0 h1 hk2
  refine uN [] [] [] Tryz.func90 rfl (by kernel_rfl) ?_
  repeat' first
   |((with_reducible refine W.of ?_);conv=>whnf)
   |with_reducible first
    |refine W.fin (K:=K) (hK (some (_,_)) ?_) rfl rfl
    |refine W.fin (K:=K) (hK none ?_) rfl rfl
    |refine aq h0 h1 ?_
   |((with_reducible refine bt ?_ ?_);focus(simp[gZ]<;>omega))
   |((with_reducible refine w5 ns nb it n h0 h1 (λ_=>hfn.1) (by omega) (λes c nl he=>?_));subst he)
   |((with_reducible refine SL.nil 6 1 ?_);(with_reducible refine W.of ?_);(conv=>whnf);(with_reducible refine bT [] [] [6,25] [7] (λa:Vr ns n=>[.f (.ref 8 a.1.2.length 1 none),.i a.1.1]) (λa=>Vl ns nb it n 8 9 a.1.2) (λa=>(ar ns n).length-a.1.1.toNat) ⟨(0,[]),by omega,by dsimp only;omega,rfl,by decide,by simp⟩ (by kernel_rfl) ?_ ?_);(focus((with_reducible refine W.of ?_);(conv=>whnf);exact⟨rfl,rfl⟩));rintro⟨⟨i,l⟩,i0,i1,hi,hl,ha⟩;dsimp only;(dsimp only at i0 i1 hi hl ha))
   |((with_reducible refine aj (l:=ar ns n) (by omega) (λk hkk=>?_));(obtain⟨_,hf,_⟩:=hme k (List.mem_of_getElem? hkk));(have hk0:0<=k:=hf.1);(have hk1:k<(ns.length:Int):=hf.2.1);(have hkq:=g.kids _ (cB hk0 hk1)))
   |with_reducible first
    |refine aq hk0 hk1 ?_
    |refine bt eK ?_
    |refine G6 ?_
    |refine fj ?_
    |refine bt lj ?_
   |((with_reducible refine Io (by omega) (λx hx=>?_));(have hal:=Pg g h0 h1 ha hx))
   |with_reducible refine oH (f:=aB) ?_
   |((with_reducible refine bT [] [] [57] [] (λa:So (l++[x]).length λi=>bn ns it (au ns n) ((l++[x]).drop i.toNat)=bn ns it (au ns n) (l++[x])=>[.i a.1]) (λ_=>Vl ns nb it n 9 10 (l++[x])) (λa=>(l++[x]).length-a.1.toNat) ⟨0,by omega,by omega,rfl⟩ (by kernel_rfl) ?_ ?_);(focus((with_reducible refine W.of ?_);(conv=>whnf);exact⟨rfl,rfl⟩));rintro⟨j,j0,j1,hj⟩;dsimp only)
   |((with_reducible refine aj (l:=l++[x]) (by simp;omega) (λy hy=>?_));(obtain⟨y0,y1⟩:=hal y (List.mem_of_getElem? hy)))
   |with_reducible first
    |refine vZ g nb it (y.toNat+1) y (Nat.lt_succ_self _) y0 y1 ?_
    |refine zJ g nb it (y.toNat+1) y _ (Nat.lt_succ_self _) y0 y1 ?_
    |refine fn [] [] Tryz.func87 rfl (by kernel_rfl) ?_
    |refine aq (rD ‹_› (dU g it y.toNat y (Nat.le_refl _) y0 y1) y1).1 (rD ‹_› (dU g it y.toNat y (Nat.le_refl _) y0 y1) y1).2 ?_
    |refine aq (rD ‹_› (fK g y.toNat y _ (Nat.le_refl _) y0 y1) y1).1 (rD ‹_› (fK g y.toNat y _ (Nat.le_refl _) y0 y1) y1).2 ?_
    |refine W.and (by kernel_rfl) ?_
    |refine SC.call ?_
   |((with_reducible refine bb (λh=>?_) (λh=>?_))<;>(try simp at h))
  all_goals(clear hK)
  all_goals first
   |(exfalso;omega)
   |(obtain⟨a,ea⟩:=Ec g hf i0 hkk hi hl ha (by omega);exact⟨⟨a,by rw[ea];exact ao i0 (by omega),by rw[ea,‹(nd ns k).kids=[]›,List.append_nil],by rw[ea,‹(nd ns k).kids=[]›,List.append_nil]⟩,rfl⟩)
   |(obtain⟨a,ea⟩:=Ec g hf i0 hkk hi hl ha (by omega);exact⟨⟨a,by rw[ea];exact ao i0 (by omega),by rw[ea],by rw[ea]⟩,rfl⟩)
   |(rw[Cp hk2 hi (by omega) hx];exact U3 j0 hy hj ‹_›)
   |(rw[Cp hk2 hi (by omega) hx];exact U4 g j0 hy y0 y1 hj ‹_› ‹_›)
   |exact⟨⟨⟨j+1,by omega,(by first|omega|(simp;omega)),U5 g j0 hy y0 y1 hj ‹_› ‹_›⟩,ao j0 (by first|omega|(simp;omega)),rfl,rfl⟩,rfl⟩
   |(rw[Cp hk2 hi (by omega) hx,<-hj,gf (by first|omega|(simp;omega))];rfl)
 ·refine uN [] [] [] Tryz.func90 rfl (by kernel_rfl) ?_
  repeat' first
   |((with_reducible refine W.of ?_);conv=>whnf)
   |with_reducible first
    |refine W.fin (K:=K) (hK (some (_,_)) ?_) rfl rfl
    |refine W.fin (K:=K) (hK none ?_) rfl rfl
    |refine aq h0 h1 ?_
   |((with_reducible refine bt ?_ ?_);focus(simp[gZ]<;>omega))
   |((with_reducible refine w5 ns nb it n h0 h1 (λh=>absurd h hk2) (by omega) (λes c nl he=>?_));subst he)
   |((with_reducible refine SL.nil 6 1 ?_);(with_reducible refine W.of ?_);(conv=>whnf);(with_reducible refine bT [] [] [6,25] [7] (λa:Vr ns n=>[.f (.ref 8 a.1.2.length 1 none),.i a.1.1]) (λa=>Vl ns nb it n 8 9 a.1.2) (λa=>(ar ns n).length-a.1.1.toNat) ⟨(0,[]),by omega,by dsimp only;omega,rfl,by decide,by simp⟩ (by kernel_rfl) ?_ ?_);(focus((with_reducible refine W.of ?_);(conv=>whnf);exact⟨rfl,rfl⟩));rintro⟨⟨i,l⟩,i0,i1,hi,hl,ha⟩;dsimp only;(dsimp only at i0 i1 hi hl ha))
   |((with_reducible refine aj (l:=ar ns n) (by omega) (λk hkk=>?_));(obtain⟨_,hf,_⟩:=hme k (List.mem_of_getElem? hkk));(have hk0:0<=k:=hf.1);(have hk1:k<(ns.length:Int):=hf.2.1);(have hkq:=g.kids _ (cB hk0 hk1)))
   |with_reducible first
    |refine aq hk0 hk1 ?_
    |refine bt eK ?_
    |refine G6 ?_
    |refine fj ?_
    |refine bt lj ?_
   |((with_reducible refine Io (by omega) (λx hx=>?_));(have hal:=Pg g h0 h1 ha hx))
   |with_reducible refine oH (f:=aB) ?_
   |((with_reducible refine bT [] [] [57] [] (λa:So (l).length λi=>bn ns it (au ns n) ((l).drop i.toNat)=bn ns it (au ns n) (l)=>[.i a.1]) (λ_=>Vl ns nb it n 8 9 l) (λa=>(l).length-a.1.toNat) ⟨0,by omega,by omega,rfl⟩ (by kernel_rfl) ?_ ?_);(focus((with_reducible refine W.of ?_);(conv=>whnf);exact⟨rfl,rfl⟩));rintro⟨j,j0,j1,hj⟩;dsimp only)
   |((with_reducible refine aj (l:=l) (by omega) (λy hy=>?_));(obtain⟨y0,y1⟩:=ha y (List.mem_of_getElem? hy)))
   |with_reducible first
    |refine vZ g nb it (y.toNat+1) y (Nat.lt_succ_self _) y0 y1 ?_
    |refine zJ g nb it (y.toNat+1) y _ (Nat.lt_succ_self _) y0 y1 ?_
    |refine fn [] [] Tryz.func87 rfl (by kernel_rfl) ?_
    |refine aq (rD ‹_› (dU g it y.toNat y (Nat.le_refl _) y0 y1) y1).1 (rD ‹_› (dU g it y.toNat y (Nat.le_refl _) y0 y1) y1).2 ?_
    |refine aq (rD ‹_› (fK g y.toNat y _ (Nat.le_refl _) y0 y1) y1).1 (rD ‹_› (fK g y.toNat y _ (Nat.le_refl _) y0 y1) y1).2 ?_
    |refine W.and (by kernel_rfl) ?_
    |refine SC.call ?_
   |((with_reducible refine bb (λh=>?_) (λh=>?_))<;>(try simp at h))
  all_goals(clear hK)
  all_goals first
   |(exfalso;omega)
   |(obtain⟨a,ea⟩:=Ec g hf i0 hkk hi hl ha (by omega);exact⟨⟨a,by rw[ea];exact ao i0 (by omega),by rw[ea,‹(nd ns k).kids=[]›,List.append_nil],by rw[ea,‹(nd ns k).kids=[]›,List.append_nil]⟩,rfl⟩)
   |(obtain⟨a,ea⟩:=Ec g hf i0 hkk hi hl ha (by omega);exact⟨⟨a,by rw[ea];exact ao i0 (by omega),by rw[ea],by rw[ea]⟩,rfl⟩)
   |(rw[Co hk2 hi (by omega)];exact U3 j0 hy hj ‹_›)
   |(rw[Co hk2 hi (by omega)];exact U4 g j0 hy y0 y1 hj ‹_› ‹_›)
   |exact⟨⟨⟨j+1,by omega,(by first|omega|(simp;omega)),U5 g j0 hy y0 y1 hj ‹_› ‹_›⟩,ao j0 (by first|omega|(simp;omega)),rfl,rfl⟩,rfl⟩
   |(rw[Co hk2 hi (by omega),<-hj,gf (by first|omega|(simp;omega))];rfl)
end
end
section
set_option maxRecDepth 100000
set_option maxHeartbeats 4000000
open Go.Vv Go.Ee
theorem lh.add {m:List (ah×PV)} {l:List ah} (h:lh m l) (s:ah):lh (fk s (.int .i64 1) m) (l++[s]):=λt=>by
 rw[nG,h t,oa]
 by_cases e:t=s<;>simp[e]
theorem H9 {m:List (ah×PV)} {l:List ah} {s:ah} {k1:PV->Prop} {k2:Prop} (h:lh m l) (hc:l.contains s=false) (h2:W k2):Mt (bS s m) k1 k2:=tG h (λe=>by rw[e] at hc;cases hc) λ_=>h2
abbrev Tv:List (ah×PV):=fk [112,97,110,105,99] (.int .i64 1) (fk [114,101,97,100] (.int .i64 1) (fk [112,114,105,110,116] (.int .i64 1) []))
theorem Lv:lh Tv bG:=((lh.nil.add _).add _).add _
theorem Oy {ns:List Nd} {l:List Int} {own:List ah} {j k:Int} (j0:0<=j) (hk:l[j.toNat]?=some k):kC ns (l.drop j.toNat) own=if own.contains (nd ns k).name=true then some k else kC ns (l.drop (j+1).toNat) (own++[(nd ns k).name]):=by rw[drop_cons j0 hk];rfl
theorem mR (ns:List Nd) (n:Int):(ar ns n).length<=(nd ns n).kids.length:=by unfold ar;split<;>simp
theorem O3 {ns:List Nd} {l:List Int} {ts fs:List ah} {i n:Int} (i0:0<=i) (hn:l[i.toNat]?=some n):ba ns (l.drop i.toNat) ts fs=
 if(if au ns n=true then fs else ts).contains (nd ns n).name=true then some (n,140) else
 if(ar ns n).length>(if au ns n=true then 6 else 16) then some (n,2) else
 match kC ns (ar ns n) [] with
 |some k=>some (k,140)
 |none=>if au ns n=true then ba ns (l.drop (i+1).toNat) ts (fs++[(nd ns n).name]) else ba ns (l.drop (i+1).toNat) (ts++[(nd ns n).name]) fs:=by rw[drop_cons i0 hn,ba];cases kC ns (ar ns n) []<;>rfl
theorem VG {ns:List Nd} {n:Int} (h:(nd ns n).kind=2):au ns n=true:=by simp[au,h]
theorem VE {ns:List Nd} {n:Int} (h:¬(nd ns n).kind=2):au ns n=false:=by simp[au,h]
abbrev Ig (ns:List Nd) (n:Int) (z:Nat) (s:List ah) (r:Option (Int×Int)):Option (Int×Int):=if s.contains (nd ns n).name=true then some (n,140) else if(ar ns n).length>z then some (n,2) else
 match kC ns (ar ns n) [] with|some k=>some (k,140)|none=>r
theorem DH {ns:List Nd} {l:List Int} {ts fs:List ah} {i n:Int} (i0:0<=i) (hn:l[i.toNat]?=some n) (h:(nd ns n).kind=2):ba ns (l.drop i.toNat) ts fs=Ig ns n 6 fs (ba ns (l.drop (i+1).toNat) ts (fs++[(nd ns n).name])):=by
 rw[O3 i0 hn,VG h];unfold Ig;cases kC ns (ar ns n) []<;>rfl
theorem DI {ns:List Nd} {l:List Int} {ts fs:List ah} {i n:Int} (i0:0<=i) (hn:l[i.toNat]?=some n) (h:¬(nd ns n).kind=2):ba ns (l.drop i.toNat) ts fs=Ig ns n 16 ts (ba ns (l.drop (i+1).toNat) (ts++[(nd ns n).name]) fs):=by
 rw[O3 i0 hn,VE h];unfold Ig;cases kC ns (ar ns n) []<;>rfl
theorem Uo {ns:List Nd} {n:Int} {z:Nat} {s:List ah} {r:Option (Int×Int)} (h:s.contains (nd ns n).name=true):Ig ns n z s r=some (n,140):=if_pos h
theorem Up {ns:List Nd} {n:Int} {z:Nat} {s:List ah} {r:Option (Int×Int)} (h:s.contains (nd ns n).name=false) (h2:z<(ar ns n).length):Ig ns n z s r=some (n,2):=by unfold Ig;rw[h,if_neg (by simp),if_pos h2]
theorem Uq {ns:List Nd} {n k j:Int} {z:Nat} {s own:List ah} {r:Option (Int×Int)} (h:s.contains (nd ns n).name=false) (h2:(ar ns n).length<=z) (j0:0<=j) (hk:(ar ns n)[j.toNat]?=some k) (hj:kC ns ((ar ns n).drop j.toNat) own=kC ns (ar ns n) []) (hc:own.contains (nd ns k).name=true):Ig ns n z s r=some (k,140):=by
 unfold Ig;rw[h,if_neg (by simp),if_neg (by omega),<-hj,Oy j0 hk,if_pos hc]
theorem Ur {ns:List Nd} {n j:Int} {z:Nat} {s own:List ah} {r:Option (Int×Int)} (h:s.contains (nd ns n).name=false) (h2:(ar ns n).length<=z) (hj:kC ns ((ar ns n).drop j.toNat) own=kC ns (ar ns n) []) (hh:((ar ns n).length:Int)<=j):Ig ns n z s r=r:=by
 unfold Ig;rw[h,if_neg (by simp),if_neg (by omega),<-hj,gf hh];rfl
abbrev XD (ns:List Nd) (l:List Int):Type:={q:Int×(List (ah×PV)×List (ah×PV))×List ah×List ah//0<=q.1/\q.1<=l.length/\lh q.2.1.1 q.2.2.1/\lh q.2.1.2 q.2.2.2/\ba ns (l.drop q.1.toNat) q.2.2.1 q.2.2.2=ba ns l [] bG}
abbrev WH (ns:List Nd) (l:List Int):Type:={q:Int×List (ah×PV)×List ah//0<=q.1/\q.1<=l.length/\lh q.2.1 q.2.2/\kC ns (l.drop q.1.toNat) q.2.2=kC ns l []}
abbrev Xa (ns:List Nd) (nb:Bool) (it:aw) (m1 m2:List (ah×PV)):List (Nat×SO):=(7,.map m2)::(6,.map m1)::(5,.cells [.p (.int .i64 0),.p (.int .i64 0),.p (.int .i64 0)])::(yJ ns nb it).bp
abbrev WZ (ns:List Nd) (nb:Bool) (it:aw) (n:Int) (m1 m2 m3:List (ah×PV)):SH:=⟨(9,.map m3)::(8,b8 (nd ns n))::Xa ns nb it m1 m2,10⟩
section
variable{K:aR->SH->Prop} {ns:List Nd} (g:Good ns) (nb:Bool) (it:aw)
include g
theorem MC (l:List Int) (c0:Option Nat) (n0:Bool) (hll:l.length<=1048576) (hl:∀n∈l,0<=n/\n<(ns.length:Int)/\((nd ns n).kind=2\/(nd ns n).kind=3\/(nd ns n).kind=4)) (hK:∀o,ba ns l [] bG=o->W (K (.ret (.agg (Vz ns o))) (yJ ns nb it))):SC Tryz.prog 89 [.f (.ptr 0 0),.f (.p (.vs (l.map aB) c0 n0))] (yJ ns nb it) K:=by
 refine uN [] [] [] Tryz.func89 rfl (by kernel_rfl) ?_
 repeat' first
  |((with_reducible refine W.of ?_);conv=>whnf)
  |with_reducible first
   |refine W.fin (K:=K) (hK (some (_,_)) ?_) rfl rfl
   |refine W.fin (K:=K) (hK none ?_) rfl rfl
   |refine W.and (by kernel_rfl) ?_
  |((with_reducible refine bt ?_ ?_);focus(simp[]<;>omega))
  |((with_reducible refine aj (l:=l) (by omega) (λn hn=>?_));(obtain⟨h0,h1,hk⟩:=hl n (List.mem_of_getElem? hn));(have hkl:=g.kids _ (cB h0 h1));(have hml:=mR ns n);(have hme:=g.members h0 h1 hk))
  |with_reducible first
   |refine aq h0 h1 ?_
   |refine H9 hm1 hc ?_
   |refine H9 hm2 hc ?_
   |refine H9 hm3 hc3 ?_
   |refine tG hm3 (λhc3=>?_) (λhc3=>?_)
  |((have hkd:=‹(nd ns n).kind=2›);(with_reducible refine tG hm2 (λhc=>?_) (λhc=>?_)))
  |((have hkd:=‹¬(nd ns n).kind=2›);(with_reducible refine tG hm1 (λhc=>?_) (λhc=>?_)))
  |((with_reducible refine w5 ns nb it n h0 h1 (λh=>(g.fn h0 h1 h).1) (by omega) (λes c nl he=>?_));subst he)
  |((with_reducible refine bT [] [] [21] [] (λa:XD ns l=>[.i a.1.1]) (λa=>⟨Xa ns nb it a.1.2.1.1 a.1.2.1.2,8⟩) (λa=>l.length-a.1.1.toNat) ⟨(0,([],Tv),[],bG),by omega,by dsimp only;omega,.nil,Lv,rfl⟩ (by kernel_rfl) ?_ ?_);(focus((with_reducible refine W.of ?_);(conv=>whnf);exact⟨rfl,rfl⟩));rintro⟨⟨i,⟨m1,m2⟩,ts,fs⟩,i0,i1,hm1,hm2,hi⟩;dsimp only;(dsimp only at i0 i1 hm1 hm2 hi))
  |((with_reducible refine bT [] [] [64] [] (λa:WH ns (ar ns n)=>[.i a.1.1]) (λa=>WZ ns nb it n m1 (fk (nd ns n).name (.int .i64 1) m2) a.1.2.1) (λa=>(ar ns n).length-a.1.1.toNat) ⟨(0,[],[]),by omega,by dsimp only;omega,.nil,rfl⟩ (by kernel_rfl) ?_ ?_);(focus((with_reducible refine W.of ?_);(conv=>whnf);exact⟨rfl,rfl⟩));rintro⟨⟨j,m3,own⟩,j0,j1,hm3,hj⟩;dsimp only;(dsimp only at j0 j1 hm3 hj))
  |((with_reducible refine bT [] [] [64] [] (λa:WH ns (ar ns n)=>[.i a.1.1]) (λa=>WZ ns nb it n (fk (nd ns n).name (.int .i64 1) m1) m2 a.1.2.1) (λa=>(ar ns n).length-a.1.1.toNat) ⟨(0,[],[]),by omega,by dsimp only;omega,.nil,rfl⟩ (by kernel_rfl) ?_ ?_);(focus((with_reducible refine W.of ?_);(conv=>whnf);exact⟨rfl,rfl⟩));rintro⟨⟨j,m3,own⟩,j0,j1,hm3,hj⟩;dsimp only;(dsimp only at j0 j1 hm3 hj))
  |((with_reducible refine aj (l:=ar ns n) (by omega) (λk hkk=>?_));(obtain⟨_,hf,_⟩:=hme k (List.mem_of_getElem? hkk));(have hk0:0<=k:=hf.1);(have hk1:k<(ns.length:Int):=hf.2.1))
  |with_reducible first
   |refine aq hk0 hk1 ?_
   |refine iQ ?_
   |refine fn [] [] Tryz.func87 rfl (by kernel_rfl) ?_
   |refine SC.call ?_
  |((with_reducible refine bb (λh=>?_) (λh=>?_))<;>(try simp at h))
 all_goals(clear hK)
 all_goals first
  |(rw[<-hi,DH i0 hn hkd];exact Uo hc)
  |(rw[<-hi,DI i0 hn hkd];exact Uo hc)
  |(rw[<-hi,DH i0 hn hkd];exact Up hc (by omega))
  |(rw[<-hi,DI i0 hn hkd];exact Up hc (by omega))
  |(rw[<-hi,DH i0 hn hkd];exact Uq hc (by omega) j0 hkk hj hc3)
  |(rw[<-hi,DI i0 hn hkd];exact Uq hc (by omega) j0 hkk hj hc3)
  |exact⟨⟨⟨(j+1,fk (nd ns k).name (.int .i64 1) m3,own++[(nd ns k).name]),(by dsimp only;omega),(by dsimp only;omega),hm3.add _,by dsimp only;rw[<-hj,Oy j0 hkk,if_neg (by rw[hc3];simp)]⟩,ao j0 (by omega),rfl,rfl⟩,rfl⟩
  |(have ee:=hi.symm.trans (DH i0 hn hkd);rw[Ur hc (by omega) hj (by omega)] at ee;exact⟨⟨⟨(i+1,(m1,fk (nd ns n).name (.int .i64 1) m2),ts,fs++[(nd ns n).name]),(by dsimp only;omega),(by dsimp only;omega),hm1,hm2.add _,ee.symm⟩,ao i0 (by omega),rfl,rfl⟩,rfl⟩)
  |(have ee:=hi.symm.trans (DI i0 hn hkd);rw[Ur hc (by omega) hj (by omega)] at ee;exact⟨⟨⟨(i+1,(fk (nd ns n).name (.int .i64 1) m1,m2),ts++[(nd ns n).name],fs),(by dsimp only;omega),(by dsimp only;omega),hm1.add _,hm2,ee.symm⟩,ao i0 (by omega),rfl,rfl⟩,rfl⟩)
  |(rw[<-hi,gf (by omega)];rfl)
end
end
section
set_option maxRecDepth 100000
set_option maxHeartbeats 4000000
open Go.Vv Go.Ee
abbrev Te (ns:List Nd) (nb:Bool) (it:aw) (a b c:Nat):List (Nat×SO):=[(c,.arr 5 (it.fns.map sC) true),(b,.arr 2 (it.es.map iT) true),(a,.arr 2 (it.ss.map iT) true),(0,.cells [.p (.vs (ns.map aH) none nb),.ref a it.ss.length 2 none,.ref b it.es.length 2 none,.ref c it.fns.length 5 none,.p .iF])]
abbrev X4 (ns:List Nd) (nb:Bool) (it:aw):SH:=⟨Te ns nb it 1 2 3,4⟩
abbrev Vi (ns:List Nd) (nb:Bool) (it:aw):SH:=⟨Te ns nb it 4 5 6,7⟩
abbrev WE (ns:List Nd) (l:List Int):Type:={q:Int×aw×Option Int//0<=q.1/\q.1<=l.length/\(q.2.1.ss.length<=q.1/\q.2.1.es.length<=q.1/\q.2.1.fns.length<=q.1)/\(∀b,q.2.2=some b->0<=b)/\aU ns (l.drop q.1.toNat) q.2.1 q.2.2=aU ns l aw.none none}
abbrev WI (ns:List Nd) (l:List Int):Type:={q:Int×List Fd//0<=q.1/\q.1<=l.length/\q.2=(l.take q.1.toNat).map (cm ns)}
abbrev Xw (ns:List Nd) (l:List Int):Type:={q:Int×List Fd×List Bool//0<=q.1/\q.1<=l.length/\q.2.1=(l.take q.1.toNat).map (cm ns)/\q.2.2=(l.take q.1.toNat).map (λk=>(nd ns k).num==1)}
abbrev W4 (ns:List Nd) (nb:Bool) (it:aw) (n:Int) (fs:List Fd):SH:=⟨(10,.arr 2 (fs.map nZ) true)::(8,.cells [.p (.str (nd ns n).name),.ref 10 fs.length 2 none])::(7,b8 (nd ns n))::Te ns nb it 4 5 6,11⟩
abbrev XV (ns:List Nd) (nb:Bool) (it:aw) (n:Int) (ret:ah) (fs:List Fd) (ms:List Bool):SH:=⟨(12,.arr 1 (ms.map uP) true)::(11,.arr 2 (fs.map nZ) true)::(8,.cells [.p (.str (nd ns n).name),.ref 11 fs.length 2 none,.ref 12 ms.length 1 none,.p (.str ret),.p (.int .i64 n)])::(7,b8 (nd ns n))::Te ns nb it 4 5 6,13⟩
theorem Ph:dy Tryz.prog 132=32:=by kernel_rfl
theorem Pj:dy Tryz.prog 181=40:=by kernel_rfl
theorem UY:dy Tryz.prog 76=40:=by kernel_rfl
theorem UZ:dy Tryz.prog 97=88:=by kernel_rfl
theorem Xk:dy Tryz.prog 4=1:=by kernel_rfl
theorem KL {l:List Int} {j k:Int} (j0:0<=j) (hk:l[j.toNat]?=some k):l.take (j+1).toNat=l.take j.toNat++[k]:=by
 rw[show(j+1).toNat=j.toNat+1 by omega,List.take_add_one,hk];rfl
theorem sF {α β:Type} {f:α->β} {l:List α} {i:Nat} {m:List β} (h:m=(l.take i).map f):m.length<=l.length:=by rw[h,List.length_map,List.length_take];omega
theorem Ue {ns:List Nd} {n:Int} (h:(nd ns n).kind=2):ar ns n=(nd ns n).kids.take ((nd ns n).kids.length-2):=by rw[ar,if_pos h]
theorem Rn {ns:List Nd} {n q:Int} {k:List PV->Prop} (h2:(nd ns n).kind=2) (h0:2<=(nd ns n).kids.length) (h:q.toNat<(ar ns n).length) (hk:∀x,(ar ns n)[q.toNat]?=some x->W (k (aB x))):iK (List.take (((nd ns n).kids.map aB).length-2:Int).toNat ((nd ns n).kids.map aB))[q.toNat]? k:=by
 rw[List.length_map,show(((nd ns n).kids.length:Int)-2).toNat=(nd ns n).kids.length-2 by omega,<-List.map_take,<-Ue h2]
 exact aj h hk
def Lt (bo:Option Int) (f:Bool) (n:Int):Option Int:=match bo with|some b=>some b|none=>if f=true then some n else none
theorem iP {ns:List Nd} {l:List Int} {i n:Int} {it it2:aw} {bo b2:Option Int} (i0:0<=i) (ii:i<l.length) (hn:l[i.toNat]?=some n) (hi:aU ns (l.drop i.toNat) it bo=aU ns l aw.none none) (e:cX ns n it=it2) (hl:it2.ss.length<=i+1/\it2.es.length<=i+1/\it2.fns.length<=i+1)
 (eb:Lt bo (ei ns n it2) n=b2) (hb2:∀b,b2=some b->0<=b):∃a:WE ns l,a.1=(i+1,it2,b2):=by
 refine⟨⟨(i+1,it2,b2),by dsimp only;omega,by dsimp only;omega,hl,hb2,?_⟩,rfl⟩
 rw[<-hi,drop_cons i0 hn,<-eb,<-e];cases bo<;>rfl
theorem T4 {k:Int} (h:k=2\/k=3\/k=4) (h1:¬k=3) (h2:¬k=4):k=2:=by omega
theorem Uf {ns:List Nd} {n:Int} (h:(nd ns n).kind=2):(ar ns n).length=(nd ns n).kids.length-2:=by rw[Ue h,List.length_take];omega
theorem RR {ns:List Nd} {n x:Int} (h:(nd ns n).kids[(nd ns n).kids.length-2]?=some x):dL ns n=x:=by rw[dL,ax,h];rfl
theorem GZ {l:List Int} (m:Nat):fits 1 ((l.map aB).take m)=true:=by rw[<-List.map_take];exact eK
theorem Bx {bo:Option Int} {f:Bool} {n:Int} (hb:∀b,bo=some b->0<=b) (h:eg bo<0) (hf:f=true):Lt bo f n=some n:=by
 rw[lL h hb,hf];rfl
theorem Bv {bo:Option Int} {f:Bool} {n:Int} (h:0<=eg bo):Lt bo f n=bo:=by
 obtain⟨b,rfl⟩:=zi h;rfl
theorem Bw {bo:Option Int} {f:Bool} {n:Int} (hf:f=false):Lt bo f n=bo:=by
 subst hf;cases bo<;>rfl
theorem G5 {ns:List Nd} {l:List Int} {i:Int} {fs:List Fd} (h:fs=(l.take i.toNat).map (cm ns)) (hh:(l.length:Int)<=i):fs=l.map (cm ns):=by rw[h,nR hh]
theorem Rb {ns:List Nd} {l:List Int} {i:Int} {ms:List Bool} (h:ms=(l.take i.toNat).map (λk=>(nd ns k).num==1)) (hh:(l.length:Int)<=i):ms=l.map (λk=>(nd ns k).num==1):=by rw[h,nR hh]
section
variable{K:aR->SH->Prop} {ns:List Nd} (g:Good ns) (nb:Bool) (it:aw)
include g
theorem Hu (k:Int) (hf:su ns k) (hK:W (K (.ret (.agg [.p (.str (cm ns k).name),.p (.str (cm ns k).ty)])) ⟨Te ns nb it 1 2 3,4⟩)):SC Tryz.prog 149 [.f (.ptr 0 0),.i k] ⟨Te ns nb it 1 2 3,4⟩ K:=by
 obtain⟨k0,k1,hkk|⟨a,hkk,a0,a1,Ev⟩⟩:=hf
 ·refine uN [] [] [] Tryz.func149 rfl (by kernel_rfl) ?_
  repeat' first
   |((with_reducible refine W.of ?_);conv=>whnf)
   |with_reducible first
    |refine W.fin (K:=K) hK ?_ rfl
    |refine aq k0 k1 ?_
   |((with_reducible refine bt ?_ ?_);focus(simp[]<;>omega))
   |((with_reducible refine bf ?_ ?_);focus(simp[hkk]<;>omega))
  all_goals(clear hK;simp[cm,hkk])
 ·refine uN [] [] [] Tryz.func149 rfl (by kernel_rfl) ?_
  repeat' first
   |((with_reducible refine W.of ?_);conv=>whnf)
   |with_reducible first
    |refine W.fin (K:=K) hK ?_ rfl
    |refine W.and (by kernel_rfl) ?_
    |refine aq k0 k1 ?_
   |((with_reducible refine bt ?_ ?_);focus(simp[hkk]<;>omega))
   |((with_reducible refine on (aB a) ?_ ?_);focus(simp[hkk];done))
   |with_reducible first
    |refine Dz g nb (a.toNat+1) a (Nat.lt_succ_self _) a0 (by omega) Ev ?_
    |refine SC.call ?_
  all_goals(clear hK;simp[cm,hkk])
theorem ED (l:List Int) (c0:Option Nat) (n0:Bool) (hll:l.length<=1048576) (hl:∀n∈l,0<=n/\n<(ns.length:Int)/\((nd ns n).kind=2\/(nd ns n).kind=3\/(nd ns n).kind=4)) (hK:∀it b,aU ns l aw.none none=(it,b)->W (K (.ret (.bR [.f (.p (.int .i64 (eg b))),.f (.p (.bool (decide (eg b<0))))])) (Vi ns nb it))):SC Tryz.prog 86 [.f (.ptr 0 0),.f (.p (.vs (l.map aB) c0 n0))] (X4 ns nb aw.none) K:=by
 refine uN [(9,[(0,[]),(1,[]),(2,[]),(3,[]),(4,[]),(5,[]),(6,[]),(7,[]),(8,[]),(9,[]),(10,[]),(11,[]),(13,[]),(15,[]),(12,[15,1]),(14,[]),(16,[])]),(13,[(0,[]),(1,[]),(2,[]),(3,[]),(4,[1]),(5,[]),(6,[]),(7,[]),(8,[])]),(23,[(0,[]),(1,[]),(2,[]),(3,[]),(4,[1]),(5,[]),(6,[]),(7,[]),(8,[])]),(32,[(0,[]),(1,[]),(2,[]),(3,[]),(4,[1]),(5,[]),(6,[]),(7,[]),(8,[])])] [(25,[(11,some 1)]),(34,[(14,some 1)]),(16,[(18,some 1),(18,some 2)])] [1,2,3] Tryz.func86 rfl (by kernel_rfl) ?_
 repeat' first
  |((with_reducible refine W.of ?_);conv=>whnf)
  |((with_reducible refine W.fin (K:=K) (hK _ _ ?_) rfl rfl))
  |with_reducible refine W.and (by kernel_rfl) ?_
  |((have hk2:=T4 hk ‹_› ‹_›);(have hfn:=g.fn h0 h1 hk2);(with_reducible refine bt ?_ ?_);(focus(simp;omega)))
  |((with_reducible refine bt ?_ ?_);focus(simp[Ph,Pj,UY,UZ,Xk]<;>omega))
  |((with_reducible refine aj (l:=l) (by omega) (λn hn=>?_));(obtain⟨h0,h1,hk⟩:=hl n (List.mem_of_getElem? hn));(have hkl:=g.kids _ (cB h0 h1));(have hml:=mR ns n);(have hme:=g.members h0 h1 hk))
  |with_reducible refine aq h0 h1 ?_
  |((with_reducible refine bT [(9,[(0,[]),(1,[]),(2,[]),(3,[]),(4,[]),(5,[]),(6,[]),(7,[]),(8,[]),(9,[]),(10,[]),(11,[]),(13,[]),(15,[]),(12,[15,1]),(14,[]),(16,[])]),(13,[(0,[]),(1,[]),(2,[]),(3,[]),(4,[1]),(5,[]),(6,[]),(7,[]),(8,[])]),(23,[(0,[]),(1,[]),(2,[]),(3,[]),(4,[1]),(5,[]),(6,[]),(7,[]),(8,[])]),(32,[(0,[]),(1,[]),(2,[]),(3,[]),(4,[1]),(5,[]),(6,[]),(7,[]),(8,[])])] [(25,[(11,some 1)]),(34,[(14,some 1)]),(16,[(18,some 1),(18,some 2)])] [6,23] [1,2,3] (λa:WE ns l=>[.i (eg a.1.2.2),.i a.1.1]) (λa=>Vi ns nb a.1.2.1) (λa=>l.length-a.1.1.toNat) ⟨(0,aw.none,none),by omega,by dsimp only;omega,by decide,by simp,rfl⟩ (by kernel_rfl) ?_ ?_);(focus((with_reducible refine W.of ?_);(conv=>whnf);exact⟨rfl,rfl⟩));rintro⟨⟨i,it,bo⟩,i0,i1,⟨is1,is2,is3⟩,hb,hi⟩;dsimp only;(dsimp only at i0 i1 is1 is2 is3 hb hi))
  |((with_reducible refine SL.oP 8 1 2 ?_);(with_reducible refine W.of ?_);(conv=>whnf);(with_reducible refine bT [(9,[(0,[]),(1,[]),(2,[]),(3,[]),(4,[]),(5,[]),(6,[]),(7,[]),(8,[]),(9,[]),(10,[]),(11,[]),(13,[]),(15,[]),(12,[15,1]),(14,[]),(16,[])]),(13,[(0,[]),(1,[]),(2,[]),(3,[]),(4,[1]),(5,[]),(6,[]),(7,[]),(8,[])]),(23,[(0,[]),(1,[]),(2,[]),(3,[]),(4,[1]),(5,[]),(6,[]),(7,[]),(8,[])]),(32,[(0,[]),(1,[]),(2,[]),(3,[]),(4,[1]),(5,[]),(6,[]),(7,[]),(8,[])])] [] [116] [9] (λa:WI ns (nd ns n).kids=>[.i a.1.1]) (λa=>W4 ns nb it n a.1.2) (λa=>(nd ns n).kids.length-a.1.1.toNat) ⟨(0,[]),by omega,by dsimp only;omega,rfl⟩ (by kernel_rfl) ?_ ?_);(focus((with_reducible refine W.of ?_);(conv=>whnf);exact⟨rfl,rfl⟩));rintro⟨⟨j,fs⟩,j0,j1,hj⟩;dsimp only;(dsimp only at j0 j1 hj;have hjl:=sF hj))
  |((with_reducible refine SL.oP 8 1 2 ?_);(with_reducible refine W.of ?_);(conv=>whnf);(with_reducible refine bT [(9,[(0,[]),(1,[]),(2,[]),(3,[]),(4,[]),(5,[]),(6,[]),(7,[]),(8,[]),(9,[]),(10,[]),(11,[]),(13,[]),(15,[]),(12,[15,1]),(14,[]),(16,[])]),(13,[(0,[]),(1,[]),(2,[]),(3,[]),(4,[1]),(5,[]),(6,[]),(7,[]),(8,[])]),(23,[(0,[]),(1,[]),(2,[]),(3,[]),(4,[1]),(5,[]),(6,[]),(7,[]),(8,[])]),(32,[(0,[]),(1,[]),(2,[]),(3,[]),(4,[1]),(5,[]),(6,[]),(7,[]),(8,[])])] [] [156] [9] (λa:WI ns (nd ns n).kids=>[.i a.1.1]) (λa=>W4 ns nb it n a.1.2) (λa=>(nd ns n).kids.length-a.1.1.toNat) ⟨(0,[]),by omega,by dsimp only;omega,rfl⟩ (by kernel_rfl) ?_ ?_);(focus((with_reducible refine W.of ?_);(conv=>whnf);exact⟨rfl,rfl⟩));rintro⟨⟨j,fs⟩,j0,j1,hj⟩;dsimp only;(dsimp only at j0 j1 hj;have hjl:=sF hj))
  |((with_reducible refine SL.oP 8 1 2 ?_);(with_reducible refine W.of ?_);(conv=>whnf);(with_reducible refine SL.oP 8 2 1 ?_);(with_reducible refine W.of ?_);(conv=>whnf);(with_reducible refine bT [(9,[(0,[]),(1,[]),(2,[]),(3,[]),(4,[]),(5,[]),(6,[]),(7,[]),(8,[]),(9,[]),(10,[]),(11,[]),(13,[]),(15,[]),(12,[15,1]),(14,[]),(16,[])]),(13,[(0,[]),(1,[]),(2,[]),(3,[]),(4,[1]),(5,[]),(6,[]),(7,[]),(8,[])]),(23,[(0,[]),(1,[]),(2,[]),(3,[]),(4,[1]),(5,[]),(6,[]),(7,[]),(8,[])]),(32,[(0,[]),(1,[]),(2,[]),(3,[]),(4,[1]),(5,[]),(6,[]),(7,[]),(8,[])])] [] [61] [9,10] (λa:Xw ns (ar ns n)=>[.i a.1.1]) (λa=>XV ns nb it n (cz ns (dL ns n).toNat) a.1.2.1 a.1.2.2) (λa=>(ar ns n).length-a.1.1.toNat) ⟨(0,[],[]),by omega,by dsimp only;omega,rfl,rfl⟩ (by kernel_rfl) ?_ ?_);(focus((with_reducible refine W.of ?_);(conv=>whnf);exact⟨rfl,rfl⟩));rintro⟨⟨j,fs,ms⟩,j0,j1,hj,hj2⟩;dsimp only;(dsimp only at j0 j1 hj hj2;have hjm:=sF hj2;have hjl:=sF hj))
  |((with_reducible refine aj (l:=(nd ns n).kids) (by omega) (λk hkk=>?_));(have hf:=(hme k (by rw[ar,if_neg (by omega)];exact List.mem_of_getElem? hkk)).2.1))
  |((have hk2:=T4 hk ‹_› ‹_›);(have hfn:=g.fn h0 h1 hk2);(have hm2:=Uf hk2);(with_reducible refine Io hfn.1 (λx hx=>?_));(obtain rfl:=RR hx))
  |with_reducible refine Dz g nb ((dL ns n).toNat+1) (dL ns n) (Nat.lt_succ_self _) hfn.2.1 (by omega) hfn.2.2.2.1 ?_
  |((with_reducible refine Rn hk2 hfn.1 (by omega) (λk hkk=>?_));(have hf:=(hme k (List.mem_of_getElem? hkk)).2.1);(have hk0:0<=k:=hf.1);(have hk1:k<(ns.length:Int):=hf.2.1))
  |with_reducible first
   |refine aq hk0 hk1 ?_
   |refine bt eK ?_
   |refine bt (GZ _) ?_
   |refine oH (f:=uP) (a:=(nd ns k).num==1) ?_
  |((have efs:=G5 hj (by omega));(have ems:=Rb hj2 (by omega));(subst efs);(subst ems);(refine oH (f:=sC) (a:=yH ns n) ?_))
  |((have efs:=G5 hj (by omega));(subst efs);(refine oH (f:=iT) (a:=mj ns n) ?_))
  |with_reducible first
   |refine Hu g nb it k hf ?_
   |refine oH (f:=nZ) (a:=cm ns k) ?_
   |refine fj ?_
   |refine bt lj ?_
   |refine SC.call ?_
  |((with_reducible refine bb (λh=>?_) (λh=>?_))<;>(try simp at h))
 all_goals(clear hK)
 all_goals first
  |exact⟨⟨⟨(j+1,fs++[cm ns k]),(by dsimp only;omega),(by dsimp only;omega),by dsimp only;rw[KL j0 hkk,hj];simp⟩,ao j0 (by omega),rfl,rfl⟩,rfl⟩
  |exact⟨⟨⟨(j+1,fs++[cm ns k],ms++[(nd ns k).num==1]),(by dsimp only;omega),(by dsimp only;omega),by dsimp only;rw[KL j0 hkk,hj];simp,by dsimp only;rw[KL j0 hkk,hj2];simp⟩,ao j0 (by omega),rfl,rfl⟩,rfl⟩
  |(have ee:=iP (it2:={it with ss:=it.ss++[mj ns n]}) (b2:=some n) i0 (by omega) hn hi (by rw[cX,if_pos ‹_›]) ⟨by simp;omega,by simp;omega,by simp;omega⟩ (Bx hb ‹_› (by rw[ei,if_pos ‹_›];simp;omega)) (λb e=>by cases e;exact h0);obtain⟨a,ea⟩:=ee;exact⟨⟨a,by rw[ea];exact ao i0 (by omega),by rw[ea]<;>rfl,by rw[ea]⟩,rfl⟩)
  |(have ee:=iP (it2:={it with ss:=it.ss++[mj ns n]}) (b2:=bo) i0 (by omega) hn hi (by rw[cX,if_pos ‹_›]) ⟨by simp;omega,by simp;omega,by simp;omega⟩ (Bv ‹_›) hb;obtain⟨a,ea⟩:=ee;exact⟨⟨a,by rw[ea];exact ao i0 (by omega),by rw[ea]<;>rfl,by rw[ea]⟩,rfl⟩)
  |(have ee:=iP (it2:={it with ss:=it.ss++[mj ns n]}) (b2:=bo) i0 (by omega) hn hi (by rw[cX,if_pos ‹_›]) ⟨by simp;omega,by simp;omega,by simp;omega⟩ (Bw (by rw[ei,if_pos ‹_›];simp;omega)) hb;obtain⟨a,ea⟩:=ee;exact⟨⟨a,by rw[ea];exact ao i0 (by omega),by rw[ea]<;>rfl,by rw[ea]⟩,rfl⟩)
  |(have ee:=iP (it2:={it with es:=it.es++[mj ns n]}) (b2:=some n) i0 (by omega) hn hi (by rw[cX,if_neg (by omega),if_pos ‹_›]) ⟨by simp;omega,by simp;omega,by simp;omega⟩ (Bx hb ‹_› (by rw[ei,if_neg (by omega),if_pos ‹_›];simp;omega)) (λb e=>by cases e;exact h0);obtain⟨a,ea⟩:=ee;exact⟨⟨a,by rw[ea];exact ao i0 (by omega),by rw[ea]<;>rfl,by rw[ea]⟩,rfl⟩)
  |(have ee:=iP (it2:={it with es:=it.es++[mj ns n]}) (b2:=bo) i0 (by omega) hn hi (by rw[cX,if_neg (by omega),if_pos ‹_›]) ⟨by simp;omega,by simp;omega,by simp;omega⟩ (Bv ‹_›) hb;obtain⟨a,ea⟩:=ee;exact⟨⟨a,by rw[ea];exact ao i0 (by omega),by rw[ea]<;>rfl,by rw[ea]⟩,rfl⟩)
  |(have ee:=iP (it2:={it with es:=it.es++[mj ns n]}) (b2:=bo) i0 (by omega) hn hi (by rw[cX,if_neg (by omega),if_pos ‹_›]) ⟨by simp;omega,by simp;omega,by simp;omega⟩ (Bw (by rw[ei,if_neg (by omega),if_pos ‹_›];simp;omega)) hb;obtain⟨a,ea⟩:=ee;exact⟨⟨a,by rw[ea];exact ao i0 (by omega),by rw[ea]<;>rfl,by rw[ea]⟩,rfl⟩)
  |(have ee:=iP (it2:={it with fns:=it.fns++[yH ns n]}) (b2:=some n) i0 (by omega) hn hi (by rw[cX,if_neg (by omega),if_neg (by omega)]) ⟨by simp;omega,by simp;omega,by simp;omega⟩ (Bx hb ‹_› (by rw[ei,if_neg (by omega),if_neg (by omega)];simp;omega)) (λb e=>by cases e;exact h0);obtain⟨a,ea⟩:=ee;exact⟨⟨a,by rw[ea];exact ao i0 (by omega),by rw[ea]<;>rfl,by rw[ea]⟩,rfl⟩)
  |(have ee:=iP (it2:={it with fns:=it.fns++[yH ns n]}) (b2:=bo) i0 (by omega) hn hi (by rw[cX,if_neg (by omega),if_neg (by omega)]) ⟨by simp;omega,by simp;omega,by simp;omega⟩ (Bv ‹_›) hb;obtain⟨a,ea⟩:=ee;exact⟨⟨a,by rw[ea];exact ao i0 (by omega),by rw[ea]<;>rfl,by rw[ea]⟩,rfl⟩)
  |(have ee:=iP (it2:={it with fns:=it.fns++[yH ns n]}) (b2:=bo) i0 (by omega) hn hi (by rw[cX,if_neg (by omega),if_neg (by omega)]) ⟨by simp;omega,by simp;omega,by simp;omega⟩ (Bw (by rw[ei,if_neg (by omega),if_neg (by omega)];simp;omega)) hb;obtain⟨a,ea⟩:=ee;exact⟨⟨a,by rw[ea];exact ao i0 (by omega),by rw[ea]<;>rfl,by rw[ea]⟩,rfl⟩)
  |(rw[<-hi,gf (by omega)];rfl)
end
end
end Go.Proofs.YtdjkoddnnogejaaGreat
