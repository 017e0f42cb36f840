/- Part of the proof of CheckTrees: plain laws and steps of its walks, for all arguments. -/
import Derived.Test.YtdjkoddnnogejaaGreatZDa
set_option linter.unusedSimpArgs false
set_option linter.unusedVariables false
set_option linter.unusedSectionVars false
namespace Go.Proofs.YtdjkoddnnogejaaGreat
section
set_option maxRecDepth 100000
set_option maxHeartbeats 4000000
open Go.Vv Go.Ee
variable{K:aR->SH->Prop}
theorem NF (ns:List Nd) (nb:Bool) (x:Nd) (s:ah) (hin:Lk ns x) (hl:x.kids.length<=17592186044415) (hs:s∈dv x.kind) (hc:dJ x.kind x.num=true) (hK:KB K (iG x.num (bF ns x) s)):SC Tryz.prog 234 [.agg [.p (.vs (ns.map aH) none nb)],kL x,.s s] H0 K:=by
 rcases zm x.kind s hs with rfl|⟨rfl,hk⟩|⟨h1,h2,h3,h4⟩
 ·exact UH ns nb x hin hl hK
 ·exact JS ns nb x hin hl (s8 hc hk) hK
 ·unfold iG at hK
  rw[if_neg h1,if_neg h2] at hK
  exact Kg ns nb x s hin hl h1 h2 h3 h4 hK
theorem Kd {ns:List Nd} {i:Int} (h0:0<=i) (x:Nd):jz ns i.toNat x=(nP x.kind&&fm x.kind x.name&&dJ x.kind x.num&&decide (0<=x.mE)&&decide (x.mE<=x.to)&&iB i x.kids&&(dv x.kind).any (iG x.num (bF ns x))):=by
 unfold jz;rw[show((i.toNat:Nat):Int)=i by omega]
theorem Gm {ns:List Nd} {i:Int} {x:Nd} (h1:i<(ns.length:Int)) (h:iB i x.kids=true):Lk ns x:=λk hk=>by
 have:=List.all_eq_true.1 h k hk
 simp at this;omega
theorem Ex {i j:Int} {l:List Int} (h:iB i (l.take j.toNat)=true) (hj:(l.length:Int)<=j):iB i l=true:=by
 rwa [List.take_of_length_le (by omega)] at h
theorem Gp {i k:Int} {l:List Int} {j:Nat} (hk:l[j]?=some k) (h:k<0\/i<=k):iB i l=false:=by
 rw[iB,List.all_eq_false];exact⟨k,List.mem_of_getElem? hk,by simp;omega⟩
theorem C0 {α:Type} {f:α->Bool} {l:List α} {x:α} {i:Int} (h0:0<=i) (hx:l[i.toNat]?=some x):(l.drop i.toNat).any f=(f x||(l.drop (i+1).toNat).any f):=by
 obtain⟨h1,rfl⟩:=List.getElem?_eq_some_iff.1 hx
 rw[List.drop_eq_getElem_cons h1,List.any_cons,show(i+1).toNat=i.toNat+1 by omega]
abbrev Xp (ns:List Nd) (x:Nd) (i:Int):Type:={j:Int//0<=j/\j<=x.kids.length/\iB i (x.kids.take j.toNat)=true}
abbrev Xy (ns:List Nd) (x:Nd):Type:={j:Int//0<=j/\j<=(dv x.kind).length/\((dv x.kind).drop j.toNat).any (iG x.num (bF ns x))=(dv x.kind).any (iG x.num (bF ns x))}
theorem NK (ns:List Nd) (nb:Bool) (i:Int) (h0:0<=i) (h1:i<(ns.length:Int)) (hkl:(nd ns i).kids.length<=17592186044415) (hs:(nd ns i).name.length<4294967281) (hK:KB K (jz ns i.toNat (nd ns i))):SC Tryz.prog 161 [.agg [.p (.vs (ns.map aH) none nb)],.i i] H0 K:=by
 have he:=Kd (ns:=ns) h0 (nd ns i)
 have hfs:=wR (nd ns i).kind
 refine aX [] [] [] Tryz.func161 rfl (by kernel_rfl) ?_
 repeat' first
  |((with_reducible refine W.of ?_);conv=>whnf)
  |with_reducible refine W.fin (K:=K) hK ?_ rfl
  |((with_reducible refine aq h0 h1 ?_))
  |with_reducible first
   |refine J7 _ ?_
   |refine Kc _ hs ?_
   |refine EH _ ?_
  |((with_reducible refine bT [] [] [44] [] (λa:Xp ns (nd ns i) i=>[.i a.1]) (λ_=>zj ns nb (nd ns i)) (λa=>(nd ns i).kids.length-a.1.toNat) ⟨0,by omega,by omega,rfl⟩ (by kernel_rfl) ?_ ?_);(focus((with_reducible refine W.of ?_);(conv=>whnf);exact⟨rfl,rfl⟩));rintro⟨j,j0,j1,hj⟩;dsimp only)
  |((with_reducible refine aj (l:=(nd ns i).kids) (by omega) (λk hk=>?_)))
  |with_reducible refine LX _ ?_
  |((with_reducible refine bT [] [] [59] [] (λa:Xy ns (nd ns i)=>[.i a.1]) (λ_=>zj ns nb (nd ns i)) (λa=>(dv (nd ns i).kind).length-a.1.toNat) ⟨0,by omega,by omega,rfl⟩ (by kernel_rfl) ?_ ?_);(focus((with_reducible refine W.of ?_);(conv=>whnf);exact⟨rfl,rfl⟩));rintro⟨q,q0,q1,hq⟩;dsimp only;(have hb:=Ex hj ‹_›))
  |((with_reducible refine aj (l:=dv (nd ns i).kind) (by omega) (λs hsf=>?_)))
  |with_reducible refine NF ns nb (nd ns i) _ (Gm h1 hb) hkl (List.mem_of_getElem? hsf) ‹_› ?_
  |((with_reducible refine bt ?_ ?_);focus(simp[]<;>omega))
  |with_reducible refine SC.call ?_
  |((with_reducible refine bb (λh=>?_) (λh=>?_))<;>(try simp at h))
 all_goals(clear hK)
 all_goals first
  |(rw[he,Gp hk (by omega)];simp;done)
  |exact⟨⟨⟨j+1,by omega,by omega,po j0 hk (by omega) (by omega) hj⟩,ao j0 (by omega),rfl,rfl⟩,rfl⟩
  |(rw[he,hb,<-hq,C0 q0 hsf];simp[*];done)
  |exact⟨⟨⟨q+1,by omega,by omega,by rw[<-hq,C0 q0 hsf];simp[*]⟩,ao q0 (by omega),rfl,rfl⟩,rfl⟩
  |(rw[he,<-hq,List.drop_of_length_le (by omega)];simp;done)
  |(rw[he];clear he;simp[*];done)
  |(rw[he];clear he;simp[*];intros;omega)
end
section
set_option maxRecDepth 100000
set_option maxHeartbeats 4000000
open Go.Vv Go.Ee
variable{K:aR->SH->Prop}
def p8 (ns:List Nd):Option (List Int):=match ca ns with|none=>none|some l=>if eJ l then some l else none
abbrev Uy (o:Option (List Int)):aR:=.ret (.bR (match o with|none=>[.f (.p (.vs [] none true)),.f (.p (.bool false))]|some l=>[.f (.p (.vs (l.map aB) none false)),.f (.p (.bool true))]))
abbrev Xn (l:List Int):Type:={v:Int//0<=v/\v<=l.length/\(l.take v.toNat).all (λv=>decide (0<=v))=true}
theorem Ad {ns:List Nd} {j:Int} {l:List Int} (hj:cJ j.toNat (ns.drop j.toNat) l=ca ns) (h:(ns.length:Int)<=j):p8 ns=if eJ l then some l else none:=by
 unfold p8;rw[<-hj,List.drop_of_length_le (by omega)];rfl
theorem Ln {l:List Int} {v x:Int} (v0:0<=v) (h:v+1<l.length) (hx:l[v.toNat]?=some x) (hn:x<0):eJ l=false:=by
 unfold eJ
 rw[List.all_eq_false]
 refine⟨x,?_,by simpa using hn⟩
 obtain⟨h1,rfl⟩:=List.getElem?_eq_some_iff.1 hx
 rw[List.mem_take_iff_getElem]
 exact⟨v.toNat,by omega,rfl⟩
theorem Lm {l:List Int} {v x:Int} (v0:0<=v) (hx:l[v.toNat]?=some x) (h0:0<=x) (hv:(l.take v.toNat).all (λv=>decide (0<=v))=true):(l.take (v+1).toNat).all (λv=>decide (0<=v))=true:=by
 rw[show(v+1).toNat=v.toNat+1 by omega,List.take_add_one,hx,List.all_append,hv];simpa using h0
theorem Gf {l:List Int} {v:Int} (v1:v<=l.length) (h:(l.length:Int)<=v+1) (hv:(l.take v.toNat).all (λv=>decide (0<=v))=true):eJ l=true:=by
 unfold eJ
 rw[List.all_eq_true] at*
 exact λx hx=>hv x (List.mem_of_mem_take (i:=l.length-1) (by rwa [List.take_take,Nat.min_eq_left (by omega)]))
theorem Cb (ns:List Nd) (nb:Bool) (hl:ns.length<=1048576) (hin:∀i:Int,0<=i->i<(ns.length:Int)->(nd ns i).kids.length<=17592186044415/\∀k∈(nd ns i).kids,0<=k/\k<(ns.length:Int)) (hK:∀o,p8 ns=o->W (K (Uy o) H0)):SC Tryz.prog 162 [.agg [.p (.vs (ns.map aH) none nb)]] H0 K:=by
 refine aX [] [(18,[(4,none)])] [] Tryz.func162 rfl (by kernel_rfl) ?_
 repeat' first
  |((with_reducible refine W.of ?_);conv=>whnf)
  |with_reducible first
   |refine W.fin (K:=K) (hK none ?_) rfl rfl
   |refine W.fin (K:=K) (hK (some l) ?_) ?_ rfl
  |((with_reducible refine bt ?_ ?_);focus(simp[gZ]<;>omega))
  |with_reducible first
   |refine Bq ?_
   |refine dj ?_
   |refine bt eK ?_
  |((with_reducible refine bT [] [] [17] [] (λa:{i:Int//0<=i/\i<=ns.length}=>[.i a.1]) (λa=>MO ns nb (gJ ns.length a.1)) (λa=>ns.length-a.1.toNat) ⟨0,by omega,by omega⟩ (by kernel_rfl) ?_ ?_);(focus((with_reducible refine W.of ?_);(conv=>whnf);exact⟨rfl,rfl⟩));rintro⟨i,i0,i1⟩;dsimp only)
  |((with_reducible refine aj (l:=gJ ns.length i) (by simp;omega) (λx hx=>?_)))
  |((with_reducible refine bT [] [] [27] [] (λa:{p:Int×List Int//0<=p.1/\p.1<=ns.length/\p.2.length=ns.length/\cJ p.1.toNat (ns.drop p.1.toNat) p.2=ca ns}=>[.i a.1.1]) (λa=>MO ns nb a.1.2) (λa=>ns.length-a.1.1.toNat) ⟨(0,gJ ns.length i),by omega,by dsimp only;omega,by simp[gJ];omega,O5 h i1⟩ (by kernel_rfl) ?_ ?_);(focus((with_reducible refine W.of ?_);(conv=>whnf);exact⟨rfl,rfl⟩));rintro⟨⟨j,l⟩,j0,j1,jl,hj⟩;dsimp only;(dsimp only at j0 j1 jl hj))
  |((with_reducible refine aq j0 (by omega) ?_);(have hkl:=(hin j j0 (by omega)).1))
  |((with_reducible refine bT [] [] [35] [] (λa:{p:Int×List Int//0<=p.1/\p.1<=(nd ns j).kids.length/\p.2.length=ns.length/\xz ns j ((nd ns j).kids.drop p.1.toNat) p.2=ca ns}=>[.i a.1.1]) (λa=>Uz ns nb (nd ns j) a.1.2) (λa=>(nd ns j).kids.length-a.1.1.toNat) ⟨(0,l),by omega,by dsimp only;omega,jl,O6 j0 h hj⟩ (by kernel_rfl) ?_ ?_);(focus((with_reducible refine W.of ?_);(conv=>whnf);exact⟨rfl,rfl⟩));rintro⟨⟨q,l2⟩,q0,q1,ql,hq⟩;dsimp only;(dsimp only at q0 q1 ql hq))
  |((with_reducible refine aj (l:=(nd ns j).kids) (by omega) (λk hk=>?_));(have hkb:=(hin j j0 (by omega)).2 k (List.mem_of_getElem? hk)))
  |((with_reducible refine aj (l:=l2) (by omega) (λx hx=>?_)))
  |((with_reducible refine bT [] [] [10] [] (λa:Xn l=>[.i a.1]) (λ_=>⟨[(0,.cells [.p (.vs (ns.map aH) none nb)])],2⟩) (λa=>l.length-a.1.toNat) ⟨0,by omega,by omega,rfl⟩ (by kernel_rfl) ?_ ?_);(focus((with_reducible refine W.of ?_);(conv=>whnf);exact⟨rfl,rfl⟩));rintro⟨v,v0,v1,hv⟩;dsimp only)
  |((with_reducible refine aj (l:=l) (by omega) (λx hx=>?_)))
  |with_reducible refine SC.call ?_
  |((with_reducible refine bb (λh=>?_) (λh=>?_))<;>(try simp at h))
 all_goals(try clear hK hin)
 ·exact⟨⟨⟨i+1,by omega,by omega⟩,ao i0 (by omega),rfl,by rw[wM i0 h]⟩,rfl⟩
 ·unfold p8;rw[<-hq,xA q0 hk,if_pos];rw[hx];exact h
 ·rename_i y hy
  exact⟨⟨⟨(q+1,l2.set k.toNat j),(by dsimp only;omega),(by dsimp only;omega),by simpa using ql,by rw[<-hq,xA q0 hk,if_neg];rw[hy];show¬(0:Int)<=y;omega⟩,ao q0 (by omega),rfl,rfl⟩,rfl⟩
 ·exact⟨⟨⟨(j+1,l2),(by dsimp only;omega),(by dsimp only;omega),ql,by rw[<-hq,DK h,show(j+1).toNat=j.toNat+1 by omega]⟩,ao j0 (by omega),rfl,rfl⟩,rfl⟩
 ·rw[Ad hj ‹_›,Ln v0 ‹_› hx h];rfl
 ·exact⟨⟨⟨v+1,by omega,by omega,Lm v0 hx h hv⟩,ao v0 (by omega),rfl,rfl⟩,rfl⟩
 ·rw[Ad hj ‹_›,Gf v1 h hv];rfl
 ·rfl
end
section
set_option maxRecDepth 100000
set_option maxHeartbeats 4000000
open Go.Vv Go.Ee
variable{K:aR->SH->Prop}
abbrev GC (up:List Int):Int:=pC up (up.length-1) (List.replicate up.length 0) 0
structure Xr where
 i:Int
 l:List Int
 eo:Int
abbrev WG (up:List Int):Type:={p:Xr// -1<=p.i/\p.i<=(up.length:Int)-2/\p.l.length=up.length/\(∀v∈p.l,0<=v/\v<=up.length-2-p.i)/\pC up (p.i+1).toNat p.l p.eo=GC up}
def Vy (up:List Int) (h:1<=up.length):WG up:=⟨⟨((up.map aB).length:Int)-2,List.replicate up.length 0,0⟩,by dsimp only;simp;omega,by dsimp only;simp,by simp,λv hv=>by have:=List.eq_of_mem_replicate hv;dsimp only;simp;omega,by dsimp only;rw[List.length_map,show((up.length:Int)-2+1).toNat=up.length-1 by omega]⟩
theorem Dc {up l:List Int} {i eo u x:Int} (i0:0<=i) (hu:up[i.toNat]?=some u) (hx:l[u.toNat]?=some x) (hi:i.toNat<l.length):pC up (i+1).toNat l eo=pC up i.toNat (l.set i.toNat (x+1)) (if x+1>eo then x+1 else eo):=by
 rw[show(i+1).toNat=i.toNat+1 by omega,pC]
 simp only[cN,hu,hx,Option.getD_some,List.getElem?_set_self hi]
theorem Sk {l:List Int} {i:Nat} {v:Int} (h:i<l.length):((l.set i v).map aB)[i]?=some (aB v):=bE (List.getElem?_set_self h)
theorem PT (ns:List Nd) (nb:Bool) (up:List Int) (c0:Option Nat) (n0:Bool) (h1:1<=up.length) (hl:up.length<=1048576) (hb:∀v∈up,v<up.length) (ha:eJ up=true) (hK:W (K (.ret (.i (GC up))) H0)):SC Tryz.prog 163 [.agg [.p (.vs (ns.map aH) none nb)],.f (.p (.vs (up.map aB) c0 n0))] H0 K:=by
 have hu0:∀i u:Int,0<=i->i<=(up.length:Int)-2->up[i.toNat]?=some u->0<=u:=λi u i0 i1 hu=>by
  have:=List.all_eq_true.1 ha u (List.mem_take_iff_getElem.2 ⟨i.toNat,by omega,by obtain⟨h,e⟩:=List.getElem?_eq_some_iff.1 hu;exact e⟩)
  simpa using this
 refine aX [] [] [] Tryz.func163 rfl (by kernel_rfl) ?_
 repeat' first
  |((with_reducible refine W.of ?_);conv=>whnf)
  |with_reducible refine W.fin (K:=K) hK ?_ rfl
  |((with_reducible refine bt ?_ ?_);focus(simp[gZ]<;>omega))
  |with_reducible first
   |refine O7 ?_
   |refine dj ?_
  |((with_reducible refine bT [] [] [5,7] [] (λa:WG up=>[.i a.1.eo,.i a.1.i]) (λa=>⟨[(1,.arr 1 (a.1.l.map aB) false),(0,.cells [.p (.vs (ns.map aH) none nb)])],2⟩) (λa=>(a.1.i+1).toNat) (Vy up h1) (by kernel_rfl) ?_ ?_);(focus((with_reducible refine W.of ?_);(conv=>whnf);exact⟨rfl,rfl⟩));rintro⟨⟨i,l,eo⟩,i0,i1,il,iv,hi⟩;dsimp only;(dsimp only at i0 i1 il iv hi))
  |with_reducible refine on _ (Sk (by omega)) ?_
  |((with_reducible refine aj (l:=up) (by omega) (λu hu=>?_));(have hub:=hb u (List.mem_of_getElem? hu));(have hua:=hu0 i u (by omega) i1 hu))
  |((with_reducible refine aj (l:=l) (by omega) (λx hx=>?_));(have hxb:=iv x (List.mem_of_getElem? hx)))
  |((with_reducible refine bb (λh=>?_) (λh=>?_))<;>(try simp at h))
 all_goals(try clear hK)
 ·rename_i h0 y hy hyb
  refine⟨⟨⟨⟨i-1,l.set i.toNat (y+1),y+1⟩,(by dsimp only;omega),(by dsimp only;omega),by simpa using il,λv hv=>?_,by rw[<-hi,Dc h0 hu hy (by omega),show(i-1+1).toNat=i.toNat by omega,if_pos (by omega)]⟩,(by dsimp only;omega),rfl,rfl⟩,rfl⟩
  rcases List.mem_or_eq_of_mem_set hv with hv|hv
  ·have:=iv v hv;dsimp only;omega
  ·dsimp only;omega
 ·rename_i h0 y hy hyb
  refine⟨⟨⟨⟨i-1,l.set i.toNat (y+1),eo⟩,(by dsimp only;omega),(by dsimp only;omega),by simpa using il,λv hv=>?_,by rw[<-hi,Dc h0 hu hy (by omega),show(i-1+1).toNat=i.toNat by omega,if_neg (by omega)]⟩,(by dsimp only;omega),rfl,rfl⟩,rfl⟩
  rcases List.mem_or_eq_of_mem_set hv with hv|hv
  ·have:=iv v hv;dsimp only;omega
  ·dsimp only;omega
 ·rw[<-hi,show(i+1).toNat=0 by omega];rfl
abbrev mq (ns:List Nd) (l:List (Nd×Nat)):Bool:=l.all λp=>jz ns p.2 p.1
theorem xK {ns:List Nd} (h:(ns.length:Int)<1\/(20000:Int)<ns.length):fE ns=false:=by
 unfold fE
 rcases h with h|h
 ·rw[decide_eq_false (by omega)];rfl
 ·rw[show decide (ns.length<=20000)=false from decide_eq_false (by omega)];simp
theorem Ar {ns:List Nd} (h1:(1:Int)<=ns.length) (h:¬(nd ns ((ns.length:Int)-1)).kind=1):fE ns=false:=by
 unfold fE
 rw[show ns[ns.length-1]?=some (nd ns ((ns.length:Int)-1)) by rw[<-kK (by omega) (by omega),show((ns.length:Int)-1).toNat=ns.length-1 by omega],Option.map_some,show(some (nd ns ((ns.length:Int)-1)).kind==some 1)=false by simpa using h]
 simp
theorem Cc {ns:List Nd} (h:mq ns ns.zipIdx=false):fE ns=false:=by
 unfold fE;rw[show ns.zipIdx.all _=false from h];simp
theorem DQ {ns:List Nd} {i:Int} (h0:0<=i) (h:i<(ns.length:Int)):mq ns (ns.zipIdx.drop i.toNat)=(jz ns i.toNat (nd ns i)&&mq ns (ns.zipIdx.drop (i+1).toNat)):=by
 have h1:i.toNat<ns.zipIdx.length:=by simp;omega
 rw[List.drop_eq_getElem_cons h1,mq,List.all_cons,show(i+1).toNat=i.toNat+1 by omega]
 have h2:i.toNat<ns.length:=by omega
 simp[nd,h2]
theorem Nz {ns:List Nd} (hkl:∀x∈ns,x.kids.length<=17592186044415) (h:mq ns ns.zipIdx=true) (i:Int) (h0:0<=i) (h1:i<(ns.length:Int)):(nd ns i).kids.length<=17592186044415/\∀k∈(nd ns i).kids,0<=k/\k<(ns.length:Int):=by
 have hm:=kK h0 h1
 refine⟨hkl _ (List.mem_of_getElem? hm),λk hk=>?_⟩
 have:=Ap ((List.all_eq_true.1 h) (nd ns i,i.toNat) (List.mem_zipIdx_iff_getElem?.2 hm)) k hk
 omega
theorem tZ {ns:List Nd} (h1:(1:Int)<=ns.length) (h2:(ns.length:Int)<=20000) (hk:(nd ns ((ns.length:Int)-1)).kind=1) (h:mq ns ns.zipIdx=true):fE ns=(match p8 ns with|none=>false|some o=>decide (GC o<=400)):=by
 unfold fE p8
 rw[show ns[ns.length-1]?=some (nd ns ((ns.length:Int)-1)) by rw[<-kK (by omega) (by omega),show((ns.length:Int)-1).toNat=ns.length-1 by omega],Option.map_some,hk,show ns.zipIdx.all _=true from h,decide_eq_true (by omega),decide_eq_true (by omega)]
 cases ca ns with
 |none=>rfl
 |some o=>cases h:eJ o<;>simp[h]
theorem RA {ns:List Nd} {o:List Int} (h1:(1:Int)<=ns.length) (h2:(ns.length:Int)<=20000) (h:p8 ns=some o):1<=o.length/\o.length<=1048576/\(∀v∈o,v<o.length)/\eJ o=true:=by
 unfold p8 at h
 split at h
 ·cases h
 ·rename_i l hp
  split at h
  ·cases h
   obtain⟨a1,a2⟩:=gk (by omega) hp
   exact⟨by omega,by omega,λv hv=>by have:=(a2 v hv).2;omega,‹_›⟩
  ·cases h
theorem Ny {ns:List Nd} {i:Int} (hi:mq ns (ns.zipIdx.drop i.toNat)=mq ns ns.zipIdx) (h:(ns.length:Int)<=i):mq ns ns.zipIdx=true:=by
 rw[<-hi,List.drop_of_length_le (by rw[List.length_zipIdx];omega)];rfl
theorem NG (ns:List Nd) (nb:Bool) (hb:(ns.length:Int)<=9223372036854775807) (hkl:∀x∈ns,x.kids.length<=17592186044415) (hnl:∀x∈ns,x.name.length<4294967281) (hK:KB K (fE ns)):SC Tryz.prog 101 [.agg [.p (.vs (ns.map aH) none nb)]] H0 K:=by
 refine aX [] [] [] Tryz.func101 rfl (by kernel_rfl) ?_
 repeat' first
  |((with_reducible refine W.of ?_);conv=>whnf)
  |with_reducible refine W.fin (K:=K) hK ?_ rfl
  |((with_reducible refine bt ?_ ?_);focus(simp[]<;>omega))
  |with_reducible refine sG (by omega) ?_
  |((with_reducible refine bT [] [] [29] [] (λa:So ns.length λi=>mq ns (ns.zipIdx.drop i.toNat)=mq ns ns.zipIdx=>[.i a.1]) (λ_=>⟨[(0,.cells [.p (.vs (ns.map aH) none nb)])],1⟩) (λa=>ns.length-a.1.toNat) ⟨0,by omega,by omega,rfl⟩ (by kernel_rfl) ?_ ?_);(focus((with_reducible refine W.of ?_);(conv=>whnf);exact⟨rfl,rfl⟩));rintro⟨i,i0,i1,hi⟩;dsimp only)
  |with_reducible refine NK ns nb i i0 (by omega) (hkl _ (cB i0 (by omega))) (hnl _ (cB i0 (by omega))) ?_
  |((have hall:=Ny hi (by omega));(with_reducible refine Cb ns nb (by omega) (Nz hkl hall) (λo ho=>?_));(cases o))
  |((obtain⟨m1,m2,m3,m4⟩:=RA (by omega) (by omega) ‹p8 ns=some _›);(with_reducible refine PT ns nb _ _ _ m1 m2 m3 m4 ?_))
  |with_reducible refine SC.call ?_
  |((with_reducible refine bb (λh=>?_) (λh=>?_))<;>(try simp at h))
 all_goals(try clear hK)
 all_goals first
  |(rw[xK (by omega)];done)
  |(rw[Ar (by omega) h];done)
  |(rw[Cc (by rw[<-hi,DQ i0 (by omega),h];rfl)];done)
  |exact⟨⟨⟨i+1,by omega,by omega,by rw[<-hi,DQ i0 (by omega),h];rfl⟩,ao i0 (by omega),rfl,rfl⟩,rfl⟩
  |(rw[tZ (by omega) (by omega) ‹_› hall,ho];done)
  |(rw[tZ (by omega) (by omega) ‹_› hall,ho];rfl)
  |skip
end
end Go.Proofs.YtdjkoddnnogejaaGreat
