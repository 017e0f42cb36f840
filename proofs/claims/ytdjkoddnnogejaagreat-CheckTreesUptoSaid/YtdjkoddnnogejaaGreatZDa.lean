/- Part of the proof of CheckTrees: plain laws and steps of its walks, for all arguments. -/
import Derived.Test.YtdjkoddnnogejaaGreatZBf
set_option linter.unusedSimpArgs false
set_option linter.unusedVariables false
set_option linter.unusedSectionVars false
namespace Go.Proofs.YtdjkoddnnogejaaGreat
section
set_option maxRecDepth 100000
set_option maxHeartbeats 4000000
open Go.Vv Go.Ee
variable{K:aR->SH->Prop}
theorem Db {l:List ah} {s x:ah} {i:Int} (h0:0<=i) (hx:l[i.toNat]?=some x):(l.drop i.toNat).contains s=(s==x||(l.drop (i+1).toNat).contains s):=by
 obtain⟨h1,rfl⟩:=List.getElem?_eq_some_iff.1 hx
 rw[List.drop_eq_getElem_cons h1,List.contains_cons,show(i+1).toNat=i.toNat+1 by omega]
theorem NQ (s:ah) (hK:KB K (Em s)):SC Tryz.prog 241 [.s s] H0 K:=by
 refine aX [] [] [] Tryz.func241 rfl (by kernel_rfl) ?_
 repeat' first
  |((with_reducible refine W.of ?_);conv=>whnf)
  |with_reducible refine W.fin (K:=K) hK ?_ rfl
  |((with_reducible refine bt ?_ ?_);focus(simp[]<;>omega))
  |((with_reducible refine bT [] [] [7] [] (λa:So 17 λi=>(words.drop i.toNat).contains s=words.contains s=>[.i a.1]) (λ_=>H0) (λa=>17-a.1.toNat) ⟨0,by omega,by omega,rfl⟩ (by kernel_rfl) ?_ ?_);(focus((with_reducible refine W.of ?_);(conv=>whnf);exact⟨rfl,rfl⟩));rintro⟨i,i0,i1,hi⟩;dsimp only)
  |(refine aj (f:=bL) (l:=words) (show i.toNat<17 by simp at*;omega) (λx hx=>?_))
  |((with_reducible refine bb (λh=>?_) (λh=>?_))<;>(try simp at h))
 all_goals(clear hK)
 ·show _=aR.ret (EV.b (words.contains s));rw[<-hi,Db i0 hx,h];simp
 ·exact⟨⟨⟨i+1,by omega,by omega,by rw[<-hi,Db i0 hx,show(s==x)=false by simpa using h,Bool.false_or]⟩,by show 17-(i+1).toNat<17-i.toNat;omega,rfl,rfl⟩,rfl⟩
 ·have i2:i=17:=by omega
  subst i2;show _=aR.ret (EV.b (words.contains s));rw[<-hi];rfl
theorem Wl {s:ah} {c:UInt8} (hc:s[Int.toNat 0]?=some c) (h:jU c.toNat=false):gq s=false:=by
 cases s with
 |nil=>simp at hc
 |cons a l=>
  have:a=c:=by simpa using hc
  subst this
  simp only[gq,List.getElem?_cons_zero,List.all_cons,Ij,h,Bool.false_or]
  cases kg a.toNat<;>simp
theorem Wm {s:ah} {c:UInt8} (h0:¬s=[]) (h1:¬s=[95]) (hc:s[Int.toNat 0]?=some c) (h:jU c.toNat=true) (ha:s.all Ij=true):gq s=true:=by
 cases s with
 |nil=>simp at hc
 |cons a l=>
  have:a=c:=by simpa using hc
  subst this
  have hd:kg a.toNat=false:=by
   cases e:kg a.toNat with
   |false=>rfl
   |true=>
    simp[kg] at e
    simp[jU] at h
    omega
  simp only[gq,List.getElem?_cons_zero,hd,ha]
  simp at h1⊢
  by_cases e:a=95
  ·exact .inr (h1 e)
  ·exact .inl e
theorem Kh (s:ah) (hl:s.length<=9223372036854775807) (hK:KB K (gq s)):SC Tryz.prog 309 [.s s] H0 K:=by
 refine aX [] [] [] Tryz.func309 rfl (by kernel_rfl) ?_
 repeat' first
  |((with_reducible refine W.of ?_);conv=>whnf)
  |with_reducible first
   |refine W.fin (K:=K) hK ?_ rfl
   |refine JV _ ?_
   |refine Fy _ ?_
  |((with_reducible refine bT [] [] [3] [] (λa:So s.length λi=>(s.drop i.toNat).all Ij=s.all Ij=>[.i a.1]) (λ_=>H0) (λa=>s.length-a.1.toNat) ⟨0,by omega,by omega,rfl⟩ (by kernel_rfl) ?_ ?_);(focus((with_reducible refine W.of ?_);(conv=>whnf);exact⟨rfl,rfl⟩));rintro⟨i,i0,i1,hi⟩;dsimp only)
  |with_reducible first
   |refine on _ hc ?_
   |refine vN (by first|omega|(rcases s with _|⟨a,l⟩<;>first|contradiction|(rw[List.length_cons];simp))) (λc hc=>?_)
  |((with_reducible refine bt ?_ ?_);focus(simp[]<;>omega))
  |((with_reducible refine bb (λh=>?_) (λh=>?_))<;>(try simp at h))
 all_goals(clear hK)
 all_goals first
  |(refine⟨⟨⟨i+1,by omega,by omega,?_⟩,ao i0 (by omega),rfl,rfl⟩,rfl⟩;rw[<-hi,qx i0 hc];simp_all[Ij];done)
  |(simp_all[gq];done)
  |(rw[qx i0 hc] at hi;simp_all[gq,Ij];done)
  |(rw[wv (by omega)] at hi;simp_all[gq];done)
  |exact congrArg (λb=>aR.ret (EV.b b)) (Wl hc ‹_›).symm
  |(rw[wv (by omega)] at hi;exact congrArg (λb=>aR.ret (EV.b b)) (Wm ‹_› ‹_› hc ‹_› hi.symm).symm)
theorem DX (s:ah) (hl:s.length<=9223372036854775807) (hK:KB K (fq s)):SC Tryz.prog 280 [.s s] H0 K:=by
 refine aX [] [] [] Tryz.func280 rfl (by kernel_rfl) ?_
 repeat' first
  |((with_reducible refine W.of ?_);conv=>whnf)
  |with_reducible first
   |refine W.fin (K:=K) hK ?_ rfl
   |refine Kh _ hl ?_
   |refine NQ _ ?_
  |((with_reducible refine bb (λh=>?_) (λh=>?_))<;>(try simp at h))
 all_goals(clear hK;grind [fq])
end
section
set_option maxRecDepth 100000
set_option maxHeartbeats 4000000
open Go.Vv Go.Ee
variable{K:aR->SH->Prop}
theorem NN (s:ah) (hK:∀v,decide (0<v)=rJ s->W (K (.ret (.i v)) H0)):SC Tryz.prog 282 [.s s] H0 K:=by
 refine aX [] [] [] Tryz.func282 rfl (by kernel_rfl) ?_
 repeat' first
  |((with_reducible refine W.of ?_);conv=>whnf)
  |with_reducible refine W.fin (K:=K) (hK _ ?_) rfl rfl
  |((with_reducible refine bb (λh=>?_) (λh=>?_))<;>(try simp at h))
 all_goals(clear hK;simp_all[rJ,rK])
def DL (s:ah) (i:Nat):Bool:=match nY (s.drop i) with|some j=>fq (s.take (i+j))&&fq (s.drop (i+j+2))|none=>false
theorem UA (s:ah):DL s 0=gl s:=by unfold DL gl;rw[List.drop_zero];cases nY s<;>simp
theorem UB (s:ah):DL s (Int.toNat 0)=gl s:=UA s
theorem DM {s:ah} {i:Nat} (h:i+1<s.length):∃c d r,s.drop i=c::d::r/\s.drop (i+1)=d::r/\(s.take (i+2)).drop i=[c,d]:=by
 have h0:i<s.length:=by omega
 refine⟨s[i],s[i+1],s.drop (i+2),?_,?_,?_⟩
 ·rw[List.drop_eq_getElem_cons h0,List.drop_eq_getElem_cons h]
 ·rw[List.drop_eq_getElem_cons h]
 ·rw[List.drop_take,List.drop_eq_getElem_cons h0,List.drop_eq_getElem_cons h,show i+2-i=2 by omega];rfl
theorem RE {s:ah} {i:Nat} (h:i+1<s.length) (e:(s.take (i+2)).drop i=[58,58]):DL s i=(fq (s.take i)&&fq (s.drop (i+2))):=by
 obtain⟨c,d,r,e1,e2,e3⟩:=DM h
 rw[e3] at e
 cases e
 unfold DL;rw[e1];simp[nY]
theorem UC {s:ah} {i:Nat} (h:i+1<s.length) (e:¬(s.take (i+2)).drop i=[58,58]):DL s i=DL s (i+1):=by
 obtain⟨c,d,r,e1,e2,e3⟩:=DM h
 rw[e3] at e
 unfold DL;rw[e1,e2,nY,if_neg (by simpa using e)]
 cases nY (d::r) with
 |none=>rfl
 |some j=>simp only[Option.map_some];rw[show i+(j+1)=i+1+j by omega]
theorem RD {s:ah} {i:Nat} (h:s.length<=i+1):DL s i=false:=by
 unfold DL;rw[A9 (by rw[List.length_drop];omega)]
theorem MQ {s:ah} {i:Int} (i0:0<=i) (h:i+1<(s.length:Int)) (e:(s.take (i+2).toNat).drop i.toNat=[58,58]):DL s i.toNat=(fq (s.take i.toNat)&&fq (s.drop (i+2).toNat)):=by
 rw[show(i+2).toNat=i.toNat+2 by omega] at*;exact RE (by omega) e
theorem Is {s:ah} {i:Int} (i0:0<=i) (h:i+1<(s.length:Int)) (e:¬(s.take (i+2).toNat).drop i.toNat=[58,58]):DL s (i+1).toNat=DL s i.toNat:=by
 rw[show(i+2).toNat=i.toNat+2 by omega] at e;rw[show(i+1).toNat=i.toNat+1 by omega,UC (by omega) e]
theorem Ir (s:ah) (hl:s.length<=9223372036854775805) (hK:KB K (gl s)):SC Tryz.prog 281 [.s s] H0 K:=by
 refine aX [] [] [] Tryz.func281 rfl (by kernel_rfl) ?_
 repeat' first
  |((with_reducible refine W.of ?_);conv=>whnf)
  |with_reducible refine W.fin (K:=K) hK ?_ rfl
  |((with_reducible refine bt ?_ ?_);focus(simp[]<;>omega))
  |((with_reducible refine bT [] [] [3] [] (λa:So s.length λi=>DL s i.toNat=gl s=>[.i a.1]) (λ_=>H0) (λa=>s.length-a.1.toNat) ⟨0,by omega,by omega,UB s⟩ (by kernel_rfl) ?_ ?_);(focus((with_reducible refine W.of ?_);(conv=>whnf);exact⟨rfl,rfl⟩));rintro⟨i,i0,i1,hi⟩;dsimp only)
  |with_reducible first
   |refine DX _ (by simp;omega) ?_
   |refine SC.call ?_
  |((with_reducible refine bb (λh=>?_) (λh=>?_))<;>(try simp at h))
 all_goals(clear hK)
 all_goals first
  |(rw[<-hi,MQ i0 ‹_› ‹_›];simp[*];done)
  |exact⟨⟨⟨i+1,by omega,by omega,by rw[Is i0 ‹_› ‹_›,hi]⟩,ao i0 (by omega),rfl,rfl⟩,rfl⟩
  |(rw[<-hi,RD (by omega)];done)
  |(have e1:=Is i0 ‹_› ‹_›;rw[hi] at e1;have i3:i<(s.length:Int):=(by omega);exact⟨⟨⟨i+1,by omega,by omega,e1⟩,ao i0 i3,rfl,rfl⟩,rfl⟩)
theorem Kc (x:Nd) (hs:x.name.length<4294967281) (hK:KB K (fm x.kind x.name)):SC Tryz.prog 231 [kL x] H0 K:=by
 refine aX [] [] [] Tryz.func231 rfl (by kernel_rfl) ?_
 repeat' first
  |((with_reducible refine W.of ?_);conv=>whnf)
  |with_reducible first
   |refine W.fin (K:=K) hK ?_ rfl
   |refine DX _ (by omega) ?_
   |refine Ir _ (by omega) ?_
   |refine NN _ (λv hv=>?_)
   |refine SC.call ?_
  |((with_reducible refine bb (λh=>?_) (λh=>?_))<;>(try simp at h))
 all_goals clear hK
 all_goals(try rw[show(0:Int)<0↔False by simp] at*)
 all_goals(simp[fm, *];done)
end
section
set_option maxRecDepth 100000
set_option maxHeartbeats 4000000
open Go.Vv Go.Ee
variable{K:aR->SH->Prop}
theorem LX (x:Nd) (hK:W (K (.ret (.f (.p (.vs ((dv x.kind).map bL) (some (dv x.kind).length) false)))) H0)):SC Tryz.prog 233 [kL x] H0 K:=by
 refine aX [] [] [] Tryz.func233 rfl (by kernel_rfl) ?_
 repeat' first
  |((with_reducible refine W.of ?_);conv=>whnf)
  |with_reducible refine W.fin (K:=K) hK ?_ rfl
  |((with_reducible refine bb (λh=>?_) (λh=>?_))<;>(try simp at h))
 all_goals(clear hK;simp_all[dv,bL])
abbrev Lk (ns:List Nd) (x:Nd):Prop:=∀k∈x.kids,0<=k/\k<(ns.length:Int)
def pQ (ns:List Nd) (x:Nd) (i:Int):Int:=((bF ns x)[i.toNat]?).getD 0
theorem Mc {ns:List Nd} {x:Nd} {i k:Int} (h:x.kids[i.toNat]?=some k):pQ ns x i=(nd ns k).kind:=by
 unfold pQ bF;rw[List.getElem?_map,h];exact vH ns k
theorem zS (ns:List Nd) (nb:Bool) (x:Nd) (i:Int) (hin:Lk ns x) (i0:0<=i) (i1:i<x.kids.length) (hK:W (K (.ret (.i (pQ ns x i))) H0)):SC Tryz.prog 284 [.agg [.p (.vs (ns.map aH) none nb)],kL x,.i i] H0 K:=by
 refine aX [] [] [] Tryz.func284 rfl (by kernel_rfl) ?_
 repeat' first
  |((with_reducible refine W.of ?_);conv=>whnf)
  |with_reducible first
   |refine W.fin (K:=K) hK ?_ rfl
   |refine W.and (by kernel_rfl) ?_
  |((with_reducible refine aj (l:=x.kids) (by omega) (λk hk=>?_));(have hkk:=hin k (List.mem_of_getElem? hk)))
  |with_reducible refine aq (n:=k) (by omega) (by omega) ?_
  |((with_reducible refine bt ?_ ?_);focus(simp[]<;>omega))
 rw[Mc hk]
theorem Lo {f:Int->Bool} {l:List Int} {i:Int} (i0:0<=i) (hi:i<l.length) (h:(l.take i.toNat).all f=true) (hf:f ((l[i.toNat]?).getD 0)=true):(l.take (i+1).toNat).all f=true:=by
 rw[show(i+1).toNat=i.toNat+1 by omega,List.take_add_one,List.all_append,h]
 have:i.toNat<l.length:=by omega
 simpa[this] using hf
theorem Lp {f:Int->Bool} {l:List Int} {i:Int} {m:Nat} (hm:i.toNat<m) (hi:i.toNat<l.length) (hf:f ((l[i.toNat]?).getD 0)=false):(l.take m).all f=false:=by
 rw[List.all_eq_false]
 refine⟨l[i.toNat],?_,by simpa[hi] using hf⟩
 rw[List.mem_take_iff_getElem]
 exact⟨i.toNat,by omega,rfl⟩
def N6 (ns:List Nd) (x:Nd) (c i:Int):Bool:=((bF ns x).take i.toNat).all λk=>dp k c
theorem KJ {ns:List Nd} {x:Nd} {c i:Int} (i0:0<=i) (hi:i<x.kids.length) (h:N6 ns x c i=true) (hf:dp (pQ ns x i) c=true):N6 ns x c (i+1)=true:=Lo i0 (by rw[List.length_map];exact hi) h hf
theorem KK {ns:List Nd} {x:Nd} {c i m:Int} (i0:0<=i) (hm:i<m) (hi:i<x.kids.length) (hf:dp (pQ ns x i) c=false):N6 ns x c m=false:=Lp (by omega) (by rw[List.length_map];omega) hf
theorem RS {ns:List Nd} {x:Nd}:Aj x.num (bF ns x)=(decide (2<=(x.kids.length:Int))&&decide (x.num=(x.kids.length:Int)-2)&&dp (pQ ns x ((x.kids.length:Int)-2)) 84&&dp (pQ ns x ((x.kids.length:Int)-1)) 66&&N6 ns x 77 ((x.kids.length:Int)-2)):=by
 have hl:(bF ns x).length=x.kids.length:=by rw[List.length_map]
 unfold Aj pQ N6
 rw[hl]
 by_cases h:2<=x.kids.length
 ·rw[show((x.kids.length:Int)-2).toNat=x.kids.length-2 by omega,show((x.kids.length:Int)-1).toNat=x.kids.length-1 by omega]
  congr 4
  ·congr 1
   simp;omega
 ·simp[h];omega
theorem Fp {ns:List Nd} {x:Nd} (h:x.num=0\/x.num=1):gm x.num (bF ns x)=(!(decide (x.num=1)&&(decide ((x.kids.length:Int)=0)||!dp (pQ ns x ((x.kids.length:Int)-1)) 69))&&N6 ns x 83 ((x.kids.length:Int)-x.num)):=by
 have hl:(bF ns x).length=x.kids.length:=by rw[List.length_map]
 unfold gm pQ N6
 rw[hl,show((x.kids.length:Int)-x.num).toNat=x.kids.length-x.num.toNat by omega,show((x.kids.length:Int)-1).toNat=x.kids.length-1 by omega]
 congr 5
 rw[Bool.eq_iff_iff];simp
abbrev Xv (ns:List Nd) (x:Nd) (c m:Int):Type:={i:Int//0<=i/\i<=(x.kids.length:Int)-m/\N6 ns x c i=true}
abbrev zj (ns:List Nd) (nb:Bool) (x:Nd):SH:=⟨[(1,b8 x),(0,.cells [.p (.vs (ns.map aH) none nb)])],2⟩
theorem UH (ns:List Nd) (nb:Bool) (x:Nd) (hin:Lk ns x) (hl:x.kids.length<=17592186044415) (hK:KB K (Aj x.num (bF ns x))):SC Tryz.prog 234 [.agg [.p (.vs (ns.map aH) none nb)],kL x,.s [102,110]] H0 K:=by
 have he:=RS (ns:=ns) (x:=x)
 refine aX [(28,[(0,[]),(1,[]),(2,[]),(4,[]),(5,[]),(6,[]),(7,[]),(3,[]),(8,[]),(9,[])]),(31,[(0,[]),(1,[]),(2,[]),(3,[]),(4,[]),(5,[]),(6,[]),(8,[]),(9,[]),(10,[]),(7,[]),(11,[]),(12,[]),(13,[])])] [] [] Tryz.func234 rfl (by kernel_rfl) ?_
 repeat' first
  |((with_reducible refine W.of ?_);conv=>whnf)
  |with_reducible first
   |refine W.fin (K:=K) hK ?_ rfl
   |refine zS ns nb x _ hin (by simp only[List.length_map];omega) (by simp only[List.length_map];omega) ?_
   |refine zS ns nb x _ hin (by omega) (by omega) ?_
   |refine J6 _ _ ?_
  |((with_reducible refine bT [] [] [8] [] (λa:Xv ns x 77 2=>[.i a.1]) (λ_=>zj ns nb x) (λa=>x.kids.length-a.1.toNat) ⟨0,by omega,by omega,rfl⟩ (by kernel_rfl) ?_ ?_);(focus((with_reducible refine W.of ?_);(conv=>whnf);exact⟨rfl,rfl⟩));rintro⟨i,i0,i1,hi⟩;dsimp only)
  |((with_reducible refine bt ?_ ?_);focus(simp[]<;>omega))
  |with_reducible refine SC.call ?_
  |((with_reducible refine bb (λh=>?_) (λh=>?_))<;>(try simp at h))
 all_goals(clear hK)
 all_goals first
  |(rw[he,KK (i:=i) i0 ‹_› (by omega) ‹_›];simp;done)
  |exact⟨⟨⟨i+1,by omega,by omega,KJ i0 (by omega) hi ‹_›⟩,ao i0 (by omega),rfl,rfl⟩,rfl⟩
  |(obtain rfl:i=_:=Int.le_antisymm i1 ‹_›;rw[he,hi];simp_all;done)
  |(rw[he];simp_all;done)
  |(rw[he];simp_all;intros;omega)
abbrev Xo (ns:List Nd) (x:Nd) (m:Int):Type:={i:Int//0<=i/\i<=(x.kids.length:Int)-m/\N6 ns x 83 i=true}
theorem JS (ns:List Nd) (nb:Bool) (x:Nd) (hin:Lk ns x) (hl:x.kids.length<=17592186044415) (hnum:x.num=0\/x.num=1) (hK:KB K (gm x.num (bF ns x))):SC Tryz.prog 234 [.agg [.p (.vs (ns.map aH) none nb)],kL x,.s [98,108,111,99,107]] H0 K:=by
 have he:=Fp (ns:=ns) (x:=x) hnum
 refine aX [(28,[(0,[]),(1,[]),(2,[]),(4,[]),(5,[]),(6,[]),(7,[]),(3,[]),(8,[]),(9,[])]),(31,[(0,[]),(1,[]),(2,[]),(3,[]),(4,[]),(5,[]),(6,[]),(8,[]),(9,[]),(10,[]),(7,[]),(11,[]),(12,[]),(13,[])])] [] [] Tryz.func234 rfl (by kernel_rfl) ?_
 repeat' first
  |((with_reducible refine W.of ?_);conv=>whnf)
  |with_reducible first
   |refine W.fin (K:=K) hK ?_ rfl
   |refine zS ns nb x _ hin (by simp only[List.length_map];have:=List.length_pos_iff.2 ‹_›;omega) (by simp only[List.length_map];omega) ?_
   |refine zS ns nb x _ hin (by omega) (by omega) ?_
   |refine J6 _ _ ?_
  |((with_reducible refine bT [] [] [9] [] (λa:Xo ns x x.num=>[.i a.1]) (λ_=>zj ns nb x) (λa=>x.kids.length-a.1.toNat) ⟨0,by omega,(by first|omega|(have:=List.length_pos_iff.2 ‹_›;omega)),rfl⟩ (by kernel_rfl) ?_ ?_);(focus((with_reducible refine W.of ?_);(conv=>whnf);exact⟨rfl,rfl⟩));rintro⟨i,i0,i1,hi⟩;dsimp only)
  |((with_reducible refine bt ?_ ?_);focus(simp[]<;>omega))
  |with_reducible refine SC.call ?_
  |((with_reducible refine bb (λh=>?_) (λh=>?_))<;>(try simp at h))
 all_goals(clear hK)
 all_goals first
  |(rw[he,KK (i:=i) i0 ‹_› (by omega) ‹_›];simp;done)
  |exact⟨⟨⟨i+1,by omega,by omega,KJ i0 (by omega) hi ‹_›⟩,ao i0 (by omega),rfl,rfl⟩,rfl⟩
  |(obtain rfl:i=_:=Int.le_antisymm i1 ‹_›;rw[he,hi];simp_all;done)
  |(rw[he];simp_all;done)
  |(rw[he];simp_all;intros;omega)
def It (ns:List Nd) (x:Nd) (s:ah) (a:Int):Bool:=aQ (s.drop a.toNat) ((bF ns x).drop a.toNat)
def Pb (ns:List Nd) (x:Nd) (c a:Int):Bool:=((bF ns x).drop a.toNat).all λk=>dp k c
theorem Dd {ns:List Nd} {x:Nd} {a:Int} (a0:0<=a) (h:a<x.kids.length):(bF ns x).drop a.toNat=pQ ns x a::(bF ns x).drop (a+1).toNat:=by
 have hl:a.toNat<(bF ns x).length:=by rw[List.length_map];omega
 rw[List.drop_eq_getElem_cons hl,show(a+1).toNat=a.toNat+1 by omega];unfold pQ;rw[List.getElem?_eq_getElem hl];rfl
theorem Bf {α:Type} {l:List α} {a:Int} {c:α} (a0:0<=a) (h:l[a.toNat]?=some c):l.drop a.toNat=c::l.drop (a+1).toNat:=by
 obtain⟨h1,h2⟩:=List.getElem?_eq_some_iff.1 h
 rw[List.drop_eq_getElem_cons h1,h2,show(a+1).toNat=a.toNat+1 by omega]
theorem nv {s:ah} {a:Int} {c:UInt8} (a0:0<=a) (h:s[a.toNat]?=some c):s.drop a.toNat=c::s.drop (a+1).toNat:=Bf a0 h
theorem WV {c:UInt8} (h:(c.toNat:Int)=42):c=42:=UInt8.toNat_inj.1 (by simpa using Int.ofNat.inj h)
theorem VY {c:UInt8} (h:¬(c.toNat:Int)=42):c≠42:=λe=>h (by rw[e];rfl)
theorem Iv {ns:List Nd} {x:Nd} {s:ah} {a:Int} {c d:UInt8} (a0:0<=a) (h:s[a.toNat]?=some d) (e:(d.toNat:Int)=42) (h2:s[(a+1).toNat]?=some c):Pb ns x c.toNat a=It ns x s a:=by
 obtain rfl:=WV e
 unfold It Pb;rw[nv a0 h,nv (by omega) h2];simp[aQ]
theorem RF {ns:List Nd} {x:Nd} {s:ah} {a:Int} {c:UInt8} (a0:0<=a) (h:s[a.toNat]?=some c) (hc:¬(c.toNat:Int)=42) (hn:(x.kids.length:Int)<=a):It ns x s a=false:=by
 unfold It;rw[nv a0 h,show(bF ns x).drop a.toNat=[] from List.drop_of_length_le (by rw[List.length_map];omega)];simp[aQ,VY hc]
theorem Iu {ns:List Nd} {x:Nd} {s:ah} {a:Int} {c:UInt8} (a0:0<=a) (h:s[a.toNat]?=some c) (hc:¬(c.toNat:Int)=42) (hn:a<x.kids.length):It ns x s a=(dp (pQ ns x a) c.toNat&&It ns x s (a+1)):=by
 unfold It;rw[nv a0 h,Dd a0 hn,aQ,if_neg (VY hc)]
theorem DN {ns:List Nd} {x:Nd} {s:ah} {a:Int} (a0:0<=a) (h:(s.length:Int)<=a) (hn:a<=x.kids.length):It ns x s a=decide (a=x.kids.length):=by
 unfold It;rw[List.drop_of_length_le (by omega),aQ,Bool.eq_iff_iff];simp[List.drop_eq_nil_iff];omega
theorem Ks {ns:List Nd} {x:Nd} {c a:Int} (a0:0<=a) (hn:a<x.kids.length):Pb ns x c a=(dp (pQ ns x a) c&&Pb ns x c (a+1)):=by
 unfold Pb;rw[Dd a0 hn];rfl
theorem NZ {ns:List Nd} {x:Nd} {c a:Int} (hn:(x.kids.length:Int)<=a):Pb ns x c a=true:=by
 unfold Pb;rw[List.drop_of_length_le (by rw[List.length_map];omega)];rfl
theorem D6 {s:ah} {a:Int} {d:UInt8} (a0:0<=a) (h:s[a.toNat]?=some d) (e:(d.toNat:Int)=42) (hs:gr (s.drop a.toNat)=true):a+1<s.length:=by
 obtain rfl:=WV e
 rw[nv a0 h] at hs
 have:s.drop (a+1).toNat≠[]:=by simpa[gr] using hs
 have:=List.length_pos_iff.2 this
 rw[List.length_drop] at this;omega
theorem N0 {s:ah} {a:Int} {c:UInt8} (a0:0<=a) (h:s[a.toNat]?=some c) (hc:¬(c.toNat:Int)=42) (hs:gr (s.drop a.toNat)=true):gr (s.drop (a+1).toNat)=true:=by
 rw[nv a0 h,gr,if_neg (VY hc)] at hs;exact hs
abbrev WO (ns:List Nd) (x:Nd) (s:ah):Type:={a:Int//0<=a/\a<=s.length/\a<=x.kids.length/\gr (s.drop a.toNat)=true/\It ns x s a=aQ s (bF ns x)}
abbrev XK (ns:List Nd) (x:Nd) (s:ah) (a:Int):Type:={b:Int//0<=b/\b<=x.kids.length/\∀c d:UInt8,s[a.toNat]?=some d->(d.toNat:Int)=42->s[(a+1).toNat]?=some c->Pb ns x c.toNat b=It ns x s a}
def UD {ns:List Nd} {x:Nd} {s:ah} (h:gr s=true):WO ns x s:=⟨0,by omega,by omega,by omega,h,rfl⟩
theorem Kg (ns:List Nd) (nb:Bool) (x:Nd) (s:ah) (hin:Lk ns x) (hl:x.kids.length<=17592186044415) (h1:s≠[102,110]) (h2:s≠[98,108,111,99,107]) (h3:s.length<=1000) (h4:gr s=true) (hK:KB K (aQ s (bF ns x))):SC Tryz.prog 234 [.agg [.p (.vs (ns.map aH) none nb)],kL x,.s s] H0 K:=by
 refine aX [(28,[(0,[]),(1,[]),(2,[]),(4,[]),(5,[]),(6,[]),(7,[]),(3,[]),(8,[]),(9,[])]),(31,[(0,[]),(1,[]),(2,[]),(3,[]),(4,[]),(5,[]),(6,[]),(8,[]),(9,[]),(10,[]),(7,[]),(11,[]),(12,[]),(13,[])])] [] [] Tryz.func234 rfl (by kernel_rfl) ?_
 repeat' first
  |((with_reducible refine W.of ?_);conv=>whnf)
  |with_reducible first
   |refine W.fin (K:=K) hK ?_ rfl
   |refine W.and (by kernel_rfl) ?_
   |refine on _ ‹_› ?_
  |((with_reducible refine vN (by omega) (λc hc=>?_)))
  |with_reducible first
   |refine zS ns nb x _ hin (by omega) (by omega) ?_
   |refine J6 _ _ ?_
  |((with_reducible refine bT [(28,[(0,[]),(1,[]),(2,[]),(4,[]),(5,[]),(6,[]),(7,[]),(3,[]),(8,[]),(9,[])]),(31,[(0,[]),(1,[]),(2,[]),(3,[]),(4,[]),(5,[]),(6,[]),(8,[]),(9,[]),(10,[]),(7,[]),(11,[]),(12,[]),(13,[])])] [] [10,11] [] (λa:WO ns x s=>[.i a.1,.i a.1]) (λ_=>zj ns nb x) (λa=>s.length-a.1.toNat) (UD h4) (by kernel_rfl) ?_ ?_);(focus((with_reducible refine W.of ?_);(conv=>whnf);exact⟨rfl,rfl⟩));rintro⟨i,i0,i1,i2,hs,hi⟩;dsimp only)
  |((with_reducible refine vN (by have:=D6 i0 hc ‹_› hs;omega) (λc2 hc2=>?_)))
  |((with_reducible refine bT [(28,[(0,[]),(1,[]),(2,[]),(4,[]),(5,[]),(6,[]),(7,[]),(3,[]),(8,[]),(9,[])]),(31,[(0,[]),(1,[]),(2,[]),(3,[]),(4,[]),(5,[]),(6,[]),(8,[]),(9,[]),(10,[]),(7,[]),(11,[]),(12,[]),(13,[])])] [] [10] [] (λa:XK ns x s i=>[.i a.1]) (λ_=>zj ns nb x) (λa=>x.kids.length-a.1.toNat) ⟨i,i0,i2,λc d e e2 hc=>Iv i0 e e2 hc⟩ (by kernel_rfl) ?_ ?_);(focus((with_reducible refine W.of ?_);(conv=>whnf);exact⟨rfl,rfl⟩));rintro⟨j,j0,j1,hj⟩;dsimp only)
  |((with_reducible refine bt ?_ ?_);focus(simp[]<;>omega))
  |((with_reducible refine bf ?_ ?_);focus(simp[]<;>omega))
  |with_reducible refine SC.call ?_
  |((with_reducible refine bb (λh=>?_) (λh=>?_))<;>(try simp at h))
 all_goals(clear hK)
 all_goals first
  |(rw[<-hi,<-hj _ _ hc ‹_› ‹_›,Ks j0 ‹_›];simp[*];done)
  |exact⟨⟨⟨j+1,by omega,by omega,λc' d' e1 e2 e3=>by rw[<-hj c' d' e1 e2 e3,Ks j0 ‹_›];obtain rfl:=Option.some.inj (e3.symm.trans hc2);simp[*]⟩,ao j0 (by omega),rfl,rfl⟩,rfl⟩
  |exact⟨⟨⟨i+1,by omega,by omega,by omega,N0 i0 hc ‹_› hs,by rw[<-hi,Iu i0 hc ‹_› (by omega)];simp[*]⟩,ao i0 (by omega),rfl,rfl⟩,rfl⟩
  |(rw[<-hi,RF i0 hc ‹_› (by omega)];done)
  |(rw[<-hi,DN i0 ‹_› (by omega)];simp;done)
  |(rw[<-hi,Iu i0 hc ‹_› (by omega)];simp[*];done)
  |(have hlt:=D6 i0 hc ‹_› hs;obtain⟨c2,hc2⟩:∃c2,s[(i+1).toNat]?=some c2:=⟨_,List.getElem?_eq_getElem (by omega)⟩;rw[<-hi,<-hj _ _ hc ‹_› hc2,NZ ‹_›];done)
  |(rw[<-hi,DN i0 ‹_› (by omega),List.length_map];congr 4)
end
end Go.Proofs.YtdjkoddnnogejaaGreat
