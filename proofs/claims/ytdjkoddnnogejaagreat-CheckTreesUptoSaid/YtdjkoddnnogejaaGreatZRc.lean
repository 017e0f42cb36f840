/- Part of the proof of CheckTrees: plain laws and steps of its walks, for all arguments. -/
import Derived.Test.YtdjkoddnnogejaaGreatZAc
set_option linter.unusedSimpArgs false
set_option linter.unusedVariables false
set_option linter.unusedSectionVars false
namespace Go.Proofs.YtdjkoddnnogejaaGreat
section
open Go.Vv
theorem Good.Cn {ns:List Nd} (g:Good ns) {k:Int} (h0:0<=k) (h1:k<(ns.length:Int)) (ht:aJ (nd ns k).kind=true):
 (nd ns k).kids=[]\/∃a,(nd ns k).kids=[a]/\0<=a/\a<k/\aJ (nd ns a).kind=true:=by
 have hs:=g.shape h0 h1
 simp only[aJ] at ht
 by_cases h3:(nd ns k).kind=14\/(nd ns k).kind=15\/(nd ns k).kind=16
 ·obtain⟨a,y,e,hlt,hy,hty⟩:=g.type1 (Good.at h0 h1) h3
  refine .inr ⟨a,e,by omega,by omega,?_⟩
  have:=Good.at (ns:=ns) (k:=(a:Int)) (by omega) (by omega)
  rw[Int.toNat_natCast,hy] at this
  rw[<-Option.some.inj this]
  exact hty
 ·left
  have h12:(nd ns k).kind=10\/(nd ns k).kind=11\/(nd ns k).kind=12\/(nd ns k).kind=13:=by simp at ht;omega
  rcases h12 with h|h|h|h<;>(rw[h] at hs;simpa[aL,aS,bu,aV] using hs)
end
section
open Go.Vv
theorem Good.Oa {ns:List Nd} (g:Good ns) {k:Int} (h0:0<=k) (h1:k<(ns.length:Int)) (ht:aJ (nd ns k).kind=true):
 ((nd ns k).kids=[]/\¬(nd ns k).kind=14/\¬(nd ns k).kind=15/\¬(nd ns k).kind=16)\/∃a,(nd ns k).kids=[a]/\0<=a/\a<k/\aJ (nd ns a).kind=true/\((nd ns k).kind=14\/(nd ns k).kind=15\/(nd ns k).kind=16):=by
 by_cases h3:(nd ns k).kind=14\/(nd ns k).kind=15\/(nd ns k).kind=16
 ·rcases g.Cn h0 h1 ht with h|⟨a,e1,e2,e3,e4⟩
  ·obtain⟨a,y,e,_⟩:=g.type1 (Good.at h0 h1) h3
   rw[h] at e
   cases e
  ·exact .inr ⟨a,e1,e2,e3,e4,h3⟩
 ·left
  refine⟨?_,λe=>h3 (.inl e),λe=>h3 (.inr (.inl e)),λe=>h3 (.inr (.inr e))⟩
  have hs:=g.shape h0 h1
  simp only[aJ] at ht
  have h12:(nd ns k).kind=10\/(nd ns k).kind=11\/(nd ns k).kind=12\/(nd ns k).kind=13:=by simp at ht;omega
  rcases h12 with h|h|h|h<;>(rw[h] at hs;simpa[aL,aS,bu,aV] using hs)
end
section
open Go.Vv
end
section
open Go.Vv
def s9 (ns:List Nd):List Int->List Int->Option Int
 |[],_=>none
 |k::l,pre=>if pre.any (λj=>(nd ns j).name==(nd ns k).name)=true then some k else s9 ns l (pre++[k])
theorem LI (ns:List Nd):∀(l pre:List Int),kC ns l (pre.map λj=>(nd ns j).name)=s9 ns l pre:=by
 intro l
 induction l with
 |nil=>intro pre;rfl
 |cons k l ih=>
  intro pre
  have hc:(pre.map λj=>(nd ns j).name).contains (nd ns k).name=pre.any (λj=>(nd ns j).name==(nd ns k).name):=by
   rw[Bool.eq_iff_iff]
   simp only[List.contains_iff_mem,List.mem_map,List.any_eq_true,beq_iff_eq]
  simp only[kC,s9,hc]
  rw[show(pre.map λj=>(nd ns j).name)++[(nd ns k).name]=(pre++[k]).map λj=>(nd ns j).name by simp,ih]
end
section
open Go.Vv
end
section
open Go.Vv
end
section
open Go.Vv
end
section
open Go.Vv
def cY (it:aw) (s:ah):List ah:=match aM it.ss s with
 |some x=>x.fs.map Fd.ty
 |none=>match aM it.es s with
  |some x=>x.fs.map Fd.ty
  |none=>[]
theorem qD {it:aw} {s t:ah} (h:t∈cY it s) (ht:t≠[]):t∈bB it s:=by
 unfold cY at h
 unfold bB hX
 cases h1:aM it.ss s with
 |some x=>rw[h1] at h;exact h
 |none=>
  rw[h1] at h
  simp only at h⊢
  cases h2:aM it.es s with
  |some x=>rw[h2] at h;exact List.mem_filter.2 ⟨h,by simpa using ht⟩
  |none=>rw[h2] at h;cases h
theorem De {it:aw} {s t:ah} (h:t∈bB it s):t∈cY it s:=by
 unfold bB hX at h
 unfold cY
 cases h1:aM it.ss s with
 |some x=>rw[h1] at h;exact h
 |none=>
  rw[h1] at h
  simp only at h⊢
  cases h2:aM it.es s with
  |some x=>rw[h2] at h;exact(List.mem_filter.1 h).1
  |none=>rw[h2] at h;cases h
theorem Bh {it:aw} {s:ah} (h:s∉aY it):cY it s=[]:=by
 unfold cY
 cases h1:aM it.ss s with
 |some x=>exact absurd (jR h1) h
 |none=>
  simp only
  cases h2:aM it.es s with
  |some x=>exact absurd (jQ h2) h
  |none=>rfl
theorem JX {E:ah->List ah} {a b:ah} (h:Reach E a b):E a≠[]:=by
 cases h with
 |one h=>exact List.ne_nil_of_mem h
 |step h _=>exact List.ne_nil_of_mem h
theorem JW {it:aw} (hn:([]:ah)∉aY it) {a b:ah} (hb:b≠[]):Reach (cY it) a b↔Reach (bB it) a b:=by
 constructor
 ·intro h
  induction h with
  |one h=>exact .one (qD h hb)
  |step h h2 ih=>
   refine .step (qD h λe=>?_) (ih hb)
   rw[e] at h2
   exact JX h2 (Bh hn)
 ·intro h
  clear hb
  induction h with
  |one h=>exact .one (De h)
  |step h _ ih=>exact .step (De h) ih
structure dD (E:ah->List ah) (name:ah) (seen todo:List ah):Prop where
 mF:∀s,s∈seen\/s∈todo->s=name\/Reach E name s
 first:name∈seen\/name∈todo\/E name=[]
 closed:∀s∈seen,∀t∈E s,t≠name/\(t∈seen\/t∈todo\/E t=[])
section search
variable{E:ah->List ah} {name x:ah} {seen todo:List ah}
theorem dD.start:dD E name [] [name]:=
 ⟨λs h=>by
  rcases h with h|h
  ·cases h
  ·exact .inl (by simpa using h),.inr (.inl (by simp)),λs h=>by cases h⟩
theorem dD.done (i:dD E name seen []):¬Reach E name name:=by
 have key:∀a b,Reach E a b->(a∈seen\/E a=[])->b≠name/\(b∈seen\/E b=[]):=by
  intro a b h
  induction h with
  |one h=>
   intro ha
   rcases ha with ha|ha
   ·have:=i.closed _ ha _ h
    refine⟨this.1,?_⟩
    rcases this.2 with h|h|h
    ·exact .inl h
    ·cases h
    ·exact .inr h
   ·rw[ha] at h;cases h
  |step h _ ih=>
   intro ha
   rcases ha with ha|ha
   ·have:=i.closed _ ha _ h
    refine ih ?_
    rcases this.2 with h|h|h
    ·exact .inl h
    ·cases h
    ·exact .inr h
   ·rw[ha] at h;cases h
 intro h
 refine(key _ _ h ?_).1 rfl
 rcases i.first with h|h|h
 ·exact .inl h
 ·cases h
 ·exact .inr h
theorem dD.skip (i:dD E name seen (x::todo)) (hx:x∈seen\/E x=[]):dD E name seen todo:=by
 have key:∀t,t∈seen\/t∈x::todo\/E t=[]->t∈seen\/t∈todo\/E t=[]:=by
  rintro t (h|h|h)
  ·exact .inl h
  ·rcases List.mem_cons.1 h with rfl|h
   ·rcases hx with h|h
    ·exact .inl h
    ·exact .inr (.inr h)
   ·exact .inr (.inl h)
  ·exact .inr (.inr h)
 refine⟨λs h=>i.mF s ?_,key _ i.first,λs h t ht=>⟨(i.closed s h t ht).1,key t (i.closed s h t ht).2⟩⟩
 rcases h with h|h
 ·exact .inl h
 ·exact .inr (List.mem_cons_of_mem _ h)
theorem dD.hit (i:dD E name seen (x::todo)) (h:name∈E x):Reach E name name:=by
 rcases i.mF x (.inr (List.mem_cons_self ..)) with h1|h1
 ·rw[h1] at h;exact .one h
 ·exact h1.snoc h
theorem dD.take (i:dD E name seen (x::todo)) (h:name∉E x):dD E name (seen++[x]) (todo++E x):=by
 have hx:=i.mF x (.inr (List.mem_cons_self ..))
 have key:∀t,t∈seen\/t∈x::todo\/E t=[]->t∈seen++[x]\/t∈todo++E x\/E t=[]:=by
  rintro t (h|h|h)
  ·exact .inl (List.mem_append_left _ h)
  ·rcases List.mem_cons.1 h with rfl|h
   ·exact .inl (by simp)
   ·exact .inr (.inl (List.mem_append_left _ h))
  ·exact .inr (.inr h)
 refine⟨λs hs=>?_,key _ i.first,λs hs t ht=>?_⟩
 ·rcases hs with hs|hs
  ·rcases List.mem_append.1 hs with hs|hs
   ·exact i.mF s (.inl hs)
   ·rw[List.mem_singleton.1 hs];exact hx
  ·rcases List.mem_append.1 hs with hs|hs
   ·exact i.mF s (.inr (List.mem_cons_of_mem _ hs))
   ·rcases hx with rfl|hx
    ·exact .inr (.one hs)
    ·exact .inr (hx.snoc hs)
 ·rcases List.mem_append.1 hs with hs|hs
  ·exact⟨(i.closed s hs t ht).1,key t (i.closed s hs t ht).2⟩
  ·rw[List.mem_singleton.1 hs] at ht
   exact⟨λe=>h (e▸ht),.inr (.inl (List.mem_append_right _ ht))⟩
end search
theorem pW {s:ah} (h:fq s=true):s≠[]:=by
 rintro rfl
 exact absurd h (by decide)
theorem xN {E:ah->List ah} {U seen todo:List ah} {x:ah} (hu:x∈U) (hs:seen.contains x=false):dq E U (seen++[x]) (todo++E x)<dq E U seen (x::todo):=by
 have e:dq E U (seen++[x]) (todo++E x)=dq E U (x::seen) (todo++E x):=by
  unfold dq
  rw[List.filter_congr (q:=λu=>!(x::seen).contains u) (λu _=>by rw[oa])]
 rw[e]
 exact qe hu hs (by simp;omega)
noncomputable def eM (it:aw) (s:ah):Bool:=
 (match aM it.ss s with
 |some _=>false
 |none=>match aM it.es s with
  |some x=>x.fs.isEmpty
  |none=>false)||wF it s
section uniq
variable{ns:List Nd}
theorem Fb:∀(l:List Int) (ts fs:List ah),ba ns l ts fs=none->∀n∈l,au ns n=false->(nd ns n).name∉ts:=by
 intro l
 induction l with
 |nil=>intro ts fs _ n hn;cases hn
 |cons m l ih=>
  intro ts fs h n hn hf
  simp only[ba] at h
  generalize hcc:(if au ns m=true then fs else ts).contains (nd ns m).name=c1 at h
  generalize (if au ns m=true then 6 else 16)=eo at h
  cases c1 with
  |true=>cases h
  |false=>
   rw[if_neg (by simp)] at h
   by_cases hle:(ar ns m).length>eo
   ·rw[if_pos hle] at h;cases h
   ·rw[if_neg hle] at h
    split at h
    ·cases h
    ·rcases List.mem_cons.1 hn with rfl|hn
     ·rw[hf] at hcc
      simpa using hcc
     ·split at h
      ·exact ih _ _ h n hn hf
      ·intro hh
       exact ih _ _ h n hn hf (List.mem_append_left _ hh)
theorem tK:∀(l:List Int) (ts fs:List ah),ba ns l ts fs=none->∀x∈l,au ns x=false->(l.filter λk=>!au ns k).find? (λk=>(nd ns k).name==(nd ns x).name)=some x:=by
 intro l
 induction l with
 |nil=>intro ts fs _ n hn;cases hn
 |cons m l ih=>
  intro ts fs h x hx hf
  simp only[ba] at h
  generalize hcc:(if au ns m=true then fs else ts).contains (nd ns m).name=c1 at h
  generalize (if au ns m=true then 6 else 16)=eo at h
  cases c1 with
  |true=>cases h
  |false=>
   rw[if_neg (by simp)] at h
   by_cases hle:(ar ns m).length>eo
   ·rw[if_pos hle] at h;cases h
   ·rw[if_neg hle] at h
    generalize kC ns (ar ns m) []=dk at h
    cases dk with
    |some k=>cases h
    |none=>
     simp only at h
     cases hm:au ns m with
     |true=>
      rw[if_pos hm] at h
      rw[List.filter_cons_of_neg (by simp[hm])]
      rcases List.mem_cons.1 hx with rfl|hx
      ·rw[hf] at hm;cases hm
      ·exact ih _ _ h x hx hf
     |false=>
      rw[if_neg (by simp[hm])] at h
      rw[List.filter_cons_of_pos (by simp[hm]),List.find?_cons]
      by_cases hxm:x=m
      ·rw[hxm];simp
      ·have hx':x∈l:=by
        rcases List.mem_cons.1 hx with h|h
        ·exact absurd h hxm
        ·exact h
       have hne:=Fb l _ _ h x hx' hf
       have:((nd ns m).name==(nd ns x).name)=false:=by
        simp only[beq_eq_false_iff_ne]
        intro e
        exact hne (by rw[<-e];simp)
       rw[this]
       exact ih _ _ h x hx' hf
theorem oN {l:List Int} {ts fs:List ah} (h:ba ns l ts fs=none) {x y:Int} (hx:x∈l) (hy:y∈l) (fx:au ns x=false) (fy:au ns y=false) (e:(nd ns x).name=(nd ns y).name):x=y:=by
 have h1:=tK l ts fs h x hx fx
 have h2:=tK l ts fs h y hy fy
 rw[e] at h1
 rw[h1] at h2
 exact Option.some.inj h2
variable(g:Good ns) {l:List Int} (hl:∀n∈l,0<=n/\n<(ns.length:Int)/\((nd ns n).kind=2\/(nd ns n).kind=3\/(nd ns n).kind=4)) {ts fs:List ah} (hn:ba ns l ts fs=none)
include g hl hn
theorem GX {x:Int} (hx:x∈l) (hk:(nd ns x).kind=3):aM (aD ns l).ss (nd ns x).name=some (mj ns x):=by
 cases h1:aM (aD ns l).ss (nd ns x).name with
 |none=>
  exfalso
  have:=List.find?_eq_none.1 h1 (mj ns x) (by simp only[aD,List.mem_map,List.mem_filter];exact⟨x,⟨hx,by simp[hk]⟩,rfl⟩)
  exact this (by simp[mj])
 |some z=>
  obtain⟨h2,h3⟩:=bD h1
  obtain⟨y,hy,hky,rfl⟩:=ou g hl h2
  have:y=x:=oN hn hy hx (by simp[au,hky]) (by simp[au,hk]) h3
  rw[this]
theorem GW {x:Int} (hx:x∈l) (hk:(nd ns x).kind=4):aM (aD ns l).ss (nd ns x).name=none/\aM (aD ns l).es (nd ns x).name=some (mj ns x):=by
 refine⟨?_,?_⟩
 ·cases h1:aM (aD ns l).ss (nd ns x).name with
  |none=>rfl
  |some z=>
   exfalso
   obtain⟨h2,h3⟩:=bD h1
   obtain⟨y,hy,hky,rfl⟩:=ou g hl h2
   have:y=x:=oN hn hy hx (by simp[au,hky]) (by simp[au,hk]) h3
   rw[this,hk] at hky
   omega
 ·cases h1:aM (aD ns l).es (nd ns x).name with
  |none=>
   exfalso
   have:=List.find?_eq_none.1 h1 (mj ns x) (by simp only[aD,List.mem_map,List.mem_filter];exact⟨x,⟨hx,by simp[hk]⟩,rfl⟩)
   exact this (by simp[mj])
  |some z=>
   obtain⟨h2,h3⟩:=bD h1
   obtain⟨y,hy,hky,rfl⟩:=rm g hl h2
   have:y=x:=oN hn hy hx (by simp[au,hky]) (by simp[au,hk]) h3
   rw[this]
theorem ze {x:Int} (hx:x∈l) (hf:au ns x=false):eM (aD ns l) (nd ns x).name=aW ns (aD ns l) x:=by
 have hend:aW ns (aD ns l) x=(!(au ns x)&&wF (aD ns l) (nd ns x).name||((nd ns x).kind==4&&(nd ns x).kids.isEmpty)):=rfl
 rw[hend,hf]
 unfold eM
 rcases(hl x hx).2.2 with h|h|h
 ·simp[au,h] at hf
 ·rw[GX g hl hn hx h]
  simp[h]
 ·obtain⟨h1,h2⟩:=GW g hl hn hx h
  rw[h1,h2]
  simp[h,mj,Bool.or_comm]
omit hn in
theorem MF:([]:ah)∉aY (aD ns l):=by
 intro h
 unfold aY at h
 rcases List.mem_append.1 h with h|h
 ·obtain⟨z,hz,he⟩:=List.mem_map.1 h
  obtain⟨y,hy,hky,rfl⟩:=ou g hl hz
  have:=pW (g.nameOf (hl y hy).1 (hl y hy).2.1 (by simp[hky]))
  exact this he
 ·obtain⟨z,hz,he⟩:=List.mem_map.1 h
  obtain⟨y,hy,hky,rfl⟩:=rm g hl hz
  have:=pW (g.nameOf (hl y hy).1 (hl y hy).2.1 (by simp[hky]))
  exact this he
end uniq
def jO (it:aw):List ah->Nat×Nat×Nat->Option (Nat×Nat×Nat)
 |[],a=>some a
 |t::ts,a=>if t=[] then jO it ts a else
  if 1024<a.1+(iL it t).1 then none else jO it ts (a.1+(iL it t).1,a.2.1+min (iL it t).2 65,max a.2.2 (min (iL it t).2 65))
def mh (l:List ah):List ah:=l.filter (λt=>!(t==[]))
theorem sL (it:aw):∀(ts:List ah) (n w m:Nat),n<=1024->jO it ts (n,w,m)=
 if n+gu ((mh ts).map λt=>(iL it t).1)<=1024 then some (n+gu ((mh ts).map λt=>(iL it t).1),w+gu ((mh ts).map λt=>min (iL it t).2 65),max m (n4 ((mh ts).map λt=>min (iL it t).2 65))) else none:=by
 intro ts
 induction ts with
 |nil=>intro n w m h;simp[jO,mh,gu,n4,h]
 |cons t ts ih=>
  intro n w m h
  simp only[jO]
  by_cases ht:t=[]
  ·rw[if_pos ht,ih n w m h]
   have:mh (t::ts)=mh ts:=by simp[mh,ht]
   rw[this]
  ·rw[if_neg ht]
   have e:mh (t::ts)=t::mh ts:=by simp[mh,ht]
   rw[e]
   simp only[List.map_cons,gu,n4]
   by_cases hb:1024<n+(iL it t).1
   ·rw[if_pos hb,if_neg (by omega)]
   ·rw[if_neg hb,ih _ _ _ (by omega)]
    by_cases hc:n+((iL it t).1+gu ((mh ts).map λt=>(iL it t).1))<=1024
    ·rw[if_pos (by omega),if_pos hc]
     simp only[Option.some.injEq,Prod.mk.injEq]
     refine⟨by omega,by omega,by omega⟩
    ·rw[if_neg (by omega),if_neg hc]
theorem Kv (f:ah->Nat):∀l:List ah,min (gu (l.map λt=>min (f t) 65)) 65=min (gu (l.map f)) 65:=by
 intro l
 induction l with
 |nil=>rfl
 |cons a l ih=>simp only[List.map_cons,gu];omega
theorem H2 (f:ah->Nat):∀l:List ah,n4 (l.map λt=>min (f t) 65)=min (n4 (l.map f)) 65:=by
 intro l
 induction l with
 |nil=>rfl
 |cons a l ih=>simp only[List.map_cons,n4];omega
theorem NV {it:aw} (ha:gD it) {s:ah} {x:Sd} (h:aM it.ss s=some x) (hne:∀f∈x.fs,f.ty≠[]) {n w m:Nat} (hr:jO it (x.fs.map Fd.ty) (1,0,0)=some (n,w,m)):yN it s n (if 64<w then 65 else w):=by
 rw[sL it _ 1 0 0 (by omega)] at hr
 have e:mh (x.fs.map Fd.ty)=x.fs.map Fd.ty:=by
  unfold mh
  refine List.filter_eq_self.2 λt ht=>?_
  obtain⟨f,hf,rfl⟩:=List.mem_map.1 ht
  simpa using hne f hf
 rw[e] at hr
 split at hr
 ·rename_i hle
  rw[Option.some.injEq,Prod.mk.injEq,Prod.mk.injEq] at hr
  obtain⟨e1,e2,e3⟩:=hr
  have h1:min w 65=min (gu ((x.fs.map Fd.ty).map λt=>(iL it t).2)) 65:=by
   rw[<-Kv (λt=>(iL it t).2),<-e2,Nat.zero_add]
  unfold yN
  rw[KA ha h]
  generalize gu ((x.fs.map Fd.ty).map λt=>(iL it t).2)=a at h1⊢
  generalize gu ((x.fs.map Fd.ty).map λt=>(iL it t).1)=c at e1 hle⊢
  refine⟨λ_=>⟨e1.symm,?_⟩,λhh=>?_,?_⟩
  ·simp only
   split<;>omega
  ·simp only at hh;omega
  ·split<;>omega
 ·cases hr
theorem Cf {it:aw} (ha:gD it) {s:ah} {x:Sd} (h:aM it.ss s=some x) (hne:∀f∈x.fs,f.ty≠[]) (hr:jO it (x.fs.map Fd.ty) (1,0,0)=none):yN it s 1025 0:=by
 rw[sL it _ 1 0 0 (by omega)] at hr
 have e:mh (x.fs.map Fd.ty)=x.fs.map Fd.ty:=by
  unfold mh
  refine List.filter_eq_self.2 λt ht=>?_
  obtain⟨f,hf,rfl⟩:=List.mem_map.1 ht
  simpa using hne f hf
 rw[e] at hr
 split at hr
 ·cases hr
 ·rename_i hle
  unfold yN
  rw[KA ha h]
  exact⟨λhh=>absurd hh hle,λ_=>rfl,by omega⟩
theorem NU {it:aw} (ha:gD it) {s:ah} {x:Sd} (h0:aM it.ss s=none) (h:aM it.es s=some x) {n w m:Nat} (hr:jO it (x.fs.map Fd.ty) (1,0,0)=some (n,w,m)):yN it s n (if 64<1+m then 65 else 1+m):=by
 rw[sL it _ 1 0 0 (by omega)] at hr
 split at hr
 ·rename_i hle
  rw[Option.some.injEq,Prod.mk.injEq,Prod.mk.injEq] at hr
  obtain⟨e1,e2,e3⟩:=hr
  have h1:m=min (n4 ((mh (x.fs.map Fd.ty)).map λt=>(iL it t).2)) 65:=by
   rw[<-H2 (λt=>(iL it t).2),<-e3,Nat.zero_max]
  unfold yN
  rw[Kz ha h0 h]
  unfold mh at h1 e1 hle
  generalize n4 (((x.fs.map Fd.ty).filter (λt=>!(t==[]))).map λt=>(iL it t).2)=a at h1⊢
  generalize gu (((x.fs.map Fd.ty).filter (λt=>!(t==[]))).map λt=>(iL it t).1)=c at e1 hle⊢
  refine⟨λ_=>⟨e1.symm,?_⟩,λhh=>?_,?_⟩
  ·simp only
   split<;>omega
  ·simp only at hh;omega
  ·split<;>omega
 ·cases hr
theorem Ce {it:aw} (ha:gD it) {s:ah} {x:Sd} (h0:aM it.ss s=none) (h:aM it.es s=some x) (hr:jO it (x.fs.map Fd.ty) (1,0,0)=none):yN it s 1025 0:=by
 rw[sL it _ 1 0 0 (by omega)] at hr
 split at hr
 ·cases hr
 ·rename_i hle
  unfold yN
  rw[Kz ha h0 h]
  exact⟨λhh=>absurd hh hle,λ_=>rfl,by omega⟩
end
section
open Go.Vv
end
section
open Go.Vv
theorem yN.p1 {it:aw} {s:ah} {p w:Nat} (h:yN it s p w):p<=1025:=by
 obtain⟨h1,h2,h3⟩:=h
 by_cases hp:(iL it s).1<=1024
 ·have:=(h1 hp).1;omega
 ·have:=h2 (by omega);omega
end
section
open Go.Vv
theorem yN.TN {it:aw} {s:ah} {p w:Nat} (h:yN it s p w):(1024<p\/64<w)↔(64<(iL it s).2\/1024<(iL it s).1):=by
 obtain⟨h1,h2,h3⟩:=h
 by_cases hp:(iL it s).1<=1024
 ·have:=h1 hp;omega
 ·have:=h2 (by omega);omega
end
section
open Go.Vv
open Fo (hp aC cy cj eL gF)
theorem LV {it:aw} (io:fg it) {s f:ah} {x:Fd} (h:dG it s f=some x):x.ty.length<=1200000:=by
 unfold dG at h
 cases hf:aM it.ss s with
 |none=>rw[hf] at h;cases h
 |some y=>
  rw[hf] at h
  exact(io.sf y (bD hf).1 x (mA h)).2
end
section
open Go.Vv
open Fo (hp aC cy cj eL gF)
theorem cM.JZ {s:ah} (h:cM s):bh s=aP s:=h.WT
end
section
open Go.Vv
section put
end put
theorem BG (ns:List Nd) (l:List Int) (x:Int):aD ns (l++[x])=
 if(nd ns x).kind=3 then{aD ns l with ss:=(aD ns l).ss++[mj ns x]} else if(nd ns x).kind=4 then{aD ns l with es:=(aD ns l).es++[mj ns x]} else{aD ns l with fns:=(aD ns l).fns++[yH ns x]}:=by
 by_cases h3:(nd ns x).kind=3
 ·simp[aD,h3]
 ·by_cases h4:(nd ns x).kind=4
  ·simp[aD,h4]
  ·simp[aD,h3,h4]
end
section
open Go.Vv
theorem AF:fq aE=false:=by decide
theorem xo {ns:List Nd} (g:Good ns) {l:List Int} (hl:∀n∈l,0<=n/\n<(ns.length:Int)/\((nd ns n).kind=2\/(nd ns n).kind=3\/(nd ns n).kind=4)) {s:ah} (h:s∈aY (aD ns l)):fq s=true:=by
 unfold aY at h
 rcases List.mem_append.1 h with h|h
 ·obtain⟨z,hz,rfl⟩:=List.mem_map.1 h
  obtain⟨y,hy,hky,rfl⟩:=ou g hl hz
  exact g.nameOf (hl y hy).1 (hl y hy).2.1 (by simp[hky])
 ·obtain⟨z,hz,rfl⟩:=List.mem_map.1 h
  obtain⟨y,hy,hky,rfl⟩:=rm g hl hz
  exact g.nameOf (hl y hy).1 (hl y hy).2.1 (by simp[hky])
theorem KH {ns:List Nd} (g:Good ns) {k:Int} (h0:0<=k) (h1:k<(ns.length:Int)) (ht:aJ (nd ns k).kind=true):cz ns k.toNat≠[]:=by
 rw[jD (Good.at h0 h1)]
 have h7:(nd ns k).kind=10\/(nd ns k).kind=11\/(nd ns k).kind=12\/(nd ns k).kind=13\/(nd ns k).kind=14\/(nd ns k).kind=15\/(nd ns k).kind=16:=by
  simp only[aJ] at ht
  simp at ht
  omega
 rcases h7 with h|h|h|h|h|h|h
 ·simp[h]
 ·simp[h]
 ·simp[h]
 ·simp[h]
  exact pW (g.nameOf h0 h1 (by simp[h]))
 ·simp[h]
 ·simp[h]
 ·simp[h]
theorem xT {ns:List Nd} (g:Good ns) {l:List Int} (hl:∀n∈l,0<=n/\n<(ns.length:Int)/\((nd ns n).kind=2\/(nd ns n).kind=3\/(nd ns n).kind=4)):∀x∈(aD ns l).ss,∀f∈x.fs,f.ty≠[]:=by
 intro x hx f hf
 obtain⟨n,hn,hk,rfl⟩:=ou g hl hx
 obtain⟨n0,n1,nk⟩:=hl n hn
 obtain⟨k,hkm,rfl⟩:=List.mem_map.1 hf
 obtain⟨h2,⟨k0,k1,hkk⟩,h3⟩:=g.members n0 n1 nk k (by simpa[ar,hk] using hkm)
 have h5:=h3.2.1 hk
 rcases hkk with hkk|⟨a,hkk,a0,a1,ht⟩
 ·exfalso
  have hs:=g.shape k0 k1
  rw[h5,hkk] at hs
  simp[aL,aS,bu,aV] at hs
 ·simp only[cm,hkk]
  exact KH g a0 (by omega) ht
theorem At {ns:List Nd} (g:Good ns) {l:List Int} (hl:∀n∈l,0<=n/\n<(ns.length:Int)/\((nd ns n).kind=2\/(nd ns n).kind=3\/(nd ns n).kind=4)) (h:∀n∈l,(ar ns n).length<=16) (h1:(aD ns l).ss.length<=64) (h2:(aD ns l).es.length<=64) (s:ah):
 dq (cY (aD ns l)) (aY (aD ns l)) [] [s]<=1000000:=by
 have hs:∀x∈(aD ns l).ss,x.fs.length<=16:=by
  intro x hx
  obtain⟨n,hn,hk,rfl⟩:=ou g hl hx
  have:=h n hn
  simpa[mj,ar,hk] using this
 have he:∀x∈(aD ns l).es,x.fs.length<=16:=by
  intro x hx
  obtain⟨n,hn,hk,rfl⟩:=rm g hl hx
  have:=h n hn
  simpa[mj,ar,hk] using this
 have hed:∀u,(cY (aD ns l) u).length<=16:=by
  intro u
  unfold cY
  cases h1:aM (aD ns l).ss u with
  |some x=>simp only[List.length_map];exact hs x (bD h1).1
  |none=>
   simp only
   cases h2:aM (aD ns l).es u with
   |some x=>simp only[List.length_map];exact he x (bD h2).1
   |none=>simp
 have hnl:(aY (aD ns l)).length<=128:=by
  unfold aY
  rw[List.length_append,List.length_map,List.length_map]
  omega
 unfold dq
 have h5:=Ch (λu=>(cY (aD ns l) u).length+1) 17 ((aY (aD ns l)).filter (λu=>!([]:List ah).contains u)) (λu _=>by have:=hed u;omega)
 have h6:=List.length_filter_le (λu=>!([]:List ah).contains u) (aY (aD ns l))
 simp only[List.length_cons,List.length_nil]
 refine Nat.le_trans (Nat.add_le_add_right h5 _) ?_
 omega
theorem Rl {ns:List Nd} (h:¬bK ns=false):kM ns=match l9 ns (ak ns) (0,0,0) with
 |some n=>.inr (jq ns n 2)
 |none=>match ba ns (ak ns) [] bG with
  |some e=>.inr (jq ns e.1 e.2)
  |none=>match bz ns (aD ns (ak ns)) (ak ns) with
   |some e=>.inr (jq ns e.1 e.2)
   |none=>match cq ns (aD ns (ak ns)) (ak ns) with
    |some e=>.inr (jq ns e.1 e.2)
    |none=>match findF (aD ns (ak ns)).fns oq with
     |none=>.inr ⟨144,0,0⟩
     |some f=>if f.ps.isEmpty=true/\f.ret=aE then .inl (aD ns (ak ns)) else .inr (jq ns f.node 144):=by
 unfold kM
 rw[if_neg h]
 simp only[jo,DE]
 rfl
end
section
open Go.Vv
theorem nr (ns:List Nd) (it:aw) (k:Int) (st:St):wy ns it k st=match ct ns it true k with|some e=>ai ns e.2 e.1|none=>.ok (cz ns k.toNat) st:=by
 unfold wy ct
 cases bm ns it k with
 |some i=>rfl
 |none=>cases bj ns k true<;>rfl
end
section
open Go.Vv
end
section
open Go.Vv
open Fo (hp aC cy cj eL gF)
theorem Hi {ty pt:ah} (hp:bh pt=false):cM (gg ty++pt):=by
 unfold gg
 split
 ·split
  ·exact .inr ⟨pt,.inl rfl,hp⟩
  ·exact .inr ⟨pt,.inr rfl,hp⟩
 ·exact .inl hp
theorem EW (ty:ah):(gg ty).length<=5:=by
 unfold gg
 split
 ·split<;>decide
 ·decide
theorem zH {ty t:ah} (hr:aP ty=true) (hi:aC ty=some t):mJ ty=t/\ty.take (ty.length-t.length)=gg ty/\t.length<=ty.length:=by
 unfold mJ gg
 rw[if_pos hr,if_pos hr,hi]
 unfold aC at hi
 by_cases hm:hp ty cy=true
 ·rw[if_pos (show bC ty=true from hm)]
  rw[if_pos hm] at hi
  cases hi
  have hs:=pO hm
  have hl:5<=ty.length:=by simp[hp] at hm;exact hm.1
  refine⟨rfl,?_,by simp⟩
  rw[List.length_drop,show ty.length-(ty.length-5)=5 by omega]
  conv=>lhs;rw[hs]
  simp[cy]
 ·rw[if_neg (show¬bC ty=true from hm)]
  rw[if_neg hm,if_pos (show hp ty cj=true from hr)] at hi
  cases hi
  have hs:=pO (show hp ty cj=true from hr)
  have hl:1<=ty.length:=by have:hp ty cj=true:=hr;simp[hp] at this;exact this.1
  refine⟨rfl,?_,by simp⟩
  rw[List.length_drop,show ty.length-(ty.length-1)=1 by omega]
  conv=>lhs;rw[hs]
  simp[cj]
end
section
open Go.Vv
theorem J3 {ns:List Nd} {E:Rec} {e:Int} {ty:ah} {u:Unit} {st st1:St} (hO:rY ns E e) (w:Wf ns st) (h:kQ ns E e ty st=.ok u st1):st.locals.length<=st1.locals.length:=by
 rw[jX ns hO w] at h
 obtain⟨a,s1,h1,h2⟩:=aN.then_ok h
 have e2:st1=s1:=lC h2
 rw[e2]
 exact(hO _ _ _ w h1).mv.loc.length_le
end
section
open Go.Vv
theorem vM {α:Type} [DecidableEq α]:∀(l m:List α),l.Nodup->(∀x∈l,x∈m)->l.length<=m.length
 |[],m,_,_=>by simp
 |a::l,m,hd,hs=>by
  have ha:=hs a (by simp)
  have h1:=vM l (m.erase a) (List.nodup_cons.1 hd).2 λx hx=>(List.mem_erase_of_ne (by rintro rfl;exact(List.nodup_cons.1 hd).1 hx)).2 (hs x (List.mem_cons_of_mem _ hx))
  rw[List.length_erase_of_mem ha] at h1
  have:0<m.length:=List.length_pos_of_mem ha
  simp only[List.length_cons]
  omega
theorem BX {l:List ah} {s:ah} (h:l.Nodup) (hs:¬s∈l):(l++[s]).Nodup:=by
 rw[List.nodup_append]
 refine⟨h,by simp,?_⟩
 intro a ha b hb
 rw[List.mem_singleton.1 hb]
 exact λe=>hs (e▸ha)
theorem Ku {l m:List ah} {s:ah} (h:∀x∈l,x∈m) (hs:s∈m):∀x∈l++[s],x∈m:=by
 intro x hx
 rcases List.mem_append.1 hx with hx|hx
 ·exact h x hx
 ·rw[List.mem_singleton.1 hx];exact hs
end
section
open Go.Vv
theorem Wf.Ox {ns:List Nd} {st:St} (w:Wf ns st) (n:Nat):Wf ns {st with scope:=st.scope.take n}:=
 ⟨w.tl,w.vl,w.ll,by simp only[List.length_take];have:=w.sl;omega,λp hp=>w.sc p (List.mem_of_mem_take hp),w.lt⟩
theorem Gk {ns:List Nd} (g:Good ns) {it:aw} (io:fg it) {E:Rec} {n:Int} (h1:n<(ns.length:Int)) (hO:∀k,0<=k->k<n->aG (nd ns k).kind=true->rY ns E k) {sub:ah} (hs:cM sub):
 ∀(ks:List Int),(∀k∈ks,0<=k/\k<n/\(nd ns k).kind=47)->∀(ot:ah) (st:St),Wf ns st->sub.length<=cU st.locals.length+200000->ji ns it E sub ks ot st=iJ ns it E sub ks ot st:=by
 intro ks
 induction ks with
 |nil=>intro _ ot st _ _;rfl
 |cons k ks ih=>
  intro hk ot st w hl
  obtain⟨k0,kn,kk⟩:=hk k (by simp)
  have hk':∀k∈ks,0<=k/\k<n/\(nd ns k).kind=47:=λq hq=>hk q (List.mem_cons_of_mem _ hq)
  obtain⟨p,e,hkk,p0,p1,e0,e1,pk,ek⟩:=g.xa k0 (by omega) kk
  have hk0:ax ns k 0=p:=by simp[ax,hkk]
  have hk1:ax ns k 1=e:=by simp[ax,hkk]
  simp only[ji,iJ,hk0,hk1]
  refine cC λu st1 hp=>?_
  unfold n6 at hp
  have m1:=xB g io _ _ _ _ _ _ p0 (by omega) w hs hl hp
  have b1:=m1.loc.length_le
  have hOe:=hO e e0 (by omega) ek
  by_cases ho:ot=aF
  ·simp only[if_pos ho]
   refine cC λs st2 h2=>?_
   have t2:=hOe _ _ _ m1.wf h2
   have b2:=t2.mv.loc.length_le
   exact ih hk' _ _ (t2.mv.wf.Ox _) (Nat.le_trans hl (by have:=eD (Nat.le_trans b1 b2);simp only;omega))
  ·simp only[if_neg ho]
   rw[jX ns hOe m1.wf,then_assoc]
   refine cC λs st2 h2=>?_
   have t2:=hOe _ _ _ m1.wf h2
   have b2:=t2.mv.loc.length_le
   refine cC λu3 st3 h3=>?_
   have e3:st3=st2:=lC h3
   subst e3
   exact ih hk' _ _ (t2.mv.wf.Ox _) (Nat.le_trans hl (by have:=eD (Nat.le_trans b1 b2);simp only;omega))
theorem E9 {ns:List Nd} (g:Good ns) {it:aw} (io:fg it) {E:Rec} {n:Int} (h0:0<=n) (h1:n<(ns.length:Int)) (hO:∀k,0<=k->k<n->aG (nd ns k).kind=true->rY ns E k) (hkd:(nd ns n).kind=46) {st:St} (w:Wf ns st):oM ns it E n st=lI ns it E n st:=by
 obtain⟨a,l,hkk,a0,a1,ae,hal⟩:=g.nC h0 h1 hkd
 have ka:ax ns n 0=a:=by simp[ax,hkk]
 unfold oM lI
 rw[ka]
 refine cC λs st1 hs1=>?_
 have tX:=bq (hO a a0 a1 ae) w hs1
 refine Gk g io h1 hO tX.ty _ ?_ _ _ tX.mv.wf ?_
 ·rw[hkk];exact hal
 ·have:=tX.len
  have:=g.len.2
  omega
theorem yT {ns:List Nd} (g:Good ns) {E:Rec} {n:Int} (h0:0<=n) (h1:n<(ns.length:Int)) (hk:(nd ns n).kind=45) (hO:∀k,0<=k->k<n->aG (nd ns k).kind=true->rY ns E k):rY ns E (ax ns n 0)/\rY ns E (ax ns n 1)/\((nd ns n).kids.length=2\/rY ns E (ax ns n 2)):=by
 rcases g.xb h0 h1 hk with⟨a,b,hkk,a0,a1,b0,b1,ae,be⟩|⟨a,b,c,hkk,a0,a1,b0,b1,c0,c1,ae,be,ce⟩
 ·refine⟨?_,?_,.inl (by rw[hkk];rfl)⟩
  ·simpa[ax,hkk] using hO a a0 a1 ae
  ·simpa[ax,hkk] using hO b b0 b1 be
 ·refine⟨?_,?_,.inr ?_⟩
  ·simpa[ax,hkk] using hO a a0 a1 ae
  ·simpa[ax,hkk] using hO b b0 b1 be
  ·simpa[ax,hkk] using hO c c0 c1 ce
end
section
open Go.Vv
theorem Wf.fresh {ns:List Nd} {st:St} (w:Wf ns st):Wf ns {st with locals:=[],scope:=[],loops:=0}:=
 ⟨w.tl,w.vl,Nat.zero_le _,Nat.le_refl _,λp hp=>(by cases hp),λl hl=>(by cases hl)⟩
end
section
open Go.Vv
end
end Go.Proofs.YtdjkoddnnogejaaGreat
