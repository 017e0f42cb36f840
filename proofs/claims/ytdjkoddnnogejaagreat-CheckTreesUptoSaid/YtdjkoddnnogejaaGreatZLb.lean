/- Part of the proof of CheckTrees: plain laws and steps of its walks, for all arguments. -/
import Derived.Test.YtdjkoddnnogejaaGreatZHy
set_option linter.unusedSimpArgs false
set_option linter.unusedVariables false
set_option linter.unusedSectionVars false
namespace Go.Proofs.YtdjkoddnnogejaaGreat
section
open Go.Vv
open Fo (hp aC cy cj eL gF)
theorem qK {c d:UInt8} {ks:List Int} (hc:c≠42) (hd:d≠42) (hq:c≠63) (h:aS [c,d] ks=true):∃x y,ks=[x,y]/\fS c.toNat x=true/\fS d.toNat y=true:=by
 have hs:bu [c,d]=none:=by simp[bu,hc,hd]
 simp only[aS,hs] at h
 match ks,h with
 |[],h=>simp[aV,hq] at h
 |[x],h=>simp[aV,hq] at h
 |[x,y],h=>exact⟨x,y,rfl,by simpa[aV,hq] using h⟩
 |a::b::e::l,h=>simp[aV,hq] at h
theorem xj {α β:Type} {f:α->β} {l:List α} {b c:β} (h:l.map f=[b,c]):∃x y,l=[x,y]/\f x=b/\f y=c:=by
 match l,h with
 |[x,y],h=>exact⟨x,y,rfl,by simpa using h⟩
section good
variable{ns:List Nd} (g:Good ns)
include g
theorem Good.O1 {n:Int} (h0:0<=n) (h1:n<(ns.length:Int)):fm (nd ns n).kind (nd ns n).name=true:=by
 have h:=g.node (Good.at h0 h1)
 simp only[fM,Bool.and_eq_true] at h
 exact h.1.1.1.1.2
theorem Good.ej {n:Int} (h0:0<=n) (h1:n<(ns.length:Int)) (hk:(nd ns n).kind=22\/(nd ns n).kind=36\/(nd ns n).kind=39\/(nd ns n).kind=40\/(nd ns n).kind=41\/(nd ns n).kind=42\/(nd ns n).kind=43\/(nd ns n).kind=44):
 ∃a,(nd ns n).kids=[a]/\0<=a/\a<n/\aG (nd ns a).kind=true:=by
 have hs:=g.shape h0 h1
 rw[show aL (nd ns n).kind (nd ns n).num=[101] by rcases hk with h|h|h|h|h|h|h|h<;>simp[aL,h]] at hs
 obtain⟨b,h,hb⟩:=zk (by decide) hs
 obtain⟨a,ha,rfl⟩:=pV h
 have:=g.num h0 h1 a (by rw[ha];simp)
 exact⟨a,ha,this.1,this.2,by rw[<-kH];exact hb⟩
theorem Good.vG {n:Int} (h0:0<=n) (h1:n<(ns.length:Int)) (hk:(nd ns n).kind=23\/(nd ns n).kind=38):
 ∃a b,(nd ns n).kids=[a,b]/\0<=a/\a<n/\0<=b/\b<n/\aG (nd ns a).kind=true/\aG (nd ns b).kind=true:=by
 have hs:=g.shape h0 h1
 rw[show aL (nd ns n).kind (nd ns n).num=[101,101] by rcases hk with h|h<;>simp[aL,h]] at hs
 obtain⟨x,y,h,hx,hy⟩:=qK (by decide) (by decide) (by decide) hs
 obtain⟨a,b,hab,rfl,rfl⟩:=xj h
 have ha:=g.num h0 h1 a (by rw[hab];simp)
 have hb:=g.num h0 h1 b (by rw[hab];simp)
 exact⟨a,b,hab,ha.1,ha.2,hb.1,hb.2,by rw[<-kH];exact hx,by rw[<-kH];exact hy⟩
theorem Good.BJ {n:Int} (h0:0<=n) (h1:n<(ns.length:Int)) (hk:(nd ns n).kind=24):
 ∃a b,(nd ns n).kids=[a,b]/\0<=a/\a<n/\0<=b/\b<n/\aG (nd ns a).kind=true/\(nd ns b).kind=20:=by
 have hs:=g.shape h0 h1
 rw[show aL (nd ns n).kind (nd ns n).num=[101,98] by simp[aL,hk]] at hs
 obtain⟨x,y,h,hx,hy⟩:=qK (by decide) (by decide) (by decide) hs
 obtain⟨a,b,hab,rfl,rfl⟩:=xj h
 have ha:=g.num h0 h1 a (by rw[hab];simp)
 have hb:=g.num h0 h1 b (by rw[hab];simp)
 exact⟨a,b,hab,ha.1,ha.2,hb.1,hb.2,by rw[<-kH];exact hx,by simpa[fS] using hy⟩
theorem Good.xa {n:Int} (h0:0<=n) (h1:n<(ns.length:Int)) (hk:(nd ns n).kind=47):
 ∃a b,(nd ns n).kids=[a,b]/\0<=a/\a<n/\0<=b/\b<n/\bN (nd ns a).kind=true/\aG (nd ns b).kind=true:=by
 have hs:=g.shape h0 h1
 rw[show aL (nd ns n).kind (nd ns n).num=[112,101] by simp[aL,hk]] at hs
 obtain⟨x,y,h,hx,hy⟩:=qK (by decide) (by decide) (by decide) hs
 obtain⟨a,b,hab,rfl,rfl⟩:=xj h
 have ha:=g.num h0 h1 a (by rw[hab];simp)
 have hb:=g.num h0 h1 b (by rw[hab];simp)
 exact⟨a,b,hab,ha.1,ha.2,hb.1,hb.2,by rw[<-Hy];exact hx,by rw[<-kH];exact hy⟩
theorem Good.nD {n:Int} (h0:0<=n) (h1:n<(ns.length:Int)) (hk:(nd ns n).kind=25\/(nd ns n).kind=37):
 (nd ns n).kids=[]\/∃a,(nd ns n).kids=[a]/\0<=a/\a<n/\aG (nd ns a).kind=true:=by
 have hs:=g.shape h0 h1
 rw[show aL (nd ns n).kind (nd ns n).num=[63,101] by rcases hk with h|h<;>simp[aL,h]] at hs
 rcases tm (by decide) hs with h|⟨b,h,hb⟩
 ·exact .inl (List.map_eq_nil_iff.1 h)
 ·obtain⟨a,ha,rfl⟩:=pV h
  have:=g.num h0 h1 a (by rw[ha];simp)
  exact .inr ⟨a,ha,this.1,this.2,by rw[<-kH];exact hb⟩
theorem Good.xd {n:Int} (h0:0<=n) (h1:n<(ns.length:Int)) (hk:(nd ns n).kind=54):
 (nd ns n).kids=[]\/∃a,(nd ns n).kids=[a]/\0<=a/\a<n/\bN (nd ns a).kind=true:=by
 have hs:=g.shape h0 h1
 rw[show aL (nd ns n).kind (nd ns n).num=[63,112] by simp[aL,hk]] at hs
 rcases tm (by decide) hs with h|⟨b,h,hb⟩
 ·exact .inl (List.map_eq_nil_iff.1 h)
 ·obtain⟨a,ha,rfl⟩:=pV h
  have:=g.num h0 h1 a (by rw[ha];simp)
  exact .inr ⟨a,ha,this.1,this.2,by rw[<-Hy];exact hb⟩
theorem Good.mN {n:Int} (h0:0<=n) (h1:n<(ns.length:Int)) (hk:(nd ns n).kind=34):∀a∈(nd ns n).kids,0<=a/\a<n/\aG (nd ns a).kind=true:=by
 intro a ha
 have hs:=g.shape h0 h1
 rw[show aL (nd ns n).kind (nd ns n).num=[42,101] by simp[aL,hk]] at hs
 have:=ja hs _ (List.mem_map_of_mem ha)
 have hb:=g.num h0 h1 a ha
 exact⟨hb.1,hb.2,by rw[<-kH];exact this⟩
theorem Good.tB {n:Int} (h0:0<=n) (h1:n<(ns.length:Int)) (hk:(nd ns n).kind=35):∀a∈(nd ns n).kids,0<=a/\a<n/\(nd ns a).kind=36:=by
 intro a ha
 have hs:=g.shape h0 h1
 rw[show aL (nd ns n).kind (nd ns n).num=[42,110] by simp[aL,hk]] at hs
 have:=ja hs _ (List.mem_map_of_mem ha)
 have hb:=g.num h0 h1 a ha
 exact⟨hb.1,hb.2,by simpa[fS] using this⟩
theorem Good.xc {n:Int} (h0:0<=n) (h1:n<(ns.length:Int)) (hk:(nd ns n).kind=21):
 (∃a,(nd ns n).kids=[a]/\0<=a/\a<n/\aG (nd ns a).kind=true)\/
 ∃t a,(nd ns n).kids=[t,a]/\0<=t/\t<n/\0<=a/\a<n/\aJ (nd ns t).kind=true/\aG (nd ns a).kind=true:=by
 have hs:=g.shape h0 h1
 rw[show aL (nd ns n).kind (nd ns n).num=[63,116,101] by simp[aL,hk]] at hs
 have hst:bu [63,116,101]=none:=by simp[bu]
 simp only[aS,hst] at hs
 match hkk:(nd ns n).kids,hs with
 |[],hs=>simp[aV] at hs
 |[a],hs=>
  have hb:=g.num h0 h1 a (by rw[hkk];simp)
  simp[aV] at hs
  exact .inl ⟨a,rfl,hb.1,hb.2,by rw[<-kH];exact hs⟩
 |[t,a],hs=>
  have hb:=g.num h0 h1 a (by rw[hkk];simp)
  have hc:=g.num h0 h1 t (by rw[hkk];simp)
  simp[aV] at hs
  exact .inr ⟨t,a,rfl,hc.1,hc.2,hb.1,hb.2,by rw[<-vD];exact hs.1,by rw[<-kH];exact hs.2⟩
 |a::b::c::l,hs=>simp[aV] at hs
theorem Good.xb {n:Int} (h0:0<=n) (h1:n<(ns.length:Int)) (hk:(nd ns n).kind=45):
 (∃a b,(nd ns n).kids=[a,b]/\0<=a/\a<n/\0<=b/\b<n/\aG (nd ns a).kind=true/\aG (nd ns b).kind=true)\/
 ∃a b c,(nd ns n).kids=[a,b,c]/\0<=a/\a<n/\0<=b/\b<n/\0<=c/\c<n/\aG (nd ns a).kind=true/\aG (nd ns b).kind=true/\aG (nd ns c).kind=true:=by
 have hs:=g.shape h0 h1
 rw[show aL (nd ns n).kind (nd ns n).num=[101,98,63,111] by simp[aL,hk]] at hs
 have hst:bu [101,98,63,111]=none:=by simp[bu]
 simp only[aS,hst] at hs
 match hkk:(nd ns n).kids,hs with
 |[],hs=>simp[aV] at hs
 |[a],hs=>simp[aV] at hs
 |[a,b],hs=>
  have ha:=g.num h0 h1 a (by rw[hkk];simp)
  have hb:=g.num h0 h1 b (by rw[hkk];simp)
  simp[aV,fS] at hs
  refine .inl ⟨a,b,rfl,ha.1,ha.2,hb.1,hb.2,hs.1,?_⟩
  rw[hs.2];decide
 |[a,b,c],hs=>
  have ha:=g.num h0 h1 a (by rw[hkk];simp)
  have hb:=g.num h0 h1 b (by rw[hkk];simp)
  have hc:=g.num h0 h1 c (by rw[hkk];simp)
  simp[aV,fS] at hs
  refine .inr ⟨a,b,c,rfl,ha.1,ha.2,hb.1,hb.2,hc.1,hc.2,hs.1,?_,?_⟩
  ·rw[hs.2.1];decide
  ·rcases hs.2.2 with h|h<;>(rw[h];decide)
 |a::b::c::d::l,hs=>simp[aV] at hs
theorem Good.nC {n:Int} (h0:0<=n) (h1:n<(ns.length:Int)) (hk:(nd ns n).kind=46):
 ∃a l,(nd ns n).kids=a::l/\0<=a/\a<n/\aG (nd ns a).kind=true/\∀k∈l,0<=k/\k<n/\(nd ns k).kind=47:=by
 have hs:=g.shape h0 h1
 rw[show aL (nd ns n).kind (nd ns n).num=[101,42,97] by simp[aL,hk]] at hs
 match hkk:(nd ns n).kids,hs with
 |[],hs=>simp[aS,bu,aV] at hs
 |a::l,hs=>
  have ha:=g.num h0 h1 a (by rw[hkk];simp)
  simp[aS,bu,aV] at hs
  refine⟨a,l,rfl,ha.1,ha.2,by rw[<-kH];exact hs.1,λk hkl=>?_⟩
  have hb:=g.num h0 h1 k (by rw[hkk];simp[hkl])
  have h2:=hs.2 (nd ns k).kind (by rw[List.take_of_length_le (by simp)];exact List.mem_map_of_mem hkl)
  exact⟨hb.1,hb.2,by simpa[fS] using h2⟩
theorem Good.qJ {n:Int} (h0:0<=n) (h1:n<(ns.length:Int)) (hk:(nd ns n).kind=20):
 ∀i k,(nd ns n).kids[i]?=some k->0<=k/\k<n/\(if(nd ns n).num=1/\i+1=(nd ns n).kids.length then aG (nd ns k).kind=true else bY (nd ns k).kind=true):=by
 intro i k hik
 have hs:=g.shape h0 h1
 have hb:=g.num h0 h1 k (List.mem_of_getElem? hik)
 refine⟨hb.1,hb.2,?_⟩
 by_cases hn:(nd ns n).num=1
 ·rw[show aL (nd ns n).kind (nd ns n).num=[42,115,101] by simp[aL,hk,hn]] at hs
  simp[aS,bu] at hs
  obtain⟨hne,⟨_,hst⟩,hex⟩:=hs
  have hil:i<(nd ns n).kids.length:=(List.getElem?_eq_some_iff.1 hik).1
  by_cases hi:i+1=(nd ns n).kids.length
  ·rw[if_pos ⟨hn,hi⟩,<-kH]
   have hd:(List.map (λa=>(nd ns a).kind) (nd ns n).kids).drop ((nd ns n).kids.length-1)=[(nd ns k).kind]:=by
    rw[<-List.map_drop,show(nd ns n).kids.length-1=i by omega,List.drop_eq_getElem_cons hil,List.drop_of_length_le (by omega)]
    have:=(List.getElem?_eq_some_iff.1 hik).2
    simp[this]
   rw[hd] at hex
   simpa[aV] using hex
  ·rw[if_neg (λe=>hi e.2),<-Dt]
   refine hst _ ?_
   rw[<-List.map_take]
   refine List.mem_map_of_mem ?_
   refine List.mem_of_getElem? (i:=i) ?_
   rw[List.getElem?_take_of_lt (by omega)]
   exact hik
 ·rw[show aL (nd ns n).kind (nd ns n).num=[42,115] by simp[aL,hk,hn]] at hs
  rw[if_neg (λe=>hn e.1),<-Dt]
  exact ja hs _ (List.mem_map_of_mem (List.mem_of_getElem? hik))
end good
inductive di (ns:List Nd) (st:St):Int->Prop where
 |var {n:Int}:(nd ns n).kind=33->pf st n->di ns st n
 |deref {n:Int}:(nd ns n).kind=41\/(nd ns n).kind=42->ax ns n 0∈(nd ns n).kids->(aP (typeAt st (ax ns n 0))=true\/bZ (nd ns (ax ns n 0)).kind=true)->(cM (typeAt st (ax ns n 0))/\(typeAt st (ax ns n 0)).length<=60000000)->di ns st (ax ns n 0)->di ns st n
 |other {n:Int}:bZ (nd ns n).kind=false->di ns st n
theorem di.frame {ns:List Nd} (g:Good ns) {st st':St} (hv:∀m,pf st m->pf st' m) {n:Int} (p:di ns st n):0<=n->n<(ns.length:Int)->(∀m,0<=m->m<n->Below ns n m->typeAt st' m=typeAt st m)->di ns st' n:=by
 induction p with
 |var hk ho=>intro _ _ _;exact .var hk (hv _ ho)
 |other hk=>intro _ _ _;exact .other hk
 |@deref n hk hm hr ht _ ih=>
  intro h0 h1 hf
  have hb:=g.num h0 h1 _ hm
  have he:=hf _ hb.1 hb.2 (.step hm (.refl _))
  refine .deref hk hm (by rw[he];exact hr) (by rw[he];exact ht) (ih hb.1 (by omega) λm m0 m1 mb=>hf m m0 (by omega) (.step hm mb))
structure pd (ns:List Nd) (n:Int) (st:St) (s:ah) (st':St):Prop where
 mv:Mv ns n st st'
 sc:st'.scope=st.scope
 ty:cM s
 len:s.length<=cU st'.locals.length+10*n.toNat
 pl:di ns st' n
 Ev:typeAt st' n=s
theorem pd.bound {ns:List Nd} {n:Int} {st st':St} {s:ah} (t:pd ns n st s st') (hn:n.toNat<=20000):s.length<=60000000:=by
 have h1:=t.len
 have h2:=t.mv.wf.ll
 have h3:cU st'.locals.length<=cU 256:=eD h2
 have h4:cU 256=53200000:=rfl
 omega
structure Step (ns:List Nd) (n:Int) (st st':St):Prop where
 mv:Mv ns n st st'
 sc:st'.scope=st.scope
def rY (ns:List Nd) (E:Rec) (n:Int):Prop:=∀st s st',Wf ns st->E n st=.ok s st'->pd ns n st s st'
theorem pd.step {ns:List Nd} {n k:Int} {st st':St} {s:ah} (t:pd ns k st s st') (hk:k∈(nd ns n).kids):Step ns n st st':=⟨t.mv.up hk,t.sc⟩
theorem Step.refl {ns:List Nd} {n:Int} {st:St} (w:Wf ns st):Step ns n st st:=⟨.refl w,rfl⟩
theorem Step.trans {ns:List Nd} {n:Int} {a b c:St} (x:Step ns n a b) (y:Step ns n b c):Step ns n a c:=⟨x.mv.trans y.mv,y.sc.trans x.sc⟩
theorem Step.up {ns:List Nd} {n k:Int} {a b:St} (x:Step ns k a b) (hk:k∈(nd ns n).kids):Step ns n a b:=⟨x.mv.up hk,x.sc⟩
theorem Mv.EJ {ns:List Nd} {n:Int} {a b:St} (x:Mv ns n a b):Step ns n a {b with scope:=b.scope.take a.scope.length}:=⟨x.cut.1,x.cut.2⟩
structure fg (it:aw):Prop where
 sf:∀x∈it.ss,∀f∈x.fs,bh f.ty=false/\f.ty.length<=1200000
 ef:∀x∈it.es,bh x.name=false/\x.name.length<=1200000/\∀f∈x.fs,bh f.ty=false/\f.ty.length<=1200000
 fn:∀f∈it.fns,cM f.ret/\f.ret.length<=1200000/\∀p∈f.ps,cM p.ty/\p.ty.length<=1200000
section parts
variable{ns:List Nd} {it:aw} {E:Rec} {n k:Int} {st st':St}
theorem bq {s:ah} (hE:rY ns E k) (w:Wf ns st) (h:cS ns E k st=.ok s st'):pd ns k st s st':=by
 obtain⟨a,st1,h1,h2⟩:=aN.then_ok h
 split at h2
 ·exact(bc h2).elim
 ·cases h2;exact hE _ _ _ w h1
theorem bJ {ty:ah} {u:Unit} (hE:rY ns E k) (w:Wf ns st) (h:bP ns E k ty st=.ok u st'):pd ns k st ty st':=by
 obtain⟨a,st1,h1,h2⟩:=aN.then_ok h
 split at h2
 ·rename_i e;cases h2;rw[<-e];exact bq hE w h1
 ·exact(bc h2).elim
theorem pj {s:ah} (hE:rY ns E k) (w:Wf ns st) (h:ri ns E k st=.ok s st'):pd ns k st s st'/\(aP s=true\/bZ (nd ns k).kind=true):=by
 obtain⟨a,st1,h1,h2⟩:=aN.then_ok h
 split at h2
 ·rename_i e;cases h2;exact⟨bq hE w h1,e⟩
 ·exact(bc h2).elim
theorem lC {ty:ah} {u:Unit} (h:mB ns k ty st=.ok u st'):st'=st:=by
 unfold mB at h
 split at h
 ·cases h;rfl
 ·exact(bc h).elim
theorem Lq (hE:∀k∈(nd ns n).kids,rY ns E k):∀(ks:List Int) (ws:List ah) (st:St),(∀k∈ks,k∈(nd ns n).kids)->Wf ns st->∀u,gG ns E ks ws st=.ok u st'->Step ns n st st':=by
 intro ks
 induction ks with
 |nil=>intro ws st hk w u h;cases ws<;>(simp only[gG] at h;cases h;exact .refl w)
 |cons k ks ih=>
  intro ws st hk w u h
  cases ws with
  |nil=>simp only[gG] at h;cases h;exact .refl w
  |cons t ws=>
   simp only[gG] at h
   obtain⟨a,st1,h1,h2⟩:=aN.then_ok h
   have hkm:=hk k (by simp)
   have ht:=bJ (hE k hkm) w h1
   exact(ht.step hkm).trans (ih ws st1 (λk hk2=>hk k (by simp[hk2])) ht.mv.wf u h2)
theorem mA {fs:List Fd} {s:ah} {f:Fd} (h:gV fs s=some f):f∈fs:=List.mem_of_find?_eq_some h
theorem Hv (hE:∀k∈(nd ns n).kids,ax ns k 0∈(nd ns k).kids/\rY ns E (ax ns k 0)) (fs:List Fd):∀(ks:List Int) (fR:List ah) (st:St),(∀k∈ks,k∈(nd ns n).kids)->Wf ns st->∀l,fh ns E fs ks fR st=.ok l st'->Step ns n st st':=by
 intro ks
 induction ks with
 |nil=>intro fR st hk w u h;simp only[fh] at h;cases h;exact .refl w
 |cons k ks ih=>
  intro fR st hk w u h
  simp only[fh] at h
  split at h
  ·exact(bc h).elim
  ·split at h
   ·exact(bc h).elim
   ·obtain⟨a,st1,h1,h2⟩:=aN.then_ok h
    have hkm:=hk k (by simp)
    have ht:=bJ (hE k hkm).2 w h1
    exact((ht.step (hE k hkm).1).up hkm).trans (ih _ st1 (λk hk2=>hk k (by simp[hk2])) ht.mv.wf u h2)
theorem x7 {s:ah}:∀{es:List Sd} {e ty:ah},ix s es=some (e,ty)->∃x∈es,x.name=e/\∃f∈x.fs,f.ty=ty:=by
 intro es
 induction es with
 |nil=>intro e ty h;cases h
 |cons x es ih=>
  intro e ty h
  simp only[ix] at h
  split at h
  ·rename_i v hv
   cases h
   exact⟨x,by simp,rfl,v,List.mem_of_find?_eq_some hv,rfl⟩
  ·obtain⟨y,hy,h2⟩:=ih h
   exact⟨y,by simp[hy],h2⟩
theorem fg.variant (io:fg it) {s e ty:ah} (h:eu it s=some (e,ty)):(bh e=false/\e.length<=1200000)/\bh ty=false/\ty.length<=1200000:=by
 obtain⟨x,hx,rfl,f,hf,rfl⟩:=x7 h
 have:=io.ef x hx
 exact⟨⟨this.1,this.2.1⟩,this.2.2 f hf⟩
end parts
end
section
open Go.Vv
open Fo (hp aC cy cj eL gF)
theorem mS {s:ah} (h:fq s=true):bh s=false:=by
 simp only[fq,Bool.and_eq_true,gq] at h
 have hall:=h.1.1.2
 rw[List.all_eq_true] at hall
 cases hh:bh s with
 |false=>rfl
 |true=>
  have hm:(38:UInt8)∈s:=by simpa[bh] using hh
  have:=hall 38 hm
  exact absurd this (by decide)
section good
variable{ns:List Nd} (g:Good ns)
include g
theorem Good.nameOf {n:Int} (h0:0<=n) (h1:n<(ns.length:Int)) (hk:(nd ns n).kind=2\/(nd ns n).kind=3\/(nd ns n).kind=4\/(nd ns n).kind=5\/(nd ns n).kind=6\/(nd ns n).kind=7\/(nd ns n).kind=13\/(nd ns n).kind=21\/(nd ns n).kind=33\/(nd ns n).kind=34\/(nd ns n).kind=35\/(nd ns n).kind=36\/(nd ns n).kind=41\/(nd ns n).kind=51):fq (nd ns n).name=true:=by
 have h:=g.O1 h0 h1
 unfold fm at h
 rwa [if_pos hk] at h
theorem Good.pX {n:Int} (h0:0<=n) (h1:n<(ns.length:Int)):(nd ns n).name.length<=1048576:=g.names _ (List.mem_of_getElem? (Good.at h0 h1))
theorem Good.iU {k:Int} (h0:0<=k) (h1:k<(ns.length:Int)):(cz ns k.toNat).length<=1200000:=by
 have:=xU g k.toNat k.toNat (Nat.le_refl _)
 have:=g.len
 omega
theorem oV:∀(m:Nat) (k:Int),k.toNat<=m->0<=k->k<(ns.length:Int)->aJ (nd ns k).kind=true->bj ns k false=none->bh (cz ns k.toNat)=false:=by
 intro m
 induction m using Nat.strongRecOn with
 |_ m ih=>
  intro k hm h0 h1 ht hi
  rw[eC g false h0 h1] at hi
  split at hi
  ·cases hi
  ·rename_i hc
   rw[jD (Good.at h0 h1)]
   by_cases h10:(nd ns k).kind=10
   ·rw[if_pos h10];rfl
   rw[if_neg h10]
   by_cases h11:(nd ns k).kind=11
   ·rw[if_pos h11];rfl
   rw[if_neg h11]
   by_cases h12:(nd ns k).kind=12
   ·rw[if_pos h12];rfl
   rw[if_neg h12]
   have h14:¬(nd ns k).kind=14:=λe=>hc ⟨rfl,.inl e⟩
   have h15:¬(nd ns k).kind=15:=λe=>hc ⟨rfl,.inr e⟩
   rw[if_neg h14,if_neg h15]
   by_cases h16:(nd ns k).kind=16
   ·rw[if_pos h16]
    obtain⟨a,y,ha,hlt,hy,hty⟩:=g.type1 (Good.at h0 h1) (by simp[h16])
    rw[ha] at hi⊢
    have hlt2:(((a:Nat):Int).toNat)<k.toNat:=by simpa using hlt
    rw[List.headD_cons,if_pos hlt2]
    simp only[List.findSome?_cons,List.findSome?_nil] at hi
    have hin:bj ns (a:Int) false=none:=by
     cases hh:bj ns (a:Int) false with
     |none=>rfl
     |some u=>rw[hh] at hi;cases hi
    have hty2:aJ (nd ns (a:Int)).kind=true:=by rw[Ib hy];exact hty
    have:=ih a (by omega) (a:Int) (by simp) (by omega) (by omega) hty2 hin
    rw[dx,dx,this]
    rfl
   ·rw[if_neg h16]
    have h13:(nd ns k).kind=13:=by
     simp[aJ] at ht
     omega
    exact mS (g.nameOf h0 h1 (by simp[h13]))
theorem qf {k:Int} (h0:0<=k) (h1:k<(ns.length:Int)) (ht:aJ (nd ns k).kind=true) (hi:bj ns k true=none):cM (cz ns k.toNat):=by
 by_cases h:(nd ns k).kind=14\/(nd ns k).kind=15
 ·rw[eC g true h0 h1,if_neg (by simp)] at hi
  obtain⟨a,y,ha,hlt,hy,hty⟩:=g.type1 (Good.at h0 h1) (by rcases h with h|h<;>simp[h])
  rw[ha] at hi
  simp only[List.findSome?_cons,List.findSome?_nil] at hi
  have hin:bj ns (a:Int) false=none:=by
   cases hh:bj ns (a:Int) false with
   |none=>rfl
   |some u=>rw[hh] at hi;cases hi
  have hty2:aJ (nd ns (a:Int)).kind=true:=by rw[Ib hy];exact hty
  have:=oV g a (a:Int) (by simp) (by omega) (by omega) hty2 hin
  have hlt2:(((a:Nat):Int).toNat)<k.toNat:=by simpa using hlt
  rw[jD (Good.at h0 h1),ha]
  rw[List.headD_cons,if_pos hlt2]
  refine .inr ⟨cz ns ((a:Int).toNat),?_,this⟩
  rcases h with h|h<;>simp[h,cj,cy]
 ·have h2:bj ns k false=none:=by
   rw[eC g false h0 h1,if_neg (by simpa using h)]
   rw[eC g true h0 h1,if_neg (by simp)] at hi
   exact hi
  exact .inl (oV g k.toNat k (Nat.le_refl _) h0 h1 ht h2)
theorem Py {it:aw} {k:Int} {st st':St} {s:ah} (h0:0<=k) (h1:k<(ns.length:Int)) (ht:aJ (nd ns k).kind=true) (h:wy ns it k st=.ok s st'):st'=st/\s=cz ns k.toNat/\cM s/\s.length<=1200000:=by
 unfold wy at h
 split at h
 ·exact(bc h).elim
 ·split at h
  ·exact(bc h).elim
  ·rename_i hi
   cases h
   exact⟨rfl,rfl,qf g h0 h1 ht hi,g.iU h0 h1⟩
theorem xB {it:aw} (io:fg it):∀(f:Nat) (n:Int) (ty:ah) (st st':St) (u:Unit),0<=n->n<(ns.length:Int)->Wf ns st->cM ty->ty.length<=cU st.locals.length+200000->mi ns it f n ty st=.ok u st'->Mv ns n st st':=by
 intro f
 induction f with
 |zero=>intro n ty st st' u h0 h1 w ht hl h;simp only[mi] at h;cases h;exact .refl w
 |succ f ih=>
  intro n ty st st' u h0 h1 w ht hl h
  simp only[mi] at h
  generalize (if aP ty=true then(aC ty).getD [] else ty)=held at h
  generalize hfr:(if aP ty=true then(if bC ty=true then cy else cj) else[])=front at h
  obtain⟨a,st1,hr,h2⟩:=aN.then_ok h
  cases h2
  refine Mv.setType ?_ ty h0
  by_cases k51:(nd ns n).kind=51
  ·rw[if_pos k51] at hr
   exact(Mv.refl w).variable h0 h1 ht hl hr
  rw[if_neg k51] at hr
  by_cases k52:(nd ns n).kind=52
  ·rw[if_pos k52] at hr
   by_cases e:held=bg
   ·rw[if_pos e] at hr;cases hr;exact .refl w
   ·rw[if_neg e] at hr;exact(bc hr).elim
  rw[if_neg k52] at hr
  by_cases k53:(nd ns n).kind=53
  ·rw[if_pos k53] at hr
   by_cases e:held=aI
   ·rw[if_pos e] at hr;cases hr;exact .refl w
   ·rw[if_neg e] at hr;exact(bc hr).elim
  rw[if_neg k53] at hr
  by_cases k54:(nd ns n).kind=54
  ·rw[if_pos k54] at hr
   split at hr
   ·exact(bc hr).elim
   ·rename_i e pt hv
    split at hr
    ·exact(bc hr).elim
    ·split at hr
     ·rename_i hl1
      have hm:=DA (ns:=ns) (n:=n) (i:=0) (by omega)
      have hb:=g.num h0 h1 _ hm
      have hvo:=io.variant hv
      have hf:(front=[]\/front=cy\/front=cj):=by
       rw[<-hfr]
       split
       ·split
        ·exact .inr (.inl rfl)
        ·exact .inr (.inr rfl)
       ·exact .inl rfl
      have hlb:2000000<=cU st.locals.length:=by unfold cU;exact Nat.le_add_right _ _
      refine(ih (ax ns n 0) _ st st1 a hb.1 (by omega) w ?_ ?_ hr).up hm
      ·rcases hf with rfl|rfl|rfl
       ·exact .inl hvo.2.1
       ·exact .inr ⟨pt,.inl rfl,hvo.2.1⟩
       ·exact .inr ⟨pt,.inr rfl,hvo.2.1⟩
      ·have:=hvo.2.2
       rcases hf with rfl|rfl|rfl<;>(simp[cy,cj];omega)
     ·cases hr;exact .refl w
  ·rw[if_neg k54] at hr
   cases hr;exact .refl w
end good
section parts
variable{ns:List Nd} (g:Good ns) {it:aw} (io:fg it) {ret:ah} {E:Rec} {n:Int} (h0:0<=n) (h1:n<(ns.length:Int)) (hE:∀k,0<=k->k<n->aG (nd ns k).kind=true->rY ns E k) {st st':St}
theorem xh {s:ah} {a b:Nat} {k n:Int} (h:s.length<=cU a+10*k.toNat) (hab:a<=b) (hk:k.toNat<=n.toNat):s.length<=cU b+10*n.toNat:=by
 have:=eD hab
 omega
include g io h0 h1 hE in
theorem Lr (subject:ah) (hs:cM subject):∀(ks:List Int) (out:ah) (st:St) (s:ah),(∀k∈ks,k∈(nd ns n).kids/\(nd ns k).kind=47)->Wf ns st->subject.length<=cU st.locals.length+200000->cM out->out.length<=cU st.locals.length+10*n.toNat->
 iJ ns it E subject ks out st=.ok s st'->Step ns n st st'/\cM s/\s.length<=cU st'.locals.length+10*n.toNat:=by
 intro ks
 induction ks with
 |nil=>intro out st s hk w hsl ho hol h;simp only[iJ] at h;cases h;exact⟨.refl w,ho,hol⟩
 |cons k ks ih=>
  intro out st s hk w hsl ho hol h
  simp only[iJ] at h
  obtain⟨u,st1,hp1,h⟩:=aN.then_ok h
  obtain⟨t,st2,hp2,h⟩:=aN.then_ok h
  obtain⟨hkm,hk47⟩:=hk k (by simp)
  have hkb:=g.num h0 h1 k hkm
  obtain⟨a,b,hab,ha0,ha1,hb0,hb1,hap,hbe⟩:=g.xa hkb.1 (by omega) hk47
  have ea:ax ns k 0=a:=by simp[ax,hab]
  have eb:ax ns k 1=b:=by simp[ax,hab]
  rw[ea] at hp1
  rw[eb] at hp2 h
  have hm1:Mv ns n st st1:=((xB g io _ a subject st st1 u ha0 (by omega) w hs hsl hp1).up (n:=k) (by rw[hab];simp)).up hkm
  have ht:=hE b hb0 (by omega) hbe st1 t st2 hm1.wf hp2
  have hm2:Mv ns n st st2:=hm1.trans ((ht.mv.up (n:=k) (by rw[hab];simp)).up hkm)
  have hst:=hm2.EJ
  have hll:=hm2.len
  have hlm:=eD hll
  have htl:=xh (n:=n) ht.len (Nat.le_refl _) (by omega)
  split at h
  ·obtain⟨x,y,z⟩:=ih t _ s (λk hk2=>hk k (by simp[hk2])) hst.mv.wf (by simp only;omega) ht.ty (by simpa using htl) h
   exact⟨hst.trans x,y,z⟩
  ·obtain⟨u2,st3,hf,h⟩:=aN.then_ok h
   rw[lC hf] at h
   obtain⟨x,y,z⟩:=ih out _ s (λk hk2=>hk k (by simp[hk2])) hst.mv.wf (by simp only;omega) ho (by simp only;omega) h
   exact⟨hst.trans x,y,z⟩
include g h0 h1 hE in
theorem Q6 {u:Unit} (hk:(nd ns n).kind=21) (w:Wf ns st) (h:qM ns it E n st=.ok u st'):Mv ns n st st':=by
 have hn20:=g.len
 simp only[qM] at h
 obtain⟨ty,st1,ha,hv⟩:=aN.then_ok h
 rcases g.xc h0 h1 hk with⟨a,hkk,ha0,ha1,hae⟩|⟨t,a,hkk,ht0,ht1,ha0,ha1,htt,hae⟩
 ·have ea:ax ns n 0=a:=by simp[ax,hkk]
  rw[hkk,if_neg (by simp),ea] at ha
  have t:=bq (hE a ha0 ha1 hae) w ha
  have:=t.len
  exact(t.mv.up (by rw[hkk];simp)).variable h0 h1 t.ty (by omega) hv
 ·have e0:ax ns n 0=t:=by simp[ax,hkk]
  have e1:ax ns n 1=a:=by simp[ax,hkk]
  rw[hkk,if_pos (by simp),e0,e1] at ha
  obtain⟨ty2,st2,hb,ha⟩:=aN.then_ok ha
  obtain⟨u2,st3,hc,ha⟩:=aN.then_ok ha
  cases ha
  obtain⟨rfl,_,hto,htl⟩:=Py g ht0 (by omega) htt hb
  have t:=bJ (hE a ha0 ha1 hae) w hc
  exact(t.mv.up (by rw[hkk];simp)).variable h0 h1 hto (by unfold cU;omega) hv
include g h0 h1 hE in
theorem D7 {u:Unit} (hk:bY (nd ns n).kind=true) (w:Wf ns st) (h:cW ns it ret E n st=.ok u st'):Mv ns n st st':=by
 simp only[cW] at h
 split at h
 ·rename_i hk21;exact Q6 g h0 h1 hE hk21 w h
 split at h
 ·rename_i hk22
  obtain⟨a,hkk,ha0,ha1,hae⟩:=g.ej h0 h1 (.inl hk22)
  have ea:ax ns n 0=a:=by simp[ax,hkk]
  rw[ea] at h
  obtain⟨s,st1,ha,h⟩:=aN.then_ok h
  cases h
  exact(hE a ha0 ha1 hae _ _ _ w ha).mv.up (by rw[hkk];simp)
 split at h
 ·rename_i hk23
  obtain⟨a,b,hkk,ha0,ha1,hb0,hb1,hae,hbe⟩:=g.vG h0 h1 (.inl hk23)
  have ea:ax ns n 0=a:=by simp[ax,hkk]
  have eb:ax ns n 1=b:=by simp[ax,hkk]
  rw[ea,eb] at h
  obtain⟨s,st1,ha,h⟩:=aN.then_ok h
  split at h
  ·exact(bc h).elim
  obtain⟨u2,st2,hb,h⟩:=aN.then_ok h
  split at h
  ·cases h
   have t:=bq (hE a ha0 ha1 hae) w ha
   have t2:=bJ (hE b hb0 hb1 hbe) t.mv.wf hb
   exact(t.mv.up (by rw[hkk];simp)).trans (t2.mv.up (by rw[hkk];simp))
  ·exact(bc h).elim
 split at h
 ·rename_i hk24
  obtain⟨a,b,hkk,ha0,ha1,hb0,hb1,hae,hbk⟩:=g.BJ h0 h1 hk24
  have hbe:aG (nd ns b).kind=true:=by rw[hbk];decide
  have ea:ax ns n 0=a:=by simp[ax,hkk]
  have eb:ax ns n 1=b:=by simp[ax,hkk]
  rw[ea,eb] at h
  obtain⟨u1,st1,ha,h⟩:=aN.then_ok h
  obtain⟨s,st2,hb,h⟩:=aN.then_ok h
  have t:=bJ (hE a ha0 ha1 hae) w ha
  have hw:=t.mv.wf
  have w1:Wf ns {st1 with loops:=st1.loops+1}:=⟨hw.tl,hw.vl,hw.ll,hw.sl,hw.sc,hw.lt⟩
  have t2:=hE b hb0 hb1 hbe _ _ _ w1 hb
  rw[lC h]
  have hw2:=t2.mv.wf
  have hm:=t2.mv
  refine(t.mv.up (by rw[hkk];simp)).trans ⟨⟨hw2.tl,hw2.vl,hw2.ll,hw2.sl,hw2.sc,hw2.lt⟩,λm hm0 hb=>?_,λm hm0 hb=>?_,hm.gE,hm.loc,hm.sc,?_⟩
  ·exact hm.types m hm0 λhb2=>hb (.step (by rw[hkk];simp) hb2)
  ·exact hm.vars m hm0 λhb2=>hb (.step (by rw[hkk];simp) hb2)
  ·have:=hm.lp
   simp only at this⊢
   omega
 split at h
 ·rename_i hk25
  rcases g.nD h0 h1 (.inl hk25) with hkk|⟨a,hkk,ha0,ha1,hae⟩
  ·rw[hkk,if_neg (by simp)] at h
   split at h
   ·cases h;exact .refl w
   ·exact(bc h).elim
  ·have ea:ax ns n 0=a:=by simp[ax,hkk]
   rw[hkk,if_pos (by simp),ea] at h
   obtain⟨s,st1,ha,h⟩:=aN.then_ok h
   rw[lC h]
   exact(hE a ha0 ha1 hae _ _ _ w ha).mv.up (by rw[hkk];simp)
 split at h
 ·exact(bc h).elim
 ·cases h;exact .refl w
include g io h0 h1 hE in
theorem Kt (tail:Bool):∀(ks:List Int) (out:ah) (st:St) (s:ah),
 (∀i k,ks[i]?=some k->k∈(nd ns n).kids/\(if tail=true/\i+1=ks.length then aG (nd ns k).kind=true else bY (nd ns k).kind=true))->Wf ns st->cM out->out.length<=10->
 eh ns it ret E tail ks out st=.ok s st'->Mv ns n st st'/\cM s/\s.length<=cU st'.locals.length+10*n.toNat:=by
 intro ks
 induction ks with
 |nil=>intro out st s hk w ho hol h;simp only[eh] at h;cases h;exact⟨.refl w,ho,by unfold cU;omega⟩
 |cons k ks ih=>
  intro out st s hk w ho hol h
  obtain⟨hkm,hkk⟩:=hk 0 k rfl
  have hkb:=g.num h0 h1 k hkm
  simp only[eh] at h
  split at h
  ·rename_i hc
   rw[if_pos ⟨hc.1,by rw[hc.2];rfl⟩] at hkk
   have t:=hE k hkb.1 hkb.2 hkk _ _ _ w h
   exact⟨t.mv.up hkm,t.ty,xh t.len (Nat.le_refl _) (by omega)⟩
  ·rename_i hc
   obtain⟨u,st1,ha,h⟩:=aN.then_ok h
   have hkk2:bY (nd ns k).kind=true:=by
    have:¬(tail=true/\0+1=(k::ks).length):=by
     rintro⟨a,b⟩
     refine hc ⟨a,?_⟩
     cases ks with
     |nil=>rfl
     |cons y ys=>simp at b
    rwa [if_neg this] at hkk
   have hm:=D7 g hkb.1 (by omega) (λj j0 j1=>hE j j0 (by omega)) hkk2 w ha
   obtain⟨x,y,z⟩:=ih _ st1 s (λi y hy=>by
    obtain⟨a,b⟩:=hk (i+1) y (by simpa using hy)
    refine⟨a,?_⟩
    simpa only[List.length_cons,Nat.add_right_cancel_iff] using b) hm.wf (by split;exact .PD;exact .unit) (by split<;>simp[aF,aE]) h
   exact⟨(hm.up hkm).trans x,y,z⟩
end parts
end
section
open Go.Vv
open Fo (hp aC cu cy cj eL gF)
theorem vL {s:ah} {l:List (ah×Int)} {v:Int} (h:jV s l=some v):∃p∈l,p.2=v:=by
 unfold jV at h
 rw[Option.map_eq_some_iff] at h
 obtain⟨p,hp,rfl⟩:=h
 exact⟨p,by simpa using List.mem_of_find?_eq_some hp,rfl⟩
theorem bW {ns:List Nd} {st:St} {n:Int} (h:¬(nd ns n).kind=33/\¬(nd ns n).kind=41/\¬(nd ns n).kind=42):di ns st n:=.other (by simp[bZ,h])
section parts
variable{ns:List Nd} (g:Good ns) {it:aw} (io:fg it) {ret:ah} {E:Rec} {n:Int} (h0:0<=n) (h1:n<(ns.length:Int)) (hE:∀k,0<=k->k<n->aG (nd ns k).kind=true->rY ns E k) {st st':St}
def TP (ns:List Nd) (n:Int) (st:St) (s:ah) (st':St):Prop:=Step ns n st st'/\cM s/\s.length<=cU st'.locals.length+10*n.toNat/\di ns st' n
include g io h0 h1 hE in
theorem KV {s:ah} (hx:aG (nd ns n).kind=true) (w:Wf ns st) (h:dc ns it ret E n st=.ok s st'):TP ns n st s st':=by
 have hn20:=g.len
 have small:∀(t:ah) (m:Nat),t.length<=1200000->t.length<=cU m+10*n.toNat:=λt m ht=>by unfold cU;omega
 have lenB0:∀m,2000000<=cU m:=λm=>by unfold cU;omega
 simp only[dc] at h
 by_cases k30:(nd ns n).kind=30
 ·rw[if_pos k30] at h;cases h;exact⟨.refl w,.i64,small _ _ (by decide),bW (by omega)⟩
 rw[if_neg k30] at h
 by_cases k31:(nd ns n).kind=31
 ·rw[if_pos k31] at h;cases h;exact⟨.refl w,.bool,small _ _ (by decide),bW (by omega)⟩
 rw[if_neg k31] at h
 by_cases k32:(nd ns n).kind=32
 ·rw[if_pos k32] at h;cases h;exact⟨.refl w,.unit,small _ _ (by decide),bW (by omega)⟩
 rw[if_neg k32] at h
 by_cases k33:(nd ns n).kind=33
 ·rw[if_pos k33] at h
  unfold Cs at h
  split at h
  ·exact(bc h).elim
  ·rename_i v hv
   cases h
   obtain⟨p,hp,rfl⟩:=vL hv
   have hb:=w.sc p hp
   have hget:st.locals[p.2.toNat]?=some (st.locals[p.2.toNat]'(by omega)):=List.getElem?_eq_getElem _
   have hl:=w.lt _ (List.getElem_mem (show p.2.toNat<st.locals.length by omega))
   have hnl:n.toNat<st.vars.length:=by rw[w.vl];omega
   refine⟨⟨⟨⟨w.tl,by simpa using w.vl,w.ll,w.sl,w.sc,w.lt⟩,λ_ _ _=>rfl,λm hm hb2=>x5 h0 hm (λe=>hb2 (e▸Below.refl _)),λm hm=>?_,List.prefix_refl _,List.prefix_refl _,rfl⟩,rfl⟩,?_,?_,.var k33 ?_⟩
   ·unfold pf fu at hm⊢
    simp only
    by_cases he:m.toNat=n.toNat
    ·rw[he,List.getElem?_set_self hnl];simpa using hb
    ·rw[List.getElem?_set_ne (λe=>he e.symm)];exact hm
   ·rw[hget];exact hl.1
   ·rw[hget]
    have:=hl.2
    simp only[Option.map_some,Option.getD_some]
    omega
   ·unfold pf fu
    simp only
    rw[List.getElem?_set_self hnl]
    simpa using hb
 rw[if_neg k33] at h
 by_cases k34:(nd ns n).kind=34
 ·rw[if_pos k34] at h
  unfold n9 at h
  split at h
  ·exact(bc h).elim
  ·rename_i want r hs
   split at h
   ·exact(bc h).elim
   ·obtain⟨u,st1,ha,h⟩:=aN.then_ok h
    cases h
    have hstep:=Lq (n:=n) (λk hk=>hE k (g.mN h0 h1 k34 k hk).1 (g.mN h0 h1 k34 k hk).2.1 (g.mN h0 h1 k34 k hk).2.2) _ _ _ (λk hk=>hk) w u ha
    have:cM s/\s.length<=1200000:=by
     unfold kz at hs
     split at hs
     ·cases hs;exact⟨.unit,by decide⟩
     ·split at hs
      ·cases hs;exact⟨.i64,by decide⟩
      ·split at hs
       ·cases hs;exact⟨.PD,by decide⟩
       ·rw[Option.map_eq_some_iff] at hs
        obtain⟨f,hf,he⟩:=hs
        cases he
        have:=io.fn f (List.mem_of_find?_eq_some hf)
        exact⟨this.1,this.2.1⟩
    exact⟨hstep,this.1,small _ _ this.2,bW (by omega)⟩
 rw[if_neg k34] at h
 by_cases k35:(nd ns n).kind=35
 ·rw[if_pos k35] at h
  unfold oe at h
  split at h
  ·exact(bc h).elim
  ·rename_i x hs
   obtain⟨fR,st1,ha,h⟩:=aN.then_ok h
   split at h
   ·cases h
    refine⟨Hv (n:=n) (λk hk=>?_) _ _ _ _ (λk hk=>hk) w fR ha,.inl (mS (g.nameOf h0 h1 (by simp[k35]))),small _ _ (by have:=g.pX h0 h1;omega),bW (by omega)⟩
    obtain⟨kb0,kb1,kk⟩:=g.tB h0 h1 k35 k hk
    obtain⟨a,hka,a0,a1,ae⟩:=g.ej kb0 (by omega) (.inr (.inl kk))
    have e:ax ns k 0=a:=by simp[ax,hka]
    rw[e]
    exact⟨by rw[hka];simp,hE a a0 (by omega) ae⟩
   ·exact(bc h).elim
 rw[if_neg k35] at h
 by_cases k37:(nd ns n).kind=37
 ·rw[if_pos k37] at h
  unfold om at h
  split at h
  ·exact(bc h).elim
  ·rename_i e ty hv
   have hvo:=io.variant hv
   split at h
   ·exact(bc h).elim
   ·rcases g.nD h0 h1 (.inr k37) with hkk|⟨a,hkk,a0,a1,ae⟩
    ·rw[hkk,if_neg (by simp)] at h
     cases h
     exact⟨.refl w,.inl hvo.1.1,small _ _ hvo.1.2,bW (by omega)⟩
    ·have e0:ax ns n 0=a:=by simp[ax,hkk]
     rw[hkk,if_pos (by simp),e0] at h
     obtain⟨u,st1,ha,h⟩:=aN.then_ok h
     cases h
     exact⟨(bJ (hE a a0 a1 ae) w ha).step (by rw[hkk];simp),.inl hvo.1.1,small _ _ hvo.1.2,bW (by omega)⟩
 rw[if_neg k37] at h
 by_cases k38:(nd ns n).kind=38
 ·rw[if_pos k38] at h
  obtain⟨a,b,hkk,a0,a1,b0,b1,ae,be⟩:=g.vG h0 h1 (.inr k38)
  have e0:ax ns n 0=a:=by simp[ax,hkk]
  have e1:ax ns n 1=b:=by simp[ax,hkk]
  have ma:a∈(nd ns n).kids:=by rw[hkk];simp
  have mb:b∈(nd ns n).kids:=by rw[hkk];simp
  simp only[yS,e0,e1] at h
  split at h
  ·obtain⟨t,st1,ha,h⟩:=aN.then_ok h
   split at h
   ·exact(bc h).elim
   ·obtain⟨u,st2,hb,h⟩:=aN.then_ok h
    cases h
    have t1:=bq (hE a a0 a1 ae) w ha
    have t2:=bJ (hE b b0 b1 be) t1.mv.wf hb
    exact⟨(t1.step ma).trans (t2.step mb),.bool,small _ _ (by decide),bW (by omega)⟩
  ·split at h
   ·obtain⟨u1,st1,ha,h⟩:=aN.then_ok h
    obtain⟨u2,st2,hb,h⟩:=aN.then_ok h
    cases h
    have t1:=bJ (hE a a0 a1 ae) w ha
    have t2:=bJ (hE b b0 b1 be) t1.mv.wf hb
    exact⟨(t1.step ma).trans (t2.step mb),.bool,small _ _ (by decide),bW (by omega)⟩
   ·obtain⟨u1,st1,ha,h⟩:=aN.then_ok h
    obtain⟨u2,st2,hb,h⟩:=aN.then_ok h
    cases h
    have t1:=bJ (hE a a0 a1 ae) w ha
    have t2:=bJ (hE b b0 b1 be) t1.mv.wf hb
    refine⟨(t1.step ma).trans (t2.step mb),?_,small _ _ ?_,bW (by omega)⟩
    ·split;exact .i64;exact .bool
    ·split<;>decide
 rw[if_neg k38] at h
 by_cases k39:(nd ns n).kind=39
 ·rw[if_pos k39] at h
  obtain⟨a,hkk,a0,a1,ae⟩:=g.ej h0 h1 (by simp[k39])
  have e0:ax ns n 0=a:=by simp[ax,hkk]
  rw[e0] at h
  obtain⟨u1,st1,ha,h⟩:=aN.then_ok h
  cases h
  exact⟨(bJ (hE a a0 a1 ae) w ha).step (by rw[hkk];simp),.i64,small _ _ (by decide),bW (by omega)⟩
 rw[if_neg k39] at h
 by_cases k40:(nd ns n).kind=40
 ·rw[if_pos k40] at h
  obtain⟨a,hkk,a0,a1,ae⟩:=g.ej h0 h1 (by simp[k40])
  have e0:ax ns n 0=a:=by simp[ax,hkk]
  rw[e0] at h
  obtain⟨u1,st1,ha,h⟩:=aN.then_ok h
  cases h
  exact⟨(bJ (hE a a0 a1 ae) w ha).step (by rw[hkk];simp),.bool,small _ _ (by decide),bW (by omega)⟩
 rw[if_neg k40] at h
 by_cases k41:(nd ns n).kind=41
 ·rw[if_pos k41] at h
  obtain⟨a,hkk,a0,a1,ae⟩:=g.ej h0 h1 (by simp[k41])
  have e0:ax ns n 0=a:=by simp[ax,hkk]
  have ma:ax ns n 0∈(nd ns n).kids:=by rw[e0,hkk];simp
  unfold EZ at h
  obtain⟨t,st1,ha,h⟩:=aN.then_ok h
  rw[e0] at ha
  obtain⟨tt,hr⟩:=pj (hE a a0 a1 ae) w ha
  split at h
  ·exact(bc h).elim
  ·rename_i f hf
   cases h
   unfold dG at hf
   rw[Option.bind_eq_some_iff] at hf
   obtain⟨x,hx1,hx2⟩:=hf
   have:=io.sf x (bD hx1).1 f (mA hx2)
   refine⟨tt.step (by rw[hkk];simp),.inl this.1,small _ _ this.2,.deref (.inl k41) ma ?_ ?_ ?_⟩
   ·rw[e0,tt.Ev];exact hr
   ·rw[e0,tt.Ev];exact⟨tt.ty,tt.bound (by omega)⟩
   ·rw[e0];exact tt.pl
 rw[if_neg k41] at h
 by_cases k42:(nd ns n).kind=42
 ·rw[if_pos k42] at h
  obtain⟨a,hkk,a0,a1,ae⟩:=g.ej h0 h1 (by simp[k42])
  have e0:ax ns n 0=a:=by simp[ax,hkk]
  have ma:ax ns n 0∈(nd ns n).kids:=by rw[e0,hkk];simp
  unfold rL at h
  obtain⟨t,st1,ha,h⟩:=aN.then_ok h
  rw[e0] at ha
  obtain⟨tt,hr⟩:=pj (hE a a0 a1 ae) w ha
  split at h
  ·exact(bc h).elim
  ·rename_i u hu
   cases h
   have:=tt.len
   have h3:=Fo.bH hu
   refine⟨tt.step (by rw[hkk];simp),.inl (tt.ty.inner hu),by omega,.deref (.inr k42) ma ?_ ?_ ?_⟩
   ·rw[e0,tt.Ev];exact hr
   ·rw[e0,tt.Ev];exact⟨tt.ty,tt.bound (by omega)⟩
   ·rw[e0];exact tt.pl
 rw[if_neg k42] at h
 by_cases k43:(nd ns n).kind=43
 ·rw[if_pos k43] at h
  obtain⟨a,hkk,a0,a1,ae⟩:=g.ej h0 h1 (by simp[k43])
  have e0:ax ns n 0=a:=by simp[ax,hkk]
  simp only[ln,e0] at h
  obtain⟨t,st1,ha,h⟩:=aN.then_ok h
  have tt:=bq (hE a a0 a1 ae) w ha
  have:=tt.len
  split at h
  ·exact(bc h).elim
  split at h
  ·exact(bc h).elim
  rename_i hamp
  have hamp2:bh t=false:=by simpa using hamp
  split at h
  ·cases h
   exact⟨tt.step (by rw[hkk];simp),.inr ⟨t,.inr rfl,hamp2⟩,by simp[cj];omega,bW (by omega)⟩
  split at h
  ·cases h
   exact⟨tt.step (by rw[hkk];simp),.inr ⟨t,.inl rfl,hamp2⟩,by simp[cy];omega,bW (by omega)⟩
  ·exact(bc h).elim
 rw[if_neg k43] at h
 by_cases k44:(nd ns n).kind=44
 ·rw[if_pos k44] at h
  obtain⟨a,hkk,a0,a1,ae⟩:=g.ej h0 h1 (by simp[k44])
  have e0:ax ns n 0=a:=by simp[ax,hkk]
  simp only[Fc,e0] at h
  obtain⟨t,st1,ha,h⟩:=aN.then_ok h
  have tt:=bq (hE a a0 a1 ae) w ha
  have:=tt.len
  split at h
  ·exact(bc h).elim
  rename_i hamp
  have hamp2:bh t=false:=by simpa using hamp
  cases h
  exact⟨tt.step (by rw[hkk];simp),.inl (by rw[dx,dx,hamp2];rfl),by simp[eL,gF];omega,bW (by omega)⟩
 rw[if_neg k44] at h
 by_cases k45:(nd ns n).kind=45
 ·rw[if_pos k45] at h
  rcases g.xb h0 h1 k45 with⟨a,b,hkk,a0,a1,b0,b1,ae,be⟩|⟨a,b,c,hkk,a0,a1,b0,b1,c0,c1,ae,be,ce⟩
  ·have e0:ax ns n 0=a:=by simp[ax,hkk]
   have e1:ax ns n 1=b:=by simp[ax,hkk]
   simp only[iO,e0,e1] at h
   obtain⟨u,st1,ha,h⟩:=aN.then_ok h
   obtain⟨first,st2,hb,h⟩:=aN.then_ok h
   have t1:=bJ (hE a a0 a1 ae) w ha
   have t2:=hE b b0 b1 be _ _ _ t1.mv.wf hb
   rw[hkk,if_pos (by simp)] at h
   obtain⟨u2,st3,hf,h⟩:=aN.then_ok h
   cases h
   rw[lC hf]
   exact⟨(t1.step (by rw[hkk];simp)).trans (t2.step (by rw[hkk];simp)),.unit,small _ _ (by decide),bW (by omega)⟩
  ·have e0:ax ns n 0=a:=by simp[ax,hkk]
   have e1:ax ns n 1=b:=by simp[ax,hkk]
   have e2:ax ns n 2=c:=by simp[ax,hkk]
   simp only[iO,e0,e1,e2] at h
   obtain⟨u,st1,ha,h⟩:=aN.then_ok h
   obtain⟨first,st2,hb,h⟩:=aN.then_ok h
   have t1:=bJ (hE a a0 a1 ae) w ha
   have t2:=hE b b0 b1 be _ _ _ t1.mv.wf hb
   rw[hkk,if_neg (by simp)] at h
   obtain⟨oth,st3,hc,h⟩:=aN.then_ok h
   have t3:=hE c c0 c1 ce _ _ _ t2.mv.wf hc
   have hst:=((t1.step (n:=n) (by rw[hkk];simp)).trans (t2.step (by rw[hkk];simp))).trans (t3.step (by rw[hkk];simp))
   split at h
   ·cases h
    exact⟨hst,t3.ty,xh t3.len (Nat.le_refl _) (by omega),bW (by omega)⟩
   ·obtain⟨u2,st4,hf,h⟩:=aN.then_ok h
    cases h
    rw[lC hf]
    exact⟨hst,t2.ty,xh t2.len t3.mv.len (by omega),bW (by omega)⟩
 rw[if_neg k45] at h
 by_cases k46:(nd ns n).kind=46
 ·rw[if_pos k46] at h
  obtain⟨a,l,hkk,a0,a1,ae,hl⟩:=g.nC h0 h1 k46
  have e0:ax ns n 0=a:=by simp[ax,hkk]
  simp only[lI,e0] at h
  obtain⟨t,st1,ha,h⟩:=aN.then_ok h
  have t1:=bq (hE a a0 a1 ae) w ha
  have:=t1.len
  have hd:(nd ns n).kids.drop 1=l:=by rw[hkk];rfl
  rw[hd] at h
  obtain⟨x,y,z⟩:=Lr g io h0 h1 hE t t1.ty l aF st1 s (λk hk=>⟨by rw[hkk];simp[hk],(hl k hk).2.2⟩) t1.mv.wf (by omega) .PD (small _ _ (by decide)) h
  exact⟨(t1.step (by rw[hkk];simp)).trans x,y,z,bW (by omega)⟩
 rw[if_neg k46] at h
 have k20:(nd ns n).kind=20:=by
  simp[aG] at hx
  omega
 unfold jk at h
 obtain⟨out,st1,ha,h⟩:=aN.then_ok h
 cases h
 obtain⟨x,y,z⟩:=Kt g io h0 h1 hE _ _ _ st s (λi k hik=>by
  obtain⟨a,b,c⟩:=g.qJ h0 h1 k20 i k hik
  refine⟨List.mem_of_getElem? hik,?_⟩
  simpa using c) w .unit (by decide) ha
 exact⟨x.EJ,y,z,bW (by omega)⟩
include g io in
theorem wI:∀(f:Nat) (n:Int),0<=n->n<(ns.length:Int)->n.toNat<f->aG (nd ns n).kind=true->rY ns (pF ns it ret f) n:=by
 intro f
 induction f with
 |zero=>intro n h0 h1 hf;omega
 |succ f ih=>
  intro n h0 h1 hf hx st s st' w h
  simp only[pF] at h
  obtain⟨t,st1,ha,h⟩:=aN.then_ok h
  cases h
  obtain⟨x,y,z,p⟩:=KV g io h0 h1 (λk k0 k1 kx=>ih k k0 (by omega) (by omega) kx) hx w ha
  have hnl:n.toNat<st1.types.length:=by rw[x.mv.wf.tl];omega
  refine⟨x.mv.setType s h0,x.sc,y,z,?_,Cq hnl⟩
  exact p.frame g (st:=st1) (st':={st1 with types:=st1.types.set n.toNat s}) (λm hm=>hm) h0 h1 λm m0 m1 mb=>oz h0 m0 (by omega)
end parts
end
section
open Go.Vv
open Fo (hp aC cy cj eL gF)
section coll
variable(ns:List Nd)
def aD (l:List Int):aw:=⟨true,(l.filter (λn=>(nd ns n).kind==3)).map (mj ns),true,(l.filter (λn=>(nd ns n).kind==4)).map (mj ns),true,(l.filter (λn=>(nd ns n).kind !=3&&(nd ns n).kind !=4)).map (yH ns)⟩
theorem yY:∀(l:List Int) (it:aw) (b:Option Int),(aU ns l it b).1=
 {it with ss:=it.ss++(aD ns l).ss,es:=it.es++(aD ns l).es,fns:=it.fns++(aD ns l).fns}:=by
 intro l
 induction l with
 |nil=>intro it b;simp[aU,aD]
 |cons n l ih=>
  intro it b
  simp only[aU]
  rw[ih]
  by_cases h3:(nd ns n).kind=3
  ·simp[cX,aD,h3]
  ·by_cases h4:(nd ns n).kind=4
   ·simp[cX,aD,h4]
   ·simp[cX,aD,h3,h4]
theorem jo (l:List Int):(aU ns l aw.none none).1=aD ns l:=by
 rw[yY]
 simp[aw.none,aD]
theorem jP:∀(l:List Int) (it:aw) (b:Option Int),(aU ns l it b).2=none->it.ss.length<=64->it.es.length<=64->it.fns.length<=64->
 b=none/\(aU ns l it b).1.ss.length<=64/\(aU ns l it b).1.es.length<=64/\(aU ns l it b).1.fns.length<=64:=by
 intro l
 induction l with
 |nil=>intro it b h h1 h2 h3;exact⟨h,h1,h2,h3⟩
 |cons n l ih=>
  intro it b h h1 h2 h3
  simp only[aU] at h⊢
  have key:∀it':aw,∀b',(aU ns l it' b').2=none->b'=none:=by
   intro it' b' hh
   cases b' with
   |none=>rfl
   |some x=>
    exfalso
    have:∀(l:List Int) (it:aw) (x:Int),(aU ns l it (some x)).2=some x:=by
     intro l
     induction l with
     |nil=>intro it x;rfl
     |cons n l ih=>intro it x;simp only[aU];exact ih _ _
    rw[this] at hh
    cases hh
  have hb:=key _ _ h
  cases b with
  |some x=>cases hb
  |none=>
   simp only at hb h⊢
   have hf:ei ns n (cX ns n it)=false:=by
    cases hh:ei ns n (cX ns n it) with
    |false=>rfl
    |true=>rw[hh] at hb;simp at hb
   rw[hf] at h⊢
   simp only[Bool.false_eq_true,if_false] at h⊢
   refine⟨trivial,?_⟩
   have:=ih (cX ns n it) none h (by
    unfold cX ei at*
    by_cases k3:(nd ns n).kind=3
    ·simp[k3] at hf⊢;omega
    ·by_cases k4:(nd ns n).kind=4
     ·simp[k4];exact h1
     ·simp[k3,k4];exact h1) (by
    unfold cX ei at*
    by_cases k3:(nd ns n).kind=3
    ·simp[k3];exact h2
    ·by_cases k4:(nd ns n).kind=4
     ·simp[k4] at hf⊢;omega
     ·simp[k3,k4];exact h2) (by
    unfold cX ei at*
    by_cases k3:(nd ns n).kind=3
    ·simp[k3];exact h3
    ·by_cases k4:(nd ns n).kind=4
     ·simp[k4];exact h3
     ·simp[k3,k4] at hf⊢;omega)
   exact this.2
theorem tJ:∀(l:List Int) (ts fs:List ah),ba ns l ts fs=none->∀n∈l,(ar ns n).length<=16:=by
 intro l
 induction l with
 |nil=>intro ts fs _ n hn;cases hn
 |cons m l ih=>
  intro ts fs h n hn
  simp only[ba] at h
  generalize (if au ns m=true then fs else ts).contains (nd ns m).name=c1 at h
  generalize hmost:(if au ns m=true then 6 else 16)=eo at h
  have hm16:eo<=16:=by rw[<-hmost];split<;>omega
  cases c1 with
  |true=>cases h
  |false=>
   rw[if_neg (by simp)] at h
   by_cases hle:(ar ns m).length>eo
   ·rw[if_pos hle] at h;cases h
   ·rw[if_neg hle] at h
    have hm:(ar ns m).length<=16:=by omega
    split at h
    ·cases h
    ·rcases List.mem_cons.1 hn with rfl|hn
     ·exact hm
     ·split at h
      ·exact ih _ _ h n hn
      ·exact ih _ _ h n hn
theorem uM {it:aw} {fn:Bool}:∀(l:List Int),bn ns it fn l=none->∀k∈l,bm ns it k=none/\bj ns k fn=none:=by
 intro l
 induction l with
 |nil=>intro _ k hk;cases hk
 |cons a l ih=>
  intro h k hk
  simp only[bn] at h
  split at h
  ·cases h
  ·rename_i hu
   split at h
   ·cases h
   ·rename_i hi
    rcases List.mem_cons.1 hk with rfl|hk
    ·exact⟨hu,hi⟩
    ·exact ih h k hk
theorem lN {it:aw}:∀(l:List Int),bz ns it l=none->∀n∈l,bn ns it (au ns n) (typesOf ns n)=none:=by
 intro l
 induction l with
 |nil=>intro _ k hk;cases hk
 |cons a l ih=>
  intro h k hk
  simp only[bz] at h
  split at h
  ·cases h
  ·rename_i hu
   rcases List.mem_cons.1 hk with rfl|hk
   ·exact hu
   ·exact ih h k hk
end coll
theorem Ch {α:Type} (f:α->Nat) (c:Nat):∀(l:List α),(∀x∈l,f x<=c)->(l.map f).sum<=l.length*c:=by
 intro l
 induction l with
 |nil=>intro _;simp
 |cons a l ih=>
  intro h
  have h1:=h a (by simp)
  have h2:=ih λx hx=>h x (by simp[hx])
  simp only[List.map_cons,List.sum_cons,List.length_cons]
  rw[Nat.succ_mul]
  omega
theorem rp {α β:Type} (f:α->List β) (c:Nat) (l:List α) (h:∀x∈l,(f x).length<=c):(l.flatMap f).length<=l.length*c:=by
 rw[List.length_flatMap]
 exact Ch _ c l h
section right
variable{ns:List Nd} (g:Good ns) {l:List Int} (hl:∀n∈l,0<=n/\n<(ns.length:Int)/\((nd ns n).kind=2\/(nd ns n).kind=3\/(nd ns n).kind=4))
include g hl
theorem ou {x:Sd} (hx:x∈(aD ns l).ss):∃n∈l,(nd ns n).kind=3/\x=mj ns n:=by
 simp only[aD,List.mem_map,List.mem_filter] at hx
 obtain⟨n,⟨hn,hk⟩,rfl⟩:=hx
 exact⟨n,hn,by simpa using hk,rfl⟩
theorem rm {x:Sd} (hx:x∈(aD ns l).es):∃n∈l,(nd ns n).kind=4/\x=mj ns n:=by
 simp only[aD,List.mem_map,List.mem_filter] at hx
 obtain⟨n,⟨hn,hk⟩,rfl⟩:=hx
 exact⟨n,hn,by simpa using hk,rfl⟩
theorem tn {x:Fx} (hx:x∈(aD ns l).fns):∃n∈l,(nd ns n).kind=2/\x=yH ns n:=by
 simp only[aD,List.mem_map,List.mem_filter] at hx
 obtain⟨n,⟨hn,hk⟩,rfl⟩:=hx
 have:=(hl n hn).2.2
 simp at hk
 exact⟨n,hn,by omega,rfl⟩
theorem GU (h:∀n∈l,(ar ns n).length<=16) (h1:(aD ns l).ss.length<=64) (h2:(aD ns l).es.length<=64) (h3:(aD ns l).fns.length<=64):A1 (aD ns l)/\
 ((cG (aD ns l)).map (λu=>(bB (aD ns l) u).length+1)).sum+1048576<=100000000:=by
 have hs:∀x∈(aD ns l).ss,x.fs.length<=16:=by
  intro x hx
  obtain⟨n,hn,hk,rfl⟩:=ou g hl hx
  have:=h n hn
  simpa[mj,ar,hk] using this
 have he:∀x∈(aD ns l).es,x.fs.length<=16:=by
  intro x hx
  obtain⟨n,hn,hk,rfl⟩:=rm g hl hx
  have:=h n hn
  simpa[mj,ar,hk] using this
 refine⟨⟨by omega,by omega,by omega,λx hx=>by have:=hs x hx;omega,λx hx=>by have:=he x hx;omega⟩,?_⟩
 have hed:∀u,(bB (aD ns l) u).length<=16:=by
  intro u
  unfold bB hX
  cases h1:aM (aD ns l).ss u with
  |some x=>simp only[List.length_map];exact hs x (bD h1).1
  |none=>
   simp only
   cases h2:aM (aD ns l).es u with
   |some x=>exact Nat.le_trans (List.length_filter_le _ _) (by rw[List.length_map];exact he x (bD h2).1)
   |none=>simp
 have hall:(cG (aD ns l)).length<=2048:=by
  unfold cG
  rw[List.length_append]
  have a:=rp (λx:Sd=>x.fs.map Fd.ty) 16 (aD ns l).ss (λx hx=>by simpa using hs x hx)
  have b:=rp (λx:Sd=>x.fs.map Fd.ty) 16 (aD ns l).es (λx hx=>by simpa using he x hx)
  omega
 have:=Ch (λu=>(bB (aD ns l) u).length+1) 17 (cG (aD ns l)) (λu _=>by have:=hed u;omega)
 omega
theorem CX (h:∀n∈l,(nd ns n).kind=3\/(nd ns n).kind=4->¬Reach (bB (aD ns l)) (nd ns n).name (nd ns n).name):gD (aD ns l):=by
 intro x hx
 unfold aY at hx
 rcases List.mem_append.1 hx with hx|hx
 ·obtain⟨s,hs,rfl⟩:=List.mem_map.1 hx
  obtain⟨n,hn,hk,rfl⟩:=ou g hl hs
  exact h n hn (.inl hk)
 ·obtain⟨s,hs,rfl⟩:=List.mem_map.1 hx
  obtain⟨n,hn,hk,rfl⟩:=rm g hl hs
  exact h n hn (.inr hk)
theorem tj {it:aw} {n k:Int} (hn:n∈l) (hk:k∈ar ns n) (ht:bn ns it (au ns n) (typesOf ns n)=none):
 cM (cm ns k).ty/\(cm ns k).ty.length<=1200000/\(au ns n=false->bh (cm ns k).ty=false):=by
 obtain⟨n0,n1,nk⟩:=hl n hn
 obtain⟨hkn,⟨k0,k1,hkk⟩,_⟩:=g.members n0 n1 nk k hk
 rcases hkk with hkk|⟨a,hkk,a0,a1,Ev⟩
 ·have:(cm ns k).ty=[]:=by simp[cm,hkk]
  rw[this]
  exact⟨.nil,by simp,λ_=>rfl⟩
 ·have e:(cm ns k).ty=cz ns a.toNat:=by simp[cm,hkk]
  rw[e]
  have hm:a∈typesOf ns n:=by
   unfold typesOf
   refine List.mem_append_left _ (List.mem_flatMap.2 ⟨k,hk,by rw[hkk];simp⟩)
  have hw:=(uM ns _ ht a hm).2
  cases hf:au ns n with
  |true=>
   rw[hf] at hw
   exact⟨qf g a0 (by omega) Ev hw,g.iU a0 (by omega),λh=>by cases h⟩
  |false=>
   rw[hf] at hw
   have:=oV g a.toNat a (Nat.le_refl _) a0 (by omega) Ev hw
   exact⟨.inl this,g.iU a0 (by omega),λ_=>this⟩
theorem HA {it:aw} (ht:bz ns it l=none):fg (aD ns l):=by
 refine⟨λx hx f hf=>?_,λx hx=>?_,λx hx=>?_⟩
 ·obtain⟨n,hn,hk,rfl⟩:=ou g hl hx
  obtain⟨k,hkm,rfl⟩:=List.mem_map.1 hf
  have:=tj g hl hn (k:=k) (by simpa[ar,hk] using hkm) (lN ns l ht n hn)
  exact⟨this.2.2 (by simp[au,hk]),this.2.1⟩
 ·obtain⟨n,hn,hk,rfl⟩:=rm g hl hx
  obtain⟨n0,n1,nk⟩:=hl n hn
  refine⟨mS (g.nameOf n0 n1 (by simp[hk])),by have:=g.pX n0 n1;simp only[mj];omega,λf hf=>?_⟩
  obtain⟨k,hkm,rfl⟩:=List.mem_map.1 hf
  have:=tj g hl hn (k:=k) (by simpa[ar,hk] using hkm) (lN ns l ht n hn)
  exact⟨this.2.2 (by simp[au,hk]),this.2.1⟩
 ·obtain⟨n,hn,hk,rfl⟩:=tn g hl hx
  obtain⟨n0,n1,nk⟩:=hl n hn
  obtain⟨_,r0,r1,rt,_⟩:=g.fn n0 n1 hk
  have hm:dL ns n∈typesOf ns n:=by
   unfold typesOf
   rw[show au ns n=true by simp[au,hk]]
   exact List.mem_append_right _ (by simp)
  have hw:=(uM ns _ (lN ns l ht n hn) _ hm).2
  rw[show au ns n=true by simp[au,hk]] at hw
  refine⟨qf g r0 (by omega) rt hw,g.iU r0 (by omega),λp hp=>?_⟩
  obtain⟨k,hkm,rfl⟩:=List.mem_map.1 hp
  have:=tj g hl hn (k:=k) hkm (lN ns l ht n hn)
  exact⟨this.1,this.2.1⟩
end right
end
section
open Go.Vv
theorem tI {ns:List Nd}:∀(l:List Int) (ts fs:List ah) (e:Int×Int),ba ns l ts fs=some e->e.2≠0:=by
 intro l
 induction l with
 |nil=>intro ts fs e h;cases h
 |cons m l ih=>
  intro ts fs e h
  simp only[ba] at h
  generalize (if au ns m=true then fs else ts).contains (nd ns m).name=c1 at h
  generalize (if au ns m=true then 6 else 16)=eo at h
  cases c1 with
  |true=>simp at h;subst h;simp
  |false=>
   rw[if_neg (by simp)] at h
   by_cases hle:(ar ns m).length>eo
   ·rw[if_pos hle] at h;cases h;simp
   ·rw[if_neg hle] at h
    split at h
    ·cases h;simp
    ·split at h
     ·exact ih _ _ _ h
     ·exact ih _ _ _ h
theorem CJ {ns:List Nd} {it:aw} {fn:Bool}:∀(l:List Int) (e:Int×Int),bn ns it fn l=some e->e.2≠0:=by
 intro l
 induction l with
 |nil=>intro e h;cases h
 |cons a l ih=>
  intro e h
  simp only[bn] at h
  split at h
  ·cases h;simp
  ·split at h
   ·cases h;simp
   ·exact ih _ h
theorem uc {ns:List Nd} {it:aw} {l:List Int} {e:Int×Int} (h:cq ns it l=some e):e.2≠0:=by
 unfold cq at h
 split at h
 ·cases h;simp
 ·rw[Option.map_eq_some_iff] at h
  obtain⟨n,_,rfl⟩:=h
  simp
theorem yX {ns:List Nd}:∀(l:List Int) (it:aw) (b:Option Int) (n:Int),(aU ns l it b).2=some n->b=some n\/n∈l:=by
 intro l
 induction l with
 |nil=>intro it b n h;exact .inl h
 |cons m l ih=>
  intro it b n h
  simp only[aU] at h
  rcases ih _ _ n h with h|h
  ·cases b with
   |some x=>exact .inl h
   |none=>
    simp only at h
    split at h
    ·cases h;exact .inr (by simp)
    ·cases h
  ·exact .inr (by simp[h])
end
section
open Go.Vv
theorem Wf.setType {ns:List Nd} {st:St} (w:Wf ns st) (n:Nat) (s:ah):Wf ns {st with types:=st.types.set n s}:=⟨by simpa using w.tl,w.vl,w.ll,w.sl,w.sc,w.lt⟩
def jd (ns:List Nd) (n:Int) (name ty:ah) (mt:Bool) (st:St):aN Int:=(bw ns n name ty mt st).then λ_ st'=>.ok (st.locals.length:Nat) st'
end
section
open Go.Vv
def GY (s w:ah):Bool:=s==w||s==aF
end
section
open Go.Vv
open Fo (hp hs aC oK cu cy cj eL gF oL bH pP XS TO)
theorem zl:∀(n:Nat) (s:ah),s.length<=n->cu n s=cu s.length s:=by
 intro n
 induction n using Nat.strongRecOn with
 |_ n ih=>
  intro s hs
  cases n with
  |zero=>have:s.length=0:=by omega
         rw[this]
  |succ n=>
   cases hsl:s.length with
   |zero=>
    have:s=[]:=List.eq_nil_of_length_eq_zero hsl
    subst this
    rfl
   |succ m=>
    simp only[cu]
    cases hi:aC s with
    |none=>rfl
    |some t=>
     have:=bH hi
     simp only
     rw[ih n (by omega) t (by omega),<-ih m (by omega) t (by omega)]
theorem rq {s t:ah} (h:aC s=some t):cu s.length s=cu t.length t:=by
 have:=bH h
 obtain⟨m,hm⟩:∃m,s.length=m+1:=⟨s.length-1,by omega⟩
 rw[hm]
 simp only[cu,h]
 exact zl m t (by omega)
theorem rr {s:ah} (h:aC s=none):cu s.length s=s:=by
 cases hm:s.length with
 |zero=>rfl
 |succ m=>simp only[cu,h]
theorem xW:∀(n m:Nat) (s:ah) (a b:Bool),s.length<n->s.length<m->cI n s a b=cI m s a b:=by
 intro n
 induction n with
 |zero=>intro m s a b h;omega
 |succ n ih=>
  intro m s a b hn hm
  obtain⟨m,rfl⟩:∃k,m=k+1:=⟨m-1,by omega⟩
  simp only[cI]
  split
  ·rfl
  ·cases hi:aC s with
   |none=>rfl
   |some t=>have:=bH hi;exact ih m t _ _ (by omega) (by omega)
theorem AD {s:ah} {a b:Bool} (hr:aP s=true) (hm:bC s=false):cI (s.length+1) s a b=(false,true):=by
 simp[cI,hr,hm]
theorem xX {s t:ah} {a b:Bool} (hc:¬(aP s=true/\bC s=false)) (hi:aC s=some t):cI (s.length+1) s a b=cI (t.length+1) t (if aP s=true then true else a) (if aP s=true then true else b):=by
 have:=bH hi
 rw[cI,if_neg hc]
 simp only[hi]
 exact xW _ _ _ _ _ (by omega) (by omega)
theorem xY {s:ah} {a b:Bool} (hc:¬(aP s=true/\bC s=false)) (hi:aC s=none):cI (s.length+1) s a b=(if aP s=true then true else a,if aP s=true then true else b):=by
 simp only[cI,if_neg hc,hi]
end
section
set_option maxRecDepth 100000
open Go.Vv Go.Ee
open Fo (hp hs aC oK pP bH cu cy cj eL gF)
variable{K:aR->SH->Prop}
theorem AA (s p:ah) (hK:W (K (.ret (.b (hp s p))) H0)):SC Tryz.prog 124 [.s s,.s p] H0 K:=by
 refine fn [] [] Tryz.func124 rfl (by kernel_rfl) ?_
 repeat' first
  |((with_reducible refine W.of ?_);conv=>whnf)
  |with_reducible refine W.fin (K:=K) hK ?_ rfl
  |((with_reducible refine bb (λh=>?_) (λh=>?_))<;>(try simp at h))
 all_goals(clear hK;grind [hp])
theorem zG (s p:ah) (hK:W (K (.ret (.b (hp s p))) H0)):SC Tryz.prog 143 [.s s,.s p] H0 K:=by
 refine fn [] [] Tryz.func143 rfl (by kernel_rfl) ?_
 repeat' first
  |((with_reducible refine W.of ?_);conv=>whnf)
  |with_reducible first
   |refine W.fin (K:=K) hK ?_ rfl
   |refine fn [] [] Tryz.func205 rfl (by kernel_rfl) ?_
  |((with_reducible refine bb (λh=>?_) (λh=>?_))<;>(try simp at h))
 all_goals(clear hK;grind [hp])
theorem Hr {s p:ah} (h:hp s p=true):p.length<=s.length:=by simp[hp] at h;exact h.1
theorem Qi {s:ah} (h:hp s [38,109,117,116,32]=true):5<=s.length:=Hr h
theorem Qh {s:ah} (h:hp s [66,111,120,60]=true):s[3]?=some 60:=by
 have h1:s.take 4=[66,111,120,60]:=by simp[hp] at h;exact h.2
 rw[<-List.getElem?_take_of_lt (show 3<4 by omega),h1];rfl
theorem UW (b:UInt8):((b.toNat:Int)=62)=(b=62):=by
 have:b=62↔b.toNat=62:=⟨λh=>by subst h;rfl,λh=>UInt8.toNat_inj.1 h⟩
 rw[this];simp;omega
def PQ (s p:ah):ah×Bool:=if hp s p=true then(s.drop p.length,true) else(s,false)
def EJ (s p:ah):ah×Bool:=if hs s p=true then(s.take (s.length-p.length),true) else(s,false)
abbrev two (p:ah×Bool):EV:=.bR [.f (.p (.str p.1)),.f (.p (.bool p.2))]
theorem PR (s p:ah) (hK:W (K (.ret (two (PQ s p))) H0)):SC Tryz.prog 206 [.s s,.s p] H0 K:=by
 refine fn [] [] Tryz.func206 rfl (by kernel_rfl) ?_
 repeat' first
  |((with_reducible refine W.of ?_);conv=>whnf)
  |with_reducible first
   |refine W.fin (K:=K) hK ?_ rfl
   |refine fn [] [] Tryz.func252 rfl (by kernel_rfl) ?_
   |refine fn [] [] Tryz.func205 rfl (by kernel_rfl) ?_
  |((with_reducible refine bb (λh=>?_) (λh=>?_))<;>(try simp at h))
 all_goals(clear hK;grind [hp,PQ])
theorem PS (s p:ah) (hs':s.length<2^62) (hK:W (K (.ret (two (EJ s p))) H0)):SC Tryz.prog 207 [.s s,.s p] H0 K:=by
 refine fn [] [] Tryz.func207 rfl (by kernel_rfl) ?_
 repeat' first
  |((with_reducible refine W.of ?_);conv=>whnf)
  |with_reducible first
   |refine W.fin (K:=K) hK ?_ rfl
   |refine fn [] [] Tryz.func253 rfl (by kernel_rfl) ?_
   |refine fn [] [] Tryz.func298 rfl (by kernel_rfl) ?_
  |((with_reducible refine bb (λh=>?_) (λh=>?_))<;>(try simp at h))
 all_goals(clear hK;grind [hs,EJ])
theorem vS (s:ah) (hK:W (K (.ret (.bR [.f (.p (.bool (aP s))),.f (.p (.bool (bC s)))])) H0)):SC Tryz.prog 129 [.s s] H0 K:=by
 refine fn [] [] Tryz.func129 rfl (by kernel_rfl) ?_
 repeat' first
  |((with_reducible refine W.of ?_);conv=>whnf)
  |with_reducible first
   |refine W.fin (K:=K) hK ?_ rfl
   |refine zG _ _ ?_
 rfl
theorem jA (s:ah) (hK:W (K (.ret (.bR [.f (.p (.bool (aP s))),.f (.p (.bool (bC s)))])) H0)):SC Tryz.prog 58 [.s s] H0 K:=by
 refine fn [] [] Tryz.func58 rfl (by kernel_rfl) ?_
 repeat' first
  |((with_reducible refine W.of ?_);conv=>whnf)
  |with_reducible first
   |refine W.fin (K:=K) hK ?_ rfl
   |refine AA _ _ ?_
 rfl
abbrev Uu (o:Option ah):EV:=.bR [.f (.p (.str (o.getD []))),.f (.p (.bool o.isSome))]
theorem ny (s:ah) (hs':s.length<2^62) (hK:W (K (.ret (Uu (aC s))) H0)):SC Tryz.prog 144 [.s s] H0 K:=by
 refine fn [] [] Tryz.func144 rfl (by kernel_rfl) ?_
 repeat' first
  |((with_reducible refine W.of ?_);conv=>whnf)
  |with_reducible first
   |refine W.fin (K:=K) hK ?_ rfl
   |refine PR _ _ ?_
   |refine PS _ _ ?_ ?_
   |refine un 3 (by kernel_rfl) ?_
  |((with_reducible refine bb (λh=>?_) (λh=>?_))<;>(try simp at h))
 all_goals(clear hK;grind [PQ,EJ,aC,cy,cj,eL,gF])
theorem mX (s:ah) (hs':s.length<2^62) (hK:W (K (.ret (Uu (aC s))) H0)):SC Tryz.prog 59 [.s s] H0 K:=by
 rw[pP] at hK
 refine fn [] [] Tryz.func59 rfl (by kernel_rfl) ?_
 repeat' first
  |((with_reducible refine W.of ?_);conv=>whnf)
  |with_reducible first
   |refine W.fin (K:=K) hK ?_ rfl
   |refine AA _ _ ?_
   |refine vN ?_ (λ_ _=>?_)
  |((with_reducible refine bb (λh=>?_) (λh=>?_))<;>(try simp at h))
 all_goals(clear hK;simp_all[oK,cy,cj,eL])
 all_goals grind [Fo.oL,UW,->Hr,->Qi,->Qh]
theorem Qd (s t:ah) (hK:W (K (.ret (.b (s==t||s==aF))) H0)):SC Tryz.prog 160 [.s s,.s t] H0 K:=by
 refine fn [] [] Tryz.func160 rfl (by kernel_rfl) ?_
 repeat' first
  |((with_reducible refine W.of ?_);conv=>whnf)
  |with_reducible refine W.fin (K:=K) hK ?_ rfl
  |((with_reducible refine bb (λh=>?_) (λh=>?_))<;>(try simp at h))
 all_goals(clear hK;simp_all[aF])
theorem Ha (s:ah) (hs':s.length<2^62) (hK:W (K (.ret (.s (cu s.length s))) H0)):SC Tryz.prog 221 [.s s] H0 K:=by
 refine fn [] [] Tryz.func221 rfl (by kernel_rfl) ?_
 repeat' first
  |((with_reducible refine W.of ?_);conv=>whnf)
  |with_reducible first
   |refine W.fin (K:=K) hK ?_ rfl
   |refine ny _ ‹_› ?_
  |((with_reducible refine bT [] [] [0] [] (λa:{t:ah//t.length<2^62/\cu t.length t=cu s.length s}=>[.s a.1]) (λ_=>H0) (λa=>a.1.length) ⟨s,hs',rfl⟩ (by kernel_rfl) ?_ ?_);(focus((with_reducible refine W.of ?_);(conv=>whnf);exact⟨rfl,rfl⟩));rintro⟨t,ht,he⟩;dsimp only)
  |(refine⟨⟨⟨_,?_,?_⟩,?_,rfl,rfl⟩,rfl⟩)
  |((with_reducible refine bb (λh=>?_) (λh=>?_))<;>(try simp at h))
 all_goals(try dsimp only)
 all_goals(cases hi:aC t<;>simp_all)
 all_goals grind [rr,rq,->Fo.bH]
end
end Go.Proofs.YtdjkoddnnogejaaGreat
