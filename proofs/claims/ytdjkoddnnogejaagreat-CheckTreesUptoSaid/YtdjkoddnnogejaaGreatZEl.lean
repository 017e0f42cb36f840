/- Part of the proof of CheckTrees: plain laws and steps of its walks, for all arguments. -/
import Derived.Test.YtdjkoddnnogejaaGreatZEk
set_option linter.unusedSimpArgs false
set_option linter.unusedVariables false
set_option linter.unusedSectionVars false
namespace Go.Ee
section
open Go.Vv
def Vk (τ:List (Nat×Nat)) (x:FC) (k:FC->Prop):Prop:=
 match x with
 |.p x=>k (.p x)
 |.ptr o a=>iK (ay τ o) λo=>k (.ptr o a)
 |.ep o a b c=>iK (ay τ o) λo=>k (.ep o a b c)
 |.ref o a b c=>iK (ay τ o) λo=>k (.ref o a b c)
 |.mp o=>iK (ay τ o) λo=>k (.mp o)
def B9 (τ:List (Nat×Nat)):List FC->(List FC->Prop)->Prop
 |[],k=>k []
 |x::l,k=>Vk τ x λx=>B9 τ l λr=>k (x::r)
def Xd (τ:List (Nat×Nat)) (x:TV) (k:TV->Prop):Prop:=
 match x with
 |.f x=>Vk τ x λx=>k (.f x)
 |.agg cs=>B9 τ cs λr=>k (.agg r)
def R9 (τ:List (Nat×Nat)):List TV->(List TV->Prop)->Prop
 |[],k=>k []
 |x::l,k=>Xd τ x λx=>R9 τ l λr=>k (x::r)
def R7 (τ:List (Nat×Nat)) (x:EV) (k:EV->Prop):Prop:=
 match x with
 |.f x=>Vk τ x λx=>k (.f x)
 |.agg cs=>B9 τ cs λr=>k (.agg r)
 |.fn g a c=>B9 τ a λa=>B9 τ c λc=>k (.fn g a c)
 |.bR l=>R9 τ l λl=>k (.bR l)
 |.un=>k .un
def NJ (τ:List (Nat×Nat)):List EV->(List EV->Prop)->Prop
 |[],k=>k []
 |x::l,k=>R7 τ x λx=>NJ τ l λr=>k (x::r)
def O8 (τ:List (Nat×Nat)) (x:aR) (k:aR->Prop):Prop:=
 match x with
 |.ret v=>R7 τ v λv=>k (.ret v)
 |.panic v=>R7 τ v λv=>k (.panic v)
def Wa (τ:List (Nat×Nat)) (x:SO) (k:SO->Prop):Prop:=
 match x with
 |.cells c=>B9 τ c λc=>k (.cells c)
 |.arr e rs n=>k (.arr e rs n)
 |.map es=>k (.map es)
section
variable{ρa ρb:NM} {τ:List (Nat×Nat)} (ht:∀m o,ay τ m=some o->ρb o=ρa m)
include ht
theorem J9 {x:FC} {k:FC->Prop} (hk:Vk τ x k):∃y,k y/\∀v,FR ρa x v->FR ρb y v:=by
 cases x with
 |p x=>exact⟨_,hk,λv h=>h⟩
 |mp o=>obtain⟨n,h1,h2⟩:=bV hk;exact⟨_,h2,λv h=>by simp only[FR,ht _ _ h1];exact h⟩
 |ptr o a=>obtain⟨n,h1,h2⟩:=bV hk;exact⟨_,h2,λv h=>by simp only[FR,ht _ _ h1];exact h⟩
 |ep o a b c=>obtain⟨n,h1,h2⟩:=bV hk;exact⟨_,h2,λv h=>by simp only[FR,ht _ _ h1];exact h⟩
 |ref o a b c=>obtain⟨n,h1,h2⟩:=bV hk;exact⟨_,h2,λv h=>by simp only[FR,ht _ _ h1];exact h⟩
theorem q5:∀{x:List FC} {k:List FC->Prop},B9 τ x k->∃y,k y/\∀v,dP ρa x v->dP ρb y v
 |[],_,hk=>⟨[],hk,λv h=>by cases v<;>exact h⟩
 |x::l,k,hk=>by
  obtain⟨y,h1,h2⟩:=J9 ht hk
  obtain⟨r,h3,h4⟩:=q5 (x:=l) (k:=λr=>k (y::r)) h1
  exact⟨_,h3,λv h=>by cases v with|nil=>exact h|cons v m=>exact⟨h2 v h.1,h4 m h.2⟩⟩
theorem UK {x:TV} {k:TV->Prop} (hk:Xd τ x k):∃y,k y/\∀v,TR ρa x v->TR ρb y v:=by
 cases x with
 |f x=>obtain⟨y,h1,h2⟩:=J9 ht (k:=λx=>k (.f x)) hk;exact⟨.f y,h1,h2⟩
 |agg cs=>obtain⟨y,h1,h2⟩:=q5 ht hk;exact⟨_,h1,λv ⟨l,e,h⟩=>⟨l,e,h2 l h⟩⟩
theorem Kb:∀{x:List TV} {k:List TV->Prop},R9 τ x k->∃y,k y/\∀v,A4 ρa x v->A4 ρb y v
 |[],_,hk=>⟨[],hk,λv h=>by cases v<;>exact h⟩
 |x::l,k,hk=>by
  obtain⟨y,h1,h2⟩:=UK ht hk
  obtain⟨r,h3,h4⟩:=Kb (x:=l) (k:=λr=>k (y::r)) h1
  exact⟨_,h3,λv h=>by cases v with|nil=>exact h|cons v m=>exact⟨h2 v h.1,h4 m h.2⟩⟩
theorem Ao {x:EV} {k:EV->Prop} (hk:R7 τ x k):∃y,k y/\∀v,ER ρa x v->ER ρb y v:=by
 cases x with
 |f x=>obtain⟨y,h1,h2⟩:=J9 ht (k:=λx=>k (.f x)) hk;exact⟨.f y,h1,h2⟩
 |agg cs=>obtain⟨y,h1,h2⟩:=q5 ht hk;exact⟨_,h1,λv ⟨l,e,h⟩=>⟨l,e,h2 l h⟩⟩
 |fn g a c=>
  obtain⟨y,h1,h2⟩:=q5 ht hk
  obtain⟨z,h3,h4⟩:=q5 ht h1
  exact⟨_,h3,λv ⟨l,m,e,h,h'⟩=>⟨l,m,e,h2 l h,h4 m h'⟩⟩
 |bR l=>obtain⟨y,h1,h2⟩:=Kb ht hk;exact⟨_,h1,λv ⟨l,e,h⟩=>⟨l,e,h2 l h⟩⟩
 |un=>exact⟨_,hk,λ_ h=>h⟩
theorem B8:∀{x:List EV} {k:List EV->Prop},NJ τ x k->∃y,k y/\∀v,qu ρa x v->qu ρb y v
 |[],_,hk=>⟨[],hk,λv h=>by cases v<;>exact h⟩
 |x::l,k,hk=>by
  obtain⟨y,h1,h2⟩:=Ao ht hk
  obtain⟨r,h3,h4⟩:=B8 (x:=l) (k:=λr=>k (y::r)) h1
  exact⟨_,h3,λv h=>by cases v with|nil=>exact h|cons v m=>exact⟨h2 v h.1,h4 m h.2⟩⟩
theorem NI {x:aR} {k:aR->Prop} (hk:O8 τ x k):∃y,k y/\∀v,EE ρa x v->EE ρb y v:=by
 cases x with
 |ret x=>obtain⟨y,h1,h2⟩:=Ao ht (k:=λx=>k (.ret x)) hk;exact⟨.ret y,h1,λv h=>by cases v;exact h2 _ h;exact h⟩
 |panic x=>obtain⟨y,h1,h2⟩:=Ao ht (k:=λx=>k (.panic x)) hk;exact⟨.panic y,h1,λv h=>by cases v;exact h;exact h2 _ h⟩
theorem O9 {x:SO} {k:SO->Prop} (hk:Wa τ x k):∃y,k y/\∀h m o,ay τ m=some o->OR ρa h m x->OR ρb h o y:=by
 cases x with
 |cells c=>
  obtain⟨y,h1,h2⟩:=q5 ht hk
  exact⟨_,h1,λh m o hm ⟨i,l,e1,e2,e3⟩=>⟨i,l,(ht m o hm).trans e1,e2,h2 l e3⟩⟩
 |map es=>exact⟨_,hk,λh m o hm ⟨i,b,c⟩=>⟨i,(ht m o hm).trans b,c⟩⟩
 |arr e rs n=>exact⟨_,hk,λh m o hm ⟨e0,e1⟩=>⟨e0,e1.imp (fun⟨a,b,c⟩=>⟨a,b,(ht m o hm).trans c⟩) fun⟨a,i,b,c⟩=>⟨a,i,(ht m o hm).trans b,c⟩⟩⟩
end
def FA (τ:List (Nat×Nat)):List (Nat×SO)->(List (Nat×SO)->Prop)->Prop
 |[],k=>k []
 |(n,x)::l,k=>Wa τ x λx=>FA τ l λr=>k ((n,x)::r)
def R8 (τ:List (Nat×Nat)):List (Nat×SO)->(List (Nat×SO)->Prop)->Prop
 |[],k=>k []
 |(n,x)::l,k=>iK (ay τ n) λn=>Wa τ x λx=>R8 τ l λr=>k ((n,x)::r)
def V8 {α:Type}:List α->List α->(List α->Prop)->Prop
 |[],m,k=>k m
 |x::l,m,k=>V8 l (x::m) k
structure j9 where
 σ:List (Nat×Nat)
 next:Nat
 bp:List (Nat×SO)
abbrev VF:=FC->j9->(j9->Prop)->Prop
def AJ (g:VF):List FC->j9->(j9->Prop)->Prop
 |[],st,k=>k st
 |x::l,st,k=>g x st λst=>AJ g l st k
def SX (s:SH) (g:VF) (o:Nat) (st:j9) (k:j9->Prop):Prop:=
 match st with
 |⟨σ,m,os⟩=>match ay σ o with
  |some _=>k ⟨σ,m,os⟩
  |none=>obj s o λa=>nK (m+1) λm'=>match a with
   |.cells c=>AJ g c ⟨(o,m)::σ,m',(m,.cells c)::os⟩ k
   |a=>k ⟨(o,m)::σ,m',(m,a)::os⟩
def yk (s:SH):Nat->VF
 |0,_,_,_=>False
 |n+1,x,st,k=>match x with
  |.p _=>k st
  |.ptr o _|.ep o _ _ _|.ref o _ _ _|.mp o=>SX s (yk s n) o st k
def SW (s:SH) (x:EV) (st:j9) (k:j9->Prop):Prop:=
 match x with
 |.f x=>yk s 6 x st k
 |.agg cs=>AJ (yk s 6) cs st k
 |.fn _ a c=>AJ (yk s 6) a st λst=>AJ (yk s 6) c st k
 |.bR _|.un=>k st
def Eg (s:SH):List EV->j9->(j9->Prop)->Prop
 |[],st,k=>k st
 |x::l,st,k=>SW s x st λst=>Eg s l st k
def Eh (s:SH):List TV->j9->(j9->Prop)->Prop
 |[],st,k=>k st
 |.f x::l,st,k=>yk s 6 x st λst=>Eh s l st k
 |.agg cs::l,st,k=>AJ (yk s 6) cs st λst=>Eh s l st k
structure VI (s:SH) (st:j9):Prop where
 fwd:∀o m,ay st.σ o=some m->m<st.next/\∃a,ay s.bp o=some a/\ay st.bp m=some a
 inj:∀o o' m,ay st.σ o=some m->ay st.σ o'=some m->o=o'
 bwd:∀m a,ay st.bp m=some a->∃o,ay st.σ o=some m/\ay s.bp o=some a
 uniq:∀p∈st.σ,ay st.σ p.1=some p.2
def j9.Le (a b:j9):Prop:=a.next<=b.next/\(∀o m,ay a.σ o=some m->ay b.σ o=some m)/\∀o m,ay b.σ o=some m->ay a.σ o=some m\/a.next<=m
theorem j9.Le.refl (a:j9):a.Le a:=⟨Nat.le_refl _,λ_ _ h=>h,λ_ _ h=>.inl h⟩
theorem j9.Le.trans {a b c:j9} (h:a.Le b) (h':b.Le c):a.Le c:=⟨Nat.le_trans h.1 h'.1,λo m e=>h'.2.1 o m (h.2.1 o m e),λo m e=>by
 rcases h'.2.2 o m e with e|e
 ·exact h.2.2 o m e
 ·exact .inr (Nat.le_trans h.1 e)⟩
theorem VI.add {s:SH} {σ:List (Nat×Nat)} {m o:Nat} {os:List (Nat×SO)} {a:SO} (hv:VI s ⟨σ,m,os⟩) (hn:ay σ o=none) (ha:ay s.bp o=some a):VI s ⟨(o,m)::σ,m+1,(m,a)::os⟩/\j9.Le ⟨σ,m,os⟩ ⟨(o,m)::σ,m+1,(m,a)::os⟩:=by
 refine⟨⟨λp q h=>?_,λp p' q h h'=>?_,λq b h=>?_,λp hp=>?_⟩,⟨Nat.le_succ _,λp q h=>?_,λp q h=>?_⟩⟩
 ·simp only[al] at h⊢
  by_cases e:p=o
  ·subst e
   simp at h;subst h
   exact⟨Nat.lt_succ_self _,a,ha,by simp⟩
  ·rw[if_neg e] at h
   obtain⟨h1,b,h2,h3⟩:=hv.fwd p q h
   simp only at h1 h3
   exact⟨by omega,b,h2,by rw[if_neg (by omega)];exact h3⟩
 ·simp only[al] at h h'
  by_cases e:p=o<;>by_cases e':p'=o
  ·exact e.trans e'.symm
  ·rw[if_pos e] at h;rw[if_neg e'] at h'
   cases h
   have:=(hv.fwd p' _ h').1
   simp only at this;omega
  ·rw[if_neg e] at h;rw[if_pos e'] at h'
   cases h'
   have:=(hv.fwd p _ h).1
   simp only at this;omega
  ·rw[if_neg e] at h;rw[if_neg e'] at h'
   exact hv.inj p p' q h h'
 ·simp only[al] at h
  by_cases e:q=m
  ·subst e
   simp at h;subst h
   exact⟨o,by simp[al],ha⟩
  ·rw[if_neg e] at h
   obtain⟨p,h1,h2⟩:=hv.bwd q b h
   refine⟨p,?_,h2⟩
   simp only[al]
   rw[if_neg (λe=>by subst e;rw[h1] at hn;cases hn)]
   exact h1
 ·simp only[al]
  rcases List.mem_cons.1 hp with rfl|hp
  ·simp
  ·have:=hv.uniq p hp
   rw[if_neg (λe=>by simp only at this;rw[e,hn] at this;cases this)]
   exact this
 ·simp only[al]
  rw[if_neg (λe=>by subst e;rw[h] at hn;cases hn)]
  exact h
 ·simp only[al] at h
  by_cases e:p=o
  ·rw[if_pos e] at h;cases h;exact .inr (Nat.le_refl _)
  ·rw[if_neg e] at h;exact .inl h
def Vs (s:SH) (g:VF):Prop:=∀x st k,g x st k->VI s st->∃st',k st'/\VI s st'/\st.Le st'
theorem oY {s:SH} {g:VF} (hg:Vs s g):∀{l:List FC} {st:j9} {k:j9->Prop},AJ g l st k->VI s st->∃st',k st'/\VI s st'/\st.Le st'
 |[],st,k,hk,hv=>⟨st,hk,hv,.refl st⟩
 |x::l,st,k,hk,hv=>by
  obtain⟨st1,h1,h2,h3⟩:=hg _ _ _ hk hv
  obtain⟨st2,h4,h5,h6⟩:=oY hg h1 h2
  exact⟨st2,h4,h5,h3.trans h6⟩
theorem SY {s:SH} {g:VF} (hg:Vs s g) {o:Nat} {st:j9} {k:j9->Prop} (hk:SX s g o st k) (hv:VI s st):∃st',k st'/\VI s st'/\st.Le st':=by
 obtain⟨σ,m,os⟩:=st
 simp only[SX] at hk
 split at hk
 ·exact⟨_,hk,hv,.refl _⟩
 ·rename_i hn
  obtain⟨a,h1,h2⟩:=bV hk
  have h2:=uX h2
  split at h2
  ·rename_i c
   obtain⟨h3,h4⟩:=hv.add hn h1
   obtain⟨st',h5,h6,h7⟩:=oY hg h2 h3
   exact⟨st',h5,h6,h4.trans h7⟩
  ·obtain⟨h3,h4⟩:=hv.add hn h1
   exact⟨_,h2,h3,h4⟩
theorem m9 (s:SH):∀n,Vs s (yk s n)
 |0,x,st,k,hk,_=>hk.elim
 |n+1,x,st,k,hk,hv=>by
  cases x with
  |p x=>exact⟨st,hk,hv,.refl st⟩
  |_=>exact SY (m9 s n) hk hv
theorem KY {s:SH} {x:EV} {st:j9} {k:j9->Prop} (hk:SW s x st k) (hv:VI s st):∃st',k st'/\VI s st'/\st.Le st':=by
 cases x with
 |f x=>exact m9 s 6 _ _ _ hk hv
 |agg cs=>exact oY (m9 s 6) hk hv
 |fn g a c=>
  obtain⟨st1,h1,h2,h3⟩:=oY (m9 s 6) hk hv
  obtain⟨st2,h4,h5,h6⟩:=oY (m9 s 6) h1 h2
  exact⟨st2,h4,h5,h3.trans h6⟩
 |_=>exact⟨st,hk,hv,.refl st⟩
theorem yj {s:SH}:∀{l:List EV} {st:j9} {k:j9->Prop},Eg s l st k->VI s st->∃st',k st'/\VI s st'/\st.Le st'
 |[],st,k,hk,hv=>⟨st,hk,hv,.refl st⟩
 |x::l,st,k,hk,hv=>by
  obtain⟨st1,h1,h2,h3⟩:=KY hk hv
  obtain⟨st2,h4,h5,h6⟩:=yj h1 h2
  exact⟨st2,h4,h5,h3.trans h6⟩
theorem yl {s:SH}:∀{l:List TV} {st:j9} {k:j9->Prop},Eh s l st k->VI s st->∃st',k st'/\VI s st'/\st.Le st'
 |[],st,k,hk,hv=>⟨st,hk,hv,.refl st⟩
 |.f x::l,st,k,hk,hv=>by
  obtain⟨st1,h1,h2,h3⟩:=m9 s 6 _ _ _ hk hv
  obtain⟨st2,h4,h5,h6⟩:=yl h1 h2
  exact⟨st2,h4,h5,h3.trans h6⟩
 |.agg cs::l,st,k,hk,hv=>by
  obtain⟨st1,h1,h2,h3⟩:=oY (m9 s 6) hk hv
  obtain⟨st2,h4,h5,h6⟩:=yl h1 h2
  exact⟨st2,h4,h5,h3.trans h6⟩
open Classical in
noncomputable def NM.via (ρ:NM) (σ:List (Nat×Nat)) (ρd:NM):NM:=λm=>if h:∃o,ay σ o=some m then ρ (Classical.choose h) else ρd m
abbrev F7 (σ:List (Nat×Nat)):Prop:=∀o o' m,ay σ o=some m->ay σ o'=some m->o=o'
theorem NM.uy {ρ ρd:NM} {σ:List (Nat×Nat)} (hv:F7 σ) {o m:Nat} (h:ay σ o=some m):ρ.via σ ρd m=ρ o:=by
 have hex:∃o,ay σ o=some m:=⟨o,h⟩
 unfold NM.via
 rw[dif_pos hex,hv _ _ _ (Classical.choose_spec hex) h]
theorem NM.SV {ρ ρd:NM} {σ:List (Nat×Nat)} {m:Nat} (h:∀o,ay σ o≠some m):ρ.via σ ρd m=ρd m:=by
 unfold NM.via
 rw[dif_neg (fun⟨o,ho⟩=>h o ho)]
theorem NM.yg {ρ ρd:NM} {σ:List (Nat×Nat)} (hv:F7 σ) (m:Nat):(∃o,ay σ o=some m/\ρ.via σ ρd m=ρ o)\/((∀o,ay σ o≠some m)/\ρ.via σ ρd m=ρd m):=by
 by_cases h:∃o,ay σ o=some m
 ·obtain⟨o,ho⟩:=h;exact .inl ⟨o,ho,uy hv ho⟩
 ·have:∀o,ay σ o≠some m:=λo ho=>h ⟨o,ho⟩
  exact .inr ⟨this,SV this⟩
theorem xI {ρa ρb:NM} {τ:List (Nat×Nat)} (ht:∀m o,ay τ m=some o->ρb o=ρa m):∀{l:List (Nat×SO)} {k:List (Nat×SO)->Prop},FA τ l k->
 ∃r,k r/\∀n y,ay r n=some y->∃x,ay l n=some x/\∀h m o,ay τ m=some o->OR ρa h m x->OR ρb h o y
 |[],_,hk=>⟨[],hk,λn y h=>by simp[ay] at h⟩
 |(n,x)::l,k,hk=>by
  obtain⟨y,h1,h2⟩:=O9 ht hk
  obtain⟨r,h3,h4⟩:=xI ht (l:=l) (k:=λr=>k ((n,y)::r)) h1
  refine⟨_,h3,λm z hz=>?_⟩
  rw[al] at hz
  by_cases e:m=n
  ·subst e
   simp at hz;subst hz
   exact⟨x,by simp[al],h2⟩
  ·rw[if_neg e] at hz
   obtain⟨x',h5,h6⟩:=h4 m z hz
   exact⟨x',by rw[al,if_neg e];exact h5,h6⟩
theorem zq {α:Type}:∀(l m:List (Nat×α)) (n:Nat),ay (l++m) n=(ay l n).or (ay m n)
 |[],m,n=>by simp[ay]
 |(a,b)::l,m,n=>by
  rw[List.cons_append,al,al,zq l m n]
  by_cases e:n=a<;>simp[e]
def Gw (s:SH) (args:List EV) (k:List (Nat×Nat)->List EV->SH->Prop):Prop:=
 Eg s args ⟨[],0,[]⟩ λst=>match st with
  |⟨σ,m,os⟩=>NJ σ args λargs0=>FA σ os λos0=>k σ args0 ⟨os0,m⟩
def Kw:List (Nat×Nat)->(List (Nat×Nat)->Prop)->Prop
 |[],k=>k []
 |(a,b)::l,k=>Kw l λr=>k ((b,a)::r)
def GP:List (Nat×SO)->List (Nat×Nat)->Nat->(List (Nat×Nat)->Nat->Prop)->Prop
 |[],τ,f,k=>k τ f
 |(m,_)::l,τ,f,k=>match ay τ m with
  |some _=>GP l τ f k
  |none=>nK (f+1) λf'=>GP l ((m,f)::τ) f' k
def zd (σ:List (Nat×Nat)):List (Nat×SO)->(List (Nat×SO)->Prop)->Prop
 |[],k=>k []
 |(o,x)::l,k=>match ay σ o with
  |some _=>zd σ l k
  |none=>zd σ l λr=>k ((o,x)::r)
def Pz {α:Type}:List α->List α->(List α->Prop)->Prop
 |[],m,k=>k m
 |x::l,m,k=>Pz l m λr=>k (x::r)
def H4 (σ:List (Nat×Nat)) (s:SH) (e:aR) (s0:SH) (K:aR->SH->Prop):Prop:=
 Kw σ λτ=>match s,s0 with
  |⟨os,f⟩,⟨os0,_⟩=>GP os0 τ f λτ f'=>R8 τ os0 λL=>O8 τ e λe=>zd σ os λrest=>Pz L rest λos'=>K e ⟨os',f'⟩
theorem D9:∀{l:List (Nat×Nat)} {k:List (Nat×Nat)->Prop},Kw l k->∃r,k r/\(∀m o,ay r m=some o->(o,m)∈l)/\∀o m,(o,m)∈l->∃o',ay r m=some o'
 |[],_,hk=>⟨[],hk,λm o h=>by simp[ay] at h,λo m h=>(by cases h)⟩
 |(a,b)::l,k,hk=>by
  obtain⟨r,h1,h2,h3⟩:=D9 (l:=l) (k:=λr=>k ((b,a)::r)) hk
  refine⟨_,h1,λm o h=>?_,λo m h=>?_⟩
  ·rw[al] at h
   by_cases e:m=b
   ·rw[if_pos e] at h;cases h;subst e;simp
   ·rw[if_neg e] at h;exact List.mem_cons_of_mem _ (h2 m o h)
  ·rw[al]
   by_cases e:m=b
   ·exact⟨a,by rw[if_pos e]⟩
   ·rw[if_neg e]
    rcases List.mem_cons.1 h with h|h
    ·cases h;exact absurd rfl e
    ·exact h3 o m h
structure TI (σ τ:List (Nat×Nat)) (f f':Nat):Prop where
 le:f<=f'
 Fg:∀o m,ay σ o=some m->ay τ m=some o
 all:∀m o,ay τ m=some o->ay σ o=some m\/(f<=o/\o<f')
 inj:F7 τ
theorem Bn {σ:List (Nat×Nat)} {f0:Nat} (hσ:∀o m,ay σ o=some m->o<f0):∀{l:List (Nat×SO)} {τ:List (Nat×Nat)} {f:Nat} {k:List (Nat×Nat)->Nat->Prop},GP l τ f k->TI σ τ f0 f->∃τ' f',k τ' f'/\TI σ τ' f0 f'
 |[],τ,f,k,hk,ht=>⟨τ,f,hk,ht⟩
 |(m,x)::l,τ,f,k,hk,ht=>by
  simp only[GP] at hk
  split at hk
  ·exact Bn hσ hk ht
  ·rename_i hn
   have hk:=uX hk
   refine Bn hσ hk ⟨Nat.le_succ_of_le ht.le,λo q h=>?_,λq o h=>?_,λq q' o h h'=>?_⟩
   ·rw[al,if_neg (λe=>by subst e;rw[ht.Fg o q h] at hn;cases hn)]
    exact ht.Fg o q h
   ·rw[al] at h
    by_cases e:q=m
    ·rw[if_pos e] at h;cases h;exact .inr ⟨ht.le,Nat.lt_succ_self _⟩
    ·rw[if_neg e] at h
     rcases ht.all q o h with h|h
     ·exact .inl h
     ·exact .inr ⟨h.1,by omega⟩
   ·rw[al] at h h'
    have hlt:∀q o,ay τ q=some o->o≠f:=λq o h e=>by
     rcases ht.all q o h with h|h
     ·have:=hσ o q h;have:=ht.le;omega
     ·omega
    by_cases e:q=m<;>by_cases e':q'=m
    ·exact e.trans e'.symm
    ·rw[if_pos e] at h;rw[if_neg e'] at h';cases h;exact absurd rfl (hlt _ _ h')
    ·rw[if_neg e] at h;rw[if_pos e'] at h';cases h';exact absurd rfl (hlt _ _ h)
    ·rw[if_neg e] at h;rw[if_neg e'] at h';exact ht.inj q q' o h h'
theorem wE {σ:List (Nat×Nat)}:∀{l:List (Nat×SO)} {k:List (Nat×SO)->Prop},zd σ l k->∃r,k r/\∀n x,ay r n=some x->ay σ n=none/\ay l n=some x
 |[],_,hk=>⟨[],hk,λn x h=>by simp[ay] at h⟩
 |(o,x)::l,k,hk=>by
  simp only[zd] at hk
  split at hk
  ·rename_i q hq
   obtain⟨r,h1,h2⟩:=wE hk
   refine⟨r,h1,λn y h=>?_⟩
   obtain⟨h3,h4⟩:=h2 n y h
   exact⟨h3,by rw[al,if_neg (λe=>by subst e;rw[h3] at hq;cases hq)];exact h4⟩
  ·rename_i hq
   obtain⟨r,h1,h2⟩:=wE (l:=l) (k:=λr=>k ((o,x)::r)) hk
   refine⟨_,h1,λn y h=>?_⟩
   rw[al] at h⊢
   by_cases e:n=o
   ·rw[if_pos e] at h;rw[if_pos e];exact⟨e▸hq,h⟩
   ·rw[if_neg e] at h;rw[if_neg e];exact h2 n y h
theorem Gi {α:Type}:∀{l m:List α} {k:List α->Prop},Pz l m k->k (l++m)
 |[],_,_,h=>h
 |x::l,m,k,h=>Gi (l:=l) (k:=λr=>k (x::r)) h
theorem Ka {ρa ρb:NM} {τ:List (Nat×Nat)} (ht:∀m o,ay τ m=some o->ρb o=ρa m) (hi:F7 τ):∀{l:List (Nat×SO)} {k:List (Nat×SO)->Prop},R8 τ l k->
 ∃r,k r/\∀n y,ay r n=some y->∃m x,ay τ m=some n/\ay l m=some x/\∀h,OR ρa h m x->OR ρb h n y
 |[],_,hk=>⟨[],hk,λn y h=>by simp[ay] at h⟩
 |(m,x)::l,k,hk=>by
  obtain⟨n,h0,hk⟩:=bV hk
  obtain⟨y,h1,h2⟩:=O9 ht hk
  obtain⟨r,h3,h4⟩:=Ka ht hi (l:=l) (k:=λr=>k ((n,y)::r)) h1
  refine⟨_,h3,λq z hz=>?_⟩
  rw[al] at hz
  by_cases e:q=n
  ·subst e
   simp at hz;subst hz
   exact⟨m,x,h0,by simp[al],λh ho=>h2 h m _ h0 ho⟩
  ·rw[if_neg e] at hz
   obtain⟨m',x',h5,h6,h7⟩:=h4 q z hz
   exact⟨m',x',h5,by rw[al,if_neg (λe2=>by subst e2;rw[h0] at h5;cases h5;exact e rfl)];exact h6,h7⟩
theorem VI.nil (s:SH):VI s ⟨[],0,[]⟩:=⟨λo m h=>by simp[ay] at h,λo o' m h=>by simp[ay] at h,λm a h=>by simp[ay] at h,λp h=>(by cases h)⟩
theorem SR.xq {ρ:NM} {s:SH} {h:aa} (hs:SR ρ s h) {o:Nat} {x:SO} (ho:ay s.bp o=some x):ρ o≠.un/\o<s.next:=
 have hu:=(hs.obj _ _ ho).born.1
 ⟨hu,Nat.lt_of_not_le λhle=>hu (hs.free o hle)⟩
def ME (σ:List (Nat×Nat)) (m n:Nat) (k:Prop):Prop:=match σ.all λp=>Nat.beq p.1 p.2,Nat.beq m n with|true,true=>False|_,_=>k
theorem Rg {σ:List (Nat×Nat)} {m n:Nat} {k:Prop} (h:ME σ m n k):k:=by unfold ME at h;split at h;exact h.elim;exact h
theorem SC.canon {P:Program} {f:FuncId} {args:List EV} {s:SH} {K:aR->SH->Prop} (hk:Gw s args λσ args0 s0=>ME σ s0.next s.next (SC P f args0 s0 λe s1=>H4 σ s e s1 K)):SC P f args s K:=by
 refine⟨λρ h vargs hs ha=>?_⟩
 obtain⟨⟨σ,m0,os⟩,h1,hv,_⟩:=yj hk (.nil s)
 let ρ0:=ρ.via σ λ_=>.un
 have hinj:F7 σ:=hv.inj
 have hρ0:∀o m,ay σ o=some m->ρ0 m=ρ o:=λo m h=>NM.uy hinj h
 have hat0:∀m,(∃o,ay σ o=some m/\ρ0 m=ρ o)\/((∀o,ay σ o≠some m)/\ρ0 m=.un):=λm=>NM.yg hinj m
 obtain⟨args0,h2,h3⟩:=B8 hρ0 h1
 obtain⟨os0,h4,h5⟩:=xI hρ0 h2
 have h4:=Rg h4
 have hs0:SR ρ0 ⟨os0,m0⟩ h:=by
  refine⟨λn y hy=>?_,λn n' i a b=>?_,λn i a=>?_,λn hn=>?_⟩
  ·obtain⟨x,h6,h7⟩:=h5 n y hy
   obtain⟨o,h8,h9⟩:=hv.bwd n x h6
   exact h7 h o n h8 (hs.obj o x h9)
  ·rcases hat0 n with⟨o,e1,e2⟩|⟨_,e2⟩<;>rw[e2] at a
   ·rcases hat0 n' with⟨o',e3,e4⟩|⟨_,e4⟩<;>rw[e4] at b
    ·have:=hs.inj _ _ _ a b
     subst this
     rw[e1] at e3;cases e3;rfl
    ·cases b
   ·cases a
  ·rcases hat0 n with⟨o,e1,e2⟩|⟨_,e2⟩<;>rw[e2] at a
   ·exact hs.iD _ _ a
   ·cases a
  ·rcases hat0 n with⟨o,e1,e2⟩|⟨_,e2⟩
   ·have:=(hv.fwd o n e1).1
    simp only at this hn;omega
   ·exact e2
 refine(h4.run ρ0 h vargs hs0 (h3 _ ha)).mono ?_
 rintro r h' ⟨e,s1,ρ1,h6,h7,h8,h9⟩
 obtain⟨os,f⟩:=s
 obtain⟨os1,f1⟩:=s1
 obtain⟨τ0,h10,h11,h12⟩:=D9 h6
 have hσf:∀o m,ay σ o=some m->o<f:=λo m hm=>by
  obtain⟨_,a,ha,_⟩:=hv.fwd o m hm
  exact(hs.xq ha).2
 have ht0:TI σ τ0 f f:=by
  have key:∀m o,ay τ0 m=some o->ay σ o=some m:=λm o hm=>hv.uniq _ (h11 m o hm)
  have hmem:∀(l:List (Nat×Nat)) o m,ay l o=some m->(o,m)∈l:=by
   intro l
   induction l with
   |nil=>intro o m h;simp[ay] at h
   |cons p l ih=>
    obtain⟨a,b⟩:=p
    intro o m h
    rw[al] at h
    by_cases e:o=a
    ·rw[if_pos e] at h;cases h;subst e;simp
    ·rw[if_neg e] at h;exact List.mem_cons_of_mem _ (ih o m h)
  refine⟨Nat.le_refl _,λo m hm=>?_,λm o hm=>.inl (key m o hm),λm m' o a b=>?_⟩
  ·obtain⟨o',ho'⟩:=h12 o m (hmem _ _ _ hm)
   rw[ho',hinj _ _ _ (key _ _ ho') hm]
  ·have:=key _ _ a;rw[key _ _ b] at this;cases this;rfl
 obtain⟨τ,f',h13,ht⟩:=Bn hσf h10 ht0
 let ρ':=ρ1.via τ ρ
 have hρ':∀m o,ay τ m=some o->ρ' o=ρ1 m:=λm o hm=>NM.uy ht.inj hm
 have hat':∀o,(∃m,ay τ m=some o/\ρ' o=ρ1 m)\/((∀m,ay τ m≠some o)/\ρ' o=ρ o):=λo=>NM.yg ht.inj o
 obtain⟨L,h14,h15⟩:=Ka hρ' ht.inj h13
 obtain⟨e',h16,h17⟩:=NI hρ' h14
 obtain⟨rest,h18,h19⟩:=wE h16
 have h18:=Gi h18
 have hnew:∀m i,ρ1 m=.at i->(∃o',ρ o'=.at i)\/h.next<=i:=λm i hm=>by
  rcases h9.new m i hm with⟨m',e1⟩|e1
  ·rcases hat0 m' with⟨o',e2,e3⟩|⟨_,e3⟩<;>rw[e3] at e1
   ·exact .inl ⟨o',e1⟩
   ·cases e1
  ·exact .inr e1
 have hle:ρ.Le ρ':=λo=>by
  rcases hat' o with⟨m,e1,e2⟩|⟨_,e2⟩
  ·rcases ht.all m o e1 with e3|e3
   ·have e4:=hρ0 o m e3
    rw[e2,<-e4]
    rcases h9.le m with e5|e5|e5
    ·exact .inl e5
    ·exact .inr (.inl e5)
    ·exact .inr (.inr e5)
   ·exact .inl (hs.free o e3.1)
  ·exact .inr (.inl e2)
 have hkeep:∀o i,ρ o=.at i->(∀m,ay τ m≠some o)->h'.get i=h.get i:=λo i ho hn=>by
  refine h9.gE i (hs.iD o i ho) λm hm=>?_
  rcases hat0 m with⟨o',e2,e3⟩|⟨_,e3⟩<;>rw[e3] at hm
  ·have:=hs.inj _ _ _ ho hm
   subst this
   exact hn m (ht.Fg _ _ e2)
  ·cases hm
 refine⟨e',_,ρ',h18,h17 _ h7,⟨λn y hy=>?_,λo o' i a b=>?_,λo i a=>?_,λn hn=>?_⟩,⟨hle,λo i a=>?_,h9.next,λi hi hn=>?_⟩⟩
 ·simp only[zq] at hy
  cases hL:ay L n with
  |some z=>
   rw[hL] at hy
   simp at hy;subst hy
   obtain⟨m,x,e1,e2,e3⟩:=h15 n _ hL
   exact e3 h' (h8.obj m x e2)
  |none=>
   rw[hL] at hy
   simp at hy
   obtain⟨e1,e2⟩:=h19 n y hy
   have hun:=hs.xq (s:=⟨os,f⟩) e2
   have hnt:∀m,ay τ m≠some n:=λm hm=>by
    rcases ht.all m n hm with e3|e3
    ·rw[e1] at e3;cases e3
    ·have:=hun.2;simp only at this;omega
   have e3:ρ' n=ρ n:=by
    rcases hat' n with⟨m,e4,_⟩|⟨_,e4⟩
    ·exact absurd e4 (hnt m)
    ·exact e4
   exact(hs.obj n y e2).move (λi hi=>hkeep n i hi hnt) hle e3
 ·have mixed:∀o o' m i,ρ1 m=.at i->ay τ m=some o->ρ o'=.at i->(∀m,ay τ m≠some o')->False:=λo o' m i h1 h2 h3 h4=>by
   rcases h9.new m i h1 with⟨m',e1⟩|e1
   ·rcases hat0 m' with⟨o2,e2,e3⟩|⟨_,e3⟩<;>rw[e3] at e1
    ·have:=hs.inj _ _ _ h3 e1
     subst this
     exact h4 m' (ht.Fg _ _ e2)
    ·cases e1
   ·have:=hs.iD _ _ h3;omega
  rcases hat' o with⟨m,e1,e2⟩|⟨e1,e2⟩<;>rcases hat' o' with⟨m',e3,e4⟩|⟨e3,e4⟩<;>rw[e2] at a<;>rw[e4] at b
  ·have:=h8.inj _ _ _ a b
   subst this
   rw[e1] at e3;cases e3;rfl
  ·exact(mixed _ _ _ _ a e1 b e3).elim
  ·exact(mixed _ _ _ _ b e3 a e1).elim
  ·exact hs.inj _ _ _ a b
 ·rcases hat' o with⟨m,e1,e2⟩|⟨e1,e2⟩<;>rw[e2] at a
  ·exact h8.iD _ _ a
  ·exact Nat.lt_of_lt_of_le (hs.iD _ _ a) h9.next
 ·have hn:f'<=n:=hn
  rcases hat' n with⟨m,e1,e2⟩|⟨e1,e2⟩
  ·exfalso
   rcases ht.all m n e1 with e3|e3
   ·have:=hσf _ _ e3;have:=ht.le;omega
   ·omega
  ·rw[e2];exact hs.free n (Nat.le_trans ht.le hn)
 ·rcases hat' o with⟨m,e1,e2⟩|⟨e1,e2⟩<;>rw[e2] at a
  ·exact hnew m i a
  ·exact .inl ⟨o,a⟩
 ·refine h9.gE i hi λm hm=>?_
  rcases hat0 m with⟨o',e2,e3⟩|⟨_,e3⟩<;>rw[e3] at hm
  ·exact hn o' hm
  ·cases hm
end
end Go.Ee
