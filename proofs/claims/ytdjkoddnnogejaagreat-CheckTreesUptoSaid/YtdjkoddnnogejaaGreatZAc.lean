/- Part of the proof of CheckTrees: plain laws and steps of its walks, for all arguments. -/
import Derived.Test.YtdjkoddnnogejaaGreatZLb
set_option linter.unusedSimpArgs false
set_option linter.unusedVariables false
set_option linter.unusedSectionVars false
namespace Go.Proofs.YtdjkoddnnogejaaGreat
section
set_option maxRecDepth 100000
open Go.Vv Go.Ee
open Fo (hp hs aC oK pP bH cu cy cj eL gF)
attribute [local irreducible] bC aP bZ
variable{K:aR->SH->Prop}
theorem Fu (s:ah) (hs':s.length<2^62) (hK:W (K (.ret (.s (cu s.length s))) H0)):SC Tryz.prog 318 [.s s] H0 K:=by
 refine fn [] [] Tryz.func318 rfl (by kernel_rfl) ?_
 repeat' first
  |((with_reducible refine W.of ?_);conv=>whnf)
  |with_reducible first
   |refine W.fin (K:=K) hK ?_ rfl
   |refine mX _ ‹_› ?_
  |((with_reducible refine bT [] [] [0] [] (λa:{t:ah//t.length<2^62/\cu t.length t=cu s.length s}=>[.s a.1]) (λ_=>H0) (λa=>a.1.length) ⟨s,hs',rfl⟩ (by kernel_rfl) ?_ ?_);(focus((with_reducible refine W.of ?_);(conv=>whnf);exact⟨rfl,rfl⟩));rintro⟨t,ht,he⟩;dsimp only)
  |(refine⟨⟨⟨_,?_,?_⟩,?_,rfl,rfl⟩,rfl⟩)
  |((with_reducible refine bb (λh=>?_) (λh=>?_))<;>(try simp at h))
 all_goals(try dsimp only)
 all_goals(cases hi:aC t<;>simp_all)
 all_goals grind [rr,rq,->Fo.bH]
theorem FH (s:ah) (hs':s.length<2^62) (hK:W (K (.ret (.bR [.f (.p (.bool (eR s).1)),.f (.p (.bool (eR s).2))])) H0)):SC Tryz.prog 130 [.s s] H0 K:=by
 refine fn [] [] Tryz.func130 rfl (by kernel_rfl) ?_
 repeat' first
  |((with_reducible refine W.of ?_);conv=>whnf)
  |with_reducible first
   |refine W.fin (K:=K) hK ?_ rfl
   |refine vS _ ?_
   |refine ny _ ‹_› ?_
  |((with_reducible refine bT [] [] [0,2,3] [] (λa:{t:ah×Bool×Bool//t.1.length<2^62/\cI (t.1.length+1) t.1 t.2.1 t.2.2=eR s}=>[.s a.1.1,.b a.1.2.1,.b a.1.2.2]) (λ_=>H0) (λa=>a.1.1.length) ⟨(s,false,false),hs',rfl⟩ (by kernel_rfl) ?_ ?_);(focus((with_reducible refine W.of ?_);(conv=>whnf);exact⟨rfl,rfl⟩));rintro⟨⟨t,m,d⟩,ht,he⟩;dsimp only)
  |(refine⟨⟨⟨(_,_,_),?_,?_⟩,?_,rfl,rfl⟩,rfl⟩)
  |((with_reducible refine bb (λh=>?_) (λh=>?_))<;>(try simp at h))
 all_goals(try dsimp only)
 all_goals(cases hi:aC t<;>simp_all)
 all_goals grind [AD,xY,xX,->Fo.bH]
theorem xC (k:Int) (hK:W (K (.ret (.b (bZ k))) H0)):SC Tryz.prog 65 [.i k] H0 K:=by
 refine fn [] [] Tryz.func65 rfl (by kernel_rfl) ?_
 repeat' first
  |((with_reducible refine W.of ?_);conv=>whnf)
  |with_reducible refine W.fin (K:=K) hK ?_ rfl
  |((with_reducible refine bb (λh=>?_) (λh=>?_))<;>(try simp at h))
 all_goals(clear hK;simp_all[bZ])
end
section
set_option maxRecDepth 100000
open Go.Vv Go.Ee
open Fo (hp)
attribute [local irreducible] bC aP bZ nd ax typeAt
structure Cx where
 ns:List Nd
 nb:Bool
 it:aw
 ret:ah
 fi:Int
 lv:List (List PV)
 W8:Bool
abbrev bL (s:ah):List PV:=[.str s]
abbrev aB (n:Int):List PV:=[.int .i64 n]
abbrev uP (b:Bool):List PV:=[.bool b]
abbrev aH (x:Nd):List PV:=[.int .i64 x.kind,.str x.name,.int .i64 x.num,.vs (x.kids.map aB) none x.kn,.int .i64 x.mE,.int .i64 x.to]
abbrev nZ (f:Fd):List PV:=[.str f.name,.str f.ty]
abbrev iT (s:Sd):List PV:=[.str s.name,.vs (s.fs.map nZ) none s.nl]
abbrev sC (f:Fx):List PV:=[.str f.name,.vs (f.ps.map nZ) none f.pn,.vs (f.ms.map uP) none f.mn,.str f.ret,.int .i64 f.node]
abbrev vK (l:Lc):List PV:=[.str l.name,.str l.ty,.bool l.mt]
abbrev ky (p:ah×Int):List PV:=[.str p.1,.int .i64 p.2]
abbrev b8 (x:Nd):SO:=.cells [.p (.int .i64 x.kind),.p (.str x.name),.p (.int .i64 x.num),.p (.vs (x.kids.map aB) none x.kn),.p (.int .i64 x.mE),.p (.int .i64 x.to)]
abbrev Tg (a b:Nat) (C:Cx) (ty:List ah) (va:List Int) (lo:List Lc) (sc:List (ah×Int)) (lp:Int) (c1 c2:Option Nat):List (Nat×SO):=[(3,.arr 1 C.lv C.W8),(2,.arr 1 (va.map aB) false),(1,.arr 1 (ty.map bL) false),
 (0,.cells [.p (.vs (C.ns.map aH) none C.nb),.p (.vs (C.it.ss.map iT) none C.it.sn),.p (.vs (C.it.es.map iT) none C.it.en),.p (.vs (C.it.fns.map sC) none C.it.yG),.ref 1 C.ns.length 1 (some C.ns.length),.ref 2 C.ns.length 1 (some C.ns.length),.ref 3 C.lv.length 1 none,.p (.int .i64 C.fi),.p (.str C.ret),.ref a sc.length 2 c1,.p (.int .i64 lp),.ref b lo.length 3 c2])]
abbrev WA (a b z:Nat) (C:Cx) (ty:List ah) (va:List Int) (lo:List Lc) (sc:List (ah×Int)) (lp:Int) (c1 c2:Option Nat) (ex:List (List PV)):SH:=
 ⟨(b,.arr 3 (lo.map vK) true)::(a,.arr 2 (sc.map ky++ex) true)::Tg a b C ty va lo sc lp c1 c2,z⟩
abbrev Xm:=WA 4 5 6
abbrev WY (d:Dg):EV:=.f (.p (.iface 87 (.agg [.int .i64 d.code,.int .i64 d.mE,.int .i64 d.to])))
abbrev S2 (l:List EV):List EV:=.f (.ptr 0 0)::l
abbrev sS {α:Type} (C:Cx) (f:FuncId) (args:List EV) (F:St->aN α) (val:α->EV) (k:Int) (ty:List ah) (va:List Int) (lo:List Lc) (sc:List (ah×Int)) (lp:Int):Prop:=
 ∀(c1 c2:Option Nat) (ex:List (List PV)) (K:aR->SH->Prop),Wf C.ns ⟨ty,va,lo,sc,lp⟩->0<=lp->lp+k<=40000->
 (∀v ty' va' lo' sc' c1' c2' ex',F ⟨ty,va,lo,sc,lp⟩=.ok v ⟨ty',va',lo',sc',lp⟩->Wf C.ns ⟨ty',va',lo',sc',lp⟩->W (K (.ret (val v)) (WA 6 7 8 C ty' va' lo' sc' lp c1' c2' ex')))->
 (∀d,F ⟨ty,va,lo,sc,lp⟩=.bad d->W (K (.panic (WY d)) ⟨[],6⟩))->SC Tryz.prog f (S2 args) (Xm C ty va lo sc lp c1 c2 ex) K
abbrev iA {α:Type} (C:Cx) (f:FuncId) (args:List EV) (F:St->aN α) (val:α->EV) (k:Int):Prop:=
 ∀ty va lo sc lp,sS C f args F val k ty va lo sc lp
theorem aq {ns:List Nd} {n:Int} {k:List PV->Prop} (h0:0<=n) (h1:n<(ns.length:Int)) (h:W (k (aH (nd ns n)))):iK (ns.map aH)[n.toNat]? k:=by
 refine on _ ?_ h
 obtain⟨m,rfl⟩:∃m:Nat,n=m:=⟨n.toNat,by omega⟩
 have:m<ns.length:=by omega
 simp[nd,this]
theorem gi {ns:List Nd} {ty:List ah} {va:List Int} {lo:List Lc} {sc:List (ah×Int)} {lp:Int} {n:Int} {k:List PV->Prop} (w:Wf ns ⟨ty,va,lo,sc,lp⟩) (h0:0<=n) (h1:n<(ns.length:Int)) (h:W (k [.str (typeAt ⟨ty,va,lo,sc,lp⟩ n)])):iK (ty.map bL)[n.toNat]? k:=by
 refine on _ ?_ h
 obtain⟨m,rfl⟩:∃m:Nat,n=m:=⟨n.toNat,by omega⟩
 have:=w.tl
 have:m<ty.length:=by simp at this;omega
 simp[typeAt,this]
theorem eO {n:Int} {l:List Nd} (h0:0<=n) (h1:n<(l.length:Int)):decide (0<=n/\n<(l.length:Int))=true:=by simp[h0,h1]
theorem dj {α:Type} {f:α->List PV} {l:List α} {i:Nat} {a:α} {k:List (List PV)->Prop} (h:W (k ((l.set i a).map f))):Fold ((l.map f).set i (f a)) k:=fold_eq _ (by simp) h
theorem pH {α:Type} {f:α->List PV} {l:List α} {a:α} {k:List (List PV)->Prop} (h:W (k ((l++[a]).map f))):Fold (l.map f++[f a]) k:=fold_eq _ (by simp) h
theorem Dj {l:List (ah×Int)} {ex:List (List PV)} {a:ah×Int} {k:List (List PV)->Prop} (he:(l.map ky++ex).length=l.length) (h:W (k ((l++[a]).map ky++[]))):Fold (l.map ky++ex++[ky a]) k:=fold_eq _ (by cases ex<;>simp_all) h
theorem Dk {l:List (ah×Int)} {ex:List (List PV)} {a:ah×Int} {k:List (List PV)->Prop} (h:W (k ((l++[a]).map ky++[]))):Fold ((l.map ky++ex).take l.length++[ky a]) k:=fold_eq _ (by rw[List.take_left' (by simp)];simp) h
section small
variable(C:Cx) (E:Rec) (n:Int) (h0:0<=n) (h1:n<(C.ns.length:Int)) (l:Int)
include h0 h1
theorem fN (hE:iA C 99 [.i n] (E n) EV.s l):iA C 225 [.i n] (cS C.ns E n) EV.s l:=by
 intro ty va lo sc lp q1 q2 ex K w l0 l1 hok hbad
 refine aX [] [] [4,5] Tryz.func225 rfl (by kernel_rfl) ?_
 repeat' first
  |((with_reducible refine W.of ?_);conv=>whnf)
  |with_reducible first
   |refine W.fin (K:=K) (hok _ _ _ _ _ _ _ _ ?_ ‹_›) rfl rfl
   |refine W.fin (K:=K) (hbad ⟨_,_,_⟩ ?_) rfl rfl
   |refine W.fin (K:=K) (hbad _ ?_) rfl rfl
   |refine bt (decide_eq_true ‹_›) ?_
   |refine aq ‹_› ‹_› ?_
   |refine fn [] [] Tryz.func157 rfl (by kernel_rfl) ?_
   |refine fn [] [] Tryz.func95 rfl (by kernel_rfl) ?_
   |refine hE _ _ _ _ _ _ _ _ _ ‹_› (by omega) (by omega) (λv ty va lo sc q1 q2 ex hF w=>?_) (λd hF=>?_)
   |refine SC.call ?_
  |((with_reducible refine bb (λh=>?_) (λh=>?_))<;>(try simp at h))
 all_goals(clear hok hbad;simp_all[cS,aN.then,ai,aF])
theorem eN (hE:iA C 99 [.i n] (E n) EV.s l) (t:ah):iA C 220 [.i n,.s t] (bP C.ns E n t) (λ_=>.bR []) l:=by
 intro ty va lo sc lp q1 q2 ex K w l0 l1 hok hbad
 refine aX [] [] [4,5] Tryz.func220 rfl (by kernel_rfl) ?_
 repeat' first
  |((with_reducible refine W.of ?_);conv=>whnf)
  |with_reducible first
   |refine W.fin (K:=K) (hok () _ _ _ _ _ _ _ ?_ ‹_›) rfl rfl
   |refine W.fin (K:=K) (hbad ⟨_,_,_⟩ ?_) rfl rfl
   |refine W.fin (K:=K) (hbad _ ?_) rfl rfl
   |refine bt (decide_eq_true ‹_›) ?_
   |refine aq ‹_› ‹_› ?_
   |refine fn [] [] Tryz.func157 rfl (by kernel_rfl) ?_
   |refine fn [] [] Tryz.func95 rfl (by kernel_rfl) ?_
   |refine fN C E n h0 h1 l hE _ _ _ _ _ _ _ _ _ ‹_› (by omega) (by omega) (λv ty va lo sc q1 q2 ex hF w=>?_) (λd hF=>?_)
   |refine SC.call ?_
  |((with_reducible refine bb (λh=>?_) (λh=>?_))<;>(try simp at h))
 all_goals(clear hok hbad;simp_all[bP,aN.then,ai])
theorem tk (t:ah):iA C 100 [.i n,.s t] (mB C.ns n t) (λ_=>.bR []) 0:=by
 intro ty va lo sc lp q1 q2 ex K w l0 l1 hok hbad
 refine aX [] [] [4,5] Tryz.func100 rfl (by kernel_rfl) ?_
 repeat' first
  |((with_reducible refine W.of ?_);conv=>whnf)
  |with_reducible first
   |refine W.fin (K:=K) (hok () _ _ _ _ _ _ _ ?_ ‹_›) rfl rfl
   |refine W.fin (K:=K) (hbad ⟨_,_,_⟩ ?_) rfl rfl
   |refine W.fin (K:=K) (hbad _ ?_) rfl rfl
   |refine bt (decide_eq_true ‹_›) ?_
   |refine bt (eO ‹_› ‹_›) ?_
   |refine aq ‹_› ‹_› ?_
   |refine gi ‹_› ‹_› ‹_› ?_
   |refine W.and (by kernel_rfl) ?_
   |refine fn [] [] Tryz.func157 rfl (by kernel_rfl) ?_
   |refine fn [] [] Tryz.func95 rfl (by kernel_rfl) ?_
   |refine Qd _ _ ?_
   |refine SC.call ?_
  |((with_reducible refine bb (λh=>?_) (λh=>?_))<;>(try simp at h))
 all_goals(clear hok hbad;simp_all[mB,aN.then,ai];try grind)
theorem PF (hE:iA C 99 [.i n] (E n) EV.s l):iA C 222 [.i n] (ri C.ns E n) EV.s l:=by
 intro ty va lo sc lp q1 q2 ex K w l0 l1 hok hbad
 refine aX [] [] [4,5] Tryz.func222 rfl (by kernel_rfl) ?_
 repeat' first
  |((with_reducible refine W.of ?_);conv=>whnf)
  |with_reducible first
   |refine W.fin (K:=K) (hok _ _ _ _ _ _ _ _ ?_ ‹_›) rfl rfl
   |refine W.fin (K:=K) (hbad ⟨_,_,_⟩ ?_) rfl rfl
   |refine W.fin (K:=K) (hbad _ ?_) rfl rfl
   |refine bt (decide_eq_true ‹_›) ?_
   |refine aq ‹_› ‹_› ?_
   |refine fn [] [] Tryz.func157 rfl (by kernel_rfl) ?_
   |refine fn [] [] Tryz.func95 rfl (by kernel_rfl) ?_
   |refine fN C E n h0 h1 l hE _ _ _ _ _ _ _ _ _ ‹_› (by omega) (by omega) (λv ty va lo sc q1 q2 ex hF w=>?_) (λd hF=>?_)
   |refine vS _ ?_
   |refine xC _ ?_
   |refine SC.call ?_
  |((with_reducible refine bb (λh=>?_) (λh=>?_))<;>(try simp at h))
 all_goals(clear hok hbad;simp_all[ri,aN.then,ai])
end small
end
section
open Go.Vv
theorem zI (s:ah):decide (0<=Lib.indexByte s 38)=bh s:=by
 induction s with
 |nil=>rfl
 |cons b l ih=>
  unfold Lib.indexByte
  have hge:=Lib.indexByte_ge l 38
  by_cases hb:b=38
  ·subst hb;simp[bh]
  ·have h1:(b==38)=false:=by simpa using hb
   have h2:bh (b::l)=bh l:=by simp only[bh,List.contains_cons];rw[show((38:UInt8)==b)=false by simpa using λe=>hb (Eq.symm e)];rfl
   rw[h2,<-ih,h1]
   simp only[Bool.false_eq_true,if_false]
   by_cases h3:Lib.indexByte l 38=-1
   ·simp[h3]
   ·have h4:(Lib.indexByte l 38==-1)=false:=by simpa using h3
    rw[h4]
    simp only[Bool.false_eq_true,if_false]
    congr 1
    simp only[eq_iff_iff]
    omega
end
section
open Go.Vv
structure Fl (it:aw):Prop where
 n1:it.ss.length<=1048576
 n2:it.es.length<=1048576
 n3:it.fns.length<=1048576
 sf:∀x∈it.ss,x.nl=true/\x.fs.length<=1048576
 ef:∀x∈it.es,x.nl=true/\x.fs.length<=1048576/\x.name.length<=1048576/\∀f∈x.fs,f.name.length<=1048576
 ff:∀x∈it.fns,x.ps.length<=1048576
theorem Fl.b {it:aw} (f:Fl it):it.ss.length<=1048576/\it.es.length<=1048576/\it.fns.length<=1048576:=⟨f.n1,f.n2,f.n3⟩
end
section
open Go.Vv
theorem xm (ns:List Nd) (st:St) (f:Nat) (n:Int):tH ns st (f+1) n=
 (if(nd ns n).kind=33 then((st.locals[(fu st n).toNat]?).map Lc.mt).getD false
 else if(nd ns n).kind=42 then(if aP (typeAt st (ax ns n 0))=true then bC (typeAt st (ax ns n 0)) else tH ns st f (ax ns n 0))
 else if(nd ns n).kind=41 then(if(eR (typeAt st (ax ns n 0))).2=true then(eR (typeAt st (ax ns n 0))).1 else tH ns st f (ax ns n 0))
 else true):=rfl
end
section
open Go.Vv
open Fo (hp aC cy cj eL gF)
def lu:Nat->ah->Bool->Bool
 |0,_,may=>may
 |f+1,s,may=>match aC s with
  |none=>may
  |some t=>lu f t (if aP s=true then bC s else may)
theorem vT {s:ah} (h:aP s=true):∃t,aC s=some t:=by
 unfold aC
 split
 ·exact⟨_,rfl⟩
 ·rw[if_pos (show hp s cj=true from h)];exact⟨_,rfl⟩
theorem Ba:∀(f:Nat) (s:ah) (may:Bool),bh s=false->lu f s may=may:=by
 intro f
 induction f with
 |zero=>intro s may _;rfl
 |succ f ih=>
  intro s may h
  simp only[lu]
  cases hi:aC s with
  |none=>rfl
  |some t=>
   simp only
   rw[ih _ _ (mL h hi),(qV h).1]
   simp
theorem LB {s:ah} (h:cM s) (f:Nat) (may:Bool):lu (f+1) s may=if aP s=true then bC s else may:=by
 simp only[lu]
 cases hi:aC s with
 |none=>
  cases hr:aP s with
  |false=>simp
  |true=>obtain⟨t,ht⟩:=vT hr;rw[hi] at ht;cases ht
 |some t=>
  simp only
  rw[Ba _ _ _ (h.inner hi)]
section chg
variable(ns:List Nd) (st:St)
def px:Nat->Int->Bool
 |0,_=>false
 |f+1,n=>
  if(nd ns n).kind=33 then decide (0<=fu st n)&&((st.locals[(fu st n).toNat]?).map Lc.mt).getD false
  else if¬(nd ns n).kind=42/\¬(nd ns n).kind=41 then false
  else if(nd ns n).kind=42 then(match aC (typeAt st (ax ns n 0)) with
   |none=>px f (ax ns n 0)
   |some _=>if aP (typeAt st (ax ns n 0))=true then bC (typeAt st (ax ns n 0)) else px f (ax ns n 0))
  else lu ((typeAt st (ax ns n 0)).length+1) (typeAt st (ax ns n 0)) (px f (ax ns n 0))
end chg
theorem PK {ns:List Nd} (g:Good ns) {st:St}:∀{n:Int},di ns st n->bZ (nd ns n).kind=true->0<=n->n<(ns.length:Int)->∀{f f':Nat},n.toNat<f->n.toNat<f'->px ns st f n=tH ns st f' n:=by
 intro n p
 induction p with
 |@var n hk ho=>
  intro _ h0 h1 f f' hf hf'
  obtain⟨f,rfl⟩:∃k,f=k+1:=⟨f-1,by omega⟩
  obtain⟨f',rfl⟩:∃k,f'=k+1:=⟨f'-1,by omega⟩
  have:=ho.1
  simp only[px,tH,if_pos hk]
  unfold fu at this⊢
  simp[this]
 |@other n hk=>intro hp;rw[hk] at hp;cases hp
 |@deref n hk hm hr ht hp ih=>
  intro _ h0 h1 f f' hf hf'
  obtain⟨f,rfl⟩:∃k,f=k+1:=⟨f-1,by omega⟩
  obtain⟨f',rfl⟩:∃k,f'=k+1:=⟨f'-1,by omega⟩
  have hb:=g.num h0 h1 _ hm
  have hk33:¬(nd ns n).kind=33:=by omega
  have hthr:=ht.1.through
  have hrec:aP (typeAt st (ax ns n 0))=false->px ns st f (ax ns n 0)=tH ns st f' (ax ns n 0):=by
   intro hrf
   rcases hr with hr|hr
   ·rw[hrf] at hr;cases hr
   ·exact ih hr hb.1 (by omega) (by omega) (by omega)
  simp only[px,tH,if_neg hk33]
  by_cases h42:(nd ns n).kind=42
  ·rw[if_neg (by simp[h42]),if_pos h42,if_pos h42]
   cases hrf:aP (typeAt st (ax ns n 0)) with
   |true=>
    obtain⟨t,hi⟩:=vT hrf
    simp[hi]
   |false=>
    rw[hrec hrf]
    cases hi:aC (typeAt st (ax ns n 0))<;>simp
  ·have h41:(nd ns n).kind=41:=by omega
   rw[if_neg (by simp[h41]),if_neg h42,if_neg h42,if_pos h41,LB ht.1,hthr.1,hthr.2]
   cases hrf:aP (typeAt st (ax ns n 0)) with
   |true=>simp
   |false=>simpa using hrec hrf
end
section
open Go.Vv
def pI (out:List Int):Nat:=out.countP (λv=>decide (v<0))
theorem Hh:∀{out:List Int} {k:Nat} {v i:Int},out[k]?=some v->v<0->0<=i->pI (out.set k i)+1=pI out:=by
 intro out
 induction out with
 |nil=>intro k v i h;simp at h
 |cons a out ih=>
  intro k v i h hv hi
  cases k with
  |zero=>
   simp at h
   subst h
   have:¬i<0:=by omega
   simp[pI,List.countP_cons,hv,this]
  |succ k=>
   simp at h
   have:=ih h hv hi
   simp only[pI,List.set_cons_succ,List.countP_cons] at this⊢
   omega
theorem Hg (n:Nat):pI (List.replicate n (-1))=n:=by
 induction n with
 |zero=>rfl
 |succ n ih=>simp only[List.replicate_succ,pI,List.countP_cons] at ih⊢;rw[ih];simp
theorem B0 {i:Int} (hi:0<=i):∀{ks out o:List Int},cH i out ks=some o->
 pI o+ks.length=pI out/\(∀(k:Nat) v,out[k]?=some v->0<=v->o[k]?=some v)/\(∀k∈ks,o[k.toNat]?=some i)/\(ks.map Int.toNat).Nodup:=by
 intro ks
 induction ks with
 |nil=>intro out o h;cases h;exact⟨rfl,λ_ _ h _=>h,λ_ h=>absurd h (by simp),by simp⟩
 |cons k ks ih=>
  intro out o h
  simp only[cH] at h
  split at h
  ·cases h
  ·rename_i hk
   cases hg:out[k.toNat]? with
   |none=>rw[hg] at hk;simp at hk
   |some v=>
    rw[hg] at hk
    simp at hk
    obtain⟨e1,e2,e3,e4⟩:=ih h
    have hf:=Hh (i:=i) hg hk hi
    have hlt:k.toNat<out.length:=(List.getElem?_eq_some_iff.1 hg).1
    have hat:o[k.toNat]?=some i:=e2 _ _ (by rw[List.getElem?_set_self hlt]) hi
    refine⟨by simp only[List.length_cons];omega,λk' v' h1 h2=>e2 _ _ ?_ h2,?_,?_⟩
    ·rw[List.getElem?_set_ne]
     ·exact h1
     ·intro e;rw[e] at hg;rw[hg] at h1;cases h1;omega
    ·intro k' hk'
     rcases List.mem_cons.1 hk' with rfl|hk'
     ·exact hat
     ·exact e3 _ hk'
    ·rw[List.map_cons,List.nodup_cons]
     refine⟨λhm=>?_,e4⟩
     obtain⟨k',hk',ek⟩:=List.mem_map.1 hm
     clear e1 e2 e4 ih hf hat
     have:∀{ks out o:List Int},cH i out ks=some o->∀k'∈ks,∀v,out[k'.toNat]?=some v->v<0:=by
      intro ks
      induction ks with
      |nil=>intro out o _ k' h;cases h
      |cons a ks ih=>
       intro out o h k' hk' v hv
       simp only[cH] at h
       split at h
       ·cases h
       ·rename_i ha
        rcases List.mem_cons.1 hk' with rfl|hk'
        ·rw[hv] at ha;simpa using ha
        ·by_cases e:k'.toNat=a.toNat
         ·rw[e] at hv;rw[hv] at ha;simpa using ha
         ·exact ih h _ hk' _ (by rw[List.getElem?_set_ne (λx=>e x.symm)];exact hv)
     have h2:=this h k' hk' i (by rw[ek,List.getElem?_set_self hlt])
     omega
theorem qS:∀{xs:List Nd} {i:Nat} {out o:List Int},cJ i xs out=some o->
 (∀x∈xs,x.kids.length<=pI out/\(x.kids.map Int.toNat).Nodup)/\(∀(k:Nat) v,out[k]?=some v->0<=v->o[k]?=some v)/\(∀(j:Nat) x,xs[j]?=some x->∀k∈x.kids,o[k.toNat]?=some ((i+j:Nat):Int)):=by
 intro xs
 induction xs with
 |nil=>intro i out o h;cases h;exact⟨λ_ h=>absurd h (by simp),λ_ _ h _=>h,λj x h=>by simp at h⟩
 |cons x xs ih=>
  intro i out o h
  simp only[cJ] at h
  split at h
  ·cases h
  ·rename_i o1 h1
   obtain⟨a1,a2,a3,a4⟩:=B0 (by omega) h1
   obtain⟨b1,b2,b3⟩:=ih h
   refine⟨λy hy=>?_,λk v h1 h2=>b2 _ _ (a2 _ _ h1 h2) h2,λj y hy k hk=>?_⟩
   ·rcases List.mem_cons.1 hy with rfl|hy
    ·exact⟨by omega,a4⟩
    ·exact⟨by have:=(b1 y hy).1;omega,(b1 y hy).2⟩
   ·cases j with
    |zero=>simp at hy;subst hy;exact b2 _ _ (a3 k hk) (by omega)
    |succ j=>
     simp at hy
     have:=b3 j y hy k hk
     rw[this]
     congr 1
     omega
theorem qY {ns:List Nd} (h:bK ns=true):∃o,ca ns=some o:=by
 unfold bK at h
 cases hp:ca ns with
 |none=>rw[hp] at h;simp at h
 |some o=>exact⟨o,rfl⟩
theorem Av {s:List UInt8} (h:rJ s=true):s.length<=2:=by
 have hm:s∈rK:=by simpa[rJ] using h
 have:∀t∈rK,t.length<=2:=by decide
 exact this s hm
theorem mT {s:List UInt8} (h:fq s=true):s.length<=64:=by
 simp only[fq,Bool.and_eq_true,decide_eq_true_eq] at h
 exact h.1.2
theorem u4 {s:List UInt8} (h:gl s=true):s.length<=200:=by
 unfold gl at h
 split at h
 ·rename_i i hi
  simp only[Bool.and_eq_true] at h
  have h1:=mT h.1
  have h2:=mT h.2
  simp only[List.length_take,List.length_drop] at h1 h2
  omega
 ·cases h
theorem xn {k:Int} {s:List UInt8} (h:fm k s=true):s.length<=200:=by
 unfold fm at h
 split at h
 ·have:=mT h;omega
 ·split at h
  ·exact u4 h
  ·split at h
   ·have:=Av h;omega
   ·have:s=[]:=by simpa using h
    simp[this]
theorem od {ns:List Nd} (hn:∀x∈ns, -9223372036854775808<=x.num/\x.num<=9223372036854775807) (h:bK ns=true):Good ns:=by
 have hlen:ns.length<=20000:=by
  simp only[bK,Bool.and_eq_true,decide_eq_true_eq] at h
  exact h.1.1.1.2
 obtain⟨o,ho⟩:=qY h
 have hp:=(qS ho).1
 refine⟨h,λx hx=>?_,λx hx=>?_,hn⟩
 ·have:=(hp x hx).1
  rw[Hg] at this
  omega
 ·obtain⟨i,hi⟩:=List.mem_iff_getElem?.1 hx
  have h2:fM ns i x=true:=by
   simp only[bK,Bool.and_eq_true] at h
   have h2:=h.1.2
   rw[List.all_eq_true] at h2
   exact h2 (x,i) (by rw[List.mem_zipIdx_iff_getElem?];exact hi)
  simp only[fM,Bool.and_eq_true] at h2
  have:=xn h2.1.1.1.1.2
  omega
theorem Ff {α β:Type} {f:α->β} {l:List α} (h:(l.map f).Nodup):l.Nodup:=by
 induction l with
 |nil=>exact List.nodup_nil
 |cons a l ih=>
  rw[List.map_cons,List.nodup_cons] at h
  exact List.nodup_cons.2 ⟨λhm=>h.1 (List.mem_map_of_mem hm),ih h.2⟩
section good
variable{ns:List Nd} (g:Good ns)
include g
theorem Good.parent {m n k:Int} (m0:0<=m) (m1:m<(ns.length:Int)) (n0:0<=n) (n1:n<(ns.length:Int)) (hm:k∈(nd ns m).kids) (hn:k∈(nd ns n).kids):m=n:=by
 obtain⟨o,ho⟩:=qY g.right
 have h:=(qS ho).2.2
 have e1:=h m.toNat _ (Good.at m0 m1) k hm
 have e2:=h n.toNat _ (Good.at n0 n1) k hn
 rw[e1] at e2
 have e3:=Option.some.inj e2
 omega
theorem Good.Gn {a m:Int} (h:Below ns a m):0<=a->a<(ns.length:Int)->0<=m/\m<=a:=by
 induction h with
 |refl n=>intro h0 _;exact⟨h0,Int.le_refl _⟩
 |step hk _ ih=>
  intro h0 h1
  have hb:=g.num h0 h1 _ hk
  have:=ih hb.1 (by omega)
  omega
theorem Good.Ey {a m:Int} (h:Below ns a m):∀{b:Int},Below ns b m->0<=a->a<(ns.length:Int)->0<=b->b<(ns.length:Int)->Below ns a b\/Below ns b a:=by
 induction h with
 |refl n=>intro b hb _ _ _ _;exact .inr hb
 |@step n k m hk hkm ih=>
  intro b hb a0 a1 b0 b1
  have hkb:=g.num a0 a1 _ hk
  rcases ih hb hkb.1 (by omega) b0 b1 with h|h
  ·exact .inl (.step hk h)
  ·
    clear ih hb hkm
    have:∀{b k:Int},Below ns b k->k∈(nd ns n).kids->0<=b->b<(ns.length:Int)->b=k\/Below ns b n:=by
     intro b k h
     induction h with
     |refl=>intro _ _ _;exact .inl rfl
     |@step b k' k hk' _ ih=>
      intro hk b0 b1
      have hkb:=g.num b0 b1 _ hk'
      rcases ih hk hkb.1 (by omega) with rfl|h
      ·right
       have:=g.parent b0 b1 a0 a1 hk' hk
       rw[this]
       exact .refl _
      ·exact .inr (.step hk' h)
    rcases this h hk b0 b1 with rfl|h
    ·exact .inl (.step hk (.refl _))
    ·exact .inr h
theorem Good.apart {n a b m:Int} (n0:0<=n) (n1:n<(ns.length:Int)) (ha:a∈(nd ns n).kids) (hb:b∈(nd ns n).kids) (hab:a≠b) (h:Below ns a m):¬Below ns b m:=by
 intro h2
 have ka:=g.num n0 n1 _ ha
 have kb:=g.num n0 n1 _ hb
 have key:∀{a b:Int},a∈(nd ns n).kids->b∈(nd ns n).kids->a≠b->¬Below ns a b:=by
  intro a b ha hb hab h
  have ka:=g.num n0 n1 _ ha
  have up:∀{a b:Int},Below ns a b->b∈(nd ns n).kids->0<=a->a<(ns.length:Int)->a=b\/Below ns a n:=by
   intro b k h
   induction h with
   |refl=>intro _ _ _;exact .inl rfl
   |@step b k' k hk' _ ih=>
    intro hk b0 b1
    have hkb:=g.num b0 b1 _ hk'
    rcases ih hk hkb.1 (by omega) with rfl|h
    ·right
     have:=g.parent b0 b1 n0 n1 hk' hk
     rw[this]
     exact .refl _
    ·exact .inr (.step hk' h)
  rcases up h hb ka.1 (by omega) with e|e
  ·exact hab e
  ·have:=g.Gn e ka.1 (by omega)
   omega
 rcases g.Ey h h2 ka.1 (by omega) kb.1 (by omega) with h|h
 ·exact key ha hb hab h
 ·exact key hb ha (λe=>hab e.symm) h
theorem Good.nodup {n:Int} (n0:0<=n) (n1:n<(ns.length:Int)):(nd ns n).kids.Nodup:=by
 obtain⟨o,ho⟩:=qY g.right
 have h:=((qS ho).1 _ (List.mem_of_getElem? (Good.at n0 n1))).2
 exact Ff h
end good
structure Tk (ns:List Nd) (it:aw):Prop where
 eq:it=aD ns (nd ns ((ns.length:Int)-1)).kids
 fl:Fl it
 ok:fg it
 ms:∀f∈it.fns,0<=f.node/\f.node<(ns.length:Int)/\(nd ns f.node).kind=2/\f=yH ns f.node
 iZ:it.fns.length<=64
theorem xr {ns:List Nd} (g:Good ns) {it:aw} (h:kM ns=.inl it):Tk ns it:=by
 unfold kM at h
 rw[if_neg (by rw[g.right];decide)] at h
 simp only at h
 have hlen:=g.len
 have hroots:∀n∈(nd ns ((ns.length:Int)-1)).kids,0<=n/\n<(ns.length:Int)/\((nd ns n).kind=2\/(nd ns n).kind=3\/(nd ns n).kind=4):=by
  intro n hn
  have:=g.roots n hn
  exact⟨this.1,by omega,this.2.2⟩
 split at h
 ·cases h
 ·rename_i hc
  split at h
  ·cases h
  ·rename_i hnm
   split at h
   ·cases h
   ·rename_i hty
    split at h
    ·cases h
    ·split at h
     ·cases h
     ·split at h
      ·cases h
       rw[jo]
       have hfew:=jP ns _ aw.none none hc (by decide) (by decide) (by decide)
       rw[jo] at hfew hty
       refine⟨rfl,⟨by omega,by omega,by omega,λx hx=>?_,λx hx=>?_,λx hx=>?_⟩,HA g hroots hty,λf hf=>?_,hfew.2.2.2⟩
       ·obtain⟨n,hn,hk,rfl⟩:=ou g hroots hx
        exact⟨rfl,by simp only[mj,List.length_map];exact g.kids _ (List.mem_of_getElem? (Good.at (hroots n hn).1 (hroots n hn).2.1))⟩
       ·obtain⟨n,hn,hk,rfl⟩:=rm g hroots hx
        refine⟨rfl,by simp only[mj,List.length_map];exact g.kids _ (List.mem_of_getElem? (Good.at (hroots n hn).1 (hroots n hn).2.1)),g.pX (hroots n hn).1 (hroots n hn).2.1,λf hf=>?_⟩
        simp only[mj,List.mem_map] at hf
        obtain⟨k,hk,rfl⟩:=hf
        have:=g.num (hroots n hn).1 (hroots n hn).2.1 k hk
        exact g.pX this.1 (by have:=(hroots n hn).2.1;omega)
       ·obtain⟨n,hn,hk,rfl⟩:=tn g hroots hx
        simp only[yH,List.length_map]
        have:=g.kids _ (List.mem_of_getElem? (Good.at (hroots n hn).1 (hroots n hn).2.1))
        unfold ar
        split
        ·rw[List.length_take];omega
        ·omega
       ·obtain⟨n,hn,hk,rfl⟩:=tn g hroots hf
        exact⟨(hroots n hn).1,(hroots n hn).2.1,hk,rfl⟩
      ·cases h
end
section
open Go.Vv
end
section
open Go.Vv
def r7 (ns:List Nd) (n:Int) (may:Bool) (st:St):aN Unit:=match bj ns n may with
 |some k=>ai ns 142 k
 |none=>.ok () st
def w6 (ns:List Nd) (l:List Int) (st:St):aN Unit:=match l.findSome? λa=>bj ns a false with
 |some k=>ai ns 142 k
 |none=>.ok () st
theorem E0 (ns:List Nd) (k:Int) (l:List Int) (st:St):w6 ns (k::l) st=(r7 ns k false st).then λ_ st=>w6 ns l st:=by
 simp only[w6,r7,List.findSome?_cons]
 cases bj ns k false<;>rfl
theorem Qo {ns:List Nd} {k:Int} {may:Bool} {st st':St} {u:Unit} (h:r7 ns k may st=.ok u st'):st'=st:=by
 unfold r7 at h
 split at h
 ·cases h
 ·cases h;rfl
def si (ns:List Nd) (it:aw) (n:Int) (st:St):aN ah:=match bm ns it n with
 |some k=>ai ns 141 k
 |none=>.ok (cz ns n.toNat) st
def uj (ns:List Nd) (it:aw) (n:Int) (l:List Int) (st:St):aN ah:=match l.findSome? λa=>bm ns it a with
 |some k=>ai ns 141 k
 |none=>.ok (cz ns n.toNat) st
theorem FL (ns:List Nd) (it:aw) (n k:Int) (l:List Int) (st:St):uj ns it n (k::l) st=(si ns it k st).then λ_ st=>uj ns it n l st:=by
 simp only[uj,si,List.findSome?_cons]
 cases bm ns it k<;>rfl
theorem SN {ns:List Nd} {it:aw} {k:Int} {st st':St} {u:ah} (h:si ns it k st=.ok u st'):st'=st:=by
 unfold si at h
 split at h
 ·cases h
 ·cases h;rfl
theorem KU {ns:List Nd} (g:Good ns) {k:Int} (h0:0<=k) (h1:k<(ns.length:Int)) (ht:aJ (nd ns k).kind=true):∀a∈(nd ns k).kids,aJ (nd ns a).kind=true:=by
 intro a ha
 by_cases h3:(nd ns k).kind=14\/(nd ns k).kind=15\/(nd ns k).kind=16
 ·obtain⟨j,y,e,hj,hy,ht2⟩:=g.type1 (Good.at h0 h1) h3
  rw[e] at ha
  simp at ha
  subst ha
  rw[Ib hy]
  exact ht2
 ·have hs:=g.shape h0 h1
  have h12:(nd ns k).kind=10\/(nd ns k).kind=11\/(nd ns k).kind=12\/(nd ns k).kind=13:=by simp[aJ] at ht;omega
  have:(nd ns k).kids=[]:=by
   rcases h12 with h|h|h|h<;>(rw[h] at hs;simpa[aL,aS,bu,aV] using hs)
  rw[this] at ha
  cases ha
end
section
open Go.Vv
end
section
open Go.Vv
end
section
open Go.Vv
theorem p9 {ns:List Nd} (g:Good ns) {n a b:Int} {st st':St} {t:ah} (n0:0<=n) (n1:n<(ns.length:Int)) (ha:a∈(nd ns n).kids) (hb:b∈(nd ns n).kids) (hab:a≠b) (p:di ns st a) (t:pd ns b st t st'):di ns st' a:=by
 have ka:=g.num n0 n1 a ha
 exact p.frame g t.mv.gE ka.1 (by omega) λm m0 _ hm=>t.mv.types m m0 (g.apart n0 n1 ha hb hab hm)
end
section
open Go.Vv
open Fo (aC cy cj)
def tv (ty:ah):ah:=if aP ty=true then(aC ty).getD [] else ty
def oI (ty:ah):ah:=if aP ty=true then(if bC ty=true then cy else cj) else[]
def B1 (ns:List Nd) (it:aw) (P:Int->ah->St->aN Unit) (n:Int) (ty held front:ah) (st:St):aN Unit:=
 let x:=nd ns n
 if x.kind=51 then bw ns n x.name ty false st
 else if x.kind=52 then(if held=bg then .ok () st else ai ns 167 n)
 else if x.kind=53 then(if held=aI then .ok () st else ai ns 167 n)
 else if x.kind=54 then
  match eu it x.name with
  |none=>ai ns 167 n
  |some (e,pt)=>if e≠held\/(decide (pt≠[]) !=decide (x.kids.length=1))=true then ai ns 167 n else
   if x.kids.length=1 then P (ax ns n 0) (front++pt) st else .ok () st
 else .ok () st
theorem nM (ns:List Nd) (it:aw) (f:Nat) (n:Int) (ty:ah) (st:St):mi ns it (f+1) n ty st=(B1 ns it (mi ns it f) n ty (tv ty) (oI ty) st).then λ_ st=>.ok () {st with types:=st.types.set n.toNat ty}:=rfl
end
section
open Go.Vv
theorem BP {s:ah} {l:List (ah×Int)} (h:∀p∈l,p.1≠s):jV s l=none:=by
 unfold jV
 rw[List.find?_eq_none.2]
 ·rfl
 ·intro p hp
  simpa using h p (by simpa using hp)
theorem BQ {s:ah} {l:List (ah×Int)} {i:Nat} (hi:i<l.length) (he:(l[i]'hi).1=s) (h:∀p∈l.drop (i+1),p.1≠s):jV s l=some (l[i]'hi).2:=by
 have hd:l=l.take i++l[i]::l.drop (i+1):=by rw[<-List.drop_eq_getElem_cons hi,List.take_append_drop]
 unfold jV
 conv=>lhs;rw[hd]
 rw[List.reverse_append,List.reverse_cons,List.append_assoc,List.find?_append]
 have e1:(l.drop (i+1)).reverse.find? (λp=>p.1==s)=none:=by
  rw[List.find?_eq_none]
  intro p hp
  simpa using h p (by simpa using hp)
 rw[e1]
 simp[he]
end
section
open Go.Vv
def Eu (ns:List Nd) (it:aw) (E:Rec) (sub:ah) (k:Int) (ot:ah) (st:St):aN ah:=
 (n6 ns it (ax ns k 0) sub st).then λ_ st1=>(E (ax ns k 1) st1).then λs st1=>if ot=aF then .ok s st1 else(mB ns (ax ns k 1) ot st1).then λ_ st1=>.ok ot st1
end
section
open Go.Vv
theorem A7 (ns:List Nd) (it:aw) (E:Rec) (sub:ah) (k:Int) (ks:List Int) (ot:ah) (st:St):iJ ns it E sub (k::ks) ot st=(Eu ns it E sub k ot st).then λo st1=>iJ ns it E sub ks o {st1 with scope:=st1.scope.take st.scope.length}:=by
 simp only[iJ,Eu]
 cases n6 ns it (ax ns k 0) sub st with
 |bad d=>rfl
 |ok u st1=>
  simp only[aN.then]
  cases E (ax ns k 1) st1 with
  |bad d=>rfl
  |ok s st2=>
   simp only
   by_cases h:ot=aF
   ·simp[h]
   ·simp only[if_neg h]
    cases mB ns (ax ns k 1) ot st2<;>rfl
end
section
open Go.Vv
def vv (ns:List Nd) (ks:List Int):Nat->St->ah
 |0,_=>aE
 |i+1,st=>match ks[i]? with
  |some k=>if pE ns st k=true then aF else aE
  |none=>aE
section loops
end loops
end
section
open Go.Vv
def Gs (ns:List Nd) (it:aw) (f:Fx) (st:St):aN Unit:=
 (gX ns (nd ns f.node).kids f.ps f.ms st).then λ_ st=>(GN ns it f.ret (ax ns f.node ((nd ns f.node).kids.length-1)) st).then λ_ st=>mB ns (ax ns f.node ((nd ns f.node).kids.length-1)) f.ret st
end
section
open Go.Vv
section spine
end spine
noncomputable def iC (ns:List Nd):Sum (aw×List (List Lc)×St) Dg:=
 match kM ns with
 |.inr d=>.inr d
 |.inl it=>match b9 ns it it.fns [] (eQ ns) with
  |.ok outs st=>.inl (it,outs,st)
  |.bad d=>.inr d
end
section
open Go.Vv
inductive qw {α β:Type} (R:α->β->Prop):List α->List β->Prop where
 |nil:qw R [] []
 |cons {a:α} {b:β} {l:List α} {m:List β}:R a b->qw R l m->qw R (a::l) (b::m)
theorem qw.of {α β:Type} {R:α->β->Prop}:∀{l:List α} {m:List β},l.length=m.length->(∀(j:Nat) (a:α) (b:β),l[j]?=some a->m[j]?=some b->R a b)->qw R l m
 |[],[],_,_=>.nil
 |[],_::_,h,_=>by simp at h
 |_::_,[],h,_=>by simp at h
 |a::l,b::m,h,hR=>.cons (hR 0 a b rfl rfl) (qw.of (by simpa using h) λj x y hx hy=>hR (j+1) x y hx hy)
theorem qw.map {α β γ:Type} {R:α->β->Prop} {S:γ->β->Prop} {f:α->γ} {l:List α} {m:List β} (h:qw R l m) (hf:∀x y,R x y->S (f x) y):qw S (l.map f) m:=by
 induction h with
 |nil=>exact .nil
 |cons a _ ih=>exact .cons (hf _ _ a) ih
theorem z7 {ns:List Nd}:∀{l:List Int} {ts fs:List ah} {e:Int×Int},ba ns l ts fs=some e->e.2≠0:=by
 intro l
 induction l with
 |nil=>intro ts fs e h;cases h
 |cons n l ih=>
  intro ts fs e h
  unfold ba at h
  repeat' split at h
  all_goals first
   |exact ih h
   |(cases h;simp;done)
   |(cases h;decide)
theorem AV {ns:List Nd} {it:aw} {fn:Bool}:∀{l:List Int} {e:Int×Int},bn ns it fn l=some e->e.2≠0:=by
 intro l
 induction l with
 |nil=>intro e h;cases h
 |cons n l ih=>
  intro e h
  unfold bn at h
  repeat' split at h
  all_goals first
   |exact ih h
   |(cases h;simp;done)
theorem rM {ns:List Nd} {it:aw}:∀{l:List Int} {e:Int×Int},bz ns it l=some e->e.2≠0:=by
 intro l
 induction l with
 |nil=>intro e h;cases h
 |cons n l ih=>
  intro e h
  unfold bz at h
  split at h
  ·rename_i he
   cases h
   exact AV he
  ·exact ih h
theorem Aw {ns:List Nd} {it:aw} {l:List Int} {e:Int×Int} (h:cq ns it l=some e):e.2≠0:=by
 unfold cq at h
 split at h
 ·cases h;simp
 ·rw[Option.map_eq_some_iff] at h
  obtain⟨n,_,rfl⟩:=h
  simp
theorem Ih {ns:List Nd} {d:Dg} (h:kM ns=.inr d):d.code≠0:=by
 unfold kM at h
 simp only at h
 split at h
 ·cases h;simp
 repeat' split at h
 all_goals first
  |(cases h;done)
  |(cases h;simp[jq];done)
  |(rename_i he;cases h;exact z7 he)
  |(rename_i he;cases h;exact rM he)
  |(rename_i he;cases h;exact Aw he)
theorem qQ {ns:List Nd} {it:aw} (h:kM ns=.inl it):bK ns=true:=by
 unfold kM at h
 split at h
 ·cases h
 ·rename_i he
  simpa using he
end
section
open Go.Vv
section many
variable(ns:List Nd)
def A2 (n:Int) (a:Nat×Nat×Nat):Nat×Nat×Nat:=
 if(nd ns n).kind=3 then(a.1+1,a.2.1,a.2.2) else if(nd ns n).kind=4 then(a.1,a.2.1+1,a.2.2) else(a.1,a.2.1,a.2.2+1)
def l9:List Int->Nat×Nat×Nat->Option Int
 |[],_=>none
 |n::l,a=>if 64<(A2 ns n a).1\/64<(A2 ns n a).2.1\/64<(A2 ns n a).2.2 then some n else l9 l (A2 ns n a)
theorem lx:∀(l:List Int) (it:aw) (x:Int),(aU ns l it (some x)).2=some x:=by
 intro l
 induction l with
 |nil=>intro it x;rfl
 |cons n l ih=>intro it x;simp only[aU];exact ih _ _
theorem Mp:∀(l:List Int) (it:aw),it.ss.length<=64->it.es.length<=64->it.fns.length<=64->
 (aU ns l it none).2=l9 ns l (it.ss.length,it.es.length,it.fns.length):=by
 intro l
 induction l with
 |nil=>intro it _ _ _;rfl
 |cons n l ih=>
  intro it h1 h2 h3
  simp only[aU,l9]
  by_cases k3:(nd ns n).kind=3
  ·by_cases hf:64<it.ss.length+1
   ·have e:ei ns n (cX ns n it)=true:=by simp[ei,cX,k3,hf]
    rw[e,if_pos rfl,lx,if_pos (by simp[A2,k3];omega)]
   ·have e:ei ns n (cX ns n it)=false:=by simp[ei,cX,k3];omega
    rw[e,if_neg (by decide),ih _ (by simp[cX,k3];omega) (by simpa[cX,k3] using h2) (by simpa[cX,k3] using h3),if_neg (by simp[A2,k3];omega)]
    simp[cX,A2,k3]
  ·by_cases k4:(nd ns n).kind=4
   ·by_cases hf:64<it.es.length+1
    ·have e:ei ns n (cX ns n it)=true:=by simp[ei,cX,k4,hf]
     rw[e,if_pos rfl,lx,if_pos (by simp[A2,k4];omega)]
    ·have e:ei ns n (cX ns n it)=false:=by simp[ei,cX,k4];omega
     rw[e,if_neg (by decide),ih _ (by simpa[cX,k4] using h1) (by simp[cX,k4];omega) (by simpa[cX,k4] using h3),if_neg (by simp[A2,k4];omega)]
     simp[cX,A2,k4]
   ·by_cases hf:64<it.fns.length+1
    ·have e:ei ns n (cX ns n it)=true:=by simp[ei,cX,k3,k4,hf]
     rw[e,if_pos rfl,lx,if_pos (by simp[A2,k3,k4];omega)]
    ·have e:ei ns n (cX ns n it)=false:=by simp[ei,cX,k3,k4];omega
     rw[e,if_neg (by decide),ih _ (by simpa[cX,k3,k4] using h1) (by simpa[cX,k3,k4] using h2) (by simp[cX,k3,k4];omega),if_neg (by simp[A2,k3,k4];omega)]
     simp[cX,A2,k3,k4]
theorem DE (l:List Int):(aU ns l aw.none none).2=l9 ns l (0,0,0):=Mp ns l aw.none (by decide) (by decide) (by decide)
def cV (l:List Int):List ah:=(l.filter λk=>!au ns k).map λk=>(nd ns k).name
def tp (l:List Int):List ah:=bG++(l.filter λk=>au ns k).map λk=>(nd ns k).name
def jB (n:Int) (pre:List Int):Bool:=pre.any λk=>(nd ns k).name==(nd ns n).name&&au ns k==au ns n
def gN (s:ah):Bool:=s==[112,114,105,110,116]||s==[114,101,97,100]||s==[112,97,110,105,99]
theorem Ez (s:ah):gN s=bG.contains s:=by
 simp only[gN,bG,List.contains_cons,List.contains_nil,Bool.or_false]
 rw[Bool.or_assoc]
theorem NT (n:Int) (pre:List Int):(au ns n&&gN (nd ns n).name||jB ns n pre)=(if au ns n=true then tp ns pre else cV ns pre).contains (nd ns n).name:=by
 rw[Ez]
 cases hf:au ns n with
 |true=>
  simp only[Bool.true_and,if_true,tp]
  rw[Bool.eq_iff_iff]
  simp only[Bool.or_eq_true,List.contains_iff_mem,List.mem_append,List.mem_map,List.mem_filter,jB,List.any_eq_true,Bool.and_eq_true,beq_iff_eq,hf]
  constructor
  ·rintro(h|⟨k,h1,h2,h3⟩)
   ·exact .inl h
   ·exact .inr ⟨k,⟨h1,h3⟩,h2⟩
  ·rintro(h|⟨k,⟨h1,h3⟩,h2⟩)
   ·exact .inl h
   ·exact .inr ⟨k,h1,h2,h3⟩
 |false=>
  simp only[Bool.false_and,Bool.false_or,Bool.false_eq_true,if_false,cV]
  rw[Bool.eq_iff_iff]
  simp only[List.contains_iff_mem,List.mem_map,List.mem_filter,jB,List.any_eq_true,Bool.and_eq_true,beq_iff_eq,hf,Bool.not_eq_true']
  constructor
  ·rintro⟨k,h1,h2,h3⟩
   exact⟨k,⟨h1,h3⟩,h2⟩
  ·rintro⟨k,⟨h1,h3⟩,h2⟩
   exact⟨k,h1,h2,h3⟩
theorem BV (n:Int) (l pre:List Int):ba ns (n::l) (cV ns pre) (tp ns pre)=
 if(au ns n&&gN (nd ns n).name||jB ns n pre)=true then some (n,140) else
 if(ar ns n).length>(if au ns n=true then 6 else 16) then some (n,2) else
 match kC ns (ar ns n) [] with
 |some k=>some (k,140)
 |none=>ba ns l (cV ns (pre++[n])) (tp ns (pre++[n])):=by
 rw[NT]
 simp only[ba]
 cases hf:au ns n<;>simp[cV,tp,hf]<;>rfl
theorem z8 (l:List Int):ba ns l [] bG=ba ns l (cV ns []) (tp ns []):=by simp[cV,tp]
def ct (it:aw) (fn:Bool) (k:Int):Option (Int×Int):=
 match bm ns it k with
 |some i=>some (i,141)
 |none=>match bj ns k fn with
  |some i=>some (i,142)
  |none=>none
theorem np (it:aw) (fn:Bool) (k:Int) (l:List Int):bn ns it fn (k::l)=match ct ns it fn k with|some e=>some e|none=>bn ns it fn l:=by
 simp only[bn,ct]
 cases bm ns it k with
 |some i=>rfl
 |none=>cases bj ns k fn<;>rfl
theorem uL (it:aw) (fn:Bool) (l m:List Int):bn ns it fn (l++m)=match bn ns it fn l with|some e=>some e|none=>bn ns it fn m:=by
 induction l with
 |nil=>rfl
 |cons k l ih=>
  rw[List.cons_append,np,np,ih]
  cases ct ns it fn k<;>rfl
theorem o9 (it:aw) (fn:Bool) (k:Int):bn ns it fn [k]=ct ns it fn k:=by
 rw[np]
 cases ct ns it fn k<;>rfl
def jM (it:aw) (fn:Bool) (m:List Int):Option (Int×Int):=bn ns it fn (m.flatMap λk=>(nd ns k).kids)
theorem AW (it:aw) (fn:Bool) (k:Int) (m:List Int):jM ns it fn (k::m)=match bn ns it fn (nd ns k).kids with|some e=>some e|none=>jM ns it fn m:=by
 simp only[jM,List.flatMap_cons]
 exact uL ns it fn _ _
theorem Cr (it:aw) (n:Int) (l:List Int):bz ns it (n::l)=
 match jM ns it (au ns n) (ar ns n) with
 |some e=>some e
 |none=>if au ns n=true then(match ct ns it true (dL ns n) with|some e=>some e|none=>bz ns it l) else bz ns it l:=by
 simp only[bz,typesOf]
 rw[uL]
 unfold jM
 cases hf:au ns n with
 |true=>
  simp only[if_true]
  rw[o9]
  cases bn ns it true ((ar ns n).flatMap λk=>(nd ns k).kids)<;>rfl
 |false=>
  simp only[Bool.false_eq_true,if_false,bn]
  cases bn ns it false ((ar ns n).flatMap λk=>(nd ns k).kids)<;>rfl
theorem zT (l:List Int) (hl:∀n∈l,(nd ns n).kind=2\/(nd ns n).kind=3\/(nd ns n).kind=4) (s:ah):(cV ns l).contains s=cw (aD ns l) s:=by
 rw[Bool.eq_iff_iff]
 simp only[cw,Bool.or_eq_true,aM,List.contains_iff_mem,cV,List.mem_map,List.mem_filter,Option.isSome_iff_ne_none,ne_eq,List.find?_eq_none,aD,Bool.not_eq_true',au,beq_eq_false_iff_ne]
 constructor
 ·rintro⟨k,⟨h1,h2⟩,rfl⟩
  rcases hl k h1 with h|h|h
  ·exact absurd h h2
  ·refine .inl λhh=>hh (mj ns k) ?_ (beq_iff_eq.2 rfl)
   exact⟨k,⟨h1,by simp[h]⟩,rfl⟩
  ·refine .inr λhh=>hh (mj ns k) ?_ (beq_iff_eq.2 rfl)
   exact⟨k,⟨h1,by simp[h]⟩,rfl⟩
 ·rintro(h|h)
  ·apply Classical.byContradiction
   intro hn
   refine h λx hx he=>hn ?_
   (try simp only[List.mem_map,List.mem_filter] at hx)
   obtain⟨k,⟨h1,h2⟩,rfl⟩:=hx
   exact⟨k,⟨h1,by simp at h2;omega⟩,by simpa[mj] using he⟩
  ·apply Classical.byContradiction
   intro hn
   refine h λx hx he=>hn ?_
   (try simp only[List.mem_map,List.mem_filter] at hx)
   obtain⟨k,⟨h1,h2⟩,rfl⟩:=hx
   exact⟨k,⟨h1,by simp at h2;omega⟩,by simpa[mj] using he⟩
theorem AG (g:Good ns) (it:aw) {k:Int} (h0:0<=k) (h1:k<(ns.length:Int)) (ht:aJ (nd ns k).kind=true):
 bm ns it k=(if(nd ns k).kind=13 then(if cw it (nd ns k).name=true then none else some k) else match(nd ns k).kids with|[a]=>bm ns it a|_=>none):=by
 rw[iu g it h0 h1]
 have hs:=g.shape h0 h1
 by_cases h13:(nd ns k).kind=13
 ·have hk0:(nd ns k).kids=[]:=by
   rw[h13] at hs
   simpa[aL,aS,bu,aV] using hs
  rw[if_pos h13,hk0]
  cases hh:cw it (nd ns k).name<;>simp[h13]
 ·rw[if_neg (λe=>h13 e.1),if_neg h13]
  have:(nd ns k).kids=[]\/∃a,(nd ns k).kids=[a]:=by
   simp only[aJ] at ht
   by_cases h3:(nd ns k).kind=14\/(nd ns k).kind=15\/(nd ns k).kind=16
   ·obtain⟨a,_,e,_⟩:=g.type1 (Good.at h0 h1) h3
    exact .inr ⟨a,e⟩
   ·left
    have h12:(nd ns k).kind=10\/(nd ns k).kind=11\/(nd ns k).kind=12:=by simp at ht;omega
    rcases h12 with h|h|h<;>(rw[h] at hs;simpa[aL,aS,bu,aV] using hs)
  rcases this with e|⟨a,e⟩<;>simp[e]
theorem ru (g:Good ns) {k:Int} (h0:0<=k) (h1:k<(ns.length:Int)) (ht:aJ (nd ns k).kind=true):
 bj ns k false=(if(nd ns k).kind=14\/(nd ns k).kind=15 then some k else match(nd ns k).kids with|[a]=>bj ns a false|_=>none):=by
 rw[eC g false h0 h1]
 by_cases h3:(nd ns k).kind=14\/(nd ns k).kind=15
 ·rw[if_pos ⟨rfl,h3⟩,if_pos h3]
 ·rw[if_neg (λe=>h3 e.2),if_neg h3]
  have hs:=g.shape h0 h1
  have:(nd ns k).kids=[]\/∃a,(nd ns k).kids=[a]:=by
   simp only[aJ] at ht
   by_cases h4:(nd ns k).kind=16
   ·obtain⟨a,_,e,_⟩:=g.type1 (Good.at h0 h1) (.inr (.inr h4))
    exact .inr ⟨a,e⟩
   ·left
    have h12:(nd ns k).kind=10\/(nd ns k).kind=11\/(nd ns k).kind=12\/(nd ns k).kind=13:=by simp at ht;omega
    rcases h12 with h|h|h|h<;>(rw[h] at hs;simpa[aL,aS,bu,aV] using hs)
  rcases this with e|⟨a,e⟩<;>simp[e]
theorem BE (g:Good ns) {k:Int} (h0:0<=k) (h1:k<(ns.length:Int)) (ht:aJ (nd ns k).kind=true):
 bj ns k true=(match(nd ns k).kids with|[a]=>bj ns a false|_=>none):=by
 rw[eC g true h0 h1,if_neg (λe=>by cases e.1)]
 have hs:=g.shape h0 h1
 have:(nd ns k).kids=[]\/∃a,(nd ns k).kids=[a]:=by
  simp only[aJ] at ht
  by_cases h4:(nd ns k).kind=14\/(nd ns k).kind=15\/(nd ns k).kind=16
  ·obtain⟨a,_,e,_⟩:=g.type1 (Good.at h0 h1) h4
   exact .inr ⟨a,e⟩
  ·left
   have h12:(nd ns k).kind=10\/(nd ns k).kind=11\/(nd ns k).kind=12\/(nd ns k).kind=13:=by simp at ht;omega
   rcases h12 with h|h|h|h<;>(rw[h] at hs;simpa[aL,aS,bu,aV] using hs)
 rcases this with e|⟨a,e⟩<;>simp[e]
end many
end
section
open Go.Vv
def ak (ns:List Nd):List Int:=(nd ns ((ns.length:Int)-1)).kids
def Sb (ns:List Nd):Bool:=(nd ns ((ns.length:Int)-1)).kn
theorem Good.VH {ns:List Nd} (g:Good ns) {n:Int} (h0:0<=n) (h1:n<(ns.length:Int)) (hk:(nd ns n).kind=2):(nd ns n).num=(((nd ns n).kids.length-2:Nat):Int):=by
 obtain⟨f1,f2,f3,f4,f5,f6,f7⟩:=g.fn h0 h1 hk
 have hm:=g.members h0 h1 (.inl hk)
 have hn:=g.node (Good.at h0 h1)
 simp only[fM,Bool.and_eq_true] at hn
 have hnum:=hn.1.1.1.2
 rw[hk] at hnum
 simp only[tN,if_true,beq_iff_eq] at hnum
 have hkd:∀k,0<=k->k<(ns.length:Int)->Proofs.YtdjkoddnnogejaaGreat.eH ns k=(nd ns k).kind:=λk k0 k1=>Good.eH (Good.at k0 k1)
 obtain⟨L,hL⟩:∃L,L=(nd ns n).kids.length:=⟨_,rfl⟩
 have hsplit:(nd ns n).kids=(nd ns n).kids.take (L-2)++[dL ns n,ax ns n (L-1)]:=by
  conv=>lhs;rw[<-List.take_append_drop (L-2) (nd ns n).kids]
  congr 1
  apply List.ext_getElem?
  intro i
  rw[List.getElem?_drop]
  match i with
  |0=>simp[dL,ax,hL]
      rw[List.getElem?_eq_getElem (by omega)]
      simp
  |1=>simp[ax,hL]
      rw[show(nd ns n).kids.length-2+1=(nd ns n).kids.length-1 by omega,List.getElem?_eq_getElem (by omega)]
      simp
  |i+2=>rw[List.getElem?_eq_none (by omega),List.getElem?_eq_none (by simp)]
 rw[hnum,hsplit,List.filter_append,List.filter_eq_self.2 (λk hkm=>by
  have:=hm k (by rw[ar,if_pos hk,<-hL];exact hkm)
  have hf:=this.2.1
  rw[hkd k hf.1 hf.2.1,this.2.2.1 hk]
  rfl)]
 have e1:(Proofs.YtdjkoddnnogejaaGreat.eH ns (dL ns n)==7)=false:=by
  rw[hkd _ f2 (by omega)]
  simp only[aJ] at f4
  simp only[beq_eq_false_iff_ne]
  intro e
  rw[e] at f4
  exact absurd f4 (by decide)
 have e2:(Proofs.YtdjkoddnnogejaaGreat.eH ns (ax ns n (L-1))==7)=false:=by
  rw[hL,hkd _ f5 (by omega),f7]
  decide
 have e3:[dL ns n,ax ns n (L-1)].filter (λk=>Proofs.YtdjkoddnnogejaaGreat.eH ns k==7)=[]:=by simp only[List.filter_cons,List.filter_nil,e1,e2];rfl
 rw[e3,List.append_nil,List.length_append,List.length_take]
 simp only[List.length_cons,List.length_nil]
 omega
def Ra (ns:List Nd) (n:Int):Bool:=(nd ns n).kind !=2&&(nd ns n).kn
end
section
open Go.Vv
end
section
open Go.Vv
theorem qw.len {α β:Type} {R:α->β->Prop} {l:List α} {m:List β} (h:qw R l m):l.length=m.length:=by
 induction h with
 |nil=>rfl
 |cons _ _ ih=>simp[ih]
theorem qw.get {α β:Type} {R:α->β->Prop} {l:List α} {m:List β} (h:qw R l m):∀{i:Nat} {b:β},m[i]?=some b->∃a,l[i]?=some a/\R a b:=by
 induction h with
 |nil=>intro i b hb;simp at hb
 |cons hab _ ih=>
  intro i b hb
  cases i with
  |zero=>simp at hb;subst hb;exact⟨_,rfl,hab⟩
  |succ i=>exact ih (by simpa using hb)
structure Pq (it:aw):Prop where
 b1:it.ss.length<=1048576
 b2:it.es.length<=1048576
 b3:it.fns.length<=1048576
 hs:∀x∈it.ss,x.fs.length<=1048576
 he:∀x∈it.es,x.fs.length<=1048576
 hf:∀x∈it.fns,x.ps.length<=1048576
 hm:∀x∈it.fns,x.ms.length<=1048576
end
section
open Go.Vv
open Fo (hp aC cy cj eL gF)
def d0:Dg:=⟨0,0,0⟩
section steps
end steps
end
section
open Go.Vv
def kQ (ns:List Nd) (E:Rec) (n:Int) (ty:ah) (st:St):aN Unit:=(E n st).then λs st=>if GY s ty=true then .ok () st else ai ns 160 n
end
section
open Go.Vv
end
section
open Go.Vv
open Fo (hp aC cy cj eL gF)
theorem EB:∀(n m:Nat) (s:ah) (a:Bool),s.length<n->s.length<m->lu n s a=lu m s a:=by
 intro n
 induction n with
 |zero=>intro m s a h;omega
 |succ n ih=>
  intro m s a hn hm
  obtain⟨m,rfl⟩:∃k,m=k+1:=⟨m-1,by omega⟩
  simp only[lu]
  cases hi:aC s with
  |none=>rfl
  |some t=>have:=Fo.bH hi;exact ih m t _ (by omega) (by omega)
theorem Ly (ns:List Nd) (st:St) (f:Nat) (n:Int):px ns st (f+1) n=
 (if(nd ns n).kind=33 then decide (0<=fu st n)&&((st.locals[(fu st n).toNat]?).map Lc.mt).getD false
 else if¬(nd ns n).kind=42/\¬(nd ns n).kind=41 then false
 else if(nd ns n).kind=42 then(match aC (typeAt st (ax ns n 0)) with
  |none=>px ns st f (ax ns n 0)
  |some _=>if aP (typeAt st (ax ns n 0))=true then bC (typeAt st (ax ns n 0)) else px ns st f (ax ns n 0))
 else lu ((typeAt st (ax ns n 0)).length+1) (typeAt st (ax ns n 0)) (px ns st f (ax ns n 0))):=rfl
end
section
open Go.Vv
theorem Good.Sl {ns:List Nd} (g:Good ns) {n:Int} (h0:0<=n) (h1:n<(ns.length:Int)) (hk:(nd ns n).kind=38):(nd ns n).name∈rK:=by
 have:=g.O1 h0 h1
 rw[hk] at this
 simpa[fm,rJ] using this
end
section
open Go.Vv
open Fo (hp aC cy cj eL gF)
section same
variable(ns:List Nd) (it:aw) (ret:ah)
theorem LS (s t:ah):(GY s t=true)=(s=t\/s=aF):=by simp[GY]
theorem jX {E:Rec} {k:Int} {st:St} (hO:rY ns E k) (w:Wf ns st) (ty:ah):kQ ns E k ty st=(E k st).then λ_ st'=>mB ns k ty st':=by
 unfold kQ
 cases h:E k st with
 |bad d=>rfl
 |ok s st'=>
  have:=(hO _ _ _ w h).Ev
  simp only[aN.then,mB,this,LS]
def ik (E:Rec) (n:Int) (st:St):aN ah:=
 (bP ns E (ax ns n 0) aI st).then λ_ st=>
   if(nd ns n).kids.length=2 then(kQ ns E (ax ns n 1) aE st).then λ_ st=>.ok aE st else
   (E (ax ns n 1) st).then λfirst st=>if first=aF then E (ax ns n 2) st else(kQ ns E (ax ns n 2) first st).then λ_ st=>.ok first st
theorem then_assoc {α β γ:Type} (r:aN α) (f:α->St->aN β) (g:β->St->aN γ):(r.then f).then g=r.then λa st=>(f a st).then g:=by
 cases r<;>rfl
theorem cC {α β:Type} {r:aN α} {f g:α->St->aN β} (h:∀a st,r=.ok a st->f a st=g a st):r.then f=r.then g:=by
 cases r with
 |bad d=>rfl
 |ok a st=>exact h a st rfl
theorem B3 {E:Rec} {n:Int} {st:St} (w:Wf ns st) (h0:rY ns E (ax ns n 0)) (h1:rY ns E (ax ns n 1)) (h2:(nd ns n).kids.length=2\/rY ns E (ax ns n 2)):ik ns E n st=iO ns E n st:=by
 unfold ik iO
 refine cC λ_ st1 hs1=>?_
 have w1:=(bJ h0 w hs1).mv.wf
 by_cases hl:(nd ns n).kids.length=2
 ·rw[if_pos hl,jX ns h1 w1,then_assoc]
  refine cC λa st2 _=>?_
  rw[if_pos hl]
 ·have h2:rY ns E (ax ns n 2):=by
   rcases h2 with h|h
   ·exact absurd h hl
   ·exact h
  rw[if_neg hl]
  refine cC λa st2 hs2=>?_
  have w2:=(h1 _ _ _ w1 hs2).mv.wf
  rw[if_neg hl]
  by_cases ha:a=aF
  ·rw[if_pos ha]
   cases hE:E (ax ns n 2) st2 with
   |bad d=>rfl
   |ok s st3=>simp[aN.then,ha]
  ·rw[if_neg ha,jX ns h2 w2,then_assoc]
   refine cC λb st3 _=>?_
   rw[if_neg ha]
def ji (E:Rec) (subject:ah):List Int->ah->St->aN ah
 |[],out,st=>.ok out st
 |k::ks,out,st=>
  (n6 ns it (ax ns k 0) subject st).then λ_ st1=>
    if out=aF then(E (ax ns k 1) st1).then λs st1=>ji E subject ks s {st1 with scope:=st1.scope.take st.scope.length} else
    (kQ ns E (ax ns k 1) out st1).then λ_ st1=>ji E subject ks out {st1 with scope:=st1.scope.take st.scope.length}
def oM (E:Rec) (n:Int) (st:St):aN ah:=
 (cS ns E (ax ns n 0) st).then λs st=>ji ns it E s ((nd ns n).kids.drop 1) aF st
def qc (E:Rec) (a b:Int) (st:St):aN Unit:=
 (bP ns E a aI st).then λ_ st=>(kQ ns E b aE {st with loops:=st.loops+1}).then λ_ st=>.ok () {st with loops:=st.loops-1}
theorem FD {E:Rec} {a b:Int} {st:St} (w:Wf ns st) (ha:rY ns E a) (hb:rY ns E b):qc ns E a b st=(bP ns E a aI st).then λ_ st=>(E b {st with loops:=st.loops+1}).then λ_ st=>mB ns b aE {st with loops:=st.loops-1}:=by
 unfold qc
 refine cC λ_ st1 hs1=>?_
 have w1:=(bJ ha w hs1).mv.wf
 have w2:Wf ns {st1 with loops:=st1.loops+1}:=⟨w1.tl,w1.vl,w1.ll,w1.sl,w1.sc,w1.lt⟩
 rw[jX ns hb w2,then_assoc]
 refine cC λc st3 _=>?_
 unfold mB
 have e:typeAt {st3 with loops:=st3.loops-1} b=typeAt st3 b:=rfl
 rw[e]
 split<;>rfl
end same
end
section
open Go.Vv
open Fo (hp aC cy cj eL gF)
section pats
variable(ns:List Nd) (it:aw)
def mJ (ty:ah):ah:=if aP ty=true then(aC ty).getD [] else ty
def gg (ty:ah):ah:=if aP ty=true then(if bC ty=true then cy else cj) else[]
def gw (n:Int) (ty:ah) (st:St):St:={st with types:=st.types.set n.toNat ty}
def dn (n:Int) (ty:ah) (sub:Int->ah->St->aN Unit) (st:St):aN Unit:=
 let x:=nd ns n
 if x.kind=51 then bw ns n x.name ty false st
 else if x.kind=52 then(if mJ ty=bg then .ok () st else ai ns 167 n)
 else if x.kind=53 then(if mJ ty=aI then .ok () st else ai ns 167 n)
 else if x.kind=54 then
  match eu it x.name with
  |none=>ai ns 167 n
  |some (e,pt)=>if e≠mJ ty\/(decide (pt≠[]) !=decide (x.kids.length=1))=true then ai ns 167 n else
   if x.kids.length=1 then sub (ax ns n 0) (gg ty++pt) st else .ok () st
 else .ok () st
theorem qT (f:Nat) (n:Int) (ty:ah) (st:St):mi ns it (f+1) n ty st=(dn ns it n ty (mi ns it f) st).then λ_ st=>.ok () (gw n ty st):=rfl
def im:Nat->Int->ah->St->aN Unit
 |0,_,_,st=>.ok () st
 |f+1,n,ty,st=>dn ns it n ty (im f) (gw n ty st)
theorem FI {n m:Int} {a b:ah} (h0:0<=n) (h1:0<=m) (h:n≠m) (st:St):gw n a (gw m b st)=gw m b (gw n a st):=by
 unfold gw
 simp only[St.mk.injEq,and_true,and_self]
 exact List.set_comm _ _ (by omega)
theorem ve (n:Int) (name ty:ah) (mt:Bool) (m:Int) (s:ah) (st:St):bw ns n name ty mt (gw m s st)=(bw ns n name ty mt st).then λu st'=>.ok u (gw m s st'):=by
 unfold bw
 by_cases h:st.locals.length=256
 ·rw[if_pos h,if_pos (show(gw m s st).locals.length=256 from h)]
  rfl
 ·rw[if_neg h,if_neg (show¬(gw m s st).locals.length=256 from h)]
  rfl
theorem vA (n:Int) (ty:ah) (sub sub':Int->ah->St->aN Unit) (m:Int) (s:ah) (st:St) (hs:(nd ns n).kids.length=1->∀t,sub' (ax ns n 0) t (gw m s st)=(sub (ax ns n 0) t st).then λu st'=>.ok u (gw m s st')):
 dn ns it n ty sub' (gw m s st)=(dn ns it n ty sub st).then λu st'=>.ok u (gw m s st'):=by
 unfold dn
 simp only
 by_cases h51:(nd ns n).kind=51
 ·rw[if_pos h51,if_pos h51,ve]
 ·rw[if_neg h51,if_neg h51]
  by_cases h52:(nd ns n).kind=52
  ·rw[if_pos h52,if_pos h52]
   split<;>rfl
  ·rw[if_neg h52,if_neg h52]
   by_cases h53:(nd ns n).kind=53
   ·rw[if_pos h53,if_pos h53]
    split<;>rfl
   ·rw[if_neg h53,if_neg h53]
    by_cases h54:(nd ns n).kind=54
    ·rw[if_pos h54,if_pos h54]
     cases eu it (nd ns n).name with
     |none=>rfl
     |some p=>
      obtain⟨e,pt⟩:=p
      simp only
      split
      ·rfl
      ·by_cases hk:(nd ns n).kids.length=1
       ·rw[if_pos hk,if_pos hk]
        exact hs hk _
       ·rw[if_neg hk,if_neg hk]
        rfl
    ·rw[if_neg h54,if_neg h54]
     rfl
variable{ns} (g:Good ns)
include g
theorem mM {n:Int} (h0:0<=n) (h1:n<(ns.length:Int)) (hk:(nd ns n).kids.length=1):0<=ax ns n 0/\ax ns n 0<n:=g.num h0 h1 _ (DA (by omega))
theorem Iq:∀(f:Nat) (n:Int),0<=n->n<(ns.length:Int)->∀(ty:ah) (st:St) (m:Int) (s:ah),n<m->mi ns it f n ty (gw m s st)=(mi ns it f n ty st).then λu st'=>.ok u (gw m s st'):=by
 intro f
 induction f with
 |zero=>intro n h0 h1 ty st m s hm;rfl
 |succ f ih=>
  intro n h0 h1 ty st m s hm
  rw[qT,qT,vA ns it n ty (mi ns it f) (mi ns it f) m s st (λhk t=>ih _ (mM g h0 h1 hk).1 (by have:=mM g h0 h1 hk;omega) t st m s (by have:=mM g h0 h1 hk;omega)),then_assoc,then_assoc]
  refine cC λu st' _=>?_
  simp only[aN.then]
  rw[FI h0 (by omega) (by omega)]
theorem D0:∀(f:Nat) (n:Int),0<=n->n<(ns.length:Int)->∀(ty:ah) (st:St),im ns it f n ty st=mi ns it f n ty st:=by
 intro f
 induction f with
 |zero=>intro n h0 h1 ty st;rfl
 |succ f ih=>
  intro n h0 h1 ty st
  rw[qT]
  unfold im
  rw[vA ns it n ty (mi ns it f) (im ns it f) n ty st (λhk t=>by rw[ih _ (mM g h0 h1 hk).1 (by have:=mM g h0 h1 hk;omega)];exact Iq it g f _ (mM g h0 h1 hk).1 (by have:=mM g h0 h1 hk;omega) t st n ty (by have:=mM g h0 h1 hk;omega))]
end pats
end
end Go.Proofs.YtdjkoddnnogejaaGreat
