/- Part of the proof of CheckTrees: plain laws and steps of its walks, for all arguments. -/
import Derived.RangeFuncRecord
import Derived.RecoverIn
import Derived.Test.YtdjkoddnnogejaaGreatZEa
set_option linter.unusedSimpArgs false
set_option linter.unusedVariables false
set_option linter.unusedSectionVars false
namespace Go.Vv
section
variable{P:Program} {G:ab} {w:World} {F:Fence} {n:Nat}
variable{ops:Array Oper} {N:Fm} {G0:ab} {w0:World} {a0:Act} {listed:Array Bool} {done:List Nat} {ids:List (Nat×Nat)} {fr:Fr} {h:aa} {a:Act} {b:Array Nat}
theorem iN.effect (hi:iN P ops N G0 w0 a0 listed done ids fr h G a w) (hm:ga ops b=true) (hs:rh ops b) {i:Nat} (hin:i<ops.size) (hnd:i∉done)
 (hc:bd N (aA ops i)=true) (hwl:∀k∈waits (aA ops i),listed.getD k false=true) {v:VV} {y:Value} {h':aa} {G':ab} {w':World}
 (hrel:Rel G' h' w') (hext:Ext G G' w w') (hy:RV G' v y)
 (hst:∀p∈done,listed.getD p false=false->(fO (aA ops p).op||cR (aA ops p).op)=true->gA P ops ids h (put fr (aA ops i).dst v) h' p):
 iN P ops N G0 w0 a0 (listed.setIfInBounds i true) (i::done) ids (put fr (aA ops i).dst v) h' G' (a.put (aA ops i).dst y) w':=by
 have hli:i<listed.size:=by rw[hi.OX];exact hin
 have hback:∀p,(listed.setIfInBounds i true).getD p false=false->p≠i/\listed.getD p false=false:=by
  intro p hp
  have h1:¬(p=i\/listed.getD p false=true):=λe=>by rw[(getD_set_true hli).2 e] at hp;cases hp
  simp only[not_or,Bool.not_eq_true] at h1
  exact h1
 have hw:∀k∈waits (aA ops i),k∈done:=λk hk=>hi.rB k (hwl k hk)
 have hfree:∀p∈done,listed.getD p false=false->∀d,(aA ops i).dst=some d->d∉cg ops (aA ops p)/\(aA ops p).dst≠some d:=λp hp hpl d hd=>
  hi.q7 hm hs hin hnd hd hp hpl hw (λ_=>hwl)
 have hkeep:∀p∈done,listed.getD p false=false->∀d,(aA ops p).dst=some d->Fr.at (put fr (aA ops i).dst v) d=fr.at d:=by
  intro p hp hpl d hd
  rw[oS,if_neg (λe=>(hfree p hp hpl d e).2 hd)]
 have hnum:h.next<=h'.next:=by rw[<-hi.rel.num,<-hrel.num];exact hext.num
 refine⟨hrel,hi.ext.trans hext.toExt0,hi.j8.trans hext.toYoung,hi.same.trans (.put a y hc),by rw[Af];exact hi.size,?_,by simp[hi.OX],?_,?_,?_,?_,?_,?_,?_,?_,hi.inj,?_⟩
 ·intro t ht
  by_cases hd:(aA ops i).dst=some t
  ·have hlt:t<a.tmps.size:=by rw[hi.size];simp[bd,hd] at hc;exact hc.1.1
   rw[oS,if_pos hd,hd,oo a y t hlt]
   exact hy
  ·rw[Ag a _ y t hd,oS,if_neg hd]
   refine(hi.ir t λp hp hpd=>?_).mono hext.le
   rcases(getD_set_true hli).1 (ht p (List.mem_cons_of_mem _ hp) hpd) with rfl|e
   ·exact absurd hpd hd
   ·exact e
 ·intro p hpl
  rcases(getD_set_true hli).1 hpl with rfl|e
  ·simp
  ·exact List.mem_cons_of_mem _ (hi.rB p e)
 ·intro p hp he
  rcases List.mem_cons.1 hp with rfl|hp
  ·exact(getD_set_true hli).2 (.inl rfl)
  ·exact(getD_set_true hli).2 (.inr (hi.P0 p hp he))
 ·intro j hj k hk
  rcases(getD_set_true hli).1 hj with rfl|e
  ·exact(getD_set_true hli).2 (.inr (hwl k hk))
  ·exact(getD_set_true hli).2 (.inr (hi.lF j e k hk))
 ·intro j hj k hk
  rcases List.mem_cons.1 hj with rfl|hj
  ·exact List.mem_cons_of_mem _ (hw k hk)
  ·exact List.mem_cons_of_mem _ (hi.pB j hj k hk)
 ·intro j hj
  rcases List.mem_cons.1 hj with rfl|hj
  ·exact hin
  ·exact hi.PZ j hj
 ·intro p hp hpl hwant hn
  obtain⟨hne,hpl⟩:=hback p hpl
  have hp:p∈done:=(List.mem_cons.1 hp).resolve_left hne
  have hf:=λd hd=>(hfree p hp hpl d hd).1
  have hv:=hst p hp hpl (by simp[hn])
  unfold gA at hv
  rw[if_pos hwant,if_pos hn] at hv
  rw[eF hf] at hwant
  obtain⟨f,x,j,h1,h2,h3,h4,h5,h6,h7⟩:=hi.JK p hp hpl hwant hn
  rw[h2] at hv
  refine⟨f,x,j,by rw[<-oZ (lA hf)];exact h1,h2,by rw[hv];exact h3,h4,by omega,?_,λd hd=>by rw[hkeep p hp hpl d hd];exact h7 d hd⟩
  exact hext.j8 j (by rw[hi.rel.num];exact h5) h6
 ·intro p hp hpl hwant hn
  obtain⟨hne,hpl⟩:=hback p hpl
  have hp:p∈done:=(List.mem_cons.1 hp).resolve_left hne
  have hf:=λd hd=>(hfree p hp hpl d hd).1
  cases hrd:fO (aA ops p).op with
  |false=>
   rw[eF hf] at hwant
   obtain⟨v',h1,h2⟩:=hi.pread p hp hpl hwant hn
   exact⟨v',by rw[<-j6 h' (lA hf),rU fr h' h hrd];exact h1,λd hd=>by rw[hkeep p hp hpl d hd];exact h2 d hd⟩
  |true=>
   have hv:=hst p hp hpl (by simp[hrd])
   unfold gA at hv
   rw[if_pos hwant,if_neg (by simp[hn])] at hv
   split at hv
   ·rename_i v' hv'
    refine⟨v',hv',λd hd=>?_⟩
    rw[hd] at hv
    exact hv.symm
   ·exact hv.elim
 ·intro p hp hpl hwant d hd
  obtain⟨hne,hpl⟩:=hback p hpl
  have hp:p∈done:=(List.mem_cons.1 hp).resolve_left hne
  have hf:=λd hd=>(hfree p hp hpl d hd).1
  rw[eF hf] at hwant
  rw[hkeep p hp hpl d hd]
  exact hi.Nw p hp hpl hwant d hd
 ·intro p j hp
  have:=hi.vB p j hp
  exact⟨List.mem_cons_of_mem _ this.1,by omega⟩
theorem iN.Az (hi:iN P ops N G0 w0 a0 listed done ids fr h G a w) {dst:Option Tmp} {v:VV}
 (hfree:∀p∈done,listed.getD p false=false->∀d,dst=some d->d∉cg ops (aA ops p)/\(aA ops p).dst≠some d):
 ∀p∈done,listed.getD p false=false->gA P ops ids h (put fr dst v) h p:=by
 intro p hp hpl
 have hf:=λd hd=>(hfree p hp hpl d hd).1
 unfold gA
 rw[eF hf]
 split
 ·rename_i hwant
  split
  ·rename_i hn
   obtain⟨f,x,j,h1,h2,_⟩:=hi.JK p hp hpl hwant hn
   rw[h2]
  ·rename_i hn
   obtain⟨v',h1,h2⟩:=hi.pread p hp hpl hwant (by simpa using hn)
   rw[<-j6 h (lA hf),h1]
   cases hd:(aA ops p).dst with
   |none=>trivial
   |some d=>
    simp only
    rw[oS,if_neg (λe=>(hfree p hp hpl d e).2 hd),h2 d hd]
 ·trivial
def az.UI (ops:Array Oper):az->Prop
 |[]=>True
 |(i,_)::_=>bU (aA ops i).op=false
structure Pr (ops:Array Oper) (b:Array Nat) (done:List Nat) (i:Nat) (cK:List Nat) (rest:az):Prop where
 lt:i<ops.size
 nH:i∉done
 waits:∀k∈waits (aA ops i),k∈done
 eager:bU (aA ops i).op=false->∀j,j<ops.size->j∉done->bU (aA ops j).op=true->¬∀k∈Vv.waits (aA ops j),k∈done
 cK:bU (aA ops i).op=false->∀p∈done,bU (aA ops p).op=true->(fO (aA ops p).op||cR (aA ops p).op)=true->p∈cK\/gP b i p=true
 rest:ku ops b (i::done) rest=true
theorem mU {i:Nat} {cK:List Nat} {rest:az} (hk:ku ops b done ((i,cK)::rest)=true):Pr ops b done i cK rest:=by
 simp only[ku,Bool.and_eq_true,decide_eq_true_eq,Bool.not_eq_true',Bool.or_eq_true,List.all_eq_true] at hk
 obtain⟨⟨⟨⟨h1,h2⟩,h3⟩,h4⟩,h5⟩:=hk
 refine⟨h1,λe=>?_,λk hk=>List.contains_iff_mem.1 (h3 k hk),λhe j hj hjd hjm hall=>?_,λhe p hp hpm hpr=>?_,h5⟩
 ·rw[List.contains_iff_mem.2 e] at h2;cases h2
 ·rcases h4 with h4|h4
  ·rw[he] at h4;cases h4
  ·have:=h4.1 j (List.mem_range.2 hj)
   rcases this with(h6|h6)|h6
   ·exact hjd (List.contains_iff_mem.1 h6)
   ·rw[hjm] at h6;cases h6
   ·have hall':(Vv.waits (aA ops j)).all (λk=>done.contains k)=true:=List.all_eq_true.2 λk hk=>List.contains_iff_mem.2 (hall k hk)
    have h7:(Vv.waits (aA ops j)).all done.contains=false:=h6
    rw[show(Vv.waits (aA ops j)).all done.contains=(Vv.waits (aA ops j)).all (λk=>done.contains k) from rfl,hall'] at h7
    cases h7
 ·rcases h4 with h4|h4
  ·rw[he] at h4;cases h4
  ·have:=h4.2 p hp
   rcases this with((h6|h6)|h6)|h6
   ·rw[hpm] at h6;cases h6
   ·rw[hpr] at h6;cases h6
   ·exact .inl (List.contains_iff_mem.1 h6)
   ·exact .inr h6
theorem iN.J5 (hm:ga ops b=true) (hs:rh ops b) {Q:VX->Fr->aa->Prop}:∀(plan:az) (done:List Nat) (ids:List (Nat×Nat)) (fr:Fr) (h:aa) (G:ab),
 iN P ops N G0 w0 a0 listed done ids fr h G a w->ku ops b done plan=true->Ct P ops Q plan ids fr h->
 ∃plan' done' ids' fr' h' G',iN P ops N G0 w0 a0 listed done' ids' fr' h' G' a w/\ku ops b done' plan'=true/\Ct P ops Q plan' ids' fr' h'/\az.UI ops plan':=by
 intro plan
 induction plan with
 |nil=>intro done ids fr h G hi hk hv;exact⟨[],done,ids,fr,h,G,hi,hk,hv,trivial⟩
 |cons e rest ih=>
  obtain⟨i,cK⟩:=e
  intro done ids fr h G hi hk hv
  cases hmov:bU (aA ops i).op with
  |false=>exact⟨_,done,ids,fr,h,G,hi,hk,hv,hmov⟩
  |true=>
   have ho:=mU hk
   have hidn:ids.lookup i=none:=by
    cases hc:ids.lookup i with
    |none=>rfl
    |some j=>exact absurd (hi.vB i j hc).1 ho.nH
   unfold Ct at hv
   cases hwant:cf ops fr (aA ops i) with
   |false=>
    rw[if_neg (by simp[hwant])] at hv
    refine ih _ _ _ _ G (hi.OY hm hs ho.lt ho.nH ho.waits hmov (v:=.undef) hi.rel (.refl G w) rfl (λ_ _ h=>h) (Nat.le_refl _) (λ_ _=>rfl) (λj hj=>by rw[hidn] at hj;cases hj)
     (λe=>by rw[hwant] at e;cases e) (λe=>by rw[hwant] at e;cases e) (λ_=>rfl)) ho.rest hv
   |true=>
    rw[if_pos hwant,if_pos hmov] at hv
    cases hn:cR (aA ops i).op with
    |true=>
     rw[if_pos hn] at hv
     split at hv
     ·rename_i f x hnew
      refine ih _ _ _ _ G.more (hi.OY hm hs ho.lt ho.nH ho.waits hmov (hi.rel.push x) (.more G w) rfl ?_ (by rw[aa.cA];omega) ?_ ?_ ?_ ?_ ?_) ho.rest hv
      ·intro o y hy
       rw[aa.dm _ _ (λe=>by subst e;rw[hi.rel.fresh _ (Nat.le_refl _)] at hy;cases hy)]
       exact hy
      ·intro p hp
       simp[List.lookup]
       have:(p==i)=false:=by simpa using hp
       simp[this]
      ·intro j hj
       simp[List.lookup] at hj
       subst hj
       exact⟨Nat.le_refl _,by rw[aa.cA];omega⟩
      ·intro _ _
       exact⟨f,x,h.next,hnew,by simp[List.lookup],aa.dw ..,rfl⟩
      ·intro _ e;rw[hn] at e;cases e
      ·intro e;rw[hwant] at e;cases e
     ·exact hv.elim
    |false=>
     rw[if_neg (by simp[hn])] at hv
     split at hv
     ·rename_i v hread
      refine ih _ _ _ _ G (hi.OY hm hs ho.lt ho.nH ho.waits hmov (v:=v) hi.rel (.refl G w) rfl (λ_ _ h=>h) (Nat.le_refl _) (λ_ _=>rfl) (λj hj=>by rw[hidn] at hj;cases hj)
       (λ_ e=>by rw[hn] at e;cases e) (λ_ _=>hread) (λe=>by rw[hwant] at e;cases e)) ho.rest hv
     ·exact hv.elim
theorem mem_ready {i:Nat} (h:i∈Region.ready .any ops listed):i<ops.size/\listed.getD i true=false/\∀k∈waits (aA ops i),listed.getD k false=true:=by
 simp only[Region.ready,List.mem_filter,List.mem_range,Bool.and_eq_true,Bool.not_eq_true'] at h
 obtain⟨h1,h2,h3⟩:=h
 rw[pZ h1] at h3
 simp only[Option.map_some,Option.getD_some] at h3
 refine⟨h1,h2,λk hk=>?_⟩
 unfold waits at hk
 obtain⟨e,he,rfl⟩:=List.mem_map.1 hk
 obtain⟨he1,he2⟩:=List.mem_filter.1 he
 rw[<-Array.all_toList] at h3
 have:=List.all_eq_true.1 h3 e he1
 simp only[Bool.or_eq_true,Bool.not_eq_true'] at this
 rcases this with h4|h4
 ·rw[he2] at h4;cases h4
 ·exact h4
theorem JY {i:Nat} (h1:i<ops.size) (h2:listed.getD i true=false) (h3:∀k∈waits (aA ops i),listed.getD k false=true):i∈Region.ready .any ops listed:=by
 simp only[Region.ready,List.mem_filter,List.mem_range,Bool.and_eq_true,Bool.not_eq_true']
 refine⟨h1,h2,?_⟩
 rw[pZ h1]
 simp only[Option.map_some,Option.getD_some]
 rw[<-Array.all_toList]
 refine List.all_eq_true.2 λe he=>?_
 simp only[Bool.or_eq_true,Bool.not_eq_true']
 cases hb:Region.binds .any e with
 |false=>exact .inl rfl
 |true=>exact .inr (h3 e.on (List.mem_map.2 ⟨e,List.mem_filter.2 ⟨he,hb⟩,rfl⟩))
theorem ko {l:Array Bool} {i:Nat} (hi:i<l.size):l.getD i true=l.getD i false:=by simp[hi]
def iw (n:Nat) (listed:Array Bool):Nat:=(List.range n).countP λi=>!listed.getD i false
theorem x4 {n:Nat} {l:Array Bool} {i:Nat} (hi:i<n) (hl:i<l.size) (hn:l.getD i false=false):iw n (l.setIfInBounds i true)+1=iw n l:=by
 unfold iw
 have key:∀(r:List Nat),r.Nodup->(r.countP λj=>!(l.setIfInBounds i true).getD j false)+(if i∈r then 1 else 0)=r.countP λj=>!l.getD j false:=by
  intro r
  induction r with
  |nil=>intro _;simp
  |cons j r ih=>
   intro hnd
   have h1:=ih (List.nodup_cons.1 hnd).2
   have h2:=(List.nodup_cons.1 hnd).1
   rw[List.countP_cons,List.countP_cons]
   by_cases hj:j=i
   ·subst hj
    have e1:(l.setIfInBounds j true).getD j false=true:=(getD_set_true hl).2 (.inl rfl)
    rw[if_neg h2] at h1
    simp only[e1,hn,List.mem_cons,true_or,if_true]
    simp at h1⊢
    omega
   ·have e1:(l.setIfInBounds i true).getD j false=l.getD j false:=by
     cases hc:l.getD j false with
     |true=>exact(getD_set_true hl).2 (.inr hc)
     |false=>
      cases hc2:(l.setIfInBounds i true).getD j false with
      |false=>rfl
      |true=>rcases(getD_set_true hl).1 hc2 with e|e
             ·exact absurd e hj
             ·rw[hc] at e;cases e
    have e2:(i∈j::r)=(i∈r):=by rw[List.mem_cons];exact propext ⟨λe=>e.resolve_left (λe=>hj e.symm),.inr⟩
    simp only[e1,e2]
    omega
 have:=key (List.range n) List.nodup_range
 rw[if_pos (List.mem_range.2 hi)] at this
 exact this
theorem iN.ends (hi:iN P ops N G0 w0 a0 listed done ids fr h G a w) {Q:VX->Fr->aa->Prop} {plan:az} (hk:ku ops b done plan=true) (hv:Ct P ops Q plan ids fr h)
 (hall:∀j,j<ops.size->listed.getD j false=true):cP G0 w0 N a0 Q .normal a w:=by
 cases plan with
 |cons e rest=>
  obtain⟨i,cK⟩:=e
  have ho:=mU hk
  exact absurd (hi.rB i (hall i ho.lt)) ho.nH
 |nil=>
  exact⟨hi.same,.normal,fr,h,G,hv,trivial,λ_=>⟨hi.size,λt=>hi.ir t λp hp _=>hall p (hi.PZ p hp)⟩,hi.rel,.mk' hi.ext hi.j8⟩
theorem iN.main (hF:dR F) (hm:ga ops b=true) (hs:rh ops b) (hops:∀(j:Nat) (o:Oper),ops[j]?=some o->bd N o=true) {Q:VX->Fr->aa->Prop}:
 ∀(fuel:Nat) (listed:Array Bool) (plan:az) (done:List Nat) (ids:List (Nat×Nat)) (fr:Fr) (h:aa) (G:ab) (a:Act) (w:World),
 iN P ops N G0 w0 a0 listed done ids fr h G a w->ku ops b done plan=true->Ct P ops Q plan ids fr h->az.UI ops plan->iw ops.size listed<=fuel->
 wpAnyIn F n P .any ops (cP G0 w0 N a0 Q) fuel listed a w:=by
 intro fuel
 induction fuel with
 |zero=>
  intro listed plan done ids fr h G a w hi hk hv hripe hu
  have hall:∀j,j<ops.size->listed.getD j false=true:=by
   intro j hj
   cases hc:listed.getD j false with
   |true=>rfl
   |false=>
    have:iw ops.size listed=0:=by omega
    unfold iw at this
    have:=List.countP_eq_zero.1 this j (List.mem_range.2 hj)
    simp[hc] at this
  refine⟨?_,hi.ends hk hv hall⟩
  refine List.eq_nil_iff_forall_not_mem.2 λj hj=>?_
  obtain⟨h1,h2,_⟩:=mem_ready hj
  rw[ko (by rw[hi.OX];exact h1),hall j h1] at h2
  cases h2
 |succ fuel ih=>
  intro listed plan done ids fr h G a w hi hk hv hripe hu
  refine⟨λhnone=>hi.ends hk hv ?_,λi hir=>?_⟩
  ·have key:∀n j,j<n->j<ops.size->listed.getD j false=true:=by
    intro n
    induction n with
    |zero=>intro j h;omega
    |succ n ihn=>
     intro j hjn hj
     cases hc:listed.getD j false with
     |true=>rfl
     |false=>
      have:j∈Region.ready .any ops listed:=JY hj (by rw[ko (by rw[hi.OX];exact hj)];exact hc) (λk hk=>by
       have:=K5 hm hj k hk
       exact ihn k (by omega) (by omega))
      rw[hnone] at this
      cases this
   exact λj hj=>key (j+1) j (Nat.lt_succ_self j) hj
  ·obtain⟨hin,hnl',hwl⟩:=mem_ready hir
   have hli:i<listed.size:=by rw[hi.OX];exact hin
   have hnl:listed.getD i false=false:=by rw[<-ko hli];exact hnl'
   have hu':iw ops.size (listed.setIfInBounds i true)<=fuel:=by have:=x4 hin hli hnl;omega
   have hc:=hops i _ (pZ hin)
   have hlook:=hi.look hm hs hin hnl hwl
   have hwant:Region.wanted (aA ops i) (yielded ops a.tmps)=cf ops fr (aA ops i):=CF hops hi.size hlook
   have hopd:=tP (a:=a) hc hlook
   unfold wpOpIn
   rw[pZ hin]
   simp only[hwant]
   by_cases hd:i∈done
   ·
     cases hmov:bU (aA ops i).op with
     |false=>have:=hi.P0 i hd hmov;rw[hnl] at this;cases this
     |true=>
     cases hwa:cf ops fr (aA ops i) with
     |false=>
      rw[if_neg (by simp)]
      refine⟨λf _=>hF.fn f,?_⟩
      refine ih _ plan done ids fr h G _ w (hi.PN hs hin hd hc hwl hi.rel (.refl G w) hi.j8 (λ_ _ _ _ e=>e) λd hdd=>?_) hk hv hripe hu'
      rw[hi.Nw i hd hnl hwa d hdd]
      exact .undef G
     |true=>
      rw[if_pos rfl]
      have hnd:∀c,(aA ops i).op≠.defer c:=λc e=>by rw[e] at hmov;cases hmov
      cases hn:cR (aA ops i).op with
      |false=>
       obtain⟨v,h1,h2⟩:=hi.pread i hd hnl hwa hn
       obtain⟨y,w',G',h3,h4,h5,h6,h7,_⟩:=rV hi.rel hopd h1
       unfold Oper.wpIn
       refine⟨λf _=>hF.fn f,?_⟩
       rw[Oper.semAt_eq _ _ _ hnd,h3]
       refine ih _ plan done ids fr h G' _ w' (hi.PN hs hin hd hc hwl h5 h6.toExt0 (hi.j8.trans h6.toYoung) (λ_ _ _ _ e=>by rw[h7];exact e) λd hdd=>?_) hk hv hripe hu'
       rw[h2 d hdd];exact h4
      |true=>
       obtain⟨f,x,j,h1,h2,h3,h4,h5,h6,h7⟩:=hi.JK i hd hnl hwa hn
       obtain⟨y,B,k,h8,h9⟩:=uz (w:=w) hopd h1
       have hle:=ab.lG (G:=G) (o:=j) (w.heap.size,0,k) h6
       obtain⟨h10,h11⟩:=h9 (G.cp j (w.heap.size,0,k)) j (w.alloc B) hle (heap_alloc_new w B) (by simp[ab.cp])
       obtain⟨h12,h13⟩:=hi.rel.cp h3 h5 h6 B k h11
       unfold Oper.wpIn
       refine⟨λf _=>hF.fn f,?_⟩
       rw[Oper.semAt_eq _ _ _ hnd,h8]
       refine ih _ plan done ids fr h _ _ _ (hi.PN hs hin hd hc hwl h12 h13 ⟨hi.j8.num,λo ho hφ=>?_⟩ (λp q hpi hq hφ=>?_) λd hdd=>?_) hk hv hripe hu'
       ·have:o≠j:=by omega
        simp[ab.cp,this,hi.j8.j8 o ho hφ]
       ·have:q≠j:=λe=>hpi (hi.inj p i j (e▸hq) h2)
        simp[ab.cp,this,hφ]
       ·rw[h7 d hdd];exact h10
   ·
     cases plan with
     |nil=>
      simp only[ku,List.all_eq_true] at hk
      exact absurd (List.contains_iff_mem.1 (hk i (List.mem_range.2 hin))) hd
     |cons e rest=>
      obtain⟨j,cK⟩:=e
      have ho:=mU hk
      have hje:bU (aA ops j).op=false:=hripe
      have hwd:∀k∈waits (aA ops i),k∈done:=λk hk=>hi.rB k (hwl k hk)
      have hie:bU (aA ops i).op=false:=by
       cases hc2:bU (aA ops i).op with
       |false=>rfl
       |true=>exact absurd hwd (ho.eager hje i hin hd hc2)
      have hij:i=j:=by
       apply Decidable.byContradiction
       intro hne
       rcases hs.LJ i j hin ho.lt hne hie hje with h1|h1
       ·have:=fL hm (λq=>q=j\/q∈done) (λq hq k hk2=>by
         rcases hq with rfl|hq
         ·exact .inr (ho.waits k hk2)
         ·exact .inr (hi.pB q hq k hk2)) (j+1) j (Nat.lt_succ_self j) ho.lt i hin h1 (.inl rfl)
        rcases this with e|e
        ·exact hne e
        ·exact hd e
       ·have:=fL hm (λq=>q=i\/listed.getD q false=true) (λq hq k hk2=>by
         rcases hq with rfl|hq
         ·exact .inr (hwl k hk2)
         ·exact .inr (hi.lF q hq k hk2)) (i+1) i (Nat.lt_succ_self i) hin j ho.lt h1 (.inl rfl)
        rcases this with e|e
        ·exact hne e.symm
        ·exact ho.nH (hi.rB j e)
      subst hij
      have hfree:∀p∈done,listed.getD p false=false->∀d,(aA ops i).dst=some d->d∉cg ops (aA ops p)/\(aA ops p).dst≠some d:=λp hp hpl d hdd=>
       hi.q7 hm hs hin hd hdd hp hpl hwd (λ_=>hwl)
      unfold Ct at hv
      cases hwa:cf ops fr (aA ops i) with
      |false=>
       rw[if_neg (by simp)]
       rw[if_neg (by simp[hwa])] at hv
       have hi':=hi.effect hm hs hin hd hc hwl hi.rel (.refl G w) (.undef G) (λp hp hpl _=>hi.Az hfree p hp hpl)
       obtain⟨plan',done',ids',fr',h',G',g1,g2,g3,g4⟩:=hi'.J5 hm hs rest _ _ _ _ _ ho.rest hv
       exact⟨λf _=>hF.fn f,ih _ plan' done' ids' fr' h' G' _ w g1 g2 g3 g4 hu'⟩
      |true=>
       rw[if_pos rfl]
       rw[if_pos hwa,if_neg (by simp[hje])] at hv
       refine jL ?_ ?_ (qp hF hi.rel hopd hv)
       ·rintro a' w' ⟨y,v,h',G',rfl,hy,⟨hst,hv'⟩,hr',he⟩
        have hi':=hi.effect hm hs hin hd hc hwl hr' he hy (λp hp hpl hpr=>by
         have hpm:bU (aA ops p).op=true:=by
          cases hc2:bU (aA ops p).op with
          |true=>rfl
          |false=>have:=hi.P0 p hp hc2;rw[hpl] at this;cases this
         rcases ho.cK hie p hp hpm hpr with h1|h1
         ·exact yr hst p h1
         ·have:=fL hm (λq=>q=i\/listed.getD q false=true) (λq hq k hk2=>by
           rcases hq with rfl|hq
           ·exact .inr (hwl k hk2)
           ·exact .inr (hi.lF q hq k hk2)) (i+1) i (Nat.lt_succ_self i) hin p (hi.PZ p hp) h1 (.inl rfl)
          rcases this with e|e
          ·exact absurd (e▸hp) hd
          ·rw[hpl] at e;cases e)
        obtain⟨plan',done',ids',fr',h2,G2,g1,g2,g3,g4⟩:=hi'.J5 hm hs rest _ _ _ _ _ ho.rest hv'
        exact ih _ plan' done' ids' fr' h2 G2 _ w' g1 g2 g3 g4 hu'
       ·rintro e a' w' ⟨rfl,v,y,h',G',rfl,hy,hQ,hr',he⟩
        exact⟨hi.same,.panic v,fr,h',G',hQ,⟨y,rfl,hy⟩,(λe=>by cases e),hr',.mk' (hi.ext.trans he.toExt0) (hi.j8.trans he.toYoung)⟩
theorem oA (hmix:P.follows .mixedOrders=true) (hops:∀(j:Nat) (o:Oper),ops[j]?=some o->bd N o=true) {plan:az} (hc:sx ops plan=true)
 {Q:VX->Fr->aa->Prop} (hv:Ct P ops Q plan [] fr h):Oq P N ops Q fr h:=by
 intro F n hF G w a t hr hf
 simp only[sx,Bool.and_eq_true] at hc
 obtain⟨⟨hm,hsl⟩,hk⟩:=hc
 have hs:=xQ hsl
 have hsch:Region.schedule (P.follows .mixedOrders) ops t=Region.linearise .any ops t:=by rw[hmix];rfl
 rw[hsch]
 unfold Region.linearise
 refine wpAnyIn_sound _ _ _ _ _ ?_
 have hno:∀p,(Array.replicate ops.size false).getD p false=false:=by
  intro p
  simp only[Array.getD_eq_getD_getElem?,Array.getElem?_replicate]
  split<;>rfl
 have hi:iN P ops N G w a (Array.replicate ops.size false) [] [] fr h G a w:=by
  refine⟨hr,.refl G w,.refl G,.refl N a,hf.1,λt _=>hf.2 t,by simp,?_,?_,?_,?_,?_,?_,?_,?_,?_,?_⟩
  ·intro p hp;rw[hno] at hp;cases hp
  ·intro p hp;cases hp
  ·intro p hp;rw[hno] at hp;cases hp
  ·intro p hp;cases hp
  ·intro p hp;cases hp
  ·intro p hp;cases hp
  ·intro p hp;cases hp
  ·intro p hp;cases hp
  ·intro p q i hp;cases hp
  ·intro p i hp;cases hp
 obtain⟨plan',done',ids',fr',h',G',g1,g2,g3,g4⟩:=hi.J5 hm hs plan _ _ _ _ _ hk hv
 refine iN.main hF hm hs hops _ _ plan' done' ids' fr' h' G' a w g1 g2 g3 g4 ?_
 unfold iw
 exact Nat.le_trans List.countP_le_length (by simp)
end
section
variable{P:Program} {G:ab} {w:World} {F:Fence} {n:Nat}
def wg:List (Tmp×VV)->Fr->Fr
 |[],fr=>fr
 |(t,v)::l,fr=>wg l (Tr.set fr t v)
theorem AO {N:Fm}:∀(l:List (Tmp×VV)) (l':List (Tmp×Value)) (fr:Fr) (tmps:Array Value),l.map (·.1)=l'.map (·.1)->cO G (l.map (·.2)) (l'.map (·.2))->(∀t∈l.map (·.1),t<N.n)->
 lf G N fr tmps->lf G N (wg l fr) (l'.foldl (λtmps (t,a)=>tmps.setIfInBounds t a) tmps):=by
 intro l
 induction l with
 |nil=>
  intro l' fr tmps h1 _ _ hf
  cases l' with
  |nil=>exact hf
  |cons=>simp at h1
 |cons p l ih=>
  intro l' fr tmps h1 h2 h3 hf
  obtain⟨t,v⟩:=p
  cases l' with
  |nil=>simp at h1
  |cons q l'=>
   obtain⟨t',x⟩:=q
   simp only[List.map_cons,List.cons.injEq] at h1
   obtain⟨rfl,h1⟩:=h1
   have hx:RV G v x:=by simpa using h2.2 0 (by simp) (by simp)
   have hrest:cO G (l.map (·.2)) (l'.map (·.2)):=by simpa using h2.drop 1
   exact ih l' _ _ h1 hrest (λu hu=>h3 u (by simp at hu⊢;exact .inr hu)) (hf.set hx (h3 t (by simp)))
def q8 (o:Nat) (h:aa):Option aa:=
 match h.get o with
 |some (.loop L)=>match L.st with
  |.ready=>some (h.set o (.loop {L with st:=.busy}))
  |_=>none
 |_=>none
def gR (o:Nat) (jump:Option Code) (h:aa):Option aa:=
 match h.get o with
 |some (.loop L)=>some (h.set o (.loop {L with st:=if jump.isNone then .ready else .done,cK:=jump}))
 |_=>none
def jH (o:Nat) (h:aa):Option (Option Code×aa):=
 match h.get o with
 |some (.loop L)=>match L.st with
  |.busy=>none
  |_=>some (L.cK,h.set o (.loop {L with st:=.exhausted}))
 |_=>none
theorem Rel.loop {h:aa} (hr:Rel G h w) {o b base k:Nat} (hφ:G.φ o=some (b,base,k)) {L:yO} (hL:h.get o=some (.loop L)):mo G w b base k (.loop L):=by
 obtain⟨x,hx,hat⟩:=hr.obj o b base k hφ
 rw[hL] at hx
 cases hx
 exact hat
theorem Rel.xG {h:aa} (hr:Rel G h w) {o b base k:Nat} (hφ:G.φ o=some (b,base,k)) {L:yO} {r:Loop} (hb:b<w.heap.size)
 (h1:r.state=L.st) (h2:r.pending=L.cK) (h3:r.params=L.ps) (h4:r.assign=L.assign) (h5:r.body=L.body) (h6:r.tmps.size=L.n) (h7:∀t,RV G (Fr.at L.fr t) (r.tmps.getD t Go.undef)):
 Rel G (h.set o (.loop L)) (w.putObj b (.loop r))/\Ext G G w (w.putObj b (.loop r)):=
 hr.rewrite hφ ⟨r,World.putObj_heap_same hb,h1,h2,h3,h4,h5,h6,h7⟩ (λ_ hb'=>World.putObj_heap_other hb') World.putObj_size rfl rfl rfl
theorem x8 {h h':aa} (hr:Rel G h w) {o b base k:Nat} (hφ:G.φ o=some (b,base,k)) (hv:q8 o h=some h'):
 ∃w',(Instr.beginRound b).run P w=.ok () w'/\Rel G h' w'/\Ext G G w w':=by
 unfold q8 at hv
 split at hv
 ·rename_i L hL
  split at hv
  ·rename_i hst
   cases hv
   obtain⟨r,hb,h1,h2,h3,h4,h5,h6,h7⟩:=hr.loop hφ hL
   have hlt:b<w.heap.size:=(Array.getElem?_eq_some_iff.1 hb).1
   exact⟨_,run_beginRound hb (h1.trans hst),hr.xG hφ hlt rfl h2 h3 h4 h5 h6 h7⟩
  ·cases hv
 ·cases hv
theorem sk {h h':aa} (hr:Rel G h w) {o b base k:Nat} (hφ:G.φ o=some (b,base,k)) {j:Option Code} (hv:gR o j h=some h'):
 ∃w',(Instr.endRound b j).run P w=.ok (.bool j.isNone) w'/\Rel G h' w'/\Ext G G w w':=by
 unfold gR at hv
 split at hv
 ·rename_i L hL
  cases hv
  obtain⟨r,hb,h1,h2,h3,h4,h5,h6,h7⟩:=hr.loop hφ hL
  have hlt:b<w.heap.size:=(Array.getElem?_eq_some_iff.1 hb).1
  exact⟨_,run_endRound j hb,hr.xG hφ hlt rfl rfl h3 h4 h5 h6 h7⟩
 ·cases hv
theorem uo {h h':aa} (hr:Rel G h w) {o b base k:Nat} (hφ:G.φ o=some (b,base,k)) {j:Option Code} (hv:jH o h=some (j,h')):
 ∃w',(Instr.endLoop b).run P w=.ok j w'/\Rel G h' w'/\Ext G G w w':=by
 unfold jH at hv
 split at hv
 ·rename_i L hL
  obtain⟨r,hb,h1,h2,h3,h4,h5,h6,h7⟩:=hr.loop hφ hL
  have hlt:b<w.heap.size:=(Array.getElem?_eq_some_iff.1 hb).1
  split at hv
  ·cases hv
  ·rename_i hst
   cases hv
   have hne:r.state≠.busy:=λe=>hst (h1.symm.trans e)
   refine⟨w.putObj b (.loop {r with state:=.exhausted}),?_,hr.xG hφ hlt rfl h2 h3 h4 h5 h6 h7⟩
   rw[run_endLoop hb hne,h2]
 ·cases hv
def Ei:VX->Option (Option Code)
 |.normal=>some none
 |.ret=>some (some .ret)
 |.exit id=>some (some (.exit id))
 |.panic _=>none
def yp (P:Program) (o:Nat) (args:List VV) (h:aa) (R:VV->aa->Prop):Prop:=
 match h.get o with
 |some (.loop L)=>
  (decide (args.length=L.ps.size)&&L.ps.toList.all (λt=>decide (t<L.n))&&aT ⟨L.n,[]⟩ L.assign&&aT ⟨L.n,[]⟩ L.body)=true/\
  gB P ⟨L.n,[]⟩ L.assign (VX.then (λfr1 h1=>match q8 o h1 with
   |some h2=>gB P ⟨L.n,[]⟩ L.body (λx _ h3=>match Ei x with
    |some j=>match gR o j h3 with
     |some h4=>R (.bool j.isNone) h4
     |none=>False
    |none=>False) fr1 h2
   |none=>False) (λ_ _ _=>False)) (wg (L.ps.toList.zip args) L.fr) h
 |_=>False
theorem dR.inRound (hF:dR F) (l:Nat):dR (F.inRound l):=⟨hF.fn,hF.depth,by rw[<-hF.wide];rfl⟩
theorem Ext.alive {G G':ab} {w w':World} {h':aa} (he:Ext G G' w w') (hr:Rel G' h' w') {o:Nat} {m:Nat×Nat×Nat} (hφ:G.φ o=some m) {L:dC} (hL:h'.get o=some L) (hd:L≠.dead):G'.φ o=some m:=by
 rcases he.le.φ o m hφ with h|h
 ·exact h
 ·have:=(hr.dead o h).2
  rw[hL] at this
  exact absurd (Option.some.inj this) hd
theorem ld {o:Nat} {args:List VV} {h:aa} {R:VV->aa->Prop} (hv:yp P o args h R):fV P o args h R:=by
 unfold yp at hv
 split at hv
 ·rename_i L hL
  refine⟨⟨L,hL⟩,λF n hF G w vargs b base k hr hφ ha op a K Q hK=>?_⟩
  obtain⟨hc,hv⟩:=hv
  simp only[Bool.and_eq_true,decide_eq_true_eq,List.all_eq_true] at hc
  obtain⟨⟨⟨hc1,hc2⟩,hc3⟩,hc4⟩:=hc
  obtain⟨r,hb,h1,h2,h3,h4,h5,h6,h7⟩:=hr.loop hφ hL
  have hlen:args.length=vargs.size:=by simpa using ha.1
  have hsz:vargs.size=r.params.size:=by rw[h3];omega
  rw[run_yield hb hsz,Oper.uponIn_round]
  refine⟨λe=>by simp[hF.depth] at e,?_⟩
  have hfr:lf G ⟨L.n,[]⟩ L.fr r.tmps:=⟨h6,h7⟩
  have hfr2:lf G ⟨L.n,[]⟩ (wg (L.ps.toList.zip args) L.fr) ((r.params.zip vargs).foldl (λtmps (t,a)=>tmps.setIfInBounds t a) r.tmps):=by
   rw[<-Array.foldl_toList,Array.toList_zip]
   have e1:(L.ps.toList.zip args).map (·.1)=L.ps.toList:=by
    rw[List.map_fst_zip];simp;omega
   have e2:(L.ps.toList.zip args).map (·.2)=args:=by
    rw[List.map_snd_zip];simp;omega
   have e3:(r.params.toList.zip vargs.toList).map (·.1)=r.params.toList:=by
    rw[List.map_fst_zip];simp;omega
   have e4:(r.params.toList.zip vargs.toList).map (·.2)=vargs.toList:=by
    rw[List.map_snd_zip];simp;omega
   refine AO _ _ _ _ ?_ ?_ ?_ hfr
   ·rw[e1,e3,h3]
   ·rw[e2,e4];exact ha
   ·rw[e1];exact hc2
  refine roundIn_of_wpIn (F:=F) (hF.fn _) ?_
  rw[h4,h5]
  refine wpIn_mono (gT (hF.inRound b) L.assign hc3 _ G w _ h {tmps:=_,defers:=[]} hr hfr2 hv) ?_
  intro e a1 w1 hp
  have hq:=hp.next (R:=λa₁ w₁=>∃w₂,(Instr.beginRound b).run P w₁=.ok () w₂/\L.body.wpIn (F.inRound b) (n-1) P (roundPost P b fun
   |.returned v,w''=>K (a.put op.dst v) w''
   |.panicked chain,w''=>Q (.panic chain) a w''
   |.outgrown,_=>LetsOut Q) a₁ w₂) ?_
  ·cases e with
   |normal=>exact hq
   |exit i=>obtain⟨_,x,fr,h',G2,hx,hxr,_⟩:=hq;exact hx.elim
   |goto i=>obtain⟨_,x,fr,h',G2,hx,hxr,_⟩:=hq;exact hx.elim
   |ret=>obtain⟨_,x,fr,h',G2,hx,hxr,_⟩:=hq;exact hx.elim
   |panic i=>obtain⟨_,x,fr,h',G2,hx,hxr,_⟩:=hq;exact hx.elim
   |outgrown=>obtain⟨_,x,fr,h',G2,hx,hxr,_⟩:=hq;exact hx.elim
  ·rintro⟨hd,fr1,hh1,G1,hK1,hf1,hr1,he1⟩
   split at hK1
   ·rename_i hh2 hbeg
    obtain⟨L1,hL1⟩:∃L1,hh1.get o=some (.loop L1):=by
     unfold q8 at hbeg
     split at hbeg
     ·exact⟨_,by assumption⟩
     ·cases hbeg
    have hφ1:=he1.alive hr1 hφ hL1 (λe=>by cases e)
    obtain⟨w2,hrun2,hr2,he2⟩:=x8 (P:=P) hr1 hφ1 hbeg
    refine⟨w2,hrun2,wpIn_mono (gT (hF.inRound b) L.body hc4 _ G1 w2 _ hh2 a1 hr2 (hf1.mono he2.le) hK1) ?_⟩
    rintro e2 a2 w3 ⟨_,x,fr2,hh3,G3,hx,hxr,_,hr3,he3⟩
    split at hx
    ·rename_i j hj
     split at hx
     ·rename_i hh4 hend
      obtain⟨L3,hL3⟩:∃L3,hh3.get o=some (.loop L3):=by
       unfold gR at hend
       split at hend
       ·exact⟨_,by assumption⟩
       ·cases hend
      have hφ3:=he3.alive hr3 hφ1 hL3 (λe=>by cases e)
      obtain⟨w4,hrun4,hr4,he4⟩:=sk (P:=P) hr3 hφ3 hend
      have hfin:=hK G3 w4 hh4 _ _ hx (.bool _) hr4 (((he1.trans he2).trans he3).trans he4)
      cases x with
      |normal=>cases e2<;>simp only[XR] at hxr;cases hj;exact⟨_,w4,hrun4,hfin⟩
      |ret=>cases e2<;>simp only[XR] at hxr;cases hj;exact⟨_,w4,hrun4,hfin⟩
      |exit i=>cases e2<;>simp only[XR] at hxr;subst hxr;cases hj;exact⟨_,w4,hrun4,hfin⟩
      |panic v=>cases hj
     ·exact hx.elim
    ·exact hx.elim
   ·exact hK1.elim
 ·exact hv.elim
end
section
variable{P:Program} {G:ab} {w:World} {F:Fence} {n:Nat}
theorem sI (a:Act) (d:Option Tmp) (x:Value):(a.put d x).defers=a.defers:=by cases d<;>rfl
def pb (G:ab):Option VV->FrameMode->Prop
 |none,u=>u=.returning
 |some v,u=>∃y,u=.panicking [{v:=y,recovered:=false}]/\RV G v y
def Ga (P:Program) (f:FuncId) (args:List VV) (pan:Option VV) (h:aa) (R:Option VV->aa->Prop):Prop:=
 (∃fn c,P.funcs[f]?=some fn/\fn.name≠ "runtime.NumGoroutine" /\fn.body=some c)/\
 ∀(F:Fence) (n:Nat),dR F->F.round=none->∀(G:ab) (w:World) (vargs:Array Value) (u:FrameMode),Rel G h w->cO G args vargs.toList->pb G pan u->
  CallsDIn F n P f vargs u w λe u' w'=>∃y pan' h' G',e=.returned y/\pb G' pan' (settle u')/\R pan' h'/\Rel G' h' w'/\Ext G G' w w'
theorem yd {f:FuncId} {args:List VV} {pan:Option VV} {h:aa} {R:Option VV->aa->Prop} (hc:fD P f args.length=true)
 (hv:qi P f args h λr h'=>match r with|.ret _=>R pan h'|.panic _=>False):Ga P f args pan h R:=by
 unfold fD at hc
 unfold qi at hv
 cases hf:P.funcs[f]? with
 |none=>simp[hf] at hc
 |some fn=>
  cases hb:fn.body with
  |none=>simp[hf,hb] at hc
  |some c=>
   simp only[hf,hb,Bool.and_eq_true,Bool.not_eq_true',decide_eq_true_eq] at hc hv
   obtain⟨⟨h1,h2⟩,h3⟩:=hc
   refine⟨⟨fn,c,hf,by simpa using h1,hb⟩,λF n hF hro G w vargs u hr ha hu=>?_⟩
   have hset:settle u=u:=by
    cases pan with
    |none=>have hu':u=.returning:=hu;rw[hu'];rfl
    |some v=>obtain⟨y,hu',_⟩:=hu;rw[hu'];rfl
   have hpan:∀G',G.Le G'->pb G' pan u:=by
    intro G' hle
    cases pan with
    |none=>exact hu
    |some v=>obtain⟨y,hu',hy⟩:=hu;exact⟨y,hu',hy.mono hle⟩
   refine(callsDIn_of_wp hf hb (hF.fn f) (R:=λe w'=>∃y h' G',e=.returned y/\R pan h'/\Rel G' h' w'/\Ext G G' w w') ?_ hro).mono ?_
   ·have hfr:=iY ha h3
    refine wpIn_mono (gT hF c h2 _ G w _ h {tmps:=vargs++Array.replicate (fn.ntmps-vargs.size) Go.undef,defers:=[]} hr hfr hv) ?_
    rintro e a' w' ⟨hd,x,fr',h',G',hx,hxr,hf',hr',he⟩
    cases x with
    |normal=>
     cases e<;>simp only[XR] at hxr
     simp only[jf] at hx
     split at hx
     ·rename_i v hres
      obtain⟨y,hy1,hy2⟩:=eE (P:=P) hr' (hf' rfl) hres
      exact⟨hd.1,y,hy1,y,h',G',rfl,hx,hr',he⟩
     ·exact hx.elim
    |ret=>
     cases e<;>simp only[XR] at hxr
     simp only[jf] at hx
     split at hx
     ·rename_i v hres
      obtain⟨y,hy1,hy2⟩:=eE (P:=P) hr' (hf' rfl) hres
      exact⟨hd.1,y,hy1,y,h',G',rfl,hx,hr',he⟩
     ·exact hx.elim
    |panic v=>exact hx.elim
    |exit i=>exact hx.elim
   ·rintro e u' w' ⟨rfl,y,h',G',rfl,hR,hr',he⟩
    exact⟨y,pan,h',G',rfl,by rw[hset];exact hpan G' he.le,hR,hr',he⟩
def jb (o:Oper):Bool:=
 match o.op with
 |.call {callee:=.builtin .recover,.. }=>o.guard.isNone
 |_=>false
def kP (c:Code):Option (Oper×Oper×Code):=
 match c with
 |.seq (.region _ ⟨[o0,o1]⟩ false) rest=>some (o0,o1,rest)
 |_=>none
def K2 (P:Program) (fn:Func) (o0 o1:Oper) (rest:Code) (args:List VV) (pan:Option VV) (h:aa) (R:Option VV->aa->Prop):Prop:=
 (!(fn.name== "runtime.NumGoroutine")&&jb o0&&o1.guard.isNone&&bd ⟨fn.ntmps,[]⟩ o0&&bd ⟨fn.ntmps,[]⟩ o1&&aT ⟨fn.ntmps,[]⟩ rest&&decide (args.length<=fn.ntmps))=true/\
 dB P o1 (put (fp args) o0.dst (pan.getD .ec)) h λfr h1=>
  gB P ⟨fn.ntmps,[]⟩ rest (λx fr2 h2=>(match x with|.normal|.ret=>(cT P fn.results.toList fr2 h2).isSome=true|_=>False)/\R none h2) fr h1
theorem qo {f:FuncId} {fn:Func} {c:Code} (hf:P.funcs[f]?=some fn) (hb:fn.body=some c) {o0 o1:Oper} {rest:Code} (hs:kP c=some (o0,o1,rest))
 {args:List VV} {pan:Option VV} {h:aa} {R:Option VV->aa->Prop} (hv:K2 P fn o0 o1 rest args pan h R):Ga P f args pan h R:=by
 unfold kP at hs
 split at hs
 ·rename_i id o0' o1' rest'
  cases hs
  obtain⟨hc,hv⟩:=hv
  simp only[Bool.and_eq_true,decide_eq_true_eq] at hc
  obtain⟨⟨⟨⟨⟨⟨hc0,hc1⟩,hc2⟩,hc3⟩,hc4⟩,hc5⟩,hc6⟩:=hc
  refine⟨⟨fn,_,hf,by simpa using hc0,hb⟩,λF n hF hro G w vargs u hr ha hu=>?_⟩
  refine callsDIn_of_wpSIn hf hb (hF.fn f) λc₀ cs hcu=>?_
  refine wpSIn_seq (wpSIn_region ?_)
  have hfr:lf G ⟨fn.ntmps,[]⟩ (fp args) (vargs++Array.replicate (fn.ntmps-vargs.size) Go.undef):=iY ha hc6
  obtain⟨rv,u',cs1,hrec,hcs,hrv,hset⟩:∃rv u' cs1,(recoverD (c₀::cs)=some (rv,cs1)\/recoverD (c₀::cs)=none/\rv=.nilIface/\cs1=c₀::cs)/\cs1={c₀ with mode:=u'}::cs/\
   RV G (pan.getD .ec) rv/\settle u'=.returning:=by
   cases pan with
   |none=>
    have hu':u=.returning:=hu
    have hm:c₀.mode=.returning:=hcu.trans hu'
    exact⟨.nilIface,.returning,c₀::cs,.inr ⟨by simp only[recoverD,hm],rfl,rfl⟩,by rw[<-hm],.ec,rfl⟩
   |some v=>
    obtain⟨y,hu',hy⟩:=hu
    have hm:c₀.mode=.panicking [{v:=y,recovered:=false}]:=hcu.trans hu'
    exact⟨y,.panicking [{v:=y,recovered:=true}],{c₀ with mode:=.panicking [{v:=y,recovered:=true}]}::cs,.inl (by simp only[recoverD,hm]),rfl,hy,rfl⟩
  have hex:∀ρ w,(execOp ρ o0).run P w=.ok .recover w:=by
   intro ρ w
   unfold jb at hc1
   split at hc1
   ·rename_i as ts hop
    unfold execOp
    simp[hop,resolve,invoke,builtin]
   ·cases hc1
  have hg0:o0.guard=none:=by
   unfold jb at hc1
   split at hc1
   ·simpa using hc1
   ·cases hc1
  have hg1:o1.guard=none:=by simpa using hc2
  have hput:=hfr.put (a:={tmps:=vargs++Array.replicate (fn.ntmps-vargs.size) Go.undef,defers:=[]}) hrv hc3
  have hplain:=lW (n:=n) hF hr (nw hput.1 hc4) hv (λ_ _ _=>False)
  obtain⟨_,hplain⟩:=hplain
  show wpOpsSIn F n P #[o0,o1] _ [0,1] _ _ _
  unfold wpOpsSIn
  simp only[List.getElem?_toArray,List.getElem?_cons_zero]
  refine⟨λg _=>hF.fn g,?_⟩
  rw[if_pos (by simp[Region.wanted,hg0]),hex]
  simp only
  have key:wpOpsSIn F n P #[o0,o1] (Exit.thenS (rest.wpSIn F n P (bodyPostS P fn c₀ cs λe u' w'=>∃y pan' h' G',e=.returned y/\pb G' pan' (settle u')/\R pan' h'/\Rel G' h' w'/\Ext G G' w w'))
   (bodyPostS P fn c₀ cs λe u' w'=>∃y pan' h' G',e=.returned y/\pb G' pan' (settle u')/\R pan' h'/\Rel G' h' w'/\Ext G G' w w')) [1]
   (({tmps:=vargs++Array.replicate (fn.ntmps-vargs.size) Go.undef,defers:=[]}:Act).put o0.dst rv) cs1 w:=by
   unfold wpOpsSIn
   simp only[List.getElem?_toArray,List.getElem?_cons_succ,List.getElem?_cons_zero]
   refine⟨λg _=>hF.fn g,?_⟩
   rw[if_pos (by simp[Region.wanted,hg1])]
   rw[hro,Oper.semAt_none] at hplain
   have hrest:∀a' w',A5 G w o1 (({tmps:=vargs++Array.replicate (fn.ntmps-vargs.size) Go.undef,defers:=[]}:Act).put o0.dst rv) (put (fp args) o0.dst (pan.getD .ec))
    (λfr h1=>gB P ⟨fn.ntmps,[]⟩ rest (λx fr2 h2=>(match x with|.normal|.ret=>(cT P fn.results.toList fr2 h2).isSome=true|_=>False)/\R none h2) fr h1) a' w'->
    rest.wpSIn F n P (bodyPostS P fn c₀ cs λe u' w'=>∃y pan' h' G',e=.returned y/\pb G' pan' (settle u')/\R pan' h'/\Rel G' h' w'/\Ext G G' w w') a' cs1 w':=by
    rintro a' w' ⟨y,v,h',G',rfl,hy,hK,hr',he⟩
    have hput2:=(hput.1.mono he.le).put hy hc4
    refine wpSIn_of_wpIn hro (wpIn_mono (gT hF rest hc5 _ G' w' _ h' _ hr' hput2.1 hK) ?_)
    rintro e a2 w2 ⟨hsame,x,fr2,h2,G2,⟨hx,hR⟩,hxr,hf2,hr2,he2⟩
    have hdef:a2.defers=[]:=by rw[hsame.1,sI,sI]
    cases x with
    |normal=>
     cases e<;>simp only[XR] at hxr
     obtain⟨rvv,hres⟩:=Option.isSome_iff_exists.1 hx
     obtain⟨z,hz1,hz2⟩:=eE (P:=P) hr2 (hf2 rfl) hres
     exact⟨hdef,u',hcs,z,hz1,z,none,h2,G2,rfl,hset,hR,hr2,he.trans he2⟩
    |ret=>
     cases e<;>simp only[XR] at hxr
     obtain⟨rvv,hres⟩:=Option.isSome_iff_exists.1 hx
     obtain⟨z,hz1,hz2⟩:=eE (P:=P) hr2 (hf2 rfl) hres
     exact⟨hdef,u',hcs,z,hz1,z,none,h2,G2,rfl,hset,hR,hr2,he.trans he2⟩
    |exit i=>exact hx.elim
    |panic v=>exact hx.elim
   have hval:∃x w',((execOp (({tmps:=vargs++Array.replicate (fn.ntmps-vargs.size) Go.undef,defers:=[]}:Act).put o0.dst rv).eval o1).run P w=.ok (.value x) w'\/
    (execOp (({tmps:=vargs++Array.replicate (fn.ntmps-vargs.size) Go.undef,defers:=[]}:Act).put o0.dst rv).eval o1).run P w=.ok .skip w'/\x=Go.undef):=by
    unfold dB at hv
    split at hv
    ·rename_i v h' hop
     obtain⟨y,w',_,h1,_⟩:=we hr (nw hput.1 hc4) hop
     exact⟨y,w',h1⟩
    ·exact hv.elim
   obtain⟨x,w',hx|⟨hx,rfl⟩⟩:=hval
   ·rw[hx] at hplain⊢
    exact hrest _ _ hplain
   ·rw[hx] at hplain⊢
    exact hrest _ _ hplain
  rcases hrec with hrec|⟨hrec,rfl,rfl⟩
  ·rw[hrec];exact key
  ·rw[hrec];exact key
 ·cases hs
end
end Go.Vv
