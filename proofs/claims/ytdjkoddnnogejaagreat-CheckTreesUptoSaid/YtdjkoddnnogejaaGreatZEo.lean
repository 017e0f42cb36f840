/- Part of the proof of CheckTrees: plain laws and steps of its walks, for all arguments. -/
import Derived.Test.YtdjkoddnnogejaaGreatZEn
set_option linter.unusedSimpArgs false
set_option linter.unusedVariables false
set_option linter.unusedSectionVars false
namespace Go.Ee
section
open Go.Vv
variable{P:Program} {ρ ρ0:NM} {h h0:aa} {s:SH}
inductive EI where
 |call (f:FuncId) (a:List EV)
 |mark
def IR (ρ:NM):List EI->List bO->Prop
 |[],[]=>True
 |.call f a::l,.call g b::m=>f=g/\qu ρ a b/\IR ρ l m
 |.mark::l,.mark::m=>IR ρ l m
 |_,_=>False
theorem IR.mono {ρ ρ':NM} (hl:ρ.Le ρ'):∀{l:List EI} {m:List bO},IR ρ l m->IR ρ' l m
 |[],[],_=>trivial
 |.call _ _::_,.call _ _::_,⟨a,b,c⟩=>⟨a,b.mono hl,c.mono hl⟩
 |.mark::l,.mark::m,h=>IR.mono hl (l:=l) (m:=m) h
 |[],_::_,h=>h.elim
 |.call .. ::_,[],h=>h.elim
 |.mark::_,[],h=>h.elim
 |.call .. ::_,.mark::_,h=>h.elim
 |.mark::_,.call .. ::_,h=>h.elim
abbrev ES:=EX->List EI->SF->SH->Prop
def VS (ρ0:NM) (h0:aa) (Q:ES) (R:QS):Prop:=∀e x ds vds fr vfr s h ρ,Q e ds fr s->XE ρ e x->IR ρ ds vds->jN ρ fr vfr->SR ρ s h->ch ρ0 h0 ρ h->R x vds vfr h
def y9:Op->Option Call
 |.defer c=>some c
 |_=>none
def LC (fr:SF) (c:Call) (k:FuncId->List EV->Prop):Prop:=
 match c with
 |{callee:=.value f,args,.. }=>wH fr f λf=>match f with
  |.fn id a c=>Vb fr args.toList λl=>PB a l c λl=>k id l
  |_=>False
 |_=>False
def zf (P:Program) (C:CH) (ops:List Oper) (Q:ES) (l:List Oper):List EI->SF->SH->Prop:=
 List.rec (motive:=λ_=>List EI->SF->SH->Prop) (λds fr s=>Q .normal ds fr s) (λo _ ih ds fr s=>match o with
  |⟨d,op,_,_,_,g⟩=>wW ops g fr (λfr=>match y9 op with
   |some c=>LC fr c λf a=>kO fr d (.bR []) λfr=>ih (.call f a::ds) fr s
   |none=>EP P C op fr s (λx=>Q x ds) λv s=>kO fr d v λfr=>ih ds fr s) λfr=>kO fr d (.bR []) λfr=>ih ds fr s) l
abbrev XF:=Operand->Array Tmp->Code->Code->ES->List EI->SF->SH->Prop
def es (P:Program) (C:CH) (L:LH) (RG:XF) (T:fI) (pol:vn) (c:Code):ES->List EI->SF->SH->Prop:=
 Code.rec (motive:=λ_=>ES->List EI->SF->SH->Prop)
  (λQ=>Q .normal)
  (λid ops d Q ds=>match d with
    |false=>zf P C ops.toList Q ops.toList ds
    |true=>er P C L T pol (.region id ops true) λx=>Q x ds)
  (λ_ _ ia ib Q=>ia λx=>match x with|.normal=>ib Q|x=>Q x)
  (λc a b _ _ Q ds=>er P C L T pol (.cond c a b) λx=>Q x ds)
  (λid _ ic Q=>ic λx=>match x with|.exit i=>cond (Nat.beq i id) (Q .normal) (Q (.exit i))|x=>Q x)
  (λc _ Q ds=>L c λx=>Q x ds)
  (λg ps a b _ _=>RG g ps a b)
  (λid Q=>Q (.exit id))
  (λ_ _ _ _ _ _=>False)
  (λ_ _ _ _ _=>False)
  (λ_ _ _ _ _=>False)
  (λQ=>Q .ret)
  (λ_ _ _ _ _=>False) c
structure SG (P:Program) (N:Fm) (fn:Nat) (g:Operand) (ps:Array Tmp) (a b:Code) (Q:ES) (ds:List EI) (fr:SF) (s:SH):Prop where
 run:∀ρ h vfr vds (R:QS),VS ρ h Q R->IR ρ ds vds->SR ρ s h->jN ρ fr vfr->o7 P N fn g ps a b R vds vfr h
theorem PU {fr:SF} {vfr:Fr} (hf:jN ρ fr vfr) {c:Call} {k:FuncId->List EV->Prop} (hk:LC fr c k):∃f a va,k f a/\dH vfr c=some (f,va)/\qu ρ a va:=by
 unfold LC at hk
 split at hk
 ·obtain⟨y,h1,h2⟩:=gH hf hk
  split at h1
  ·rename_i id a c
   obtain⟨l,h3,h4⟩:=GM hf h1
   obtain⟨a',c',e,h5,h6⟩:=h2
   obtain⟨r,h7,h8⟩:=Gj h3 h5 h4 h6
   exact⟨_,_,_,h7,by simp[dH,e],h8⟩
  ·exact h1.elim
 ·exact hk.elim
theorem zg {ops:Array Oper} {Q:ES} {R:QS} (hR:VS ρ0 h0 Q R):∀(l:List Oper) (ds:List EI) (vds:List bO) (fr:SF) (s:SH) (ρ:NM) (h:aa) (vfr:Fr),zf P (SC P) ops.toList Q l ds fr s->IR ρ ds vds->SR ρ s h->jN ρ fr vfr->ch ρ0 h0 ρ h->oF P ops R l vds vfr h:=by
 intro l
 induction l with
 |nil=>intro ds vds fr s ρ h vfr hk hi hs hf he;exact hR .normal .normal _ _ _ _ _ _ _ hk trivial hi hf hs he
 |cons o l ih=>
  intro ds vds fr s ρ h vfr hk hi hs hf he
  obtain⟨d,op,ty,pos,af,gd⟩:=o
  simp only[oF]
  have hk:wW ops.toList gd fr (λfr=>match y9 op with
   |some c=>LC fr c λf a=>kO fr d (.bR []) λfr=>zf P (SC P) ops.toList Q l (.call f a::ds) fr s
   |none=>EP P (SC P) op fr s (λx=>Q x ds) λv s=>kO fr d v λfr=>zf P (SC P) ops.toList Q l ds fr s) λfr=>kO fr d (.bR []) λfr=>zf P (SC P) ops.toList Q l ds fr s:=hk
  have hd:nA ⟨d,op,ty,pos,af,gd⟩=y9 op:=by unfold nA y9;cases op<;>rfl
  obtain⟨fr,hf,⟨h1,h2⟩|⟨h1,h2⟩⟩:=wX (o:=⟨d,op,ty,pos,af,gd⟩) hf hk
  ·rw[if_pos h1,hd]
   cases hc:y9 op with
   |some c=>
    rw[hc] at h2
    obtain⟨f,a,va,h3,h4,h5⟩:=PU hf h2
    obtain⟨fr',b1,b2⟩:=x3 hf h3
    simp only[h4]
    exact ih _ _ fr' s ρ h _ b2 ⟨rfl,h5,hi⟩ hs b1 he
   |none=>
    rw[hc] at h2
    refine kD (o:=⟨d,op,ty,pos,af,gd⟩) h2 hs hf (λy s' ρ' v h' a1 a2 a3 a4=>?_) λy s' ρ' v h' a1 a2 a3 a4=>?_
    ·obtain⟨fr',b1,b2⟩:=(hf.mono a4.le).put a2 a1
     exact ih _ _ fr' s' ρ' h' _ b2 (hi.mono a4.le) a3 b1 (he.trans a4)
    ·exact hR (.panic y) (.panic v) _ _ _ _ _ _ _ a1 a2 (hi.mono a4.le) (hf.mono a4.le) a3 (he.trans a4)
  ·rw[if_neg (by simp[h1])]
   obtain⟨fr',b1,b2⟩:=x3 hf h2
   exact ih _ _ fr' s ρ h _ b2 hi hs b1 he
theorem GL (hmix:P.follows .mixedOrders=true) {N:Fm} {fn:Nat} {T:fI} {pol:vn}:∀(c:Code),cQ N c=true->∀{Q:ES} {R:QS} {ds:List EI} {vds:List bO} {fr:SF} {s:SH} {ρ0 ρ:NM} {h0 h:aa} {vfr:Fr},
 es P (SC P) (SL P N) (SG P N fn) T pol c Q ds fr s->VS ρ0 h0 Q R->IR ρ ds vds->SR ρ s h->jN ρ fr vfr->ch ρ0 h0 ρ h->AR P N fn c R vds vfr h:=by
 have other:∀(c:Code),aT N c=true->∀{Q:ES} {R:QS} {ds:List EI} {vds:List bO} {fr:SF} {s:SH} {ρ0 ρ:NM} {h0 h:aa} {vfr:Fr},
  er P (SC P) (SL P N) T pol c (λx=>Q x ds) fr s->VS ρ0 h0 Q R->IR ρ ds vds->SR ρ s h->jN ρ fr vfr->ch ρ0 h0 ρ h->gB P N c (λx fr h=>R x vds fr h) vfr h:=by
  intro c hc Q R ds vds fr s ρ0 ρ h0 h vfr hk hR hi hs hf he
  refine dO c (λx f h' hx=>?_) _ _ (hU hmix c hc hk hs hf (.refl ρ h))
  obtain⟨e,fr',s',ρ',a1,a2,a3,a4,a5⟩:=hx
  exact hR e x _ _ _ _ _ _ _ a1 a2 (hi.mono a5.le) a3 a4 (he.trans a5)
 intro c
 induction c with
 |skip=>intro _ Q R ds vds fr s ρ0 ρ h0 h vfr hk hR hi hs hf he;exact hR .normal .normal _ _ _ _ _ _ _ hk trivial hi hf hs he
 |exit id=>intro _ Q R ds vds fr s ρ0 ρ h0 h vfr hk hR hi hs hf he;exact hR (.exit id) (.exit id) _ _ _ _ _ _ _ hk rfl hi hf hs he
 |ret=>intro _ Q R ds vds fr s ρ0 ρ h0 h vfr hk hR hi hs hf he;exact hR .ret .ret _ _ _ _ _ _ _ hk trivial hi hf hs he
 |label=>intro _ Q R ds vds fr s ρ0 ρ h0 h vfr hk;exact hk.elim
 |goto=>intro _ Q R ds vds fr s ρ0 ρ h0 h vfr hk;exact hk.elim
 |refuse=>intro _ Q R ds vds fr s ρ0 ρ h0 h vfr hk;exact hk.elim
 |scope=>intro _ Q R ds vds fr s ρ0 ρ h0 h vfr hk;exact hk.elim
 |rangeFunc g ps a b=>intro _ Q R ds vds fr s ρ0 ρ h0 h vfr hk hR hi hs hf he;exact hk.run _ _ _ _ _ (λe x ds vds fr vfr s h ρ a1 a2 a3 a4 a5 a6=>hR e x _ _ _ _ _ _ _ a1 a2 a3 a4 a5 (he.trans a6)) hi hs hf
 |region id ops d=>
  intro hc Q R ds vds fr s ρ0 ρ h0 h vfr hk hR hi hs hf he
  cases d with
  |false=>exact zg hR _ _ _ _ _ _ _ _ hk hi hs hf he
  |true=>exact other (.region id ops true) hc hk hR hi hs hf he
 |cond c a b=>intro hc Q R ds vds fr s ρ0 ρ h0 h vfr hk hR hi hs hf he;exact other (.cond c a b) hc hk hR hi hs hf he
 |loop c=>intro hc Q R ds vds fr s ρ0 ρ h0 h vfr hk hR hi hs hf he;exact other (.loop c) hc hk hR hi hs hf he
 |seq a b iha ihb=>
  intro hc Q R ds vds fr s ρ0 ρ h0 h vfr hk hR hi hs hf he
  simp only[cQ,Bool.and_eq_true] at hc
  refine iha hc.1 (R:=VX.thenS (AR P N fn b R) R) hk (λe x ds vds fr vfr s h ρ a1 a2 a3 a4 a5 a6=>?_) hi hs hf he
  cases e<;>cases x<;>first|exact a2.elim|skip
  ·exact ihb hc.2 a1 hR a3 a5 a4 a6
  ·exact hR (.exit _) (.exit _) _ _ _ _ _ _ _ a1 a2 a3 a4 a5 a6
  ·exact hR .ret .ret _ _ _ _ _ _ _ a1 a2 a3 a4 a5 a6
  ·exact hR (.panic _) (.panic _) _ _ _ _ _ _ _ a1 a2 a3 a4 a5 a6
 |block id c ih=>
  intro hc Q R ds vds fr s ρ0 ρ h0 h vfr hk hR hi hs hf he
  refine ih hc (R:=VX.kF id R) hk (λe x ds vds fr vfr s h ρ a1 a2 a3 a4 a5 a6=>?_) hi hs hf he
  cases e<;>cases x<;>first|exact a2.elim|skip
  ·exact hR .normal .normal _ _ _ _ _ _ _ a1 a2 a3 a4 a5 a6
  ·rename_i i j
   have a2:i=j:=a2
   subst a2
   simp only[VX.kF]
   simp only at a1
   cases hb:Nat.beq i id with
   |true=>simp only[hb,cond_true] at a1;rw[if_pos (dT hb)];exact hR .normal .normal _ _ _ _ _ _ _ a1 trivial a3 a4 a5 a6
   |false=>simp only[hb,cond_false] at a1;rw[if_neg (pq hb)];exact hR (.exit i) (.exit i) _ _ _ _ _ _ _ a1 rfl a3 a4 a5 a6
  ·exact hR .ret .ret _ _ _ _ _ _ _ a1 a2 a3 a4 a5 a6
  ·exact hR (.panic _) (.panic _) _ _ _ _ _ _ _ a1 a2 a3 a4 a5 a6
def PE (ρ:NM):Option EV->Option VV->Prop
 |none,none=>True
 |some x,some v=>ER ρ x v
 |_,_=>False
structure SD (P:Program) (f:FuncId) (a:List EV) (pan:Option EV) (s:SH) (K:Option EV->SH->Prop):Prop where
 run:∀ρ h va vp (R:Option VV->aa->Prop),SR ρ s h->qu ρ a va->PE ρ pan vp->(∀p vp s' ρ' h',K p s'->PE ρ' p vp->SR ρ' s' h'->ch ρ h ρ' h'->R vp h')->Ga P f va vp h R
def xg (P:Program) (l:List EI):Option EV->SH->(Option EV->SH->Prop)->Prop:=
 List.rec (motive:=λ_=>Option EV->SH->(Option EV->SH->Prop)->Prop) (λpan s K=>K pan s) (λd _ ih pan s K=>match d with
  |.mark=>ih pan s K
  |.call f a=>SD P f a pan s λpan s=>ih pan s K) l
theorem mP:∀{l:List EI} {m:List bO} {pan:Option EV} {vp:Option VV} {s:SH} {K:Option EV->SH->Prop} {R:Option VV->aa->Prop} {ρ0 ρ:NM} {h0 h:aa},xg P l pan s K->IR ρ l m->PE ρ pan vp->SR ρ s h->ch ρ0 h0 ρ h->
 (∀p vp s' ρ' h',K p s'->PE ρ' p vp->SR ρ' s' h'->ch ρ0 h0 ρ' h'->R vp h')->lS P m vp h R
 |[],[],_,_,_,_,_,_,_,_,_,hk,_,hp,hs,he,hR=>hR _ _ _ _ _ hk hp hs he
 |.mark::l,.mark::m,_,_,_,_,_,_,_,_,_,hk,hi,hp,hs,he,hR=>mP (l:=l) (m:=m) hk hi hp hs he hR
 |.call f a::l,.call g b::m,_,_,_,_,_,_,_,_,_,hk,⟨e,hi,hj⟩,hp,hs,he,hR=>by
  subst e
  have hk:SD P f a _ _ λpan s=>xg P l pan s _:=hk
  exact hk.run _ _ _ _ _ hs hi hp λp vp s' ρ' h' a1 a2 a3 a4=>mP (l:=l) (m:=m) a1 (hj.mono a4.le) a2 a3 (he.trans a4) hR
 |[],_::_,_,_,_,_,_,_,_,_,_,_,hi,_,_,_,_=>hi.elim
 |.call .. ::_,[],_,_,_,_,_,_,_,_,_,_,hi,_,_,_,_=>hi.elim
 |.mark::_,[],_,_,_,_,_,_,_,_,_,_,hi,_,_,_,_=>hi.elim
 |.call .. ::_,.mark::_,_,_,_,_,_,_,_,_,_,_,hi,_,_,_,_=>hi.elim
 |.mark::_,.call .. ::_,_,_,_,_,_,_,_,_,_,_,hi,_,_,_,_=>hi.elim
def QF (P:Program) (fn:Func) (fr0:SF) (K:aR->SH->Prop):ES:=λx ds fr s=>match x with
 |.normal|.ret=>xg P ds none s λpan s=>match pan with|none=>Ai P fr s fn.results.toList λv=>K (.ret v) s|some v=>K (.panic v) s
 |.panic v=>xg P ds (some v) s λpan s=>match pan with|none=>Br (pg fn) (Ai P fr0 s fn.results.toList λv=>K (.ret v) s) False|some v=>K (.panic v) s
 |.exit _=>False
theorem qu.len {ρ:NM}:∀{a:List EV} {b:List VV},qu ρ a b->a.length=b.length
 |[],[],_=>rfl
 |_::a,_::b,h=>by simp[qu.len (a:=a) (b:=b) h.2]
 |[],_::_,h=>h.elim
 |_::_,[],h=>h.elim
theorem OE {args:List EV} {vargs:List VV} {k:SF->Prop} (hk:zn lH args k) (ha:qu ρ args vargs):∃fr,k fr/\jN ρ fr (fp vargs):=by
 have hlt:∀(l:List Nat) (a:List EV) (k:SF->Prop),zn l a k->a.length<=l.length:=by
  intro l
  induction l with
  |nil=>intro a k hk;cases a with|nil=>simp|cons=>exact hk.elim
  |cons m l ih=>intro a k hk;cases a with|nil=>simp|cons x a=>simpa using ih a _ hk
 exact Hf (i:=0) (vfr:=.nil) hk ha λj hj=>by
  have:=hlt _ _ _ hk
  have key:∀j,j<lH.length->lH[j]?=some (0+j):=by decide
  exact key j (by omega)
theorem SC.Gs (hmix:P.follows .mixedOrders=true) {f:FuncId} {fn:Func} {r0 rest:Code} {args:List EV} {s:SH} {K:aR->SH->Prop} (T:fI) (pol:vn) (hf:P.funcs[f]?=some fn) (hb:fn.body=some (.seq r0 rest)) (hc:jn P f args.length=true)
 (hk:zn lH args λfr=>er P (SC P) (SL P ⟨fn.ntmps,[]⟩) T pol r0 (λx fr s=>match x with
   |.normal=>es P (SC P) (SL P ⟨fn.ntmps,iE fn⟩) (SG P ⟨fn.ntmps,iE fn⟩ f) T pol rest (QF P fn fr K) [] fr s
   |_=>False) fr s):SC P f args s K:=by
 refine⟨λρ h vargs hs ha=>?_⟩
 rw[ha.len] at hc
 have hcc:aT ⟨fn.ntmps,[]⟩ r0=true/\cQ ⟨fn.ntmps,iE fn⟩ rest=true:=by
  unfold jn at hc
  simp only[hf,hb,Bool.and_eq_true] at hc
  exact⟨hc.1.1.2,hc.1.2⟩
 refine me hc ?_
 unfold ya
 simp only[hf,hb]
 obtain⟨fr,h1,h2⟩:=OE hk ha
 refine dO r0 (λx vfr0 hh0 hx=>?_) _ _ (hU hmix r0 hcc.1 h1 hs h2 (.refl ρ h))
 obtain⟨e,fr0,s0,ρ0,a1,a2,a3,a4,a5⟩:=hx
 cases e<;>first|exact a1.elim|skip
 cases x<;>first|exact a2.elim|skip
 refine GL hmix rest hcc.2 (ρ0:=ρ0) (h0:=hh0) a1 (λe x ds vds fr vfr s h' ρ' c1 c2 c3 c4 c5 c6=>?_) trivial a4 a3 (.refl ρ0 hh0)
 have fin:∀(p:Option EV) (vp:Option VV) (s':SH) (ρ2:NM) (h2:aa),(match p with|none=>Ai P fr s' fn.results.toList λv=>K (.ret v) s'|some v=>K (.panic v) s')->PE ρ2 p vp->SR ρ2 s' h2->ch ρ' h' ρ2 h2->
  Et P fn true vfr (λr h'=>∃e s' ρ',K e s'/\EE ρ' e r/\SR ρ' s' h'/\ch ρ h ρ' h') vp h2:=by
  intro p vp s' ρ2 h2 d1 d2 d3 d4
  cases p<;>cases vp<;>first|exact d2.elim|skip
  ·obtain⟨y,v,b1,b2,b3⟩:=tU d3 (c4.mono d4.le) d1
   exact⟨rfl,by rw[b2];exact⟨_,s',ρ2,b1,b3,d3,a5.trans (c6.trans d4)⟩⟩
  ·exact⟨_,s',ρ2,d1,d2,d3,a5.trans (c6.trans d4)⟩
 cases e<;>cases x<;>first|exact c2.elim|exact c1.elim|skip
 ·exact mP c1 c3 trivial c5 (.refl ρ' h') fin
 ·exact mP c1 c3 trivial c5 (.refl ρ' h') fin
 ·refine mP c1 c3 c2 c5 (.refl ρ' h') λp vp s' ρ2 h2 d1 d2 d3 d4=>?_
  cases p<;>cases vp<;>first|exact d2.elim|skip
  ·obtain⟨d5,d6⟩:=eZ d1
   obtain⟨y,v,b1,b2,b3⟩:=tU d3 (a3.mono (c6.trans d4).le) d6
   exact⟨d5,by rw[b2];exact⟨_,s',ρ2,b1,b3,d3,a5.trans (c6.trans d4)⟩⟩
  ·exact⟨_,s',ρ2,d1,d2,d3,a5.trans (c6.trans d4)⟩
theorem SD.UF (hmix:P.follows .mixedOrders=true) {f:FuncId} {fn:Func} {c:Code} {args:List EV} {pan:Option EV} {s:SH} {K:Option EV->SH->Prop} (T:fI) (pol:vn) {o0 o1:Oper} {rest:Code} (hf:P.funcs[f]?=some fn) (hb:fn.body=some c) (hsh:kP c=some (o0,o1,rest))
 (hv1:∀fr h K Q,ez P o1 fr h K Q->dB P o1 fr h K) (hc:(!(fn.name== "runtime.NumGoroutine")&&jb o0&&o1.guard.isNone&&bd ⟨fn.ntmps,[]⟩ o0&&bd ⟨fn.ntmps,[]⟩ o1&&aT ⟨fn.ntmps,[]⟩ rest&&decide (args.length<=fn.ntmps))=true)
 (hk:zn lH args λfr=>kO fr o0.dst (pan.getD (.f (.p .ec))) λfr=>EP P (SC P) o1.op fr s (λ_ _ _=>False) λv s=>kO fr o1.dst v λfr=>
   er P (SC P) (SL P ⟨fn.ntmps,[]⟩) T pol rest (λx fr s=>match x with|.normal|.ret=>Ai P fr s fn.results.toList λ_=>K none s|_=>False) fr s):SD P f args pan s K:=by
 refine⟨λρ h va vp R hs ha hp hR=>qo hf hb hsh ⟨by rw[<-ha.len];exact hc,?_⟩⟩
 obtain⟨fr,h1,h2⟩:=OE hk ha
 have hpv:ER ρ (pan.getD (.f (.p .ec))) (vp.getD .ec):=by
  cases pan<;>cases vp<;>first|exact hp.elim|skip
  ·exact⟨rfl,rfl⟩
  ·exact hp
 obtain⟨fr1,h3,h4⟩:=h2.put hpv h1
 simp only[Bool.and_eq_true] at hc
 have hrest:=hc.1.2
 refine hv1 _ _ _ _ (kD (Qv:=λ_ _ _=>False) (K:=λfr h1=>gB P ⟨fn.ntmps,[]⟩ rest (λx fr2 h2=>(match x with|.normal|.ret=>(cT P fn.results.toList fr2 h2).isSome=true|_=>False)/\R none h2) fr h1) h4 hs h3
  (λy s' ρ' v h' b1 b2 b3 b4=>?_) λy s' ρ' v h' b1 _ _ _=>b1)
 ·obtain⟨fr2,e1,e2⟩:=(h3.mono b4.le).put b2 b1
  refine dO rest (λx vfr2 h2 hx=>?_) _ _ (hU hmix rest hrest e2 b3 e1 b4)
  obtain⟨e,fr',s2,ρ2,g1,g2,g3,g4,g5⟩:=hx
  cases e<;>cases x<;>first|exact g2.elim|exact g1.elim|skip
  all_goals
   obtain⟨y,v,k1,k2,k3⟩:=tU g4 g3 g1
   exact⟨by simp[k2],hR none none _ _ _ k1 trivial g4 g5⟩
end
section
open Go.Vv
variable{P:Program}
theorem SR.QH {ρ:NM} {s:SH} {h:aa} (hs:SR ρ s h) (x:dC):SR ρ s (h.push x)/\ch ρ h ρ (h.push x)/\∀o,ρ o≠.at h.next:=
 ⟨⟨λm z hz=>(hs.obj m z hz).move (λi hi=>aa.dm _ _ (by have:=hs.iD m i hi;omega)) (.refl ρ) rfl,hs.inj,λm i hi=>by have:=hs.iD m i hi;rw[aa.cA];omega,hs.free⟩,
  ⟨.refl ρ,λ_ _ h=>.inl ⟨_,h⟩,by rw[aa.cA];omega,λi hi _=>aa.dm _ _ (by omega)⟩,λo e=>by have:=hs.iD o _ e;omega⟩
def WR (h:aa) (v:VV) (e:Nat) (rs:List (List PV)):Prop:=(rs=[]/\v=.da)\/∃i cap ex,v=.ref i 0 rs.length e cap/\h.get i=some (.cells (ck (rs++ex)))/\∀r∈rs++ex,r.length=e
def Om (P:Program) (f:FuncId) (e:Nat):Prop:=∀(y c:Nat) (rs:List (List PV)) (h:aa) (I:Nat->aa->Prop) (R:aa->Prop),rs.length<=1000000->I rs.length h->(∀i hh,I i hh->∃v,hh.get c=some (.cells [v])/\WR hh v e rs)->
 (∀i r hh,rs[i]?=some r->I (i+1) hh->fV P y [.int .i64 i,.agg (r.map PV.v)] hh λr h'=>(r=.bool true/\I i h')\/(r=.bool false/\R h'))->(∀hh,I 0 hh->R hh)->bA P f [.CS y,.ptr c 0] h λr h'=>r=.ret (.bR [])/\R h'
theorem SG.back (hmix:P.follows .mixedOrders=true) {N:Fm} {fn f p0 p1 e oc os:Nat} {g:Operand} {a b:Code} {Q:ES} {ds:List EI} {fr:SF} {s:SH} {rs ex:List (List PV)} {cap:Option Nat} {n:Bool} (T:fI) (pol:vn) (J:Nat->Prop)
 (hB:Om P f e) (hbody:lD P f=true) (hlen:rs.length<=1000000) (hg:wH fr g λx=>x=.fn f [] [.ptr oc 0]) (hoc:ay s.bp oc=some (.cells [.ref os rs.length e cap])) (hos:ay s.bp os=some (.arr e (rs++ex) n))
 (hc:(decide (p0<N.n)&&decide (p1<N.n)&&aT ⟨N.n,[]⟩ a&&aT ⟨N.n,[]⟩ b)=true) (hJ:J rs.length)
 (hround:∀(i:Nat) r,rs[i]?=some r->J (i+1)->W (er P (SC P) (SL P ⟨N.n,[]⟩) T pol a (λx fr1 s1=>match x with
   |.normal=>er P (SC P) (SL P ⟨N.n,[]⟩) T pol b (λx fr2 s2=>match x with
    |.normal=>(vz [] [] s.next fr2 s2 λ_ s3=>s3=s)/\J i
    |.ret=>Q .ret (.mark::ds) fr s2
    |_=>False) fr1 s1
   |_=>False) ((p1,.agg (r.map .p))::(p0,.i i)::fr) s))
 (hend:J 0->W (Q .normal (.mark::ds) fr s)):SG P N fn g #[p0,p1] a b Q ds fr s:=by
 refine⟨λρ h vfr vds R hR hi hs hf=>?_⟩
 obtain⟨y,h1,h2⟩:=gH hf hg
 subst h1
 obtain⟨va,vc,h3,h4,h5⟩:=h2
 cases va with
 |cons=>exact h4.elim
 |nil=>
 obtain⟨oi,hoi⟩:∃i,ρ oc=.at i:=by obtain⟨i,_,h6,_⟩:=hs.obj _ _ hoc;exact⟨i,h6⟩
 have hvc:vc=[.ptr oi 0]:=by
  match vc,h5 with
  |[v],⟨h5,_⟩=>simp only[FR,hoi] at h5;rw[h5]
 subst hvc
 obtain⟨L,hL⟩:∃L:yO,L={st:=.ready,cK:=none,fr:=vfr,n:=N.n,ps:=#[p0,p1],assign:=a,body:=b,fn}:=⟨_,rfl⟩
 obtain⟨j1,j2,j3⟩:=hs.QH (.loop L)
 have hyn:h.next<(h.push (.loop L)).next:=by rw[aa.cA];omega
 have hyg:(h.push (.loop L)).get h.next=some (.loop L):=aa.dw h _
 generalize hy:h.next=y at hyn hyg j3
 generalize hhb:h.push (.loop L)=hb at hyn hyg j1 j2
 have look:∀{ρ':NM} {h':aa},ch ρ hb ρ' h'->h'.get y=some (.loop L)/\(∀o,ρ' o≠.at y)/\y<h'.next:=fun{ρ' h'} he=>⟨(he.gE y hyn j3).trans hyg,λo ho=>by
  rcases he.new o y ho with⟨o',h'⟩|h'
  ·exact j3 o' h'
  ·omega,Nat.lt_of_lt_of_le hyn he.next⟩
 have setX:∀{ρ':NM} {h':aa} (x:dC),ch ρ h ρ' h'->ch ρ h ρ' (h'.set y x):=fun{ρ' h'} x he=>⟨he.le,he.new,he.next,λi hi hn=>by rw[aa.aO _ _ (by omega)];exact he.gE i hi hn⟩
 simp only[o7,h3,List.nil_append,List.singleton_append]
 refine⟨hbody,?_⟩
 rw[hy,<-hL,hhb]
 refine(hB y oi rs hb (λi hh=>J i/\∃ρ',SR ρ' s hh/\ch ρ hb ρ' hh) (λhh=>(J 0/\∃ρ',SR ρ' s hh/\ch ρ hb ρ' hh)\/∃s' ρ',Q .ret (.mark::ds) fr s'/\SR ρ' s' hh/\ch ρ h ρ' hh/\(∀o,ρ' o≠.at y)/\hh.get y=some (.loop {L with st:=.done,cK:=some .ret}))
  hlen ⟨hJ,ρ,j1,.refl ρ hb⟩ ?_ ?_ λhh hI=>.inl hI).mono ?_
 ·rintro i hh ⟨_,ρ',k1,k2⟩
  obtain⟨ic,l,a1,a2,a3⟩:=k1.obj _ _ hoc
  have a0:ρ' oc=.at oi:=by
   rcases k2.le oc with b1|b1|b1
   ·rw[hoi] at b1;cases b1
   ·rw[b1,hoi]
   ·rw[b1] at a1;cases a1
  rw[a0] at a1;cases a1
  match l,a3 with
  |[v],⟨a3,_⟩=>
   refine⟨v,a2,?_⟩
   obtain⟨b0,⟨b1,b2,b3⟩|⟨b1,io,b2,b3⟩⟩:=k1.obj _ _ hos
   ·simp only[FR,b3] at a3
    exact .inl ⟨(List.append_eq_nil_iff.1 b1).1,a3.1⟩
   ·simp only[FR,b2] at a3
    exact .inr ⟨io,cap,ex,a3,b3,λr hr=>(b0.2 r hr).1⟩
 ·rintro i r hh hr ⟨hJi,ρ',k1,k2⟩
  obtain⟨g1,g2,g3⟩:=look k2
  refine ld ?_
  unfold yp
  rw[g1]
  subst hL
  refine⟨by simpa using hc,?_⟩
  simp only[Bool.and_eq_true] at hc
  have hrow:sW r:=by
   obtain⟨b0,_⟩:=k1.obj _ _ hos
   exact(b0.2 r (List.mem_append_left _ (List.mem_of_getElem? hr))).2
  have hf1:jN ρ' ((p1,.agg (r.map .p))::(p0,.i i)::fr) (wg ([p0,p1].zip [.int .i64 i,.agg (r.map PV.v)]) vfr):=by
   obtain⟨f1,e1,e2⟩:=(hf.mono (ρ':=ρ') (j2.trans k2).le).put (x:=.i i) (v:=.int .i64 i) (d:=some p0) (k:=λf=>f=(p0,.i i)::fr) ⟨rfl,rfl⟩ rfl
   obtain⟨f2,e3,e4⟩:=e1.put (x:=.agg (r.map .p)) (v:=.agg (r.map PV.v)) (d:=some p1) (k:=λf=>f=(p1,.agg (r.map .p))::f1) ⟨_,rfl,.pure ρ' hrow⟩ rfl
   subst e2 e4
   exact e3
  refine dO a (λx f1 hh1 hx=>?_) _ _ (hU hmix a hc.1.2 (hround i r hr hJi) k1 hf1 (.refl ρ' hh))
  obtain⟨x1,fr1,s1,ρ1,a1,a2,a3,a4,a5⟩:=hx
  cases x1<;>first|exact a1.elim|skip
  cases x<;>first|exact a2.elim|skip
  obtain⟨l1,l2,l3⟩:=look (k2.trans a5)
  simp only[VX.then,q8,l1]
  obtain⟨m1,_⟩:=a4.kI (i:=y) (.loop {st:=.busy,cK:=none,fr:=vfr,n:=N.n,ps:=#[p0,p1],assign:=a,body:=b,fn}) l2
  refine dO b (λx f2 hh3 hx=>?_) _ _ (hU hmix b hc.2 a1 m1 a3 (.refl ρ1 _))
  obtain⟨x2,fr2,s2,ρ2,b1,b2,b3,b4,b5⟩:=hx
  have hy3:=(b5.gE y l3 l2).trans (aa.bQ ..)
  have hny:∀o,ρ2 o≠.at y:=λo ho=>by
   rcases b5.new o y ho with⟨o',h'⟩|h'
   ·exact l2 o' h'
   ·rw[aa.Ic] at h';omega
  cases x2<;>first|exact b1.elim|skip
  all_goals(cases x<;>first|exact b2.elim|skip)
  ·obtain⟨b1,b0⟩:=b1
   simp only[Ei,gR,hy3]
   refine .inl ⟨rfl,b0,?_⟩
   obtain⟨c1,_⟩:=b4.kI (i:=y) (.loop {st:=.ready,cK:=none,fr:=vfr,n:=N.n,ps:=#[p0,p1],assign:=a,body:=b,fn}) hny
   have c2:ch ρ' hh ρ2 (hh3.set y (.loop {st:=.ready,cK:=none,fr:=vfr,n:=N.n,ps:=#[p0,p1],assign:=a,body:=b,fn})):=by
    refine⟨a5.le.trans b5.le,λo i hi=>?_,Nat.le_trans a5.next b5.next,λi hi hn=>?_⟩
    ·rcases b5.new o i hi with⟨o',h'⟩|h'
     ·exact a5.new o' i h'
     ·exact .inr (Nat.le_trans a5.next h')
    ·by_cases e:i=y
     ·subst e;rw[aa.bQ,g1]
     ·rw[aa.aO _ _ e,b5.gE i (Nat.lt_of_lt_of_le hi a5.next) (λo ho=>?_),aa.aO _ _ e,a5.gE i hi hn]
      rcases a5.new o i ho with⟨o',h'⟩|h'
      ·exact hn o' h'
      ·omega
   obtain⟨us,s3,ρ3,d1,d2,d3,_⟩:=wY j1 c1 (b3.mono (.refl ρ2)) (k2.trans c2) b1
   subst d1
   exact⟨ρ3,d2,d3⟩
  ·simp only[Ei,gR,hy3]
   exact .inr ⟨rfl,.inr ⟨s2,ρ2,b1,(b4.kI _ hny).1,setX _ ((setX _ ((j2.trans k2).trans a5)).trans b5),hny,aa.bQ ..⟩⟩
 ·rintro r h2 ⟨rfl,⟨hJ0,ρ',k1,k2⟩|⟨s',ρ',k0,k1,k2,k3,k4⟩⟩
  ·obtain⟨l1,l2,l3⟩:=look k2
   subst hL
   simp only[jH,l1,qm]
   exact hR .normal .normal _ _ _ _ _ _ _ (hend hJ0) trivial (IR.mono (l:=.mark::ds) (m:=.mark::vds) k2.le hi) (hf.mono k2.le) (k1.kI _ l2).1 (setX _ (j2.trans k2))
  ·subst hL
   simp only[jH,k4,qm]
   exact hR .ret .ret _ _ _ _ _ _ _ k0 trivial (IR.mono (l:=.mark::ds) (m:=.mark::vds) k2.le hi) (hf.mono k2.le) (k1.kI _ k3).1 (setX _ k2)
end
end Go.Ee
namespace Go.Proofs.YtdjkoddnnogejaaGreat
section
set_option maxRecDepth 100000
set_option maxHeartbeats 4000000
open Go.Vv Go.Ee
attribute [local simp] VX.then VX.inBlock Pk ez dB rR aK fT iI ev put Fr.dY fp eV ju ofValue dH jK cD oX wi fQ.on gz jJ dQ List.lookup VV.cells VV.gh iM
theorem Ls:Om Tryz.prog 305 2:=by
 intro y c rs h I R hll hI0 hcap hy hR
 have u91:Tryz.prog.underlying 91=some (.slice 212):=by kernel_rfl
 have hsl:∀{hh:aa} {v:VV},WR hh v 2 rs->lT Tryz.prog 91 v hh=some (.int .i64 rs.length)/\v.cells=[v]/\v.gh=false:=by
  rintro hh v (⟨rfl,rfl⟩|⟨i,cap,ex,rfl,_,_⟩)
  ·exact⟨by kernel_rfl,rfl,rfl⟩
  ·exact⟨by simp[lT,u91],rfl,rfl⟩
 obtain⟨v,hc1,hs⟩:=hcap _ _ hI0
 obtain⟨hln,hcl,_⟩:=hsl hs
 have wsub:∀n:Nat,n<=1000000->IntKind.i64.wrap ((n:Int)-1)=(n:Int)-1:=λn hn=>by
  exact Go.IntWalk.i64_in _ ⟨by omega,by omega⟩
 have a91:uk Tryz.prog 91=some false:=by kernel_rfl
 have a212:uk Tryz.prog 212=some true:=by kernel_rfl
 have z212:cE Tryz.prog 212=2:=by kernel_rfl
 have hw1:=wsub rs.length hll
 simp only[VV.cells] at hcl
 refine jF (by kernel_rfl) (SS Tryz.func305 rfl λQ hret hn hp=>?_)
 clear hp
 repeat' first
  |((with_reducible refine hK _ _ ?_);clear hK K)
  |((with_reducible refine Sf λK hK=>?_);simp[a91,hc1,hln,hcl,hw1])
  |((with_reducible refine Kj ?_);simp)
  |((with_reducible refine CD λK hK=>?_))
  |((with_reducible refine Ej ?_))
  |((with_reducible refine CC ?_);(conv=>arg 3;whnf);(with_reducible refine CE ?_))
 refine Og rs.length (λj fr h'=>fr.at 0=.CS y/\fr.at 1=.ptr c 0/\fr.at 3=.int .i64 ((rs.length:Int)-1-j)/\I (rs.length-j) h') ?_ ?_ ?_
 ·exact⟨by simp,by simp,by simp,by simpa using hI0⟩
 ·rintro j fr h' hj ⟨hi0,hi1,hi3,hI⟩ L hL
  obtain⟨i,hij⟩:∃i,rs.length-j=i+1:=⟨rs.length-j-1,by omega⟩
  have hil:i<rs.length:=by omega
  have hi3':fr.at 3=.int .i64 (i:Nat):=by rw[hi3];congr 1;omega
  clear hi3
  rw[hij] at hI
  obtain⟨v,hc1,hs⟩:=hcap _ _ hI
  have hw2:=wsub i (by omega)
  obtain⟨_,hcl,htp⟩:=hsl hs
  simp only[VV.cells] at hcl
  simp only[VV.gh] at htp
  obtain⟨r,hr⟩:∃r,rs[i]?=some r:=⟨rs[i],by simp[hil]⟩
  obtain⟨o,cc,hvi,hgo,hdr,hdl⟩:∃o cc,dA Tryz.prog 91 v (.int .i64 (i:Nat))=some (.ptr o (i*2))/\h'.get o=some (.cells cc)/\(cc.drop (i*2)).take 2=r.map PV.v/\i*2+2<=cc.length:=by
   rcases hs with⟨he,_⟩|⟨o,cap,ex,rfl,h2,h3⟩
   ·subst he;simp at hil
   ·have hr2:(rs++ex)[i]?=some r:=by rw[List.getElem?_append_left hil];exact hr
    have hrl:=h3 r (List.mem_of_getElem? hr2)
    obtain⟨m,hm⟩:=wc h3 hr2
    refine⟨o,_,?_,h2,by rw[hm,List.take_left' (by simp[hrl])],?_⟩
    ·have hle:(i:Int)<(rs.length:Int):=by omega
     simp[dA,u91,z212,hle]
    ·rw[je h3,List.length_append];omega
  (try clear hK)
  repeat' first
   |((with_reducible refine hK _ _ ?_);clear hK K)
   |((with_reducible refine Sf λK hK=>?_);simp[a91,u91,a212,z212,hc1,hcl,htp,hi0,hi1,hi3',hw2,hvi,hgo,hdr,hdl])
   |((with_reducible refine Kj ?_);simp)
   |((with_reducible refine U1 ?_ (λhg=>?_) (λhg=>?_));(focus simp[-Bool.not_eq_eq_eq_not];done);all_goals(try simp[a91,u91,a212,z212,hc1,hcl,htp,hi0,hi1,hi3',hw2,hvi,hgo,hdr,hdl] at hg))
   |((with_reducible refine CD λK hK=>?_))
   |((with_reducible refine Ej ?_))
   |((with_reducible refine CC ?_);(conv=>arg 3;whnf);(with_reducible refine CE ?_))
   |((with_reducible refine K4 ?_);simp)
   |((with_reducible refine K3 ?_);simp)
   |((with_reducible refine hL _ _ ?_);clear hL)
   |((with_reducible refine Pm ?_);simp;refine hret _ _ _ rfl ?_)
   |((with_reducible refine Pm ?_);refine hret _ _ _ rfl ?_)
   |((refine fV.Uj ?_ (hy i r _ hr hI));(rintro r hY (⟨rfl,hI2⟩|⟨rfl,hRR⟩)<;>(try simp[a91,u91,a212,z212,hc1,hcl,htp,hi0,hi1,hi3',hw2,hvi,hgo,hdr,hdl])))
   |(with_reducible apply_assumption (exfalso:=false) (symm:=false))
   |((with_reducible refine hn _ _ _ rfl ?_))
  ·refine⟨by simp[hi0],by simp[hi1],?_,by rw[show rs.length-(j+1)=i by omega];exact hI2⟩
   simp
   omega
  ·exact⟨by simp,hRR⟩
 ·rintro fr h' ⟨hi0,hi1,hi3,hI⟩ L
  rw[Nat.sub_self] at hI
  have hi3':fr.at 3=.int .i64 (-1):=by rw[hi3];congr 1;omega
  clear hi3
  repeat' first
   |((with_reducible refine hK _ _ ?_);clear hK K)
   |((with_reducible refine Sf λK hK=>?_);simp[hi0,hi1,hi3'])
   |((with_reducible refine Kj ?_);simp)
   |((with_reducible refine U1 ?_ (λhg=>?_) (λhg=>?_));(focus simp[-Bool.not_eq_eq_eq_not];done);all_goals(try simp[hi0,hi1,hi3'] at hg))
   |((with_reducible refine CD λK hK=>?_))
   |((with_reducible refine CC ?_);(conv=>arg 3;whnf);(with_reducible refine CE ?_))
   |((with_reducible refine K4 ?_);simp)
   |((with_reducible refine K3 ?_);simp)
   |((with_reducible refine hn _ _ _ rfl ?_))
   |(with_reducible apply_assumption (exfalso:=false) (symm:=false))
  exact⟨by simp,hR _ hI⟩
end
end Go.Proofs.YtdjkoddnnogejaaGreat
namespace Go.Ee
section
open Go.Vv
variable{P:Program}
theorem _root_.Go.Vv.bA.wT {f:FuncId} {args:List VV} {h:aa} {R R':fQ->aa->Prop} (hc:bA P f args h R)
 (hp:∀v h',R (.panic v) h'->R' (.panic v) h') (hR:∀v h',R (.ret v) h'->∃a b fr2 h2,v=.bR [a,b]/\uO (Tr.set (Tr.set .nil 0 a) 1 b) h' fr2 h2/\R' (.ret (.bR [fr2.at 0,fr2.at 1])) h2):bA P f args h R':=by
 intro F n hF G w vargs hr ha o a K Q hK hQ
 refine hc F n hF G w vargs hr ha o a K Q (λG' w' h' y v hv hy hr' he=>?_) (λG' w' h' y v hv=>hQ G' w' h' y v (hp _ _ hv))
 obtain⟨a1,b1,fr2,h2,rfl,hz,hR2⟩:=hR _ _ hv
 cases hy with
 |@bR _ arr hlen hel=>
  have hsz:arr.size=2:=by simpa using hlen.symm
  have e0:RV G' a1 (arr.getD 0 Go.undef):=by
   have:=hel 0 (by simp) (by omega)
   simpa[Array.getD,hsz] using this
  have e1:RV G' b1 (arr.getD 1 Go.undef):=by
   have:=hel 1 (by simp) (by omega)
   simpa[Array.getD,hsz] using this
  have hf:lf G' ⟨2,[]⟩ (Tr.set (Tr.set .nil 0 a1) 1 b1) arr:=by
   refine⟨hsz,λt=>?_⟩
   rw[Fr.dY]
   by_cases e:t=1
   ·subst e;rw[if_pos rfl];exact e1
   ·rw[if_neg e,Fr.dY]
    by_cases e2:t=0
    ·subst e2;rw[if_pos rfl];exact e0
    ·rw[if_neg e2]
     have e3:arr.getD t Go.undef=Go.undef:=by simp[Array.getD,hsz];omega
     rw[e3]
     exact .undef G'
  obtain⟨G2,a1',a2,a3⟩:=hz.sound hr' hf
  refine hK G2 w' h2 _ _ hR2 ?_ a1' (he.trans a3)
  refine .bR (by simpa using hsz.symm) λj h1 h2=>?_
  have:=a2.2 j
  have hj:j=0\/j=1:=by simp at h1;omega
  rcases hj with rfl|rfl<;>simpa[Array.getD,h2] using this
def FJ:TV->EV
 |.f x=>.f x
 |.agg cs=>.agg cs
def Cm (x:TV) (k:List Nat->Prop):Prop:=match x with|.f x=>vU [x] k|.agg cs=>vU cs k
def tr (e:aR) (s:SH) (K:aR->SH->Prop):Prop:=
 match e with
 |.ret (.bR [a,b])=>Cm a λl=>Cm b λm=>mG (l++m) [(1,FJ b),(0,FJ a)] s λfr s=>Tf (gO fr 0) λx=>Tf (gO fr 1) λy=>K (.ret (.bR [x,y])) s
 |.ret _=>False
 |.panic v=>K (.panic v) s
theorem AE {x:TV} {k:List Nat->Prop} (hk:Cm x k):∃r,k r:=by cases x<;>exact lM hk
theorem xZ {ρ:NM} {x:TV} {v:VV}:TR ρ x v↔ER ρ (FJ x) v:=by cases x<;>exact Iff.rfl
theorem Pe {x:EV} {k:TV->Prop} (hk:Tf x k):∃y,k y/\x=FJ y:=by
 unfold Tf at hk
 split at hk
 ·exact⟨_,hk,rfl⟩
 ·exact⟨_,hk,rfl⟩
 ·exact hk.elim
theorem SC.wT {f:FuncId} {args:List EV} {s:SH} {K:aR->SH->Prop} (hk:SC P f args s λe s1=>tr e s1 K):SC P f args s K:=by
 refine⟨λρ h vargs hs ha=>?_⟩
 refine(hk.run ρ h vargs hs ha).wT (λv h' ⟨e,s1,ρ1,h1,h2,h3,h4⟩=>?_) λv h' ⟨e,s1,ρ1,h1,h2,h3,h4⟩=>?_
 ·cases e with
  |ret x=>exact h2.elim
  |panic x=>exact⟨_,s1,ρ1,h1,h2,h3,h4⟩
 ·have h1:tr e s1 K:=h1
  unfold tr at h1
  split at h1
  ·rename_i a b h1'
   obtain⟨m,rfl,hm⟩:=h2
   match m,hm with
   |[v1,v2],⟨r1,r2,_⟩=>
    obtain⟨l,h5⟩:=AE h1
    obtain⟨l2,h6⟩:=AE h5
    have hf:jN ρ1 [(1,FJ b),(0,FJ a)] (Tr.set (Tr.set .nil 0 v1) 1 v2):=λt=>by
     simp only[gO,al,Fr.dY]
     by_cases e:t=1
     ·simpa[e] using xZ.1 r2
     ·by_cases e2:t=0
      ·simpa[e,e2] using xZ.1 r1
      ·simp[e,e2,ay];trivial
    obtain⟨fr',s',ρ',vfr',h2',a1,a2,a3,a4,a5⟩:=pL h6 h3 hf
    obtain⟨x,b1,b2⟩:=Pe a1
    obtain⟨y,c1,c2⟩:=Pe b1
    have d0:=a4 0
    have d1:=a4 1
    rw[b2] at d0;rw[c2] at d1
    exact⟨_,_,vfr',h2',rfl,a2,_,s',ρ',c1,⟨_,rfl,xZ.2 d0,xZ.2 d1,trivial⟩,a3,h4.trans a5⟩
  ·exact h1.elim
  ·exact h2.elim
end
end Go.Ee
