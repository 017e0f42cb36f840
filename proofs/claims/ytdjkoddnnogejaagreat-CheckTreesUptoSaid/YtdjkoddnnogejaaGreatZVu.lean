/- Part of the proof of CheckTrees: plain laws and steps of its walks, for all arguments. -/
import Derived.Test.YtdjkoddnnogejaaGreatZVq
set_option linter.unusedSimpArgs false
set_option linter.unusedVariables false
set_option linter.unusedSectionVars false
namespace Go.Vv
section
variable{P:Program} {G:ab} {w:World} {F:Fence} {n:Nat}
inductive bO where
 |call (f:FuncId) (args:List VV)
 |mark
def DR (G:ab) (w:World) (B:Nat):List bO->List Deferred->Prop
 |[],[]=>True
 |.call f args::ds,d::l=>(∃cap,d.target=.fn (.func f) cap/\cO G args (d.args++cap).toList)/\DR G w B ds l
 |.mark::ds,d::l=>(∃r,d.target=.collected r/\B<=r/\w.heap[r]?=some (.deferred (some []))/\(∀o m,G.φ o=some m->m.1≠r)/\(∀i,G.I r i=none)/\(∀d2∈l,d2.target≠.collected r))/\DR G w B ds l
 |_,_=>False
theorem DR.ext {G':ab} {w':World} {B:Nat} (he:Ext G G' w w'):∀{ds:List bO} {l:List Deferred},DR G w B ds l->DR G' w' B ds l
 |[],[],_=>trivial
 |.call _ _::_,_::_,⟨⟨cap,h1,h2⟩,h3⟩=>⟨⟨cap,h1,h2.mono he.le⟩,h3.ext he⟩
 |.mark::_,_::_,⟨⟨r,h1,h2,h3,h4,h5,h6⟩,h7⟩=>by
  have hlt:r<w.heap.size:=(Array.getElem?_eq_some_iff.1 h3).1
  refine⟨⟨r,h1,h2,by rw[he.Fg r hlt h4 (.inl h5)];exact h3,λo m hm=>?_,λi=>?_,h6⟩,h7.ext he⟩
  ·rcases he.own o m hm with⟨o',m',h8,h9⟩|h8
   ·exact h9▸h4 o' m' h8
   ·omega
  ·cases hc:G'.I r i with
   |none=>rfl
   |some v=>
    rcases he.BZ r i v hc with⟨i',v',h8⟩|⟨o,m,h8,h9⟩|h8
    ·rw[h5 i'] at h8;cases h8
    ·exact absurd h9 (h4 o m h8)
    ·omega
 |[],_::_,h=>h.elim
 |.call .. ::_,[],h=>h.elim
 |.mark::_,[],h=>h.elim
theorem DR.lt {B:Nat}:∀{ds:List bO} {l:List Deferred},DR G w B ds l->∀d∈l,∀r,d.target=.collected r->r<w.heap.size
 |[],[],_,d,hd,_,_=>by simp at hd
 |.call _ _::_,_::_,⟨⟨cap,h1,_⟩,h3⟩,d,hd,r,hr=>by
  rcases List.mem_cons.1 hd with rfl|hd
  ·rw[h1] at hr;cases hr
  ·exact h3.lt d hd r hr
 |.mark::_,_::_,⟨⟨r',h1,_,h3,_⟩,h7⟩,d,hd,r,hr=>by
  rcases List.mem_cons.1 hd with rfl|hd
  ·rw[h1] at hr;cases hr;exact(Array.getElem?_eq_some_iff.1 h3).1
  ·exact h7.lt d hd r hr
 |[],_::_,h,_,_,_,_=>h.elim
 |.call .. ::_,[],h,_,_,_,_=>h.elim
 |.mark::_,[],h,_,_,_,_=>h.elim
theorem DR.put {B r0:Nat} {o:Obj}:∀{ds:List bO} {l:List Deferred},(∀d∈l,d.target≠.collected r0)->DR G w B ds l->DR G (w.putObj r0 o) B ds l
 |[],[],_,_=>trivial
 |.call _ _::_,_::_,hn,⟨h1,h3⟩=>⟨h1,h3.put (λd hd=>hn d (by simp[hd]))⟩
 |.mark::_,d::_,hn,⟨⟨r,h1,h2,h3,h4,h5,h6⟩,h7⟩=>by
  have hne:r≠r0:=λe=>hn d (by simp) (e▸h1)
  exact⟨⟨r,h1,h2,by rw[World.putObj_heap_other hne];exact h3,h4,h5,h6⟩,h7.put (λd hd=>hn d (by simp[hd]))⟩
 |[],_::_,_,h=>h.elim
 |.call .. ::_,[],_,h=>h.elim
 |.mark::_,[],_,h=>h.elim
theorem Rel.xF {h:aa} (hr:Rel G h w) {r:Nat} {o:Obj} (hφ:∀o m,G.φ o=some m->m.1≠r) (hI:∀i,G.I r i=none) (hr0:r≠0):Rel G h (w.putObj r o) where
 kq:=λb i v hv=>by
  have hne:b≠r:=λe=>by subst e;rw[hI i] at hv;cases hv
  rw[<-hr.kq b i v hv]
  exact World.cell?_of_block (World.putObj_heap_other hne)
 obj:=λo' b base k hm=>by
  obtain⟨x,hx,hat⟩:=hr.obj o' b base k hm
  exact⟨x,hx,hat.mono (.refl G) (World.putObj_heap_other (hφ o' _ hm))⟩
 inj:=hr.inj
 sep:=hr.sep
 iD:=hr.iD
 dead:=hr.dead
 num:=hr.num
 fresh:=hr.fresh
 low:=by simpa using hr.low
 mx:=⟨by obtain⟨m,hm⟩:=hr.mx.cell;exact⟨m,by rw[<-hm];exact World.cell?_of_block (World.putObj_heap_other (Ne.symm hr0))⟩,hr.mx.own,hr.mx.Qm⟩
theorem Ext.xF {G0:ab} {w0:World} (he:Ext G0 G w0 w) {r:Nat} {o:Obj} (hr:w0.heap.size<=r):Ext G0 G w0 (w.putObj r o):=
 .mk' ⟨he.le,by simpa using he.size,λb hb h1 h2=>by rw[World.putObj_heap_other (by omega)];exact he.Fg b hb h1 h2,he.own,he.BZ,he.os,he.tape,he.output⟩ he.toYoung
theorem Rel.QH {h:aa} (hr:Rel G h w) (B:Obj):Rel G h (w.alloc B)/\Ext G G w (w.alloc B):=by
 refine Rel0.pair hr.mx ⟨?_,?_,hr.inj,hr.sep,hr.iD,hr.dead,hr.num,hr.fresh,by simpa using Nat.le_succ_of_le hr.low⟩ (.mk' ⟨.refl G,by simp,λb hb _ _=>heap_alloc_old w B b hb,λo m h=>.inl ⟨o,m,h,rfl⟩,λ_ i v h=>.inl ⟨i,v,h⟩,rfl,rfl,rfl⟩ (.refl G))
 ·intro b i v hv
  rw[<-hr.kq b i v hv]
  exact World.cell?_of_block (heap_alloc_old w B b (hr.fJ hv))
 ·intro o b base k hm
  obtain⟨y,hy,hyt⟩:=hr.obj o b base k hm
  exact⟨y,hy,hyt.mono (.refl G) (heap_alloc_old w B b (hr.fX hm))⟩
def nA (o:Oper):Option Call:=
 match o.op with
 |.defer c=>some c
 |_=>none
abbrev QS:=VX->List bO->Fr->aa->Prop
def VX.thenS (K:List bO->Fr->aa->Prop) (Q:QS):QS
 |.normal,ds,fr,h=>K ds fr h
 |x,ds,fr,h=>Q x ds fr h
def VX.kF (id:Nat) (Q:QS):QS
 |.exit id',ds,fr,h=>if id'=id then Q .normal ds fr h else Q (.exit id') ds fr h
 |x,ds,fr,h=>Q x ds fr h
def oF (P:Program) (ops:Array Oper) (Q:QS):List Oper->List bO->Fr->aa->Prop
 |[],ds,fr,h=>Q .normal ds fr h
 |o::rest,ds,fr,h=>
  if cf ops fr o=true then
   match nA o with
   |some c=>match dH fr c with
    |some (f,args)=>oF P ops Q rest (.call f args::ds) (put fr o.dst .undef) h
    |none=>False
   |none=>ez P o fr h (λfr h=>oF P ops Q rest ds fr h) (λx fr h=>Q x ds fr h)
  else oF P ops Q rest ds (put fr o.dst .undef) h
def lD (P:Program) (f:FuncId):Bool:=
 match P.funcs[f]? with
 |some fn=>fn.body.isSome&&!(fn.name== "runtime.NumGoroutine")
 |none=>false
def qm (Q:QS) (ds:List bO) (fr:Fr) (h:aa):Option Code->Prop
 |none=>Q .normal ds fr h
 |some .ret=>Q .ret ds fr h
 |some (.exit id)=>Q (.exit id) ds fr h
 |some _=>False
def o7 (P:Program) (N:Fm) (fn:Nat) (g:Operand) (ps:Array Tmp) (assign body:Code) (Q:QS) (ds:List bO) (fr:Fr) (h:aa):Prop:=
 match ev fr g with
 |.fn (.func f) first cap=>
  lD P f=true/\
  bA P f (first++[.CS h.next]++cap) (h.push (.loop {st:=.ready,cK:=none,fr,n:=N.n,ps,assign,body,fn})) λr h2=>
   match r with
   |.panic v=>Q (.panic v) (.mark::ds) fr h2
   |.ret _=>match jH h.next h2 with
    |some (j,h3)=>qm Q (.mark::ds) fr h3 j
    |none=>False
 |_=>False
def AR (P:Program) (N:Fm) (fn:Nat):Code->QS->List bO->Fr->aa->Prop
 |.seq a b,Q=>AR P N fn a (VX.thenS (AR P N fn b Q) Q)
 |.block id c,Q=>AR P N fn c (VX.kF id Q)
 |.region _ ops false,Q=>oF P ops Q ops.toList
 |.rangeFunc g ps assign body,Q=>o7 P N fn g ps assign body Q
 |c,Q=>λds=>gB P N c (λx fr h=>Q x ds fr h)
def cQ (N:Fm):Code->Bool
 |.seq a b=>cQ N a&&cQ N b
 |.block _ c=>cQ N c
 |.region _ ops _=>ops.toList.all (bd N)
 |.rangeFunc g _ _ _=>(match g with|.const v=>e9 v|_=>true)
 |c=>aT N c
def eG (G:ab) (w:World) (B:Nat) (N:Fm) (a:Act) (Q:QS):Exit->Act->World->Prop:=λe a' w'=>
 (∀t∈N.gE,a'.tmps.getD t Go.undef=a.tmps.getD t Go.undef)/\∃x ds fr' h' G',Q x ds fr' h'/\XR G' x e/\(x.Du=false->lf G' N fr' a'.tmps)/\DR G' w' B ds a'.defers/\Rel G' h' w'/\Ext G G' w w'
def Pt (G:ab) (w:World) (B:Nat) (N:Fm) (a:Act) (K:List bO->Fr->aa->Prop):Act->World->Prop:=λa' w'=>
 (∀t∈N.gE,a'.tmps.getD t Go.undef=a.tmps.getD t Go.undef)/\∃ds fr' h' G',K ds fr' h'/\lf G' N fr' a'.tmps/\DR G' w' B ds a'.defers/\Rel G' h' w'/\Ext G G' w w'
theorem eG.shift {B:Nat} {N:Fm} {a0 a1:Act} {Q:QS} {G':ab} {w':World} (hk:∀t∈N.gE,a1.tmps.getD t Go.undef=a0.tmps.getD t Go.undef) (he:Ext G G' w w')
 {e:Exit} {a:Act} {w2:World} (h:eG G' w' B N a1 Q e a w2):eG G w B N a0 Q e a w2:=by
 obtain⟨h1,x,ds,fr,h',G2,h2,h3,h4,h5,h6,h7⟩:=h
 exact⟨λt ht=>(h1 t ht).trans (hk t ht),x,ds,fr,h',G2,h2,h3,h4,h5,h6,he.trans h7⟩
theorem eG.of {B:Nat} {N:Fm} {a0:Act} {Q:QS} {ds:List bO} (hd:DR G w B ds a0.defers) {e:Exit} {a:Act} {w2:World} (h:cP G w N a0 (λx fr h=>Q x ds fr h) e a w2):eG G w B N a0 Q e a w2:=by
 obtain⟨h1,x,fr,h',G2,h2,h3,h4,h5,h6⟩:=h
 exact⟨h1.2,x,ds,fr,h',G2,h2,h3,h4,by rw[h1.1];exact hd.ext h6,h5,h6⟩
theorem eG.next {B:Nat} {N:Fm} {a0:Act} {Q:QS} {K:List bO->Fr->aa->Prop} {e:Exit} {a:Act} {w2:World}
 (h:eG G w B N a0 (VX.thenS K Q) e a w2) {R:Act->World->Prop} (hR:Pt G w B N a0 K a w2->R a w2):Exit.then R (eG G w B N a0 Q) e a w2:=by
 obtain⟨h1,x,ds,fr,h',G2,h2,h3,h4,h5,h6,h7⟩:=h
 cases x with
 |normal=>
  cases e<;>simp only[XR] at h3
  exact hR ⟨h1,ds,fr,h',G2,h2,h4 rfl,h5,h6,h7⟩
 |exit i=>
  cases e<;>simp only[XR] at h3
  exact⟨h1,.exit i,ds,fr,h',G2,h2,h3,h4,h5,h6,h7⟩
 |ret=>
  cases e<;>simp only[XR] at h3
  exact⟨h1,.ret,ds,fr,h',G2,h2,trivial,h4,h5,h6,h7⟩
 |panic v=>
  cases e<;>simp only[XR] at h3
  exact⟨h1,.panic v,ds,fr,h',G2,h2,h3,h4,h5,h6,h7⟩
theorem kB {ops:Array Oper} {Q Q':Exit->Act->World->Prop} (hQ:∀e a w,Q e a w->Q' e a w):∀(l:List Oper) (a:Act) (w:World),wpListIn F n P ops Q l a w->wpListIn F n P ops Q' l a w:=by
 intro l
 induction l with
 |nil=>intro a w h;exact hQ _ _ _ h
 |cons o l ih=>
  intro a w h
  simp only[wpListIn] at h⊢
  split
  ·rename_i hw
   rw[if_pos hw] at h
   exact jL (λa w=>ih a w) hQ h
  ·rename_i hw
   rw[if_neg hw] at h
   exact⟨h.1,ih _ _ h.2⟩
theorem za (hF:dR F) (hro:F.round=none) {fr:Fr} {a:Act} {o:Oper} {c:Call} (hop:o.op=.defer c) (hops:∀x∈o.op.operands,RV G (ev fr x) (a.eval x))
 {f:FuncId} {args:List VV} (hcal:dH fr c=some (f,args)) {K:Act->World->Prop} {Q:Exit->Act->World->Prop}
 (hK:∀d cap,d.target=.fn (.func f) cap->cO G args (d.args++cap).toList->K ({a with defers:=d::a.defers}.put o.dst Go.undef) w):o.wpIn F n P a w K Q:=by
 unfold dH at hcal
 split at hcal
 ·rename_i fo hcl
  split at hcal
  ·rename_i id first captured hfo
   cases hcal
   rw[hop] at hops
   have hfv:=hops fo (by simp[Op.operands,Call.operands,hcl])
   rw[hfo] at hfv
   generalize hval:a.eval fo=fv at hfv
   cases hfv with
   |fn e1 e2 e3 e4=>
    rename_i av cv
    have hargs:cO G (first++c.args.toList.map (ev fr)++captured) ((av++c.args.map a.eval)++cv).toList:=by
     simp only[Array.toList_append]
     refine cO.append (cO.append ⟨by simpa using e1,λj h1 h2=>?_⟩ ?_) ⟨by simpa using e2,λj h1 h2=>?_⟩
     ·simpa using e3 j h1 (by simpa using h2)
     ·exact cO.tE (λx hx=>hops x (by simp[Op.operands,Call.operands,hx]))
     ·simpa using e4 j h1 (by simpa using h2)
    have hrun:(execOp a.eval o).run P w=.ok (.defer {target:=.fn (.func f) cv,args:=av++c.args.map a.eval}) w:=by
     unfold execOp
     simp[hop,resolve,hcl,hval,Deferred.ofValue]
    unfold Oper.wpIn
    refine⟨λf _=>hF.fn f,?_⟩
    rw[hro,Oper.semAt_none,hrun,Oper.uponIn_defer]
    exact hK _ cv rfl hargs
  ·cases hcal
 ·cases hcal
theorem BF {o:Oper} {c:Call} (h:nA o=some c):o.op=.defer c:=by
 unfold nA at h
 split at h
 ·rename_i c' hop;cases h;exact hop
 ·cases h
theorem AN (hF:dR F) (hro:F.round=none) {B:Nat} {N:Fm} {ops:Array Oper} (hops:∀(j:Nat) (o:Oper),ops[j]?=some o->bd N o=true) {Q:QS}:
 ∀(l:List Oper) (G:ab) (w:World) (ds:List bO) (fr:Fr) (h:aa) (a:Act),(∀o∈l,bd N o=true)->Rel G h w->lf G N fr a.tmps->DR G w B ds a.defers->oF P ops Q l ds fr h->
  wpListIn F n P ops (eG G w B N a Q) l a w:=by
 intro l
 induction l with
 |nil=>intro G w ds fr h a _ hr hf hd hv;exact⟨λ_ _=>rfl,.normal,ds,fr,h,G,hv,trivial,λ_=>hf,hd,hr,.refl G w⟩
 |cons o l ih=>
  intro G w ds fr h a hl hr hf hd hv
  have ho:=hl o (by simp)
  have hw:Region.wanted o (yielded ops a.tmps)=cf ops fr o:=by
   unfold cf
   congr 1
   funext j
   exact qq hf hops j
  simp only[oF] at hv
  simp only[wpListIn,hw]
  split
  ·rename_i hwant
   rw[if_pos hwant] at hv
   split at hv
   ·rename_i c hdef
    split at hv
    ·rename_i f args hcal
     refine za hF hro (BF hdef) (nw hf ho) hcal λd cap ht hargs=>?_
     have hf2:lf G N fr ({a with defers:=d::a.defers}:Act).tmps:=hf
     have hp:=hf2.put (.undef G) ho
     have hih:=ih G w (.call f args::ds) _ h ({a with defers:=d::a.defers}.put o.dst Go.undef) (λo ho'=>hl o (by simp[ho'])) hr hp.1 (by rw[sI];exact⟨⟨cap,ht,hargs⟩,hd⟩) hv
     exact kB (λe a2 w2 h2=>eG.shift hp.2.2 (.refl G w) h2) _ _ _ hih
    ·exact hv.elim
   ·refine jL (λa' w' hn=>?_) (λe a' w' hp=>eG.of hd hp) (rX hF hr hf ho hv)
    obtain⟨hs,fr',h',G',hK,hf',hr',he⟩:=hn
    have hih:=ih G' w' ds fr' h' a' (λo ho'=>hl o (by simp[ho'])) hr' hf' (by rw[hs.1];exact hd.ext he) hK
    exact kB (λe a2 w2 h2=>eG.shift hs.2 he h2) _ _ _ hih
  ·rename_i hwant
   rw[if_neg hwant] at hv
   have hp:=hf.put (.undef G) ho
   have hih:=ih G w ds _ h _ (λo ho'=>hl o (by simp[ho'])) hr hp.1 (by rw[sI];exact hd) hv
   exact⟨λf _=>hF.fn f,kB (λe a2 w2 h2=>eG.shift hp.2.2 (.refl G w) h2) _ _ _ hih⟩
theorem pN {f:FuncId} (hb:lD P f=true):∃fn c,P.funcs[f]?=some fn/\(fn.name== "runtime.NumGoroutine")=false/\fn.body=some c:=by
 unfold lD at hb
 cases hf:P.funcs[f]? with
 |none=>simp[hf] at hb
 |some fn=>
  simp only[hf,Bool.and_eq_true,Bool.not_eq_true'] at hb
  obtain⟨c,hc⟩:=Option.isSome_iff_exists.1 hb.1
  exact⟨fn,c,rfl,hb.2,hc⟩
def SZ:Oper:={dst:=some 0,op:=.move (.const (.bool true)),type:=0,pos:= "",after:=#[],guard:=none}
theorem bA.C3 {f:FuncId} (hb:lD P f=true) {args:List VV} {h:aa} {R:fQ->aa->Prop} (hc:bA P f args h R) (hF:dR F) (hr:Rel G h w) {vargs:Array Value}
 (ha:cO G args vargs.toList) {R':Ending->World->Prop}
 (hret:∀G' w' h' y v,R (.ret v) h'->RV G' v y->Rel G' h' w'->Ext G G' w w'->R' (.returned y) w')
 (hpan:∀G' w' h' y v,R (.panic v) h'->RV G' v y->Rel G' h' w'->Ext G G' w w'->R' (.panicked [{v:=y,recovered:=false}]) w'):CallsIn F (n-1) P f vargs w R':=by
 obtain⟨fn,c,hf,hn,hbody⟩:=pN hb
 have h1:=hc F n hF G w vargs hr ha SZ {tmps:=#[Go.undef],defers:=[]} (λa' w'=>R' (.returned (a'.tmps.getD 0 Go.undef)) w')
  (λe _ w'=>match e with|.panic chain=>R' (.panicked chain) w'|_=>False)
  (λG' w' h' y v hv hy hr' he=>hret G' w' h' y v hv hy hr' he) (λG' w' h' y v hv hy hr' he=>hpan G' w' h' y v hv hy hr' he)
 rw[MuLone.run_callFunc_enter hf hn hbody,Oper.uponIn_enter] at h1
 refine h1.2.mono λe w' he=>?_
 cases e with
 |returned v=>exact he
 |panicked chain=>exact he
 |outgrown=>obtain⟨_,_,h⟩:=he;exact h.elim
theorem yo (hF:dR F) (hro:F.round=none) {B:Nat} {N:Fm} {fn:Nat} {g:Operand} {ps:Array Tmp} {assign body:Code} (hg:∀v,g=.const v->e9 v=true) {Q:QS} {ds:List bO} {fr:Fr} {h:aa} {a:Act}
 (hr:Rel G h w) (hf:lf G N fr a.tmps) (hB:B<=w.heap.size) (hd:DR G w B ds a.defers) (hv:o7 P N fn g ps assign body Q ds fr h):(Code.rangeFunc g ps assign body).wpIn F n P (eG G w B N a Q) a w:=by
 unfold o7 at hv
 split at hv
 ·rename_i f first cap hgv
  obtain⟨hb,hv⟩:=hv
  obtain⟨fn',c,hfn,hname,hbody⟩:=pN hb
  have hgr:=tf hf hg
  rw[hgv] at hgr
  generalize hval:a.eval g=gv at hgr
  cases hgr with
  |fn e1 e2 e3 e4=>
   rename_i av cv
   refine wpIn_rangeFunc λfnid hfnid=>?_
   rw[hro]
   obtain⟨rec,hrec⟩:∃rec:Loop,rec={state:=.ready,pending:=none,fn:=fnid,tmps:=a.tmps,params:=ps,assign,body,defers:=w.heap.size}:=⟨_,rfl⟩
   obtain⟨L,hL⟩:∃L:yO,L={st:=.ready,cK:=none,fr,n:=N.n,ps,assign,body,fn}:=⟨_,rfl⟩
   rw[<-hL] at hv
   obtain⟨hr1,he1⟩:=hr.QH (.deferred (some []))
   have hr2:=hr1.push (.loop L)
   have hφ0:G.more.φ h.next=none:=by
    cases hc:G.more.φ h.next with
    |none=>rfl
    |some m=>have:=hr.iD _ _ hc;omega
   have hsz1:(w.alloc (.deferred (some []))).heap.size=w.heap.size+1:=by simp
   obtain⟨G2,hG2⟩:∃G2,G2=G.more.cp h.next ((w.alloc (.deferred (some []))).heap.size,0,0):=⟨_,rfl⟩
   have hle2:G.Le G2:=by rw[hG2];exact G.nE.trans (ab.lG _ hφ0)
   have hat:mo G2 ((w.alloc (.deferred (some []))).alloc (.loop rec)) (w.alloc (.deferred (some []))).heap.size 0 0 (.loop L):=by
    refine⟨rec,World.alloc_heap_new _ _,?_⟩
    rw[hrec,hL]
    exact⟨rfl,rfl,rfl,rfl,rfl,hf.1,λt=>(hf.2 t).mono hle2⟩
   obtain⟨hr3,he3⟩:=hr2.cp (x:=.loop L) (aa.dw h _) (by simp[aa.cA]) hφ0 (.loop rec) 0 (hG2▸hat)
   rw[<-hG2] at hr3 he3
   obtain⟨W,hW⟩:∃W,W=(w.alloc (.deferred (some []))).alloc (.loop rec):=⟨_,rfl⟩
   rw[<-hW] at hr3 he3
   have hext:Ext G G2 w W:=by
    refine .mk' (he1.toExt0.trans ((Ext.more G _).toExt0.trans he3)) ⟨by rw[hG2];exact Nat.le_succ _,λo ho hφ=>?_⟩
    have hnum:=hr.num
    have ho':o≠h.next:=by omega
    rw[hG2]
    simp[ab.cp,ho']
    exact hφ
   have hφL:G2.φ h.next=some (w.heap.size+1,0,0):=by rw[hG2,hsz1];simp[ab.cp]
   have hD:W.heap[w.heap.size]?=some (.deferred (some [])):=by
    rw[hW,heap_alloc_old _ _ _ (by rw[hsz1];omega)]
    exact World.alloc_heap_new w _
   have hdW:DR G2 W B (.mark::ds) ({target:=.collected w.heap.size,args:=#[]}::a.defers):=by
    refine⟨⟨w.heap.size,rfl,hB,hD,λo m hm=>?_,λi=>?_,λd2 hd2 e=>?_⟩,hd.ext hext⟩
    ·by_cases ho:o=h.next
     ·subst ho
      rw[hφL] at hm
      cases hm
      simp
     ·rw[hG2] at hm
      simp[ab.cp,ho] at hm
      exact Nat.ne_of_lt (hr.fX (show G.φ o=some m from hm))
    ·cases hc:G2.I w.heap.size i with
     |none=>rfl
     |some v=>
      have:G.I w.heap.size i=some v:=by rw[hG2] at hc;exact hc
      have:=hr.fJ this
      omega
    ·exact absurd (hd.lt d2 hd2 _ e) (Nat.lt_irrefl _)
   have hargs:cO G2 (first++[.CS h.next]++cap) ((av++#[Value.func (.yield (w.heap.size+1)) #[] #[]])++cv).toList:=by
    simp only[Array.toList_append]
    refine cO.append (cO.append ⟨by simpa using e1,λj h1 h2=>?_⟩ (.cons (.CS hφL) (.nil _))) ⟨by simpa using e2,λj h1 h2=>?_⟩
    ·have:=e3 j h1 (by simpa using h2)
     simpa using this.mono hle2
    ·have:=e4 j h1 (by simpa using h2)
     simpa using this.mono hle2
   refine⟨w.heap.size+1,[{target:=.collected w.heap.size,args:=#[]}],W,{target:=.fn (.func f) cv,args:=av++#[Value.func (.yield (w.heap.size+1)) #[] #[]]},W,f,
    (av++#[Value.func (.yield (w.heap.size+1)) #[] #[]])++cv,W,?_,?_,λf' _=>hF.fn f',?_,λe=>by simp[hF.depth] at e,?_⟩
   ·rw[run_enterLoop_outer,hW,hrec]
   ·have hcv:∀v,a.eval (.const v)=v:=λ_=>rfl
    simp[resolve,hval,Deferred.ofValue,hcv]
   ·simp only[invoke]
    exact MuLone.run_callFunc_enter hfn hname hbody _ _
   ·refine bA.C3 hb hv hF hr3 hargs ?_ ?_
    ·intro G' w' h2 y v hK hy hr' he
     simp only at hK
     split at hK
     ·rename_i j h3 hend
      obtain⟨L3,hL3⟩:∃L3,h2.get h.next=some (.loop L3):=by
       unfold jH at hend
       split at hend
       ·exact⟨_,by assumption⟩
       ·cases hend
      have hφ3:=he.alive hr' hφL hL3 (λe=>by cases e)
      obtain⟨w4,hrun4,hr4,he4⟩:=uo (P:=P) hr' hφ3 hend
      have hall:=hext.trans (he.trans he4)
      refine⟨j,w4,hrun4,?_⟩
      cases j with
      |none=>exact⟨λ_ _=>rfl,.normal,_,fr,h3,G',hK,trivial,λ_=>hf.mono hall.le,(hdW.ext he).ext he4,hr4,hall⟩
      |some c=>
       cases c<;>simp only[qm] at hK
       ·exact wpIn_exit ⟨λ_ _=>rfl,.exit _,_,fr,h3,G',hK,rfl,λ_=>hf.mono hall.le,(hdW.ext he).ext he4,hr4,hall⟩
       ·exact wpIn_ret ⟨λ_ _=>rfl,.ret,_,fr,h3,G',hK,trivial,λ_=>hf.mono hall.le,(hdW.ext he).ext he4,hr4,hall⟩
     ·exact hK.elim
    ·intro G' w' h2 y v hK hy hr' he
     have hall:=hext.trans he
     exact⟨λ_ _=>rfl,.panic v,_,fr,h2,G',hK,⟨y,rfl,hy⟩,(λe=>by cases e),hdW.ext he,hr',hall⟩
 ·exact hv.elim
theorem CB (hF:dR F) (hro:F.round=none) {B:Nat} {N:Fm} {fn:Nat}:∀(c:Code),cQ N c=true->∀(Q:QS) (G:ab) (w:World) (ds:List bO) (fr:Fr) (h:aa) (a:Act),
 Rel G h w->lf G N fr a.tmps->B<=w.heap.size->DR G w B ds a.defers->AR P N fn c Q ds fr h->c.wpIn F n P (eG G w B N a Q) a w:=by
 intro c
 have other:∀c,aT N c=true->∀(Q:QS) (G:ab) (w:World) (ds:List bO) (fr:Fr) (h:aa) (a:Act),
  Rel G h w->lf G N fr a.tmps->DR G w B ds a.defers->gB P N c (λx fr h=>Q x ds fr h) fr h->c.wpIn F n P (eG G w B N a Q) a w:=
  λc hc Q G w ds fr h a hr hf hd hv=>wpIn_mono (gT hF c hc _ G w fr h a hr hf hv) λe a' w' hp=>eG.of hd hp
 induction c with
 |region id ops draw=>
  intro hc Q G w ds fr h a hr hf hB hd hv
  cases draw with
  |false=>
   have hops:∀o∈ops.toList,bd N o=true:=by simp only[cQ,List.all_eq_true] at hc;exact hc
   have hops':∀(j:Nat) (o:Oper),ops[j]?=some o->bd N o=true:=λj o ho=>hops o (by
    obtain⟨hj,rfl⟩:=Array.getElem?_eq_some_iff.1 ho
    simp)
   exact wpIn_region_list (AN hF hro hops' ops.toList G w ds fr h a hops hr hf hd hv)
  |true=>exact other (.region id ops true) hc Q G w ds fr h a hr hf hd hv
 |seq x y ihx ihy=>
  intro hc Q G w ds fr h a hr hf hB hd hv
  simp only[cQ,Bool.and_eq_true] at hc
  refine wpIn_seq (wpIn_mono (ihx hc.1 _ G w ds fr h a hr hf hB hd hv) λe a' w' hp=>hp.next λhn=>?_)
  obtain⟨hk,ds',fr',h',G',hK,hf',hd',hr',he⟩:=hn
  exact wpIn_mono (ihy hc.2 Q G' w' ds' fr' h' a' hr' hf' (Nat.le_trans hB he.size) hd' hK) λe2 a2 w2 hp2=>eG.shift hk he hp2
 |block id c ih=>
  intro hc Q G w ds fr h a hr hf hB hd hv
  simp only[cQ] at hc
  refine wpIn_block (wpIn_mono (ih hc _ G w ds fr h a hr hf hB hd hv) λe a' w' hp=>?_)
  obtain⟨h1,x,ds',fr',h',G2,h2,h3,h4,h5,h6,h7⟩:=hp
  cases x with
  |normal=>cases e<;>simp only[XR] at h3;exact⟨h1,.normal,ds',fr',h',G2,h2,trivial,h4,h5,h6,h7⟩
  |ret=>cases e<;>simp only[XR] at h3;exact⟨h1,.ret,ds',fr',h',G2,h2,trivial,h4,h5,h6,h7⟩
  |panic v=>cases e<;>simp only[XR] at h3;exact⟨h1,.panic v,ds',fr',h',G2,h2,h3,h4,h5,h6,h7⟩
  |exit i=>
   cases e<;>simp only[XR] at h3
   subst h3
   simp only[VX.kF] at h2
   simp only[Exit.inBlock]
   split
   ·rename_i hi;rw[if_pos hi] at h2;exact⟨h1,.normal,ds',fr',h',G2,h2,trivial,h4,h5,h6,h7⟩
   ·rename_i hi;rw[if_neg hi] at h2;exact⟨h1,.exit i,ds',fr',h',G2,h2,rfl,h4,h5,h6,h7⟩
 |rangeFunc g ps assign body=>
  intro hc Q G w ds fr h a hr hf hB hd hv
  exact yo hF hro (λv hv=>by subst hv;exact hc) hr hf hB hd hv
 |skip=>intro hc Q G w ds fr h a hr hf hB hd hv;exact other _ hc Q G w ds fr h a hr hf hd hv
 |label l=>intro hc Q G w ds fr h a hr hf hB hd hv;exact other _ hc Q G w ds fr h a hr hf hd hv
 |exit id=>intro hc Q G w ds fr h a hr hf hB hd hv;exact other _ hc Q G w ds fr h a hr hf hd hv
 |ret=>intro hc Q G w ds fr h a hr hf hB hd hv;exact other _ hc Q G w ds fr h a hr hf hd hv
 |goto=>intro hc Q G w ds fr h a hr hf hB hd hv;exact other _ hc Q G w ds fr h a hr hf hd hv
 |refuse=>intro hc Q G w ds fr h a hr hf hB hd hv;exact other _ hc Q G w ds fr h a hr hf hd hv
 |cond c x y=>intro hc Q G w ds fr h a hr hf hB hd hv;exact other _ hc Q G w ds fr h a hr hf hd hv
 |loop c=>intro hc Q G w ds fr h a hr hf hB hd hv;exact other _ hc Q G w ds fr h a hr hf hd hv
 |scope c=>intro hc Q G w ds fr h a hr hf hB hd hv;exact other _ hc Q G w ds fr h a hr hf hd hv
def lS (P:Program):List bO->Option VV->aa->(Option VV->aa->Prop)->Prop
 |[],pan,h,R=>R pan h
 |.mark::ds,pan,h,R=>lS P ds pan h R
 |.call f args::ds,pan,h,R=>Ga P f args pan h λpan' h'=>lS P ds pan' h' R
theorem pb.run {pan:Option VV} {u:FrameMode} (h:pb G pan u):u≠.run:=by
 cases pan with
 |none=>rintro rfl;cases h
 |some v=>obtain⟨y,rfl,_⟩:=h;intro e;cases e
theorem pb.mono {G':ab} (hle:G.Le G') {pan:Option VV} {u:FrameMode} (h:pb G pan u):pb G' pan u:=by
 cases pan with
 |none=>exact h
 |some v=>obtain⟨y,rfl,hy⟩:=h;exact⟨y,rfl,hy.mono hle⟩
theorem ym (hF:dR F) (hro:F.round=none) {fn:Func} {tmps:Array Value} {Rf:Ending->World->Prop} {R:Option VV->aa->Prop} {G0:ab} {w0:World} {G1:ab}
 (hfin:∀G' w' pan h u,R pan h->pb G' pan u->Rel G' h w'->Ext G0 G' w0 w'->G1.Le G'->LeavesInM F n P fn tmps Rf [] u w'):
 ∀(ds:List bO) (l:List Deferred) (pan:Option VV) (h:aa) (G:ab) (w:World) (u:FrameMode),Rel G h w->DR G w w0.heap.size ds l->pb G pan u->Ext G0 G w0 w->G1.Le G->lS P ds pan h R->
  LeavesInM F n P fn tmps Rf l u w:=by
 intro ds
 induction ds with
 |nil=>
  intro l pan h G w u hr hd hu he hle hv
  cases l with
  |nil=>exact hfin G w pan h u hv hu hr he hle
  |cons=>exact hd.elim
 |cons d ds ih=>
  intro l pan h G w u hr hd hu he hle hv
  cases l with
  |nil=>cases d<;>exact hd.elim
  |cons dd l=>
   refine⟨hu.run,?_⟩
   cases d with
   |mark=>
    obtain⟨⟨r,h1,h2,h3,h4,h5,h6⟩,h7⟩:=hd
    have hr0:r≠0:=by
     rintro rfl
     obtain⟨m,hm⟩:=hr.mx.cell
     simp[World.cell?,h3] at hm
    exact .inl ⟨r,_,h1,run_takeDeferred h3,ih l pan h G _ u (hr.xF h4 h5 hr0) (h7.put h6) hu (he.xF h2) hle hv⟩
   |call f args=>
    obtain⟨⟨cap,h1,h2⟩,h3⟩:=hd
    obtain⟨⟨fn',c,hfn,hname,hbody⟩,hv⟩:=hv
    refine .inr ⟨λe=>by simp[hF.depth] at e,.func f,cap,f,dd.args++cap,h1,?_,λg _=>hF.fn g,?_⟩
    ·rw[h1]
     simp only[invoke]
     exact MuLone.run_callFunc_enter hfn (by simpa using hname) hbody _ _
    ·refine(hv F (n-1) hF hro G w _ u hr h2 hu).mono ?_
     rintro e u' w' ⟨y,pan',h',G',rfl,hu',hR,hr',he'⟩
     exact ih l pan' h' G' w' (settle u') hr' (h3.ext he') hu' (he.trans he') (hle.trans he'.le) hR
def JT:ResultVar->Option Tmp
 |.cell a _=>some a
 |.tmp _=>none
def iE (fn:Func):List Tmp:=fn.results.toList.filterMap JT
def pg (fn:Func):Bool:=fn.results.toList.all λr=>(JT r).isSome
def Et (P:Program) (fn:Func) (ok:Bool) (fr:Fr) (R:fQ->aa->Prop):Option VV->aa->Prop
 |none,h=>ok=true/\match cT P fn.results.toList fr h with|some v=>R (.ret v) h|none=>False
 |some v,h=>R (.panic v) h
def Tn (P:Program) (fn:Func) (fr0:Fr) (R:fQ->aa->Prop):QS
 |.normal,ds,fr,h|.ret,ds,fr,h=>lS P ds none h (Et P fn true fr R)
 |.panic v,ds,_,h=>lS P ds (some v) h (Et P fn (pg fn) fr0 R)
 |.exit _,_,_,_=>False
def jn (P:Program) (f:FuncId) (n:Nat):Bool:=
 match P.funcs[f]? with
 |some fn=>match fn.body with
  |some (.seq r0 rest)=>!(fn.name== "runtime.NumGoroutine")&&aT ⟨fn.ntmps,[]⟩ r0&&cQ ⟨fn.ntmps,iE fn⟩ rest&&decide (n<=fn.ntmps)
  |_=>false
 |none=>false
def ya (P:Program) (f:FuncId) (args:List VV) (h:aa) (R:fQ->aa->Prop):Prop:=
 match P.funcs[f]? with
 |some fn=>match fn.body with
  |some (.seq r0 rest)=>gB P ⟨fn.ntmps,[]⟩ r0 (VX.then (λfr0 h0=>AR P ⟨fn.ntmps,iE fn⟩ f rest (Tn P fn fr0 R) [] fr0 h0) (jf P fn.results.toList R)) (fp args) h
  |_=>False
 |none=>False
theorem me {f:FuncId} {args:List VV} {h:aa} {R:fQ->aa->Prop} (hc:jn P f args.length=true) (hv:ya P f args h R):bA P f args h R:=by
 intro F n hF G w vargs hr ha o a K Q hK hQ
 unfold jn at hc
 unfold ya at hv
 cases hf:P.funcs[f]? with
 |none=>simp[hf] at hc
 |some fn=>
  simp only[hf] at hc hv
  split at hc
  ·rename_i r0 rest hb
   simp only[hb] at hv
   simp only[Bool.and_eq_true,Bool.not_eq_true',decide_eq_true_eq] at hc
   obtain⟨⟨⟨h1,h2⟩,h3⟩,h4⟩:=hc
   rw[MuLone.run_callFunc_enter hf h1 hb]
   refine⟨λe=>by simp[hF.depth] at e,CallsIn.mono (R:=λe w'=>∃r h' G',R r h'/\A3 G' r e/\Rel G' h' w'/\Ext G G' w w') ?_ ?_⟩
   ·have hP:dR F.plain:=hF.plain
    have hro:F.plain.round=none:=rfl
    refine(callsIn_of_wp_marks (F:=F.plain) hf hb (hF.fn f) ?_ rfl:CallsIn F.plain (n-1) P f vargs w _)
    have hfr:=iY ha h4
    refine wpIn_seq (wpIn_mono (gT hP r0 h2 _ G w _ h {tmps:=vargs++Array.replicate (fn.ntmps-vargs.size) Go.undef,defers:=[]} hr hfr hv) ?_)
    intro e a' w' hp
    have hout:∀(G1:ab) (w1:World) (tmps:Array Value) (pan:Option VV) (ok:Bool) (fr:Fr) (ds:List bO) (l:List Deferred) (h1:aa) (u:FrameMode),
     (ok=true->∀r∈fn.results.toList,RV G1 (fr.at (rG r)) (tmps.getD (rG r) Go.undef))->Rel G1 h1 w1->DR G1 w1 w.heap.size ds l->pb G1 pan u->Ext G G1 w w1->
     lS P ds pan h1 (Et P fn ok fr R)->LeavesInM F.plain (n-1) P fn tmps (λe w'=>∃r h' G',R r h'/\A3 G' r e/\Rel G' h' w'/\Ext G G' w w') l u w1:=by
     intro G1 w1 tmps pan ok fr ds l h1 u hres hr1 hd1 hu he1 hvl
     refine ym hP hro (G1:=G1) ?_ ds l pan h1 G1 w1 u hr1 hd1 hu he1 (.refl G1) hvl
     intro G' w' pan' h' u' hR hu' hr' he' hle'
     cases pan' with
     |none=>
      have hu2:u'=.returning:=hu'
      subst hu2
      obtain⟨hok,hR⟩:=hR
      split at hR
      ·rename_i v hvr
       obtain⟨y,hy1,hy2⟩:=nh (P:=P) hr' (λr hr=>(hres hok r hr).mono hle') hvr
       exact⟨y,hy1,.ret v,h',G',hR,hy2,hr',he'⟩
      ·exact hR.elim
     |some v=>
      obtain⟨y,rfl,hy⟩:=hu'
      exact⟨.panic v,h',G',hR,⟨y,rfl,hy⟩,hr',he'⟩
    have hnil:∀(G1:ab) (w1:World),DR G1 w1 w.heap.size [] []:=λ_ _=>trivial
    obtain⟨hs,x,fr',h',G',hx,hxr,hf',hr',he⟩:=hp
    have hdef:a'.defers=[]:=hs.1
    cases x with
    |normal=>
     cases e<;>simp only[XR] at hxr
     refine wpIn_mono (CB hP hro (B:=w.heap.size) rest h3 _ G' w' [] fr' h' a' hr' (hf' rfl) he.size (by rw[hdef];exact hnil _ _) hx) ?_
     rintro e2 a2 w2 ⟨hk,x2,ds2,fr2,hh2,G2,hx2,hxr2,hf2,hd2,hr2,he2⟩
     cases x2 with
     |normal=>
      cases e2<;>simp only[XR] at hxr2
      exact hout G2 w2 a2.tmps none true fr2 ds2 _ hh2 .returning (λ_ r _=>(hf2 rfl).2 _) hr2 hd2 rfl (he.trans he2) hx2
     |ret=>
      cases e2<;>simp only[XR] at hxr2
      exact hout G2 w2 a2.tmps none true fr2 ds2 _ hh2 .returning (λ_ r _=>(hf2 rfl).2 _) hr2 hd2 rfl (he.trans he2) hx2
     |panic v=>
      cases e2<;>simp only[XR] at hxr2
      obtain⟨y,rfl,hy⟩:=hxr2
      refine hout G2 w2 a2.tmps (some v) (pg fn) fr' ds2 _ hh2 _ (λhok r hr=>?_) hr2 hd2 ⟨y,rfl,hy⟩ (he.trans he2) hx2
      have hcell:=(List.all_eq_true.1 hok) r hr
      cases r with
      |tmp t=>simp[JT] at hcell
      |cell t ty=>
       have hmem:t∈iE fn:=List.mem_filterMap.2 ⟨.cell t ty,hr,rfl⟩
       show RV G2 (fr'.at t) (a2.tmps.getD t Go.undef)
       rw[hk t hmem]
       exact((hf' rfl).2 t).mono he2.le
     |exit i=>exact hx2.elim
    |ret=>
     cases e<;>simp only[XR] at hxr
     simp only[VX.then,jf] at hx
     split at hx
     ·rename_i v hres
      have:=hout G' w' a'.tmps none true fr' [] [] h' .returning (λ_ r _=>(hf' rfl).2 _) hr' (hnil _ _) rfl he ⟨rfl,by rw[hres];exact hx⟩
      show LeavesInM _ _ _ _ _ _ a'.defers _ _
      rw[hdef];exact this
     ·exact hx.elim
    |panic v=>
     cases e<;>simp only[XR] at hxr
     obtain⟨y,rfl,hy⟩:=hxr
     have:=hout G' w' a'.tmps (some v) false fr' [] [] h' _ (λe=>by cases e) hr' (hnil _ _) ⟨y,rfl,hy⟩ he hx
     show LeavesInM _ _ _ _ _ _ a'.defers _ _
     rw[hdef];exact this
    |exit i=>exact hx.elim
   ·rintro e w' ⟨r,h',G',hR,he,hr',hext⟩
    cases r with
    |ret v=>cases e<;>simp only[A3] at he;exact hK G' w' h' _ v hR he hr' hext
    |panic v=>
     cases e<;>simp only[A3] at he
     obtain⟨y,rfl,hy⟩:=he
     exact hQ G' w' h' y v hR hy hr' hext
  ·cases hc
end
end Go.Vv
