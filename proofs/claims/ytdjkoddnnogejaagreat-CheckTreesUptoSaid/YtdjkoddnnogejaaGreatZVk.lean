/- Part of the proof of CheckTrees: plain laws and steps of its walks, for all arguments. -/
import Derived.Tactics
import Derived.TacticsIn
import Derived.OrdersIn
import Derived.Conc.MuLone
import Derived.Test.YtdjkoddnnogejaaGreatZVh
set_option linter.unusedSimpArgs false
set_option linter.unusedVariables false
set_option linter.unusedSectionVars false
namespace Go.Vv
section
variable{P:Program} {G:ab} {w:World}
structure dR (F:Fence):Prop where
 fn:∀f,F.fn f
 depth:F.depth=none
 wide:F.plain=Fence.wide
variable{F:Fence} {n:Nat}
theorem dR.plain (hF:dR F):dR F.plain:=⟨hF.fn,hF.depth,hF.wide⟩
theorem wC (hF:dR F) {f:FuncId} {args:Array Value} {w:World} {R:Ending->World->Prop} (h:Calls P f args w R):CallsIn F n P f args w R:=by
 have h1:CallsIn F.plain n P f args w R:=by rw[hF.wide];exact callsIn_wide.2 h
 exact h1
inductive VX where
 |normal
 |exit (id:Nat)
 |ret
 |panic (v:VV)
def VX.Du:VX->Bool
 |.panic _=>true
 |_=>false
inductive fQ where
 |ret (v:VV)
 |panic (v:VV)
def A3 (G:ab):fQ->Ending->Prop
 |.ret v,.returned y=>RV G v y
 |.panic v,.panicked chain=>∃y,chain=[{v:=y,recovered:=false}]/\RV G v y
 |_,_=>False
def bA (P:Program) (f:FuncId) (args:List VV) (h:aa) (R:fQ->aa->Prop):Prop:=
 ∀(F:Fence) (n:Nat),dR F->∀(G:ab) (w:World) (vargs:Array Value),Rel G h w->cO G args vargs.toList->
  ∀(o:Oper) (a:Act) (K:Act->World->Prop) (Q:Exit->Act->World->Prop),
   (∀G' w' h' y v,R (.ret v) h'->RV G' v y->Rel G' h' w'->Ext G G' w w'->K (a.put o.dst y) w')->
   (∀G' w' h' y v,R (.panic v) h'->RV G' v y->Rel G' h' w'->Ext G G' w w'->Q (.panic [{v:=y,recovered:=false}]) a w')->
   o.uponIn F n P a K Q ((callFunc f vargs).run P w)
theorem bA.mono {f:FuncId} {args:List VV} {h:aa} {R R':fQ->aa->Prop} (hc:bA P f args h R) (hR:∀r h',R r h'->R' r h'):bA P f args h R':=
 λF n hF G w vargs hr ha o a K Q hK hQ=>hc F n hF G w vargs hr ha o a K Q (λG' w' h' y v hv=>hK G' w' h' y v (hR _ _ hv)) (λG' w' h' y v hv=>hQ G' w' h' y v (hR _ _ hv))
structure Fm where
 n:Nat
 gE:List Tmp:=[]
def lf (G:ab) (N:Fm) (fr:Fr) (tmps:Array Value):Prop:=tmps.size=N.n/\∀t,RV G (fr.at t) (tmps.getD t Go.undef)
theorem lf.mono {G G':ab} (hle:G.Le G') {N:Fm} {fr:Fr} {tmps:Array Value} (h:lf G N fr tmps):lf G' N fr tmps:=⟨h.1,λt=>(h.2 t).mono hle⟩
theorem lf.set {N:Fm} {fr:Fr} {tmps:Array Value} (h:lf G N fr tmps) {v:VV} {x:Value} (hx:RV G v x) {d:Nat} (hd:d<N.n):
 lf G N (Tr.set fr d v) (tmps.setIfInBounds d x):=by
 refine⟨by simp[h.1],λt=>?_⟩
 rw[Fr.dY]
 by_cases ht:t=d
 ·subst ht
  have:t<tmps.size:=by rw[h.1];exact hd
  simp[this,hx]
 ·have e:(tmps.setIfInBounds d x).getD t Go.undef=tmps.getD t Go.undef:=by
   simp only[Array.getD_eq_getD_getElem?,Array.getElem?_setIfInBounds]
   rw[if_neg (λe=>ht e.symm)]
  rw[if_neg ht,e]
  exact h.2 t
def bd (N:Fm) (o:Oper):Bool:=
 (match o.dst with|some d=>decide (d<N.n)&&!N.gE.contains d|none=>true)&&o.op.operands.toList.all (λx=>match x with|.const v=>e9 v|_=>true)
def pc (N:Fm) (a a':Act):Prop:=a'.defers=a.defers/\∀t∈N.gE,a'.tmps.getD t Go.undef=a.tmps.getD t Go.undef
theorem pc.refl (N:Fm) (a:Act):pc N a a:=⟨rfl,λ_ _=>rfl⟩
theorem pc.trans {N:Fm} {a a1 a2:Act} (h:pc N a a1) (h':pc N a1 a2):pc N a a2:=⟨h'.1.trans h.1,λt ht=>(h'.2 t ht).trans (h.2 t ht)⟩
theorem pc.put {N:Fm} (a:Act) (x:Value) {o:Oper} (hc:bd N o=true):pc N a (a.put o.dst x):=by
 cases hd:o.dst with
 |none=>exact .refl N a
 |some d=>
  simp[bd,hd] at hc
  refine⟨rfl,λt ht=>?_⟩
  have:d≠t:=λe=>hc.1.2 (e▸ht)
  simp only[Act.put,Array.getD_eq_getD_getElem?,Array.getElem?_setIfInBounds,if_neg this]
theorem lf.put {N:Fm} {fr:Fr} {a:Act} (h:lf G N fr a.tmps) {v:VV} {x:Value} (hx:RV G v x) {o:Oper} (hc:bd N o=true):
 lf G N (put fr o.dst v) (a.put o.dst x).tmps/\pc N a (a.put o.dst x):=by
 refine⟨?_,.put a x hc⟩
 cases hd:o.dst with
 |none=>exact h
 |some d=>
  simp[bd,hd] at hc
  exact h.set hx hc.1.1
theorem tf {N:Fm} {fr:Fr} {a:Act} (h:lf G N fr a.tmps) {x:Operand} (hx:∀v,x=.const v->e9 v=true):RV G (ev fr x) (a.eval x):=by
 cases x with
 |tmp t=>exact h.2 t
 |const v=>exact lK G (hx v rfl)
 |global g=>exact .qH g
 |func f=>exact .fn rfl rfl (λj h=>absurd h (Nat.not_lt_zero _)) (λj h=>absurd h (Nat.not_lt_zero _))
theorem nw {N:Fm} {fr:Fr} {a:Act} (h:lf G N fr a.tmps) {o:Oper} (hc:bd N o=true):∀x∈o.op.operands,RV G (ev fr x) (a.eval x):=by
 intro x hx
 refine tf h λv hv=>?_
 subst hv
 simp only[bd,Bool.and_eq_true,List.all_eq_true] at hc
 exact hc.2 _ (Array.mem_toList_iff.2 hx)
def dH (fr:Fr) (c:Call):Option (FuncId×List VV):=
 match c.callee with
 |.value f=>match ev fr f with
  |.fn (.func id) first captured=>some (id,first++c.args.toList.map (ev fr)++captured)
  |_=>none
 |_=>none
def jK (fr:Fr) (c:Call):Option (Nat×List VV):=
 match c.callee with
 |.value f=>match ev fr f with
  |.CS o=>some (o,c.args.toList.map (ev fr))
  |_=>none
 |_=>none
def fV (P:Program) (o:Nat) (args:List VV) (h:aa) (R:VV->aa->Prop):Prop:=
 (∃L,h.get o=some (.loop L))/\
 ∀(F:Fence) (n:Nat),dR F->∀(G:ab) (w:World) (vargs:Array Value) (b base k:Nat),Rel G h w->G.φ o=some (b,base,k)->cO G args vargs.toList->
  ∀(op:Oper) (a:Act) (K:Act->World->Prop) (Q:Exit->Act->World->Prop),
   (∀G' w' h' y v,R v h'->RV G' v y->Rel G' h' w'->Ext G G' w w'->K (a.put op.dst y) w')->
   op.uponIn F n P a K Q ((Instr.yield b vargs).run P w)
theorem fV.mono {o:Nat} {args:List VV} {h:aa} {R R':VV->aa->Prop} (hc:fV P o args h R) (hR:∀r h',R r h'->R' r h'):fV P o args h R':=
 ⟨hc.1,λF n hF G w vargs b base k hr hφ ha op a K Q hK=>hc.2 F n hF G w vargs b base k hr hφ ha op a K Q (λG' w' h' y v hv=>hK G' w' h' y v (hR _ _ hv))⟩
def VV.isIface:VV->Bool
 |.iface .. =>true
 |_=>false
def dB (P:Program) (o:Oper) (fr:Fr) (h:aa) (K:Fr->aa->Prop):Prop:=
 match rR P o.op fr h with
 |some (v,h')=>K (put fr o.dst v) h'
 |none=>False
def fQ.on (r:fQ) (K:VV->Prop) (Q:VV->Prop):Prop:=
 match r with
 |.ret v=>K v
 |.panic v=>Q v
def ez (P:Program) (o:Oper) (fr:Fr) (h:aa) (K:Fr->aa->Prop) (Q:VX->Fr->aa->Prop):Prop:=
 match o.op with
 |.panic x=>(ev fr x).isIface=true/\Q (.panic (ev fr x)) fr h
 |.call c=>
  match dH fr c with
  |some (f,args)=>bA P f args h λr h'=>r.on (λv=>K (put fr o.dst v) h') (λv=>Q (.panic v) fr h')
  |none=>match jK fr c with
   |some (l,args)=>fV P l args h λv h'=>K (put fr o.dst v) h'
   |none=>dB P o fr h K
 |_=>dB P o fr h K
def XR (G:ab):VX->Exit->Prop
 |.normal,.normal=>True
 |.exit i,.exit j=>i=j
 |.ret,.ret=>True
 |.panic v,.panic chain=>∃y,chain=[{v:=y,recovered:=false}]/\RV G v y
 |_,_=>False
def cP (G:ab) (w:World) (N:Fm) (a:Act) (Q:VX->Fr->aa->Prop):Exit->Act->World->Prop:=λe a' w'=>
 pc N a a'/\∃x fr' h' G',Q x fr' h'/\XR G' x e/\(x.Du=false->lf G' N fr' a'.tmps)/\Rel G' h' w'/\Ext G G' w w'
def yP (G:ab) (w:World) (N:Fm) (a:Act) (K:Fr->aa->Prop):Act->World->Prop:=λa' w'=>
 pc N a a'/\∃fr' h' G',K fr' h'/\lf G' N fr' a'.tmps/\Rel G' h' w'/\Ext G G' w w'
def A5 (G:ab) (w:World) (o:Oper) (a:Act) (fr:Fr) (K:Fr->aa->Prop):Act->World->Prop:=λa' w'=>
 ∃y v h' G',a'=a.put o.dst y/\RV G' v y/\K (put fr o.dst v) h'/\Rel G' h' w'/\Ext G G' w w'
def To (G:ab) (w:World) (a:Act) (fr:Fr) (Q:VX->Fr->aa->Prop):Exit->Act->World->Prop:=λe a' w'=>
 a'=a/\∃v y h' G',e=.panic [{v:=y,recovered:=false}]/\RV G' v y/\Q (.panic v) fr h'/\Rel G' h' w'/\Ext G G' w w'
theorem jL {o:Oper} {a:Act} {K K':Act->World->Prop} {Q Q':Exit->Act->World->Prop} (hK:∀a w,K a w->K' a w) (hQ:∀e a w,Q e a w->Q' e a w)
 (h:o.wpIn F n P a w K Q):o.wpIn F n P a w K' Q':=by
 unfold Oper.wpIn at h⊢
 refine⟨h.1,?_⟩
 replace h:=h.2
 generalize (o.semAt F.round a.eval).run P w=r at h⊢
 cases r with
 |ok x w3=>
  cases x<;>simp only[Oper.uponIn] at h⊢<;>
   first
    |exact hK _ _ h
    |exact⟨h.1,CallsIn.mono h.2 (λe w'' he2=>by
      cases e with
      |returned v=>exact hK _ _ he2
      |panicked c=>exact hQ _ _ _ he2
      |outgrown=>obtain⟨a3,w4,h4⟩:=he2;exact⟨a3,w4,hQ _ _ _ h4⟩)⟩
    |exact⟨h.1,RowsIn.mono h.2 (λ_ _ he2=>hK _ _ he2)⟩
    |exact⟨h.1,RoundIn.mono h.2 (λe w'' he2=>by
      cases e with
      |returned v=>exact hK _ _ he2
      |panicked c=>exact hQ _ _ _ he2
      |outgrown=>obtain⟨a3,w4,h4⟩:=he2;exact⟨a3,w4,hQ _ _ _ h4⟩)⟩
 |halt x w3=>cases x<;>simp only[Oper.uponIn] at h⊢<;>first|exact h|exact hQ _ _ _ h
theorem AL {op:Op} {fr:Fr} {h:aa} {r:VV×aa} (hv:rR P op fr h=some r):∀c,op≠.defer c:=by
 rintro c rfl
 simp[rR,aK,fT,iI] at hv
theorem lW (hF:dR F) {h:aa} (hr:Rel G h w) {o:Oper} {fr:Fr} {a:Act} (hops:∀x∈o.op.operands,RV G (ev fr x) (a.eval x)) {K:Fr->aa->Prop} (hv:dB P o fr h K)
 (Q:Exit->Act->World->Prop):o.wpIn F n P a w (A5 G w o a fr K) Q:=by
 unfold dB at hv
 split at hv
 ·rename_i v h' hop
  obtain⟨y,w',G',h1,h2,h3,h4⟩:=we hr hops hop
  unfold Oper.wpIn
  refine⟨λf _=>hF.fn f,?_⟩
  rw[Oper.semAt_eq _ _ _ (AL hop)]
  rcases h1 with h1|⟨h1,rfl⟩
  ·rw[h1]
   exact⟨y,v,h',G',rfl,h2,hv,h3,h4⟩
  ·rw[h1]
   exact⟨_,v,h',G',rfl,h2,hv,h3,h4⟩
 ·exact hv.elim
theorem qp (hF:dR F) {h:aa} (hr:Rel G h w) {o:Oper} {fr:Fr} {a:Act} (hops:∀x∈o.op.operands,RV G (ev fr x) (a.eval x)) {K:Fr->aa->Prop} {Q:VX->Fr->aa->Prop}
 (hv:ez P o fr h K Q):o.wpIn F n P a w (A5 G w o a fr K) (To G w a fr Q):=by
 unfold ez at hv
 split at hv
 ·rename_i x hop
  obtain⟨h1,h2⟩:=hv
  have hx:=hops x (by rw[hop];simp[Op.operands])
  cases hi:ev fr x with
  |iface t v=>
   rw[hi] at hx h2
   generalize hval:a.eval x=xv at hx
   cases hx with
   |iface hy=>
    rename_i y
    unfold Oper.wpIn
    refine⟨λf _=>hF.fn f,?_⟩
    rw[Oper.semAt_eq _ _ _ (λc e=>by rw[hop] at e;cases e)]
    unfold execOp
    simp only[hop,hval,Sem.run_bind,Instr.panic,run_goPanic,Result.andThen]
    exact⟨rfl,_,_,h,G,rfl,.iface hy,h2,hr,.refl G w⟩
  |_=>rw[hi] at h1;simp[VV.isIface] at h1
 ·rename_i c hop
  split at hv
  ·rename_i f args hcal
   unfold dH at hcal
   split at hcal
   ·rename_i fo hcl
    split at hcal
    ·rename_i id first captured hfo
     cases hcal
     rw[hop] at hops
     have hfv:=hops fo (by simp[Op.operands,Call.operands,hcl])
     rw[hfo] at hfv
     generalize hval:a.eval fo=fv at hfv
     cases hfv with
     |fn e1 e2 e3 e4=>
      rename_i av cv
      have hargs:cO G (first++c.args.toList.map (ev fr)++captured) ((av++c.args.map a.eval)++cv).toList:=by
       simp only[Array.toList_append]
       refine cO.append (cO.append ⟨by simpa using e1,λj h1 h2=>?_⟩ ?_) ⟨by simpa using e2,λj h1 h2=>?_⟩
       ·simpa using e3 j h1 (by simpa using h2)
       ·exact cO.tE (λx hx=>hops x (by simp[Op.operands,Call.operands,hx]))
       ·simpa using e4 j h1 (by simpa using h2)
      have hrun:(execOp a.eval o).run P w=(callFunc f ((av++c.args.map a.eval)++cv)).run P w:=by
       unfold execOp
       simp[hop,resolve,hcl,hval,Deferred.ofValue,invoke]
      unfold Oper.wpIn
      refine⟨λf _=>hF.fn f,?_⟩
      rw[Oper.semAt_eq _ _ _ (λc e=>by rw[hop] at e;cases e),hrun]
      refine hv F n hF G w _ hr hargs o a _ _ ?_ ?_
      ·rintro G' w' h' y v hon hy hr' he
       exact⟨y,v,h',G',rfl,hy,hon,hr',he⟩
      ·rintro G' w' h' y v hon hy hr' he
       exact⟨rfl,v,y,h',G',rfl,hy,hon,hr',he⟩
    ·cases hcal
   ·cases hcal
  ·split at hv
   ·rename_i l args hcal
    unfold jK at hcal
    split at hcal
    ·rename_i fo hcl
     split at hcal
     ·rename_i l' hfo
      cases hcal
      rw[hop] at hops
      have hfv:=hops fo (by simp[Op.operands,Call.operands,hcl])
      rw[hfo] at hfv
      generalize hval:a.eval fo=fv at hfv
      have hargs:cO G (c.args.toList.map (ev fr)) ((#[]++c.args.map a.eval)).toList:=by
       simpa using cO.tE (λx hx=>hops x (by simp[Op.operands,Call.operands,hx]))
      cases hfv with
      |F0 hD=>
       obtain⟨⟨L,hL⟩,_⟩:=hv
       have:=(hr.dead _ hD).2
       rw[hL] at this;cases this
      |CS hφ=>
       rename_i b base k
       have hrun:(execOp a.eval o).run P w=(Instr.yield b (#[]++c.args.map a.eval)).run P w:=by
        unfold execOp
        simp[hop,resolve,hcl,hval,Deferred.ofValue,invoke]
       unfold Oper.wpIn
       refine⟨λf _=>hF.fn f,?_⟩
       rw[Oper.semAt_eq _ _ _ (λc e=>by rw[hop] at e;cases e),hrun]
       refine hv.2 F n hF G w _ b base k hr hφ hargs o a _ _ ?_
       rintro G' w' h' y v hon hy hr' he
       exact⟨y,v,h',G',rfl,hy,hon,hr',he⟩
     ·cases hcal
    ·cases hcal
   ·exact lW hF hr hops hv _
 ·exact lW hF hr hops hv _
theorem rX (hF:dR F) {h:aa} (hr:Rel G h w) {N:Fm} {o:Oper} {fr:Fr} {a:Act} (hf:lf G N fr a.tmps) (hc:bd N o=true) {K:Fr->aa->Prop} {Q:VX->Fr->aa->Prop}
 (hv:ez P o fr h K Q):o.wpIn F n P a w (yP G w N a K) (cP G w N a Q):=by
 refine jL ?_ ?_ (qp hF hr (nw hf hc) hv)
 ·rintro a' w' ⟨y,v,h',G',rfl,hy,hK,hr',he⟩
  have hp:=(hf.mono he.le).put hy hc
  exact⟨hp.2,_,h',G',hK,hp.1,hr',he⟩
 ·rintro e a' w' ⟨rfl,v,y,h',G',rfl,hy,hQ,hr',he⟩
  exact⟨.refl N _,_,fr,h',G',hQ,⟨y,rfl,hy⟩,λ_=>hf.mono he.le,hr',he⟩
end
section
variable{P:Program} {G:ab} {w:World}
def gK (o:Nat) (c:List VV):VV->VV
 |.ref o' off len du cap=>if o'=o/\off+len*du<=c.length then .vs (rows len du (c.drop off)) none else .ref o' off len du cap
 |.ptr o' off=>if o'=o then .fb c off else .ptr o' off
 |v=>v
def r6 (o:Nat) (c:List VV):VV->VV
 |.agg cs=>.agg (cs.map (gK o c))
 |v=>gK o c v
def oJ (o:Nat) (c:List VV):List Nat->Fr->Fr
 |[],fr=>fr
 |t::l,fr=>oJ o c l (Tr.set fr t (r6 o c (fr.at t)))
def uS (o:Nat) (c:List VV):List Nat->aa->aa
 |[],h=>h
 |o1::l,h=>match h.get o1 with
  |some (.cells c1)=>uS o c l (h.set o1 (.cells (c1.map (gK o c))))
  |_=>uS o c l h
def mH (o:Nat) (c:List VV) (bp:List Nat) (h:aa):aa:=uS o c bp (h.set o .dead)
def ab.freeze (G:ab) (o b base:Nat) (arr:Array Value) (k:Nat):ab:=
 {φ:=λi=>if i=o then none else G.φ i,D:=λi=>i=o\/G.D i,I:=λb' i=>if b'=b then(if base<=i/\i<base+k then arr[i]? else none) else G.I b' i,n:=G.n,low:=G.low}
theorem wS {h:aa} (hr:Rel G h w) {o:Nat} {c:List VV} (hc:h.get o=some (.cells c)):
 ∃G',Ext G G' w w/\(∀v x,RV G v x->RV G' (gK o c v) x)/\Rel G' (h.set o .dead) w/\∀i m,G'.φ i=some m->G.φ i=some m/\i≠o:=by
 cases hφ:G.φ o with
 |none=>
 have hd:¬G.D o:=λe=>by have:=(hr.dead o e).2;rw[hc] at this;cases this
 refine⟨G,.refl G w,λv x hv=>?_,⟨⟨hr.kq,λi b base k hm=>?_,hr.inj,hr.sep,hr.iD,λi hd2=>?_,hr.num,λi hi=>?_,hr.low⟩,hr.mx⟩,λi m hm=>⟨hm,λe=>by subst e;rw[hφ] at hm;cases hm⟩⟩
 ·cases hv with
  |ptr h1=>
   rename_i o' _ _ _ _
   have e:o'≠o:=λe=>by subst e;rw[hφ] at h1;cases h1
   simp only[gK,if_neg e];exact .ptr h1
  |tS h1=>
   rename_i o' _ _
   have e:o'≠o:=λe=>by subst e;exact hd h1
   simp only[gK,if_neg e];exact .tS h1
  |ref h1 h2 h3 h4 h5=>
   rename_i o' off len du _ _ _ _ _ _
   have e:¬(o'=o/\off+len*du<=c.length):=λe=>by rw[e.1,hφ] at h1;cases h1
   simp only[gK,if_neg e];exact .ref h1 h2 h3 h4 h5
  |sd h1 h2 h3=>
   rename_i o' off len du _ _ _
   have e:¬(o'=o/\off+len*du<=c.length):=λe=>hd (e.1▸h1)
   simp only[gK,if_neg e];exact .sd h1 h2 h3
  |bool b=>exact .bool b
  |int k n=>exact .int k n
  |str s=>exact .str s
  |iF=>exact .iF
  |fb vals h1 h2 h3=>exact .fb vals h1 h2 h3
  |qH g=>exact .qH g
  |da=>exact .da
  |vs vals h1 h2 h3 h4 h5 h6 h7=>exact .vs vals h1 h2 h3 h4 h5 h6 h7
  |ig=>exact .ig
  |map h=>exact .map h
  |zZ h=>exact .zZ h
  |fn h1 h2 h3 h4=>exact .fn h1 h2 h3 h4
  |lJ=>exact .lJ
  |iface h=>exact .iface h
  |ec=>exact .ec
  |agg h1 h2 h3=>exact .agg h1 h2 h3
  |bR h1 h2=>exact .bR h1 h2
  |CS h=>exact .CS h
  |F0 h=>exact .F0 h
 ·have e:i≠o:=λe=>by subst e;rw[hφ] at hm;cases hm
  obtain⟨y,hy,hyt⟩:=hr.obj i b base k hm
  exact⟨y,by rw[aa.aO _ _ e];exact hy,hyt⟩
 ·have e:i≠o:=λe=>by subst e;exact hd hd2
  rw[aa.aO _ _ e];exact hr.dead i hd2
 ·rw[aa.aO _ _ (λe=>by subst e;have:=hr.fresh i hi;rw[hc] at this;cases this)];exact hr.fresh i hi
 |some m=>
 obtain⟨b,base,k⟩:=m
 obtain⟨x,hx,hat⟩:=hr.obj o b base k hφ
 rw[hc] at hx;cases hx
 obtain⟨arr,t,hw,hsz,hlen,hcell⟩:=hat
 have hle:G.Le (G.freeze o b base arr c.length):=by
  refine⟨λi m hm=>?_,λi hd=>.inr hd,λb' i v hv=>?_,rfl⟩
  ·by_cases e:i=o
   ·exact .inr (.inl e)
   ·exact .inl (by simp[ab.freeze,e,hm])
  ·have:b'≠b:=λe=>by subst e;rw[hr.sep o _ i hφ] at hv;cases hv
   simp[ab.freeze,this,hv]
 refine⟨G.freeze o b base arr c.length,.mk' ⟨hle,Nat.le_refl _,λ_ _ _ _=>rfl,λi m hm=>?_,λb' i v hv=>?_,rfl,rfl,rfl⟩ ⟨Nat.le_refl _,λi hi hm=>?_⟩,?_,?_,λi m hm=>?_⟩
 ·by_cases e:i=o
  ·simp[ab.freeze,e] at hm
  ·simp[ab.freeze,e] at hm;exact .inl ⟨i,m,hm,rfl⟩
 ·by_cases e:b'=b
  ·exact .inr (.inl ⟨o,_,hφ,e.symm⟩)
  ·simp[ab.freeze,e] at hv;exact .inl ⟨i,v,hv⟩
 ·by_cases e:i=o
  ·simp[ab.freeze,e]
  ·simp[ab.freeze,e,hm]
 ·intro v x hv
  have hI:∀j (hj:j<c.length),∃y,(G.freeze o b base arr c.length).I b (base+j)=some y/\RV G c[j] y/\y.oneCell'=true:=by
   intro j hj
   obtain⟨y,h1,h2,h3⟩:=hcell j hj
   exact⟨y,by simp[ab.freeze,hj,h1],h2,h3⟩
  cases v with
  |ptr o' off=>
   by_cases e:o'=o
   ·subst e
    simp only[gK,if_true]
    cases hv with
    |ptr h1=>
     rw[hφ] at h1;cases h1
     refine .fb (λj=>(arr[base+j]?).getD Go.undef) (λj hj=>?_) (λj hj=>?_) (λj hj=>?_)
     all_goals
      obtain⟨y,h1,h2,h3⟩:=hcell j hj
     ·simp[ab.freeze,hj,h1]
     ·simpa[h1] using h2.mono hle
     ·simpa[h1] using h3
    |tS h1=>exact absurd (hr.dead _ h1).2 (by rw[hc];simp)
   ·simp only[gK,if_neg e];exact hv.mono hle
  |ref o' off len du cap=>
   by_cases e:o'=o/\off+len*du<=c.length
   ·obtain⟨rfl,e2⟩:=e
    simp only[gK,e2,and_self,if_true]
    cases hv with
    |ref h1 h2 h3 h4 h5=>
     rename_i b' base' k' cc a
     rw[hφ] at h1;cases h1
     have key:∀(b' base':Nat),(len=0\/(b'=b/\base'=base+off))->RV (G.freeze o' b base arr c.length) (.vs (rows len du (c.drop off)) none) (.slice (some ⟨b',base',none⟩) len cc):=by
      intro b' base' hcase
      have hL:(rows len du (c.drop off)).length=len:=jY ..
      have hrow:∀i (hi:i<(rows len du (c.drop off)).length),(rows len du (c.drop off))[i].length=du:=by
       intro i hi
       rw[mY _ _ _ ‹_›]
       rw[hL] at hi
       have:(i+1)*du<=len*du:=Nat.mul_le_mul_right _ hi
       rw[Nat.succ_mul] at this
       simp;omega
      have hb3:∀i j,i<len->j<du->off+i*du+j<c.length:=by
       intro i j hi hj
       have:(i+1)*du<=len*du:=Nat.mul_le_mul_right _ hi
       rw[Nat.succ_mul] at this
       omega
      have hz:∀i,i<len->b'=b/\base'=base+off:=λi hi=>by
       rcases hcase with h|h
       ·omega
       ·exact h
      have hsl:∀(es:List (List VV)),es=rows len du (c.drop off)->RV (G.freeze o' b base arr c.length) (.vs es none) (.slice (some ⟨b',base',none⟩) es.length cc):=by
       intro es hes
       subst hes
       refine .vs (n:=du) (λi j=>(arr[base+(off+i*du+j)]?).getD Go.undef) (by rw[hL];exact h2) (λk hk=>by cases hk) hrow ?_ ?_ ?_ (.inr rfl)
       ·intro i j hi hj
        rw[hL] at hi
        obtain⟨h6,h7⟩:=hz i hi
        obtain⟨y,h8,h9,h10⟩:=hcell _ (hb3 i j hi hj)
        subst h6 h7
        have hlt:=hb3 i j hi hj
        have e1:base+off+i*du+j=base+(off+i*du+j):=by omega
        rw[e1]
        simp[ab.freeze,hlt,h8]
       ·intro i hi j hj
        have hi':=hi;rw[hL] at hi'
        have hj':=hj;rw[hrow i hi] at hj'
        obtain⟨y,h8,h9,h10⟩:=hcell _ (hb3 i j hi' hj')
        have e1:(rows len du (c.drop off))[i][j]=c[off+i*du+j]'(hb3 i j hi' hj'):=by
         have:(rows len du (c.drop off))[i][j]?=c[off+i*du+j]?:=by
          rw[mY _ _ _ ‹_›]
          rw[List.getElem?_take,if_pos hj',List.drop_drop,List.getElem?_drop]
         rw[List.getElem?_eq_getElem hj,List.getElem?_eq_getElem (hb3 i j hi' hj')] at this
         exact Option.some.inj this
        rw[e1]
        simpa[h8] using h9.mono hle
       ·intro i j hi hj
        rw[hL] at hi
        obtain⟨y,h8,h9,h10⟩:=hcell _ (hb3 i j hi hj)
        simpa[h8] using h10
      have:=hsl _ rfl
      rwa [hL] at this
     have ha:a=⟨a.block,a.off,none⟩:=by cases a;simp_all
     rw[ha]
     refine key _ _ ?_
     rcases h4 with h4|⟨h4,_⟩
     ·exact .inl (by omega)
     ·right;rw[h4];exact⟨rfl,rfl⟩
    |sd h1=>exact absurd (hr.dead _ h1).2 (by rw[hc];simp)
   ·simp only[gK,if_neg e];exact hv.mono hle
  |_=>exact hv.mono hle
 ·have hlt:=hr.iD o _ hφ
  have hb0:b≠0:=hr.mx.own o _ hφ
  refine⟨⟨λb' i v hv=>?_,λi b' base' k' hm=>?_,λi i' m m' hm hm' hne=>?_,λi m off hm=>?_,λi m hm=>?_,λi hd=>?_,hr.num,λi hi=>?_,hr.low⟩,⟨hr.mx.cell,λi m hm=>?_,?_⟩⟩
  rotate_left 7
  ·by_cases e:i=o
   ·simp[ab.freeze,e] at hm
   ·simp[ab.freeze,e] at hm;exact hr.mx.own i m hm
  ·rcases hr.mx.Qm with hi|hi
   ·left;intro i;simp[ab.freeze,Ne.symm hb0,hi i]
   ·exact .inr hi
  ·by_cases e:b'=b
   ·subst e
    simp only[ab.freeze,if_true] at hv
    split at hv
    ·rw[cell_of_row _ _ _ _ _ _ hw];exact hv
    ·cases hv
   ·simp[ab.freeze,e] at hv;exact hr.kq b' i v hv
  ·by_cases e:i=o
   ·simp[ab.freeze,e] at hm
   ·simp[ab.freeze,e] at hm
    obtain⟨y,hy,hyt⟩:=hr.obj i b' base' k' hm
    exact⟨y,by rw[aa.aO _ _ e];exact hy,hyt.mono hle rfl⟩
  ·by_cases e:i=o
   ·simp[ab.freeze,e] at hm
   ·by_cases e':i'=o
    ·simp[ab.freeze,e'] at hm'
    ·simp[ab.freeze,e] at hm;simp[ab.freeze,e'] at hm'
     exact hr.inj i i' m m' hm hm' hne
  ·by_cases e:i=o
   ·simp[ab.freeze,e] at hm
   ·simp[ab.freeze,e] at hm
    have:m.1≠b:=hr.inj i o m _ hm hφ e
    simp[ab.freeze,this,hr.sep i m off hm]
  ·by_cases e:i=o
   ·simp[ab.freeze,e] at hm
   ·simp[ab.freeze,e] at hm;exact hr.iD i m hm
  ·rcases hd with e|hd
   ·rw[e];exact⟨hlt,aa.bQ ..⟩
   ·have:=hr.dead i hd
    refine⟨this.1,?_⟩
    rw[aa.aO _ _ (λe=>by subst e;rw[hc] at this;cases this.2)]
    exact this.2
  ·rw[aa.aO _ _ (λe=>by subst e;exact absurd hlt (Nat.not_lt.2 hi))];exact hr.fresh i hi
 ·by_cases e:i=o
  ·simp[ab.freeze,e] at hm
  ·simp[ab.freeze,e] at hm;exact⟨hm,e⟩
theorem EY {o:Nat} {c:List VV} {G':ab} (h:∀v x,RV G v x->RV G' (gK o c v) x) {v:VV} {x:Value} (hv:RV G v x):RV G' (r6 o c v) x:=by
 cases v with
 |agg cs=>
  obtain⟨a,rfl,h1,h2⟩:=RV.fW.1 hv
  refine RV.fW.2 ⟨a,rfl,⟨by simpa using h1.1,λj hj hj'=>?_⟩,h2⟩
  simp only[List.getElem_map]
  exact h _ _ (h1.2 j (by simpa using hj) hj')
 |_=>exact h _ _ hv
theorem kE {o:Nat} {c:List VV} (v:VV):gK o c (gK o c v)=gK o c v:=by
 cases v with
 |ref o' off len du cap=>
  simp only[gK]
  by_cases e:o'=o/\off+len*du<=c.length
  ·simp only[if_pos e]
  ·simp only[if_neg e]
 |ptr o' off=>
  simp only[gK]
  by_cases e:o'=o
  ·simp only[if_pos e]
  ·simp only[if_neg e]
 |_=>rfl
theorem tu {o:Nat} {c:List VV} (v:VV):r6 o c (r6 o c v)=r6 o c v:=by
 cases v with
 |agg cs=>simp only[r6,List.map_map];congr 1;apply List.map_congr_left;intro x _;exact kE x
 |ref o' off len du cap=>
  simp only[r6,gK]
  by_cases e:o'=o/\off+len*du<=c.length
  ·simp only[if_pos e,r6,gK]
  ·simp only[if_neg e,r6,gK]
 |ptr o' off=>
  simp only[r6,gK]
  by_cases e:o'=o
  ·simp only[if_pos e,r6,gK]
  ·simp only[if_neg e,r6,gK]
 |_=>rfl
theorem Bz {o:Nat} {c:List VV} {G':ab} (hle:G.Le G') (h:∀v x,RV G v x->RV G' (gK o c v) x) {N:Fm} {tmps:Array Value} {fr0:Fr} (h0:lf G N fr0 tmps):
 ∀(l:List Nat) (fr:Fr),(∀t,fr.at t=fr0.at t\/fr.at t=r6 o c (fr0.at t))->lf G' N (oJ o c l fr) tmps:=by
 intro l
 induction l with
 |nil=>
  intro fr hfr
  refine⟨h0.1,λt=>?_⟩
  rcases hfr t with e|e
  ·rw[oJ,e];exact(h0.2 t).mono hle
  ·rw[oJ,e];exact EY h (h0.2 t)
 |cons t l ih=>
  intro fr hfr
  refine ih _ λt'=>?_
  rw[Fr.dY]
  split
  ·rename_i e
   subst e
   rcases hfr t' with e|e
   ·exact .inr (by rw[e])
   ·exact .inr (by rw[e,tu])
  ·exact hfr t'
theorem BA {o:Nat} {c:List VV} {G0 G':ab} (hle:G0.Le G') (h:∀v x,RV G0 v x->RV G' (gK o c v) x) {h1:aa} (hr0:Rel G0 h1 w) (hid:∀i m,G'.φ i=some m->G0.φ i=some m):
 ∀(l:List Nat) (h2:aa),Rel G' h2 w->(∀i m,G'.φ i=some m->h2.get i=h1.get i\/∃c1,h1.get i=some (.cells c1)/\h2.get i=some (.cells (c1.map (gK o c))))->Rel G' (uS o c l h2) w:=by
 intro l
 induction l with
 |nil=>intro h2 hr2 _;exact hr2
 |cons o1 l ih=>
  intro h2 hr2 hh
  simp only[uS]
  split
  ·rename_i c1 hc1
   refine ih _ ?_ ?_
   ·refine⟨⟨hr2.kq,λi b base k hm=>?_,hr2.inj,hr2.sep,hr2.iD,λi hd=>?_,hr2.num,λi hi=>?_,hr2.low⟩,hr2.mx⟩
    ·by_cases e:i=o1
     ·subst e
      refine⟨.cells (c1.map (gK o c)),aa.bQ ..,?_⟩
      obtain⟨x0,hx0,hat0⟩:=hr0.obj i b base k (hid i _ hm)
      obtain⟨y,hy,hat⟩:=hr2.obj i b base k hm
      rw[hc1] at hy;cases hy
      obtain⟨arr,t,a1,a2,a3,a4⟩:=hat
      refine⟨arr,t,a1,a2,by simpa using a3,λj hj=>?_⟩
      have hj':j<c1.length:=by simpa using hj
      obtain⟨v,b1,b2,b3⟩:=a4 j hj'
      refine⟨v,b1,?_,b3⟩
      simp only[List.getElem_map]
      rcases hh i _ hm with e|⟨c2,e1,e2⟩
      ·rw[e] at hc1
       rw[hc1] at hx0;cases hx0
       obtain⟨arr',t',d1,d2,d3,d4⟩:=hat0
       rw[a1] at d1;cases d1
       obtain⟨v',f1,f2,f3⟩:=d4 j hj'
       rw[b1] at f1;cases f1
       exact h _ _ f2
      ·rw[hc1] at e2
       cases e2
       simp only[List.getElem_map] at b2⊢
       rw[kE];exact b2
     ·obtain⟨y,hy,hat⟩:=hr2.obj i b base k hm
      exact⟨y,by rw[aa.aO _ _ e];exact hy,hat⟩
    ·have:=hr2.dead i hd
     refine⟨this.1,?_⟩
     rw[aa.aO _ _ (λe=>by subst e;rw[hc1] at this;cases this.2)]
     exact this.2
    ·rw[aa.aO _ _ (λe=>by subst e;have:=hr2.fresh i hi;rw[hc1] at this;cases this)]
     exact hr2.fresh i hi
   ·intro i m hm
    by_cases e:i=o1
    ·subst e
     rw[aa.bQ]
     rcases hh i m hm with e|⟨c2,e1,e2⟩
     ·exact .inr ⟨c1,by rw[<-e];exact hc1,rfl⟩
     ·rw[hc1] at e2;cases e2
      refine .inr ⟨c2,e1,?_⟩
      simp only[List.map_map]
      congr 2
      apply List.map_congr_left
      intro x _
      exact kE x
    ·rw[aa.aO _ _ e];exact hh i m hm
  ·exact ih _ hr2 hh
def Bo:VV->VV
 |.vs es _=>.vs es none
 |v=>v
theorem RV.OD {G:ab} {v:VV} {x:Value} (h:RV G v x):RV G (Bo v) x:=by
 cases v with
 |vs es cap=>
  cases h with
  |vs vals h1 h2 h3 h4 h5 h6 h7=>exact .vs vals h1 (λk hk=>by cases hk) h3 h4 h5 h6 h7
 |_=>exact h
theorem EU {G:ab} {h:aa} (hr:Rel G h w) {o:Nat} {c:List VV} (hc:h.get o=some (.cells c)):Rel G (h.set o (.cells (c.map Bo))) w:=by
 refine⟨⟨hr.kq,λi b base k hm=>?_,hr.inj,hr.sep,hr.iD,λi hd=>?_,hr.num,λi hi=>?_,hr.low⟩,hr.mx⟩
 ·by_cases e:i=o
  ·subst e
   refine⟨.cells (c.map Bo),aa.bQ ..,?_⟩
   obtain⟨y,hy,hat⟩:=hr.obj i b base k hm
   rw[hc] at hy;cases hy
   obtain⟨arr,t,a1,a2,a3,a4⟩:=hat
   refine⟨arr,t,a1,a2,by simpa using a3,λj hj=>?_⟩
   have hj':j<c.length:=by simpa using hj
   obtain⟨v,b1,b2,b3⟩:=a4 j hj'
   refine⟨v,b1,?_,b3⟩
   simp only[List.getElem_map]
   exact b2.OD
  ·obtain⟨y,hy,hat⟩:=hr.obj i b base k hm
   exact⟨y,by rw[aa.aO _ _ e];exact hy,hat⟩
 ·have:=hr.dead i hd
  refine⟨this.1,?_⟩
  rw[aa.aO _ _ (λe=>by subst e;rw[hc] at this;cases this.2)]
  exact this.2
 ·rw[aa.aO _ _ (λe=>by subst e;have:=hr.fresh i hi;rw[hc] at this;cases this)]
  exact hr.fresh i hi
inductive uO:Fr->aa->Fr->aa->Prop where
 |refl (fr:Fr) (h:aa):uO fr h fr h
 |one {fr:Fr} {h:aa} {o:Nat} {c:List VV} (hc:h.get o=some (.cells c)) (ir bp:List Nat) {fr2:Fr} {h2:aa}:uO (oJ o c ir fr) (mH o c bp h) fr2 h2->uO fr h fr2 h2
 |OD {fr:Fr} {h:aa} {o:Nat} {c:List VV} (hc:h.get o=some (.cells c)) {fr2:Fr} {h2:aa}:uO fr (h.set o (.cells (c.map Bo))) fr2 h2->uO fr h fr2 h2
theorem uO.sound {fr fr2:Fr} {h h2:aa} (hz:uO fr h fr2 h2):∀{G:ab} {N:Fm} {tmps:Array Value},Rel G h w->lf G N fr tmps->∃G',Rel G' h2 w/\lf G' N fr2 tmps/\Ext G G' w w:=by
 induction hz with
 |refl=>intro G N tmps hr hf;exact⟨G,hr,hf,.refl G w⟩
 |@one fr h o c hc ir bp fr2 h2 _ ih=>
  intro G N tmps hr hf
  obtain⟨G',he,hv,hr',hid⟩:=wS hr hc
  have hf':=Bz he.le hv hf ir fr (λt=>.inl rfl)
  have hr2:Rel G' (mH o c bp h) w:=
   BA he.le hv hr (λi m hm=>(hid i m hm).1) bp _ hr' (λi m hm=>.inl (aa.aO _ _ (hid i m hm).2))
  obtain⟨G2,a1,a2,a3⟩:=ih hr2 hf'
  exact⟨G2,a1,a2,he.trans a3⟩
 |OD hc _ ih=>
  intro G N tmps hr hf
  exact ih (EU hr hc) hf
end
section
variable{P:Program} {G:ab} {w:World} {F:Fence} {n:Nat}
def rf (ops:Array Oper) (fr:Fr) (j:Nat):Option Bool:=
 match(ops[j]?).bind (·.dst) with
 |some d=>match fr.at d with|.bool b=>some b|_=>none
 |none=>none
theorem qq {N:Fm} {fr:Fr} {tmps:Array Value} (hf:lf G N fr tmps) {ops:Array Oper} (hops:∀(j:Nat) (o:Oper),ops[j]?=some o->bd N o=true) (j:Nat):
 yielded ops tmps j=rf ops fr j:=by
 unfold yielded rf
 cases ho:ops[j]? with
 |none=>rfl
 |some o=>
  simp only[Option.bind_some]
  cases hd:o.dst with
  |none=>rfl
  |some d=>
   have hlt:d<N.n:=by have:=hops j o ho;simp[bd,hd] at this;exact this.1.1
   have hlt':d<tmps.size:=by rw[hf.1];exact hlt
   have h2:=hf.2 d
   have e:tmps.getD d Go.undef=tmps[d]:=by simp[hlt']
   rw[e] at h2
   simp only[Option.bind_some,Array.getElem?_eq_getElem hlt']
   generalize tmps[d]=x at h2
   generalize fr.at d=v at h2
   cases h2<;>rfl
def cf (ops:Array Oper) (fr:Fr) (o:Oper):Bool:=Region.wanted o (rf ops fr)
def o6 (P:Program) (ops:Array Oper) (Q:VX->Fr->aa->Prop):List Oper->Fr->aa->Prop
 |[],fr,h=>Q .normal fr h
 |o::rest,fr,h=>if cf ops fr o=true then ez P o fr h (o6 P ops Q rest) Q else o6 P ops Q rest (put fr o.dst .undef) h
theorem cP.same {N:Fm} {a0 a1:Act} {Q:VX->Fr->aa->Prop} (hs:pc N a0 a1) {e:Exit} {a:Act} {w2:World} (h:cP G w N a1 Q e a w2):cP G w N a0 Q e a w2:=by
 obtain⟨h1,h2⟩:=h
 exact⟨hs.trans h1,h2⟩
theorem cP.ext {N:Fm} {a0:Act} {Q:VX->Fr->aa->Prop} {G':ab} {w':World} (he:Ext G G' w w') {e:Exit} {a:Act} {w2:World} (h:cP G' w' N a0 Q e a w2):cP G w N a0 Q e a w2:=by
 obtain⟨h1,x,fr,h',G2,h2,h3,h4,h5,h6⟩:=h
 exact⟨h1,x,fr,h',G2,h2,h3,h4,h5,he.trans h6⟩
theorem Cz (hF:dR F) {N:Fm} {ops:Array Oper} (hops:∀(j:Nat) (o:Oper),ops[j]?=some o->bd N o=true) {Q:VX->Fr->aa->Prop}:∀(l:List Oper) (G:ab) (w:World) (fr:Fr) (h:aa) (a:Act),
 (∀o∈l,bd N o=true)->Rel G h w->lf G N fr a.tmps->o6 P ops Q l fr h->wpListIn F n P ops (cP G w N a Q) l a w:=by
 intro l
 induction l with
 |nil=>intro G w fr h a _ hr hf hv;exact⟨.refl N a,.normal,fr,h,G,hv,trivial,λ_=>hf,hr,.refl G w⟩
 |cons o l ih=>
  intro G w fr h a hl hr hf hv
  have ho:=hl o (by simp)
  have hw:Region.wanted o (yielded ops a.tmps)=cf ops fr o:=by
   unfold cf
   congr 1
   funext j
   exact qq hf hops j
  simp only[o6] at hv
  simp only[wpListIn,hw]
  split
  ·rename_i hwant
   rw[if_pos hwant] at hv
   refine Oper.wpIn_mono (λa' w' hn=>?_) (rX hF hr hf ho hv)
   obtain⟨hd,fr',h',G',hK,hf',hr',he⟩:=hn
   have hih:=ih G' w' fr' h' a' (λo ho'=>hl o (by simp[ho'])) hr' hf' hK
   have hm:∀(l:List Oper) (a2:Act) (w2:World),wpListIn F n P ops (cP G' w' N a' Q) l a2 w2->wpListIn F n P ops (cP G w N a Q) l a2 w2:=by
    intro l
    induction l with
    |nil=>intro a2 w2 h2;exact cP.same hd (cP.ext he h2)
    |cons o2 l ih2=>
     intro a2 w2 h2
     simp only[wpListIn] at h2⊢
     split
     ·rename_i hw2
      rw[if_pos hw2] at h2
      exact jL (λa w=>ih2 a w) (λe a w hp=>cP.same hd (cP.ext he hp)) h2
     ·rename_i hw2
      rw[if_neg hw2] at h2
      exact⟨h2.1,ih2 _ _ h2.2⟩
   exact hm l a' w' hih
  ·rename_i hwant
   rw[if_neg hwant] at hv
   have hp:=hf.put (.undef G) ho
   have hih:=ih G w _ h _ (λo ho'=>hl o (by simp[ho'])) hr hp.1 hv
   refine⟨λf _=>hF.fn f,?_⟩
   have hm:∀(l:List Oper) (a2:Act) (w2:World),wpListIn F n P ops (cP G w N (a.put o.dst Go.undef) Q) l a2 w2->wpListIn F n P ops (cP G w N a Q) l a2 w2:=by
    intro l
    induction l with
    |nil=>intro a2 w2 h2;exact cP.same hp.2 h2
    |cons o2 l ih2=>
     intro a2 w2 h2
     simp only[wpListIn] at h2⊢
     split
     ·rename_i hw2
      rw[if_pos hw2] at h2
      exact jL (λa w=>ih2 a w) (λe a w hp'=>cP.same hp.2 hp') h2
     ·rename_i hw2
      rw[if_neg hw2] at h2
      exact⟨h2.1,ih2 _ _ h2.2⟩
   exact hm l _ _ hih
def Oq (P:Program) (N:Fm) (ops:Array Oper) (Q:VX->Fr->aa->Prop) (fr:Fr) (h:aa):Prop:=
 ∀(F:Fence) (n:Nat),dR F->∀(G:ab) (w:World) (a:Act) (t:Nat),Rel G h w->lf G N fr a.tmps->wpOpsIn F n P ops (cP G w N a Q) (Region.schedule (P.follows .mixedOrders) ops t) a w
def VX.then (K:Fr->aa->Prop) (Q:VX->Fr->aa->Prop):VX->Fr->aa->Prop
 |.normal,fr,h=>K fr h
 |x,fr,h=>Q x fr h
def VX.inBlock (id:Nat) (Q:VX->Fr->aa->Prop):VX->Fr->aa->Prop
 |.exit id',fr,h=>if id'=id then Q .normal fr h else Q (.exit id') fr h
 |x,fr,h=>Q x fr h
def na (body:(VX->Fr->aa->Prop)->Fr->aa->Prop) (Q:VX->Fr->aa->Prop):Nat->Fr->aa->Prop
 |0=>λ_ _=>False
 |n+1=>body (VX.then (na body Q n) Q)
def Fz (K:Fr->aa->Prop) (fr:Fr) (h:aa):Prop:=∃fr2 h2,uO fr h fr2 h2/\K fr2 h2
theorem Fz.of {K:Fr->aa->Prop} {fr:Fr} {h:aa} (hk:K fr h):Fz K fr h:=⟨fr,h,.refl fr h,hk⟩
theorem yP.Wr {N:Fm} {a:Act} {K:Fr->aa->Prop} {a':Act} {w':World} (hn:yP G w N a (Fz K) a' w'):yP G w N a K a' w':=by
 obtain⟨hd,fr',h',G',⟨fr2,h2,hz,hK⟩,hf',hr',he⟩:=hn
 obtain⟨G2,hr2,hf2,he2⟩:=hz.sound hr' hf'
 exact⟨hd,fr2,h2,G2,hK,hf2,hr2,he.trans he2⟩
def gB (P:Program) (N:Fm):Code->(VX->Fr->aa->Prop)->Fr->aa->Prop
 |.skip,Q=>Q .normal
 |.label _,Q=>Q .normal
 |.region _ ops false,Q=>o6 P ops Q ops.toList
 |.region _ ops true,Q=>Oq P N ops Q
 |.seq a b,Q=>gB P N a (VX.then (Fz (gB P N b Q)) Q)
 |.cond c a b,Q=>λfr h=>match ev fr c with|.bool t=>if t=true then gB P N a Q fr h else gB P N b Q fr h|_=>False
 |.block id c,Q=>gB P N c (VX.inBlock id Q)
 |.loop c,Q=>λfr h=>∃n,na (gB P N c) Q n fr h
 |.exit id,Q=>Q (.exit id)
 |.scope _,_=>λ_ _=>False
 |.ret,Q=>Q .ret
 |.rangeFunc ..,_=>λ_ _=>False
 |.goto _,_=>λ_ _=>False
 |.refuse _,_=>λ_ _=>False
def aT (N:Fm):Code->Bool
 |.region _ ops _=>ops.toList.all (bd N)
 |.seq a b=>aT N a&&aT N b
 |.cond c a b=>(match c with|.const v=>e9 v|_=>true)&&aT N a&&aT N b
 |.block _ c=>aT N c
 |.loop c=>aT N c
 |.scope c=>aT N c
 |_=>true
theorem lB {p:Nat->Prop} (h:∃m,p m):∃m,p m/\∀k,p k->m<=k:=by
 obtain⟨m,hm⟩:=h
 induction m using Nat.strongRecOn with
 |_ m ih=>
  by_cases h2:∃k,k<m/\p k
  ·obtain⟨k,hk,hpk⟩:=h2
   exact ih k hk hpk
  ·exact⟨m,hm,λk hk=>Nat.le_of_not_lt λhlt=>h2 ⟨k,hlt,hk⟩⟩
theorem uK {c:Code} {Q:Exit->Act->World->Prop} (I:Nat->Act->World->Prop) {a:Act} {w:World} {m:Nat} (h0:I m a w)
 (round:∀m a w,I m a w->c.wpIn F n P (Exit.then (λa' w'=>∃m',m'<m/\I m' a' w') Q) a w):(Code.loop c).wpIn F n P Q a w:=by
 classical
 let μ:Act->World->Nat:=λa w=>if h:∃m,I m a w then Classical.choose (lB h) else 0
 refine wpIn_loop (I:=λa w=>∃m,I m a w) (μ:=μ) ⟨m,h0⟩ ?_
 intro a w hI
 have hμ:I (μ a w) a w:=by
  simp only[μ,dif_pos hI]
  exact(Classical.choose_spec (lB hI)).1
 refine wpIn_mono (round _ a w hμ) λe a' w' hq=>?_
 cases e with
 |normal=>
  obtain⟨m',hm',hI'⟩:=hq
  refine⟨⟨m',hI'⟩,?_⟩
  have:μ a' w'<=m':=by
   simp only[μ,dif_pos (⟨m',hI'⟩:∃m,I m a' w')]
   exact(Classical.choose_spec (lB (⟨m',hI'⟩:∃m,I m a' w'))).2 m' hI'
  omega
 |_=>exact hq
theorem qs {ops:Array Oper} {Q Q':Exit->Act->World->Prop} (hQ:∀e a w,Q e a w->Q' e a w):∀(l:List Nat) (a:Act) (w:World),wpOpsIn F n P ops Q l a w->wpOpsIn F n P ops Q' l a w:=by
 intro l
 induction l with
 |nil=>intro a w h;exact hQ _ _ _ h
 |cons i l ih=>
  intro a w h
  simp only[wpOpsIn] at h⊢
  split
  ·rename_i hn;simp only[hn] at h;exact ih _ _ h
  ·rename_i o ho
   simp only[ho] at h
   split
   ·rename_i hw
    rw[if_pos hw] at h
    exact jL (λa w=>ih a w) hQ h
   ·rename_i hw
    rw[if_neg hw] at h
    exact⟨h.1,ih _ _ h.2⟩
theorem cP.next {N:Fm} {a0:Act} {Q:VX->Fr->aa->Prop} {K:Fr->aa->Prop} {e:Exit} {a:Act} {w2:World}
 (h:cP G w N a0 (VX.then K Q) e a w2) {R:Act->World->Prop} (hR:yP G w N a0 K a w2->R a w2):Exit.then R (cP G w N a0 Q) e a w2:=by
 obtain⟨h1,x,fr,h',G2,h2,h3,h4,h5,h6⟩:=h
 cases x with
 |normal=>
  cases e<;>simp only[XR] at h3
  exact hR ⟨h1,fr,h',G2,h2,h4 rfl,h5,h6⟩
 |exit i=>
  cases e<;>simp only[XR] at h3
  exact⟨h1,.exit i,fr,h',G2,h2,h3,h4,h5,h6⟩
 |ret=>
  cases e<;>simp only[XR] at h3
  exact⟨h1,.ret,fr,h',G2,h2,trivial,h4,h5,h6⟩
 |panic v=>
  cases e<;>simp only[XR] at h3
  exact⟨h1,.panic v,fr,h',G2,h2,h3,h4,h5,h6⟩
theorem gT (hF:dR F) {N:Fm}:∀(c:Code),aT N c=true->∀(Q:VX->Fr->aa->Prop) (G:ab) (w:World) (fr:Fr) (h:aa) (a:Act),
 Rel G h w->lf G N fr a.tmps->gB P N c Q fr h->c.wpIn F n P (cP G w N a Q) a w:=by
 intro c
 induction c with
 |skip=>intro _ Q G w fr h a hr hf hv;exact wpIn_skip ⟨.refl N a,.normal,fr,h,G,hv,trivial,λ_=>hf,hr,.refl G w⟩
 |label l=>intro _ Q G w fr h a hr hf hv;exact wpIn_label ⟨.refl N a,.normal,fr,h,G,hv,trivial,λ_=>hf,hr,.refl G w⟩
 |exit id=>intro _ Q G w fr h a hr hf hv;exact wpIn_exit ⟨.refl N a,.exit id,fr,h,G,hv,rfl,λ_=>hf,hr,.refl G w⟩
 |ret=>intro _ Q G w fr h a hr hf hv;exact wpIn_ret ⟨.refl N a,.ret,fr,h,G,hv,trivial,λ_=>hf,hr,.refl G w⟩
 |rangeFunc=>intro _ Q G w fr h a hr hf hv;exact hv.elim
 |goto=>intro _ Q G w fr h a hr hf hv;exact hv.elim
 |refuse=>intro _ Q G w fr h a hr hf hv;exact hv.elim
 |region id ops draw=>
  intro hc Q G w fr h a hr hf hv
  have hops:∀o∈ops.toList,bd N o=true:=by simp only[aT,List.all_eq_true] at hc;exact hc
  have hops':∀(j:Nat) (o:Oper),ops[j]?=some o->bd N o=true:=λj o ho=>hops o (by
   obtain⟨hj,rfl⟩:=Array.getElem?_eq_some_iff.1 ho
   simp)
  cases draw with
  |false=>exact wpIn_region_list (Cz hF hops' ops.toList G w fr h a hops hr hf hv)
  |true=>
   refine wpIn_region_draw λt=>?_
   have:=hv F n hF G {w with drawn:=w.drawn+1} a t (hr.drew _) hf
   exact qs (λe a' w'=>cP.ext (Ext.drew G w _)) _ _ _ this
 |seq x y ihx ihy=>
  intro hc Q G w fr h a hr hf hv
  simp only[aT,Bool.and_eq_true] at hc
  refine wpIn_seq (wpIn_mono (ihx hc.1 _ G w fr h a hr hf hv) λe a' w' hp=>hp.next λhn=>?_)
  obtain⟨hd,fr',h',G',hK,hf',hr',he⟩:=hn.Wr
  have:=ihy hc.2 Q G' w' fr' h' a' hr' hf' hK
  exact wpIn_mono this λe2 a2 w2 hp2=>cP.same hd (cP.ext he hp2)
 |cond c x y ihx ihy=>
  intro hc Q G w fr h a hr hf hv
  simp only[aT,Bool.and_eq_true] at hc
  simp only[gB] at hv
  have hcv:RV G (ev fr c) (a.eval c):=tf hf (λv hv=>by subst hv;exact hc.1.1)
  split at hv
  ·rename_i t ht
   rw[ht] at hcv
   generalize hval:a.eval c=cv at hcv
   cases hcv
   refine wpIn_cond hval ?_
   cases t
   ·exact ihy hc.2 Q G w fr h a hr hf (by simpa using hv)
   ·exact ihx hc.1.2 Q G w fr h a hr hf (by simpa using hv)
  ·exact hv.elim
 |block id c ih=>
  intro hc Q G w fr h a hr hf hv
  simp only[aT] at hc
  refine wpIn_block (wpIn_mono (ih hc _ G w fr h a hr hf hv) λe a' w' hp=>?_)
  obtain⟨h1,x,fr',h',G2,h2,h3,h4,h5,h6⟩:=hp
  cases x with
  |normal=>cases e<;>simp only[XR] at h3;exact⟨h1,.normal,fr',h',G2,h2,trivial,h4,h5,h6⟩
  |ret=>cases e<;>simp only[XR] at h3;exact⟨h1,.ret,fr',h',G2,h2,trivial,h4,h5,h6⟩
  |panic v=>cases e<;>simp only[XR] at h3;exact⟨h1,.panic v,fr',h',G2,h2,h3,h4,h5,h6⟩
  |exit i=>
   cases e<;>simp only[XR] at h3
   subst h3
   simp only[VX.inBlock] at h2
   simp only[Exit.inBlock]
   split
   ·rename_i hi;rw[if_pos hi] at h2;exact⟨h1,.normal,fr',h',G2,h2,trivial,h4,h5,h6⟩
   ·rename_i hi;rw[if_neg hi] at h2;exact⟨h1,.exit i,fr',h',G2,h2,rfl,h4,h5,h6⟩
 |scope=>intro _ Q G w fr h a hr hf hv;exact hv.elim
 |loop c ih=>
  intro hc Q G w fr h a hr hf hv
  simp only[aT] at hc
  obtain⟨m,hn⟩:=hv
  refine uK (m:=m) (λm a' w'=>pc N a a'/\∃fr' h' G',na (gB P N c) Q m fr' h'/\lf G' N fr' a'.tmps/\Rel G' h' w'/\Ext G G' w w')
   ⟨.refl N a,fr,h,G,hn,hf,hr,.refl G w⟩ ?_
  rintro m a' w' ⟨hd,fr',h',G',hv',hf',hr',he⟩
  cases m with
  |zero=>exact hv'.elim
  |succ m=>
   have:=ih hc _ G' w' fr' h' a' hr' hf' hv'
   refine wpIn_mono this λe a2 w2 hp=>(cP.same hd (cP.ext he hp)).next λhn=>?_
   obtain⟨hd2,fr2,h2,G2,hK,hf2,hr2,he2⟩:=hn
   exact⟨m,Nat.lt_succ_self m,hd2,fr2,h2,G2,hK,hf2,hr2,he2⟩
end
section
variable{P:Program} {G:ab} {w:World}
def eV:Nat->List VV->Fr->Fr
 |_,[],fr=>fr
 |i,v::l,fr=>eV (i+1) l (Tr.set fr i v)
def fp (args:List VV):Fr:=eV 0 args .nil
theorem oB:∀(l:List VV) (i:Nat) (fr:Fr) (t:Nat),(eV i l fr).at t=if i<=t/\t<i+l.length then l.getD (t-i) .undef else fr.at t:=by
 intro l
 induction l with
 |nil=>intro i fr t;simp[eV];omega
 |cons v l ih=>
  intro i fr t
  simp only[eV,ih,Fr.dY,List.length_cons]
  by_cases h1:i+1<=t/\t<i+1+l.length
  ·rw[if_pos h1,if_pos (by omega)]
   rw[show t-i=(t-(i+1))+1 by omega]
   simp
  ·rw[if_neg h1]
   by_cases h2:t=i
   ·subst h2;simp
   ·rw[if_neg h2,if_neg (by omega)]
theorem Fr.PC (t:Nat):Fr.at Tr.nil t=VV.undef:=rfl
theorem iY {args:List VV} {vargs:Array Value} (ha:cO G args vargs.toList) {n:Nat} (hn:args.length<=n):
 lf G ⟨n,[]⟩ (fp args) (vargs++Array.replicate (n-vargs.size) Go.undef):=by
 have hl:args.length=vargs.size:=by simpa using ha.1
 refine⟨by simp;omega,λt=>?_⟩
 rw[fp,oB]
 by_cases ht:t<args.length
 ·have ht':t<vargs.size:=by omega
  rw[if_pos (by omega)]
  have e:(vargs++Array.replicate (n-vargs.size) Go.undef).getD t Go.undef=vargs[t]:=by
   simp[Array.getD_eq_getD_getElem?,Array.getElem?_append_left ht',ht']
  rw[e]
  have:=ha.2 t ht (by simpa using ht')
  simpa[ht] using this
 ·rw[if_neg (by omega),Fr.PC]
  have e:(vargs++Array.replicate (n-vargs.size) Go.undef).getD t Go.undef=Go.undef:=by
   have:¬t<vargs.size:=by omega
   simp only[Array.getD_eq_getD_getElem?]
   rw[Array.getElem?_append_right (by omega)]
   simp only[Array.getElem?_replicate]
   split<;>rfl
  rw[e]
  exact .undef G
def ng (P:Program) (fr:Fr) (h:aa):ResultVar->Option VV
 |.tmp t=>some (fr.at t)
 |.cell a t=>jJ P t (fr.at a) h
def fB (P:Program) (fr:Fr) (h:aa):List ResultVar->Option (List VV)
 |[]=>some []
 |r::rs=>match ng P fr h r,fB P fr h rs with
  |some v,some vs=>some (v::vs)
  |_,_=>none
def cT (P:Program) (rs:List ResultVar) (fr:Fr) (h:aa):Option VV:=
 match fB P fr h rs with
 |some [v]=>some v
 |some vs=>some (.bR vs)
 |none=>none
theorem FQ {t:TypeId} {p v:VV} {h:aa} {x:Value} (hp:RV G p x) (hv:jJ P t p h=some v):∃a,x=.pointer (some a):=by
 unfold jJ at hv
 cases p<;>simp only[reduceCtorEq] at hv
 ·cases hp<;>exact⟨_,rfl⟩
 ·cases hp;exact⟨_,rfl⟩
def NC (tmps:Array Value):ResultVar->Sem Value
 |.tmp t=>pure (tmps.getD t Go.undef)
 |.cell a t=>do loadVar t (<-asAddr (tmps.getD a Go.undef))
theorem B4 (fn:Func) (tmps:Array Value):results fn tmps=(do let vs<-fn.results.mapM (NC tmps);pure (if h:vs.size=1 then vs[0] else .tuple vs)):=by
 unfold results
 congr 1
def rG:ResultVar->Tmp
 |.tmp t=>t
 |.cell a _=>a
theorem uA {h:aa} (hr:Rel G h w) {fr:Fr} {tmps:Array Value} {r:ResultVar} (hf:RV G (fr.at (rG r)) (tmps.getD (rG r) Go.undef)) {v:VV} (hv:ng P fr h r=some v):
 ∃x,(NC tmps r).run P w=.ok x w/\RV G v x:=by
 cases r with
 |tmp t=>simp[ng] at hv;subst hv;exact⟨_,rfl,hf⟩
 |cell a t=>
  simp only[ng] at hv
  have hp:RV G (fr.at a) (tmps.getD a Go.undef):=hf
  obtain⟨ad,ha⟩:=FQ hp hv
  obtain⟨x,h1,h2⟩:=rQ (P:=P) hr hp hv
  refine⟨x,?_,h2⟩
  rw[ha] at h1
  simp only[NC,ha]
  simpa[Instr.loadAt,Instr.sureAddr,asAddr] using h1
theorem uB {h:aa} (hr:Rel G h w) {fr:Fr} {tmps:Array Value}:∀(rs:List ResultVar) (vs:List VV),(∀r∈rs,RV G (fr.at (rG r)) (tmps.getD (rG r) Go.undef))->fB P fr h rs=some vs->
 ∃xs,(rs.mapM (NC tmps)).run P w=.ok xs w/\cO G vs xs:=by
 intro rs
 induction rs with
 |nil=>intro vs _ hv;simp[fB] at hv;subst hv;exact⟨[],by simp,.nil G⟩
 |cons r rs ih=>
  intro vs hf hv
  simp only[fB] at hv
  split at hv
  ·rename_i v vs' h1 h2
   cases hv
   obtain⟨x,hx1,hx2⟩:=uA (P:=P) hr (hf r (by simp)) h1
   obtain⟨xs,hxs1,hxs2⟩:=ih vs' (λr hr=>hf r (by simp[hr])) h2
   refine⟨x::xs,?_,.cons hx2 hxs2⟩
   rw[List.mapM_cons,Sem.run_bind]
   simp only[hx1,Result.andThen_ok,Sem.run_bind,hxs1,Sem.run_pure]
  ·cases hv
theorem nh {h:aa} (hr:Rel G h w) {fr:Fr} {tmps:Array Value} {fn:Func} (hf:∀r∈fn.results.toList,RV G (fr.at (rG r)) (tmps.getD (rG r) Go.undef)) {v:VV} (hv:cT P fn.results.toList fr h=some v):
 ∃x,(results fn tmps).run P w=.ok x w/\RV G v x:=by
 unfold cT at hv
 cases hvs:fB P fr h fn.results.toList with
 |none=>simp[hvs] at hv
 |some vs=>
  obtain⟨xs,h1,h2⟩:=uB (P:=P) hr _ _ hf hvs
  have hrun:(results fn tmps).run P w=.ok (if h:xs.toArray.size=1 then xs.toArray[0] else .tuple xs.toArray) w:=by
   rw[B4,Array.mapM_eq_mapM_toList]
   simp[h1]
  refine⟨_,hrun,?_⟩
  rw[hvs] at hv
  cases vs with
  |nil=>
   cases hv
   have:xs=[]:=List.eq_nil_of_length_eq_zero h2.1.symm
   subst this
   exact RV.iV.2 ⟨_,rfl,.nil G⟩
  |cons u us=>
   cases us with
   |nil=>
    cases hv
    cases xs with
    |nil=>have:=h2.1;simp at this
    |cons x xs'=>
     have hx:xs'=[]:=List.eq_nil_of_length_eq_zero (by have:=h2.1;simpa using this.symm)
     subst hx
     have:=h2.2 0 (by simp) (by simp)
     simpa using this
   |cons u2 us=>
    cases hv
    have hne:¬xs.toArray.size=1:=by have:=h2.1;simp at this⊢;omega
    rw[dif_neg hne]
    exact RV.iV.2 ⟨_,rfl,by simpa using h2⟩
theorem eE {h:aa} (hr:Rel G h w) {N:Fm} {fr:Fr} {tmps:Array Value} (hf:lf G N fr tmps) {fn:Func} {v:VV} (hv:cT P fn.results.toList fr h=some v):
 ∃x,(results fn tmps).run P w=.ok x w/\RV G v x:=nh hr (λ_ _=>hf.2 _) hv
def jf (P:Program) (rs:List ResultVar) (R:fQ->aa->Prop):VX->Fr->aa->Prop
 |.normal,fr,h|.ret,fr,h=>match cT P rs fr h with|some v=>R (.ret v) h|none=>False
 |.panic v,_,h=>R (.panic v) h
 |.exit _,_,_=>False
def fD (P:Program) (f:FuncId) (n:Nat):Bool:=
 match P.funcs[f]? with
 |some fn=>match fn.body with
  |some c=>!(fn.name== "runtime.NumGoroutine")&&aT ⟨fn.ntmps,[]⟩ c&&decide (n<=fn.ntmps)
  |none=>false
 |none=>false
def qi (P:Program) (f:FuncId) (args:List VV) (h:aa) (R:fQ->aa->Prop):Prop:=
 match P.funcs[f]? with
 |some fn=>match fn.body with
  |some c=>gB P ⟨fn.ntmps,[]⟩ c (jf P fn.results.toList R) (fp args) h
  |none=>False
 |none=>False
theorem jF {f:FuncId} {args:List VV} {h:aa} {R:fQ->aa->Prop} (hc:fD P f args.length=true) (hv:qi P f args h R):bA P f args h R:=by
 intro F n hF G w vargs hr ha o a K Q hK hQ
 unfold fD at hc
 unfold qi at hv
 cases hf:P.funcs[f]? with
 |none=>simp[hf] at hc
 |some fn=>
  cases hb:fn.body with
  |none=>simp[hf,hb] at hc
  |some c=>
   simp only[hf,hb,Bool.and_eq_true,Bool.not_eq_true',decide_eq_true_eq] at hc hv
   obtain⟨⟨h1,h2⟩,h3⟩:=hc
   rw[MuLone.run_callFunc_enter hf h1 hb]
   refine⟨λe=>by simp[hF.depth] at e,CallsIn.mono (R:=λe w'=>∃r h' G',R r h'/\A3 G' r e/\Rel G' h' w'/\Ext G G' w w') ?_ ?_⟩
   ·have hP:dR F.plain:=hF.plain
    refine(callsIn_of_wp (F:=F.plain) hf hb (hF.fn f) ?_ rfl:CallsIn F.plain (n-1) P f vargs w _)
    have hfr:=iY ha h3
    refine wpIn_mono (gT hP c h2 _ G w _ h {tmps:=vargs++Array.replicate (fn.ntmps-vargs.size) Go.undef,defers:=[]} hr hfr hv) ?_
    rintro e a' w' ⟨hd,x,fr',h',G',hx,hxr,hf',hr',he⟩
    cases x with
    |normal=>
     cases e<;>simp only[XR] at hxr
     simp only[jf] at hx
     split at hx
     ·rename_i v hres
      obtain⟨y,hy1,hy2⟩:=eE (P:=P) hr' (hf' rfl) hres
      exact⟨hd.1,y,hy1,.ret v,h',G',hx,hy2,hr',he⟩
     ·exact hx.elim
    |ret=>
     cases e<;>simp only[XR] at hxr
     simp only[jf] at hx
     split at hx
     ·rename_i v hres
      obtain⟨y,hy1,hy2⟩:=eE (P:=P) hr' (hf' rfl) hres
      exact⟨hd.1,y,hy1,.ret v,h',G',hx,hy2,hr',he⟩
     ·exact hx.elim
    |panic v=>
     cases e<;>simp only[XR] at hxr
     exact⟨hd.1,.panic v,h',G',hx,hxr,hr',he⟩
    |exit i=>exact hx.elim
   ·rintro e w' ⟨r,h',G',hR,he,hr',hext⟩
    cases r with
    |ret v=>cases e<;>simp only[A3] at he;exact hK G' w' h' _ v hR he hr' hext
    |panic v=>
     cases e<;>simp only[A3] at he
     obtain⟨y,rfl,hy⟩:=he
     exact hQ G' w' h' y v hR hy hr' hext
end
section
def cR:Op->Bool
 |.alloc _|.box .. |.makeMap _ none|.makeSlice .. =>true
 |_=>false
def bU:Op->Bool
 |.move _|.pick .. |.build .. |.buildSlice .. |.load .. |.nilCheck _|.binOp .. |.unOp .. |.convert .. |.makeInterface .. |.makeFunc .. |.slice ..
 |.fieldAddr .. |.field .. |.indexAddr .. |.index .. |.lookup .. |.typeAssert .. |.extract .. =>true
 |.call {callee:=.builtin .len,.. }|.call {callee:=.builtin .min,.. }|.call {callee:=.builtin .max,.. }=>true
 |o=>cR o
def fO:Op->Bool
 |.load .. |.convert .. |.lookup .. =>true
 |.call {callee:=.builtin .len,.. }=>true
 |_=>false
def BY (op:Op):List Tmp:=op.operands.toList.filterMap λx=>match x with|.tmp t=>some t|_=>none
def cg (ops:Array Oper) (o:Oper):List Tmp:=
 BY o.op++(match o.guard with|some (j,_)=>((ops[j]?).bind (·.dst)).toList|none=>[])
def aA (ops:Array Oper) (i:Nat):Oper:=ops.getD i default
def gP (b:Array Nat) (j i:Nat):Bool:=(b.getD j 0).testBit i
def waits (o:Oper):List Nat:=(o.after.toList.filter (Region.binds .any)).map (·.on)
def ga (ops:Array Oper) (b:Array Nat):Bool:=
 (List.range ops.size).all λj=>(waits (aA ops j)).all (λk=>decide (k<j))&&
   (List.range ops.size).all λi=>!gP b j i||(waits (aA ops j)).contains i||(waits (aA ops j)).any λk=>gP b k i
def s5 (ops:Array Oper) (b:Array Nat):Bool:=
 (List.range ops.size).all λi=>(List.range ops.size).all λj=>
   let oi:=aA ops i
   let oj:=aA ops j
   (match oi.dst with
     |some d=>(!(cg ops oj).contains d||(i==j&&!bU oi.op)||(i !=j&&(gP b j i||(!bU oi.op&&gP b i j))))&&(i==j||oj.dst !=some d)
     |none=>true)&&
   (i==j||bU oi.op||bU oj.op||gP b j i||gP b i j)
abbrev az:=List (Nat×List Nat)
def ku (ops:Array Oper) (b:Array Nat):List Nat->az->Bool
 |done,[]=>(List.range ops.size).all λi=>done.contains i
 |done,(i,cK)::rest=>
  decide (i<ops.size)&&!done.contains i&&(waits (aA ops i)).all done.contains&&
  (bU (aA ops i).op||
    ((List.range ops.size).all (λj=>done.contains j||!bU (aA ops j).op||!(waits (aA ops j)).all done.contains)&&
     done.all λp=>!bU (aA ops p).op||!(fO (aA ops p).op||cR (aA ops p).op)||cK.contains p||gP b i p))&&
  ku ops b (i::done) rest
def sx (ops:Array Oper) (plan:az):Bool:=
 ga ops (Region.before ops)&&s5 ops (Region.before ops)&&ku ops (Region.before ops) [] plan
end
end Go.Vv
