/- Part of the proof of CheckTrees: plain laws and steps of its walks, for all arguments. -/
import Derived.Test.YtdjkoddnnogejaaGreatZVu
set_option linter.unusedSimpArgs false
set_option linter.unusedVariables false
set_option linter.unusedSectionVars false
namespace Go.Vv
section
variable{P:Program} {G:ab} {w:World}
def VV.qd:VV->VV->Bool
 |.bool a,.bool b=>a==b
 |.int j a,.int k b=>j==k&&a==b
 |.str a,.str b=>a==b
 |.iF,.iF=>true
 |.ptr o a,.ptr p b=>o==p&&a==b
 |.qH a,.qH b=>a==b
 |.da,.da=>true
 |.ref o f l e c,.ref o' f' l' e' c'=>o==o'&&f==f'&&l==l'&&e==e'&&c==c'
 |.ig,.ig=>true
 |.map a,.map b=>a==b
 |.lJ,.lJ=>true
 |.ec,.ec=>true
 |_,_=>false
theorem VV.rH {a b:VV} (h:VV.qd a b=true):a=b:=by
 cases a<;>cases b<;>simp[VV.qd] at h<;>simp_all
def gn:List VV->List VV->Bool
 |[],[]=>true
 |a::l,b::m=>a.qd b&&gn l m
 |_,_=>false
theorem iq:∀{l m:List VV},gn l m=true->l=m
 |[],[],_=>rfl
 |[],_::_,h=>by simp[gn] at h
 |_::_,[],h=>by simp[gn] at h
 |a::l,b::m,h=>by
  simp only[gn,Bool.and_eq_true] at h
  rw[VV.rH h.1,iq h.2]
def kT:List (List VV)->List (List VV)->Bool
 |[],[]=>true
 |a::l,b::m=>gn a b&&kT l m
 |_,_=>false
theorem rI:∀{l m:List (List VV)},kT l m=true->l=m
 |[],[],_=>rfl
 |[],_::_,h=>by simp[kT] at h
 |_::_,[],h=>by simp[kT] at h
 |a::l,b::m,h=>by
  simp only[kT,Bool.and_eq_true] at h
  rw[iq h.1,rI h.2]
def VV.same (a b:VV):Bool:=
 match a,b with
 |.agg l,.agg m=>gn l m
 |.fb l a,.fb m b=>gn l m&&a==b
 |.vs l c,.vs m d=>kT l m&&c==d
 |a,b=>a.qd b
theorem VV.NR {a b:VV} (h:VV.same a b=true):a=b:=by
 unfold VV.same at h
 split at h
 ·rw[iq h]
 ·simp only[Bool.and_eq_true,beq_iff_eq] at h
  rw[iq h.1,h.2]
 ·simp only[Bool.and_eq_true,beq_iff_eq] at h
  rw[rI h.1,h.2]
 ·exact VV.rH h
def xM:Option dC->Option dC->Bool
 |some (.cells l),some (.cells m)=>gn l m
 |some (.map []),some (.map [])=>true
 |_,_=>false
theorem Cd {a b:Option dC} (h:xM a b=true):a=b:=by
 unfold xM at h
 split at h
 ·rw[iq h]
 ·rfl
 ·cases h
inductive X1 where
 |next (fr:Fr) (h:aa)
 |panic (v:VV) (h:aa)
def X1.on (r:X1) (K:Fr->aa->Prop) (Q:VV->aa->Prop):Prop:=
 match r with
 |.next fr h=>K fr h
 |.panic v h=>Q v h
abbrev jg:=FuncId->List VV->aa->Option (fQ×aa)
abbrev A6:=Nat->List VV->aa->Option (VV×aa)
structure dX where
 call:jg
 yield:A6
def lZ (P:Program) (o:Oper) (fr:Fr) (h:aa):Option X1:=
 match rR P o.op fr h with
 |some (v,h')=>some (.next (put fr o.dst v) h')
 |none=>none
def mg (P:Program) (e:dX) (o:Oper) (fr:Fr) (h:aa):Option X1:=
 match o.op with
 |.panic x=>if(ev fr x).isIface=true then some (.panic (ev fr x) h) else none
 |.call c=>
  match dH fr c with
  |some (f,args)=>
   match e.call f args h with
   |some (.ret v,h')=>some (.next (put fr o.dst v) h')
   |some (.panic v,h')=>some (.panic v h')
   |none=>none
  |none=>match jK fr c with
   |some (l,args)=>match e.yield l args h with
    |some (v,h')=>some (.next (put fr o.dst v) h')
    |none=>none
   |none=>lZ P o fr h
 |_=>lZ P o fr h
def kf (P:Program) (call:jg):Prop:=∀f args h r h',call f args h=some (r,h')->bA P f args h λr' h''=>r'=r/\h''=h'
def Gc (P:Program) (y:A6):Prop:=∀o args h v h',y o args h=some (v,h')->fV P o args h λv' h''=>v'=v/\h''=h'
structure gM (P:Program) (e:dX):Prop where
 call:kf P e.call
 yield:Gc P e.yield
theorem l4 {o:Oper} {fr:Fr} {h:aa} {r:X1} (hx:lZ P o fr h=some r) {K:Fr->aa->Prop} {Q:VX->Fr->aa->Prop}
 (hr:r.on K λv h'=>Q (.panic v) fr h'):dB P o fr h K:=by
 unfold lZ at hx
 unfold dB
 split at hx
 ·rename_i v h' hop
  cases hx
  simp only[hop]
  exact hr
 ·cases hx
theorem fP {e:dX} (hc:gM P e) {o:Oper} {fr:Fr} {h:aa} {r:X1} (hx:mg P e o fr h=some r) {K:Fr->aa->Prop} {Q:VX->Fr->aa->Prop}
 (hr:r.on K λv h'=>Q (.panic v) fr h'):ez P o fr h K Q:=by
 unfold mg at hx
 unfold ez
 split at hx
 ·rename_i x hop
  simp only[hop]
  split at hx
  ·rename_i hi
   cases hx
   exact⟨hi,hr⟩
  ·cases hx
 ·rename_i c hop
  simp only[hop]
  split at hx
  ·rename_i f args hcal
   simp only[hcal]
   split at hx
   ·rename_i v h' hcall
    cases hx
    refine(hc.call f args h _ _ hcall).mono ?_
    rintro r' h'' ⟨rfl,rfl⟩
    exact hr
   ·rename_i v h' hcall
    cases hx
    refine(hc.call f args h _ _ hcall).mono ?_
    rintro r' h'' ⟨rfl,rfl⟩
    exact hr
   ·cases hx
  ·rename_i hcal
   simp only[hcal]
   split at hx
   ·rename_i l args hy
    simp only[hy]
    split at hx
    ·rename_i v h' hyl
     cases hx
     refine(hc.yield l args h _ _ hyl).mono ?_
     rintro r' h'' ⟨rfl,rfl⟩
     exact hr
    ·cases hx
   ·rename_i hy
    simp only[hy]
    exact l4 hx hr
 ·rename_i hn1 hn2
  have:=l4 hx hr
  split
  ·rename_i x hop;exact absurd hop (hn1 x)
  ·rename_i c hop;exact absurd hop (hn2 c)
  ·exact this
abbrev cF:=Option (VX×Fr×aa)
def CM (P:Program) (e:dX) (ops:Array Oper):List Oper->Fr->aa->cF
 |[],fr,h=>some (.normal,fr,h)
 |o::rest,fr,h=>
  if cf ops fr o=true then
   match mg P e o fr h with
   |some (.next fr' h')=>CM P e ops rest fr' h'
   |some (.panic v h')=>some (.panic v,fr,h')
   |none=>none
  else CM P e ops rest (put fr o.dst .undef) h
theorem CN {e:dX} (hc:gM P e) {ops:Array Oper} {Q:VX->Fr->aa->Prop} {x:VX} {fr':Fr} {h':aa} (hq:Q x fr' h'):
 ∀(l:List Oper) (fr:Fr) (h:aa),CM P e ops l fr h=some (x,fr',h')->o6 P ops Q l fr h:=by
 intro l
 induction l with
 |nil=>intro fr h hx;cases hx;exact hq
 |cons o l ih=>
  intro fr h hx
  simp only[CM] at hx
  simp only[o6]
  split
  ·rename_i hw
   rw[if_pos hw] at hx
   split at hx
   ·rename_i fr2 h2 hs
    exact fP hc hs (ih _ _ hx)
   ·rename_i v h2 hs
    cases hx
    exact fP hc hs hq
   ·cases hx
  ·rename_i hw
   rw[if_neg hw] at hx
   exact ih _ _ hx
def gC (P:Program) (ops:Array Oper) (ids:List (Nat×Nat)) (h:aa) (fr':Fr) (h':aa):List Nat->Bool
 |[]=>true
 |p::l=>
  (if cf ops fr' (aA ops p)=true then
    if cR (aA ops p).op=true then
     match ids.lookup p with
     |some i=>xM (h'.get i) (h.get i)
     |none=>false
    else
     match aK P (aA ops p).op fr' h' with
     |some v=>match(aA ops p).dst with
      |some d=>v.same (fr'.at d)
      |none=>true
     |none=>false
  else true)&&gC P ops ids h fr' h' l
theorem vm {ops:Array Oper} {ids:List (Nat×Nat)} {h h':aa} {fr':Fr}:∀{l:List Nat},gC P ops ids h fr' h' l=true->ni P ops ids h fr' h' l:=by
 intro l
 induction l with
 |nil=>intro _;trivial
 |cons p l ih=>
  intro hx
  simp only[gC,Bool.and_eq_true] at hx
  refine⟨?_,ih hx.2⟩
  have h1:=hx.1
  unfold gA
  split
  ·rename_i hw
   rw[if_pos hw] at h1
   split
   ·rename_i hn
    rw[if_pos hn] at h1
    split at h1
    ·rename_i hl;simp only[hl];exact Cd h1
    ·cases h1
   ·rename_i hn
    rw[if_neg hn] at h1
    split at h1
    ·rename_i hv
     simp only[hv]
     split at h1
     ·rename_i hd
      simp only[hd]
      exact VV.NR h1
     ·rename_i hd
      simp only[hd]
    ·cases h1
  ·trivial
def Lh (P:Program) (e:dX) (ops:Array Oper):az->List (Nat×Nat)->Fr->aa->cF
 |[],_,fr,h=>some (.normal,fr,h)
 |(i,cK)::rest,ids,fr,h=>
  if cf ops fr (aA ops i)=true then
   if bU (aA ops i).op=true then
    if cR (aA ops i).op=true then
     match fT P (aA ops i).op fr with
     |some (f,x)=>Lh P e ops rest ((i,h.next)::ids) (put fr (aA ops i).dst (f h.next)) (h.push x)
     |none=>none
    else
     match aK P (aA ops i).op fr h with
     |some v=>Lh P e ops rest ids (put fr (aA ops i).dst v) h
     |none=>none
   else
    match mg P e (aA ops i) fr h with
    |some (.next fr' h')=>if gC P ops ids h fr' h' cK=true then Lh P e ops rest ids fr' h' else none
    |some (.panic v h')=>some (.panic v,fr,h')
    |none=>none
  else Lh P e ops rest ids (put fr (aA ops i).dst .undef) h
theorem FY {e:dX} (hc:gM P e) {ops:Array Oper} {Q:VX->Fr->aa->Prop} {x:VX} {fr':Fr} {h':aa} (hq:Q x fr' h'):
 ∀(plan:az) (ids:List (Nat×Nat)) (fr:Fr) (h:aa),Lh P e ops plan ids fr h=some (x,fr',h')->Ct P ops Q plan ids fr h:=by
 intro plan
 induction plan with
 |nil=>intro ids fr h hx;cases hx;exact hq
 |cons ip rest ih=>
  obtain⟨i,cK⟩:=ip
  intro ids fr h hx
  simp only[Lh] at hx
  simp only[Ct]
  split
  ·rename_i hw
   rw[if_pos hw] at hx
   split
   ·rename_i hm
    rw[if_pos hm] at hx
    split
    ·rename_i hn
     rw[if_pos hn] at hx
     split at hx
     ·rename_i hv;simp only[hv];exact ih _ _ _ hx
     ·cases hx
    ·rename_i hn
     rw[if_neg hn] at hx
     split at hx
     ·rename_i hv;simp only[hv];exact ih _ _ _ hx
     ·cases hx
   ·rename_i hm
    rw[if_neg hm] at hx
    split at hx
    ·rename_i fr2 h2 hs
     split at hx
     ·rename_i hst
      exact fP hc hs ⟨vm hst,ih _ _ _ hx⟩
     ·cases hx
    ·rename_i v h2 hs
     cases hx
     exact fP hc hs hq
    ·cases hx
  ·rename_i hw
   rw[if_neg hw] at hx
   exact ih _ _ _ hx
def wk (body:Fr->aa->cF):Nat->Fr->aa->cF
 |0,_,_=>none
 |n+1,fr,h=>
  match body fr h with
  |some (.normal,fr',h')=>wk body n fr' h'
  |r=>r
def eB (P:Program) (e:dX) (T:Nat->az) (n:Nat):Code->Fr->aa->cF
 |.skip,fr,h=>some (.normal,fr,h)
 |.label _,fr,h=>some (.normal,fr,h)
 |.region _ ops false,fr,h=>CM P e ops ops.toList fr h
 |.region id ops true,fr,h=>Lh P e ops (T id) [] fr h
 |.seq a b,fr,h=>
  match eB P e T n a fr h with
  |some (.normal,fr',h')=>eB P e T n b fr' h'
  |r=>r
 |.cond c a b,fr,h=>
  match ev fr c with
  |.bool t=>if t=true then eB P e T n a fr h else eB P e T n b fr h
  |_=>none
 |.block id c,fr,h=>
  match eB P e T n c fr h with
  |some (.exit i,fr',h')=>if i=id then some (.normal,fr',h') else some (.exit i,fr',h')
  |r=>r
 |.loop c,fr,h=>wk (eB P e T n c) n fr h
 |.exit id,fr,h=>some (.exit id,fr,h)
 |.ret,fr,h=>some (.ret,fr,h)
 |_,_,_=>none
def bM (T:Nat->az):Code->Bool
 |.region id ops true=>sx ops (T id)
 |.seq a b=>bM T a&&bM T b
 |.cond _ a b=>bM T a&&bM T b
 |.block _ c=>bM T c
 |.loop c=>bM T c
 |.scope c=>bM T c
 |_=>true
theorem dW {e:dX} (hc:gM P e) (hmix:P.follows .mixedOrders=true) {N:Fm} {T:Nat->az} {n:Nat}:∀(c:Code),aT N c=true->bM T c=true->
 ∀(Q:VX->Fr->aa->Prop) (fr:Fr) (h:aa) (x:VX) (fr':Fr) (h':aa),eB P e T n c fr h=some (x,fr',h')->Q x fr' h'->gB P N c Q fr h:=by
 intro c
 induction c with
 |skip=>intro _ _ Q fr h x fr' h' hx hq;cases hx;exact hq
 |label=>intro _ _ Q fr h x fr' h' hx hq;cases hx;exact hq
 |exit=>intro _ _ Q fr h x fr' h' hx hq;cases hx;exact hq
 |ret=>intro _ _ Q fr h x fr' h' hx hq;cases hx;exact hq
 |rangeFunc=>intro _ _ Q fr h x fr' h' hx;cases hx
 |goto=>intro _ _ Q fr h x fr' h' hx;cases hx
 |refuse=>intro _ _ Q fr h x fr' h' hx;cases hx
 |region id ops draw=>
  intro h1 h2 Q fr h x fr' h' hx hq
  cases draw with
  |false=>exact CN hc hq _ _ _ hx
  |true=>
   have hops:∀o∈ops.toList,bd N o=true:=by simp only[aT,List.all_eq_true] at h1;exact h1
   exact oA hmix (λj o ho=>hops o (by
    obtain⟨hj,rfl⟩:=Array.getElem?_eq_some_iff.1 ho
    simp)) h2 (FY hc hq _ _ _ _ hx)
 |seq a b iha ihb=>
  intro h1 h2 Q fr h x fr' h' hx hq
  simp only[aT,Bool.and_eq_true] at h1
  simp only[bM,Bool.and_eq_true] at h2
  simp only[eB] at hx
  split at hx
  ·rename_i fr2 h2' ha
   exact iha h1.1 h2.1 _ _ _ _ _ _ ha (Fz.of (ihb h1.2 h2.2 Q _ _ _ _ _ hx hq))
  ·rename_i r hne
   refine iha h1.1 h2.1 _ _ _ _ _ _ hx ?_
   cases x with
   |normal=>exact absurd hx (hne _ _)
   |_=>exact hq
 |cond c a b iha ihb=>
  intro h1 h2 Q fr h x fr' h' hx hq
  simp only[aT,Bool.and_eq_true] at h1
  simp only[bM,Bool.and_eq_true] at h2
  simp only[eB] at hx
  simp only[gB]
  split at hx
  ·rename_i t ht
   simp only[ht]
   split
   ·rename_i htt
    rw[if_pos htt] at hx
    exact iha h1.1.2 h2.1 Q _ _ _ _ _ hx hq
   ·rename_i htt
    rw[if_neg htt] at hx
    exact ihb h1.2 h2.2 Q _ _ _ _ _ hx hq
  ·cases hx
 |block id c ih=>
  intro h1 h2 Q fr h x fr' h' hx hq
  simp only[aT] at h1
  simp only[bM] at h2
  simp only[eB] at hx
  split at hx
  ·rename_i i fr2 h2' ha
   split at hx
   ·rename_i hi
    cases hx
    refine ih h1 h2 _ _ _ _ _ _ ha ?_
    simp only[VX.inBlock]
    rw[if_pos hi];exact hq
   ·rename_i hi
    cases hx
    refine ih h1 h2 _ _ _ _ _ _ ha ?_
    simp only[VX.inBlock]
    rw[if_neg hi];exact hq
  ·rename_i r hne
   refine ih h1 h2 _ _ _ _ _ _ hx ?_
   cases x with
   |exit i=>exact absurd hx (hne _ _ _)
   |_=>exact hq
 |scope=>intro _ _ Q fr h x fr' h' hx;cases hx
 |loop c ih=>
  intro h1 h2 Q fr h x fr' h' hx hq
  simp only[aT] at h1
  simp only[bM] at h2
  simp only[eB] at hx
  have key:∀(m:Nat) (fr:Fr) (h:aa),wk (eB P e T n c) m fr h=some (x,fr',h')->na (gB P N c) Q m fr h:=by
   intro m
   induction m with
   |zero=>intro fr h hx;cases hx
   |succ m ihm=>
    intro fr h hx
    simp only[wk] at hx
    split at hx
    ·rename_i fr2 h2' ha
     exact ih h1 h2 _ _ _ _ _ _ ha (ihm _ _ hx)
    ·rename_i r hne
     refine ih h1 h2 _ _ _ _ _ _ hx ?_
     cases x with
     |normal=>exact absurd hx (hne _ _)
     |_=>exact hq
  exact⟨n,key n _ _ hx⟩
def fZ (P:Program) (T:FuncId->Nat->az) (f:FuncId):Bool:=
 match P.funcs[f]? with
 |some fn=>match fn.body with
  |some c=>!(fn.name== "runtime.NumGoroutine")&&aT ⟨fn.ntmps,[]⟩ c&&bM (T f) c
  |none=>false
 |none=>false
def CQ (P:Program) (e:dX) (T:FuncId->Nat->az) (n:Nat):A6:=λo args h=>
 match h.get o with
 |some (.loop L)=>
  if(decide (args.length=L.ps.size)&&L.ps.toList.all (λt=>decide (t<L.n))&&aT ⟨L.n,[]⟩ L.assign&&aT ⟨L.n,[]⟩ L.body&&(bM (T L.fn) L.assign&&bM (T L.fn) L.body))=true then
   match eB P e (T L.fn) n L.assign (wg (L.ps.toList.zip args) L.fr) h with
   |some (.normal,fr1,h1)=>match q8 o h1 with
    |some h2=>match eB P e (T L.fn) n L.body fr1 h2 with
     |some (x,_,h3)=>match Ei x with
      |some j=>match gR o j h3 with
       |some h4=>some (.bool j.isNone,h4)
       |none=>none
      |none=>none
     |none=>none
    |none=>none
   |_=>none
  else none
 |_=>none
theorem yE {e:dX} (hc:gM P e) (hmix:P.follows .mixedOrders=true) {T:FuncId->Nat->az} {n:Nat}:Gc P (CQ P e T n):=by
 intro o args h v h' hx
 refine ld ?_
 unfold CQ at hx
 unfold yp
 split at hx
 ·rename_i L hL
  simp only[hL]
  split at hx
  ·rename_i hk
   rw[Bool.and_eq_true] at hk
   obtain⟨hk1,hk2⟩:=hk
   rw[Bool.and_eq_true] at hk2
   have hk3:=hk1
   simp only[Bool.and_eq_true] at hk3
   refine⟨hk1,?_⟩
   split at hx
   ·rename_i fr1 h1 ha
    refine dW hc hmix L.assign hk3.1.2 hk2.1 _ _ _ _ _ _ ha ?_
    simp only[VX.then]
    split at hx
    ·rename_i h2 hb
     simp only[hb]
     split at hx
     ·rename_i x fr2 h3 hbody
      refine dW hc hmix L.body hk3.2 hk2.2 _ _ _ _ _ _ hbody ?_
      split at hx
      ·rename_i j hj
       simp only[hj]
       split at hx
       ·rename_i h4 he
        cases hx
        simp only[he]
        exact⟨trivial,trivial⟩
       ·cases hx
      ·cases hx
     ·cases hx
    ·cases hx
   ·cases hx
  ·cases hx
 ·cases hx
abbrev CW:=Option (VX×List bO×Fr×aa)
def wm (P:Program) (e:dX) (ops:Array Oper):List Oper->List bO->Fr->aa->CW
 |[],ds,fr,h=>some (.normal,ds,fr,h)
 |o::rest,ds,fr,h=>
  if cf ops fr o=true then
   match nA o with
   |some c=>match dH fr c with
    |some (f,args)=>wm P e ops rest (.call f args::ds) (put fr o.dst .undef) h
    |none=>none
   |none=>match mg P e o fr h with
    |some (.next fr' h')=>wm P e ops rest ds fr' h'
    |some (.panic v h')=>some (.panic v,ds,fr,h')
    |none=>none
  else wm P e ops rest ds (put fr o.dst .undef) h
theorem A0 {e:dX} (hc:gM P e) {ops:Array Oper} {Q:QS} {x:VX} {ds':List bO} {fr':Fr} {h':aa} (hq:Q x ds' fr' h'):
 ∀(l:List Oper) (ds:List bO) (fr:Fr) (h:aa),wm P e ops l ds fr h=some (x,ds',fr',h')->oF P ops Q l ds fr h:=by
 intro l
 induction l with
 |nil=>intro ds fr h hx;cases hx;exact hq
 |cons o l ih=>
  intro ds fr h hx
  simp only[wm] at hx
  simp only[oF]
  split
  ·rename_i hw
   rw[if_pos hw] at hx
   split at hx
   ·rename_i c hd
    simp only[hd]
    split at hx
    ·rename_i f args hcal
     simp only[hcal]
     exact ih _ _ _ hx
    ·cases hx
   ·rename_i hd
    simp only[hd]
    split at hx
    ·rename_i fr2 h2 hs
     exact fP hc hs (ih _ _ _ hx)
    ·rename_i v h2 hs
     cases hx
     exact fP hc hs hq
    ·cases hx
  ·rename_i hw
   rw[if_neg hw] at hx
   exact ih _ _ _ hx
def yB (ds:List bO) (fr:Fr) (h:aa):Option Code->CW
 |none=>some (.normal,ds,fr,h)
 |some .ret=>some (.ret,ds,fr,h)
 |some (.exit id)=>some (.exit id,ds,fr,h)
 |some _=>none
theorem vk {Q:QS} {ds:List bO} {fr:Fr} {h:aa} {j:Option Code} {x:VX} {ds':List bO} {fr':Fr} {h':aa} (hx:yB ds fr h j=some (x,ds',fr',h')) (hq:Q x ds' fr' h'):qm Q ds fr h j:=by
 unfold yB at hx
 split at hx<;>cases hx<;>exact hq
def CP (P:Program) (e:dX) (N:Fm) (fn:Nat) (g:Operand) (ps:Array Tmp) (assign body:Code) (ds:List bO) (fr:Fr) (h:aa):CW:=
 match ev fr g with
 |.fn (.func f) first cap=>
  if lD P f=true then
   match e.call f (first++[.CS h.next]++cap) (h.push (.loop {st:=.ready,cK:=none,fr,n:=N.n,ps,assign,body,fn})) with
   |some (.panic v,h2)=>some (.panic v,.mark::ds,fr,h2)
   |some (.ret _,h2)=>match jH h.next h2 with
    |some (j,h3)=>yB (.mark::ds) fr h3 j
    |none=>none
   |none=>none
  else none
 |_=>none
theorem yD {e:dX} (hc:gM P e) {N:Fm} {fn:Nat} {g:Operand} {ps:Array Tmp} {assign body:Code} {ds:List bO} {fr:Fr} {h:aa} {Q:QS} {x:VX} {ds':List bO} {fr':Fr} {h':aa}
 (hx:CP P e N fn g ps assign body ds fr h=some (x,ds',fr',h')) (hq:Q x ds' fr' h'):o7 P N fn g ps assign body Q ds fr h:=by
 unfold CP at hx
 unfold o7
 split at hx
 ·rename_i f first cap hg
  simp only[hg]
  split at hx
  ·rename_i hb
   refine⟨hb,?_⟩
   split at hx
   ·rename_i v h2 hcall
    cases hx
    refine(hc.call _ _ _ _ _ hcall).mono ?_
    rintro r' h'' ⟨rfl,rfl⟩
    exact hq
   ·rename_i v h2 hcall
    refine(hc.call _ _ _ _ _ hcall).mono ?_
    rintro r' h'' ⟨rfl,rfl⟩
    simp only
    split at hx
    ·rename_i j h3 he
     simp only[he]
     exact vk hx hq
    ·cases hx
   ·cases hx
  ·cases hx
 ·cases hx
def pa (P:Program) (e:dX) (T:Nat->az) (n:Nat) (N:Fm) (fn:Nat):Code->List bO->Fr->aa->CW
 |.seq a b,ds,fr,h=>
  match pa P e T n N fn a ds fr h with
  |some (.normal,ds',fr',h')=>pa P e T n N fn b ds' fr' h'
  |r=>r
 |.block id c,ds,fr,h=>
  match pa P e T n N fn c ds fr h with
  |some (.exit i,ds',fr',h')=>if i=id then some (.normal,ds',fr',h') else some (.exit i,ds',fr',h')
  |r=>r
 |.region _ ops false,ds,fr,h=>wm P e ops ops.toList ds fr h
 |.rangeFunc g ps assign body,ds,fr,h=>CP P e N fn g ps assign body ds fr h
 |c,ds,fr,h=>match eB P e T n c fr h with
  |some (x,fr',h')=>some (x,ds,fr',h')
  |none=>none
theorem l5 {e:dX} (hc:gM P e) (hmix:P.follows .mixedOrders=true) {N:Fm} {T:Nat->az} {n:Nat} {fn:Nat}:∀(c:Code),cQ N c=true->bM T c=true->
 ∀(Q:QS) (ds:List bO) (fr:Fr) (h:aa) (x:VX) (ds':List bO) (fr':Fr) (h':aa),pa P e T n N fn c ds fr h=some (x,ds',fr',h')->Q x ds' fr' h'->AR P N fn c Q ds fr h:=by
 intro c
 have other:∀c,aT N c=true->bM T c=true->∀(Q:QS) (ds:List bO) (fr:Fr) (h:aa) (x:VX) (ds':List bO) (fr':Fr) (h':aa),
  (match eB P e T n c fr h with|some (x,fr',h')=>some (x,ds,fr',h')|none=>none)=some (x,ds',fr',h')->Q x ds' fr' h'->gB P N c (λx fr h=>Q x ds fr h) fr h:=by
  intro c h1 h2 Q ds fr h x ds' fr' h' hx hq
  split at hx
  ·rename_i x2 fr2 h2' hcode
   cases hx
   exact dW hc hmix c h1 h2 _ _ _ _ _ _ hcode hq
  ·cases hx
 induction c with
 |region id ops draw=>
  intro h1 h2 Q ds fr h x ds' fr' h' hx hq
  cases draw with
  |false=>exact A0 hc hq _ _ _ _ hx
  |true=>exact other (.region id ops true) h1 h2 Q ds fr h x ds' fr' h' hx hq
 |seq a b iha ihb=>
  intro h1 h2 Q ds fr h x ds' fr' h' hx hq
  simp only[cQ,Bool.and_eq_true] at h1
  simp only[bM,Bool.and_eq_true] at h2
  simp only[pa] at hx
  split at hx
  ·rename_i ds2 fr2 h2' ha
   exact iha h1.1 h2.1 _ _ _ _ _ _ _ _ ha (ihb h1.2 h2.2 Q _ _ _ _ _ _ _ hx hq)
  ·rename_i r hne
   refine iha h1.1 h2.1 _ _ _ _ _ _ _ _ hx ?_
   cases x with
   |normal=>exact absurd hx (hne _ _ _)
   |_=>exact hq
 |block id c ih=>
  intro h1 h2 Q ds fr h x ds' fr' h' hx hq
  simp only[cQ] at h1
  simp only[bM] at h2
  simp only[pa] at hx
  split at hx
  ·rename_i i ds2 fr2 h2' ha
   split at hx
   ·rename_i hi
    cases hx
    refine ih h1 h2 _ _ _ _ _ _ _ _ ha ?_
    simp only[VX.kF]
    rw[if_pos hi];exact hq
   ·rename_i hi
    cases hx
    refine ih h1 h2 _ _ _ _ _ _ _ _ ha ?_
    simp only[VX.kF]
    rw[if_neg hi];exact hq
  ·rename_i r hne
   refine ih h1 h2 _ _ _ _ _ _ _ _ hx ?_
   cases x with
   |exit i=>exact absurd hx (hne _ _ _ _)
   |_=>exact hq
 |rangeFunc g ps assign body=>intro h1 h2 Q ds fr h x ds' fr' h' hx hq;exact yD hc hx hq
 |skip=>intro h1 h2 Q ds fr h x ds' fr' h' hx hq;exact other _ h1 h2 Q ds fr h x ds' fr' h' hx hq
 |label l=>intro h1 h2 Q ds fr h x ds' fr' h' hx hq;exact other _ h1 h2 Q ds fr h x ds' fr' h' hx hq
 |exit id=>intro h1 h2 Q ds fr h x ds' fr' h' hx hq;exact other _ h1 h2 Q ds fr h x ds' fr' h' hx hq
 |ret=>intro h1 h2 Q ds fr h x ds' fr' h' hx hq;exact other _ h1 h2 Q ds fr h x ds' fr' h' hx hq
 |goto=>intro h1 h2 Q ds fr h x ds' fr' h' hx hq;exact other _ h1 h2 Q ds fr h x ds' fr' h' hx hq
 |refuse=>intro h1 h2 Q ds fr h x ds' fr' h' hx hq;exact other _ h1 h2 Q ds fr h x ds' fr' h' hx hq
 |cond c x y=>intro h1 h2 Q ds fr h x ds' fr' h' hx hq;exact other _ h1 h2 Q ds fr h x ds' fr' h' hx hq
 |loop c=>intro h1 h2 Q ds fr h x ds' fr' h' hx hq;exact other _ h1 h2 Q ds fr h x ds' fr' h' hx hq
 |scope c=>intro h1 h2 Q ds fr h x ds' fr' h' hx hq;exact other _ h1 h2 Q ds fr h x ds' fr' h' hx hq
def yA (P:Program) (rs:List ResultVar):cF->Option (VV×aa)
 |some (.normal,fr,h)|some (.ret,fr,h)=>match cT P rs fr h with|some v=>some (v,h)|none=>none
 |_=>none
def CL (P:Program) (e:dX) (good:FuncId->Bool) (T:FuncId->Nat->az) (n:Nat) (f:FuncId) (args:List VV) (pan:Option VV) (h:aa):Option (Option VV×aa):=
 if good f=true then
  match P.funcs[f]? with
  |some fn=>match fn.body with
   |some c=>
    if args.length<=fn.ntmps then
     match kP c with
     |some (o0,o1,rest)=>
      if(jb o0&&o1.guard.isNone)=true then
       match lZ P o1 (put (fp args) o0.dst (pan.getD .ec)) h with
       |some (.next fr h1)=>match yA P fn.results.toList (eB P e (T f) n rest fr h1) with
        |some (_,h2)=>some (none,h2)
        |none=>none
       |_=>none
      else none
     |none=>match yA P fn.results.toList (eB P e (T f) n c (fp args) h) with
      |some (_,h2)=>some (pan,h2)
      |none=>none
    else none
   |none=>none
  |none=>none
 else none
theorem qt {rs:List ResultVar} {r:cF} {v:VV} {h:aa} (hx:yA P rs r=some (v,h)):∃x fr,r=some (x,fr,h)/\(x=.normal\/x=.ret)/\cT P rs fr h=some v:=by
 unfold yA at hx
 split at hx
 ·split at hx
  ·rename_i hv;cases hx;exact⟨_,_,rfl,.inl rfl,hv⟩
  ·cases hx
 ·split at hx
  ·rename_i hv;cases hx;exact⟨_,_,rfl,.inr rfl,hv⟩
  ·cases hx
 ·cases hx
theorem yz {e:dX} (hc:gM P e) (hmix:P.follows .mixedOrders=true) {good:FuncId->Bool} {T:FuncId->Nat->az} (hgood:∀f,good f=true->fZ P T f=true) {n:Nat} {f:FuncId} {args:List VV} {pan:Option VV}
 {h:aa} {pan':Option VV} {h':aa} (hx:CL P e good T n f args pan h=some (pan',h')) {R:Option VV->aa->Prop} (hR:R pan' h'):Ga P f args pan h R:=by
 unfold CL at hx
 split at hx
 ·rename_i hg
  have hk:=hgood f hg
  unfold fZ at hk
  split at hx
  ·rename_i fn hf
   simp only[hf] at hk
   split at hx
   ·rename_i c hb
    simp only[hb,Bool.and_eq_true] at hk
    obtain⟨⟨hk1,hk2⟩,hk3⟩:=hk
    split at hx
    ·rename_i hlen
     split at hx
     ·rename_i o0 o1 rest hs
      split at hx
      ·rename_i hrec
       split at hx
       ·rename_i fr h1 hpl
        split at hx
        ·rename_i v h2 hen
         cases hx
         refine qo hf hb hs ?_
         obtain⟨x,fr2,hcode,hxx,hres⟩:=qt hen
         simp only[Bool.and_eq_true] at hrec
         unfold kP at hs
         split at hs
         ·cases hs
          simp only[aT,Bool.and_eq_true,List.all_cons,List.all_nil,Bool.and_true] at hk2
          simp only[bM,Bool.and_eq_true] at hk3
          refine⟨by simp only[Bool.and_eq_true,decide_eq_true_eq];exact⟨⟨⟨⟨⟨⟨hk1,hrec.1⟩,hrec.2⟩,hk2.1.1⟩,hk2.1.2⟩,hk2.2⟩,hlen⟩,?_⟩
          refine l4 (Q:=λ_ _ _=>False) hpl ?_
          refine dW hc hmix _ hk2.2 hk3.2 _ _ _ _ _ _ hcode ?_
          refine⟨?_,hR⟩
          rcases hxx with rfl|rfl
          ·simp[hres]
          ·simp[hres]
         ·cases hs
        ·cases hx
       ·cases hx
      ·cases hx
     ·split at hx
      ·rename_i v h2 hen
       cases hx
       obtain⟨x,fr2,hcode,hxx,hres⟩:=qt hen
       refine yd (by simp only[fD,hf,hb,Bool.and_eq_true,decide_eq_true_eq];exact⟨⟨hk1,hk2⟩,hlen⟩) ?_
       unfold qi
       simp only[hf,hb]
       refine dW hc hmix c hk2 hk3 _ _ _ _ _ _ hcode ?_
       rcases hxx with rfl|rfl
       ·simp only[jf,hres];exact hR
       ·simp only[jf,hres];exact hR
      ·cases hx
    ·cases hx
   ·cases hx
  ·cases hx
 ·cases hx
def lY (P:Program) (e:dX) (good:FuncId->Bool) (T:FuncId->Nat->az) (n:Nat):List bO->Option VV->aa->Option (Option VV×aa)
 |[],pan,h=>some (pan,h)
 |.mark::ds,pan,h=>lY P e good T n ds pan h
 |.call f args::ds,pan,h=>match CL P e good T n f args pan h with
  |some (pan',h')=>lY P e good T n ds pan' h'
  |none=>none
theorem yC {e:dX} (hc:gM P e) (hmix:P.follows .mixedOrders=true) {good:FuncId->Bool} {T:FuncId->Nat->az} (hgood:∀f,good f=true->fZ P T f=true) {n:Nat} {R:Option VV->aa->Prop} {pan':Option VV} {h':aa} (hR:R pan' h'):
 ∀(ds:List bO) (pan:Option VV) (h:aa),lY P e good T n ds pan h=some (pan',h')->lS P ds pan h R:=by
 intro ds
 induction ds with
 |nil=>intro pan h hx;cases hx;exact hR
 |cons d ds ih=>
  intro pan h hx
  cases d with
  |mark=>exact ih _ _ hx
  |call f args=>
   simp only[lY] at hx
   split at hx
   ·rename_i pan2 h2 hd
    exact yz hc hmix hgood hd (ih _ _ hx)
   ·cases hx
def py (P:Program) (T:FuncId->Nat->az) (f:FuncId):Bool:=
 match P.funcs[f]? with
 |some fn=>match fn.body with
  |some (.seq r0 rest)=>!(fn.name== "runtime.NumGoroutine")&&aT ⟨fn.ntmps,[]⟩ r0&&cQ ⟨fn.ntmps,iE fn⟩ rest&&(bM (T f) r0&&bM (T f) rest)
  |_=>false
 |none=>false
structure n8 where
 plain:FuncId->Bool
 spine:FuncId->Bool
structure sT (P:Program) (T:FuncId->Nat->az) (g:n8):Prop where
 plain:∀f,g.plain f=true->fZ P T f=true
 spine:∀f,g.spine f=true->py P T f=true
def FZ (P:Program) (fn:Func) (ok:Bool) (fr:Fr):Option (Option VV×aa)->Option (fQ×aa)
 |some (none,h)=>if ok=true then match cT P fn.results.toList fr h with|some v=>some (.ret v,h)|none=>none else none
 |some (some v,h)=>some (.panic v,h)
 |none=>none
theorem CO {fn:Func} {ok:Bool} {fr:Fr} {pan:Option VV} {h:aa} {r:fQ} {h':aa} (hx:FZ P fn ok fr (some (pan,h))=some (r,h')):Et P fn ok fr (λr' h''=>r'=r/\h''=h') pan h:=by
 cases pan with
 |none=>
  simp only[FZ] at hx
  split at hx
  ·rename_i hok
   split at hx
   ·rename_i v hv
    cases hx
    exact⟨hok,by simp only[hv];exact⟨trivial,trivial⟩⟩
   ·cases hx
  ·cases hx
 |some v=>cases hx;exact⟨rfl,rfl⟩
def yx (P:Program) (e:dX) (good:FuncId->Bool) (T:FuncId->Nat->az) (n:Nat) (f:FuncId) (fn:Func) (r0 rest:Code) (args:List VV) (h:aa):Option (fQ×aa):=
 match eB P e (T f) n r0 (fp args) h with
 |some (.normal,fr0,h0)=>match pa P e (T f) n ⟨fn.ntmps,iE fn⟩ f rest [] fr0 h0 with
  |some (.normal,ds,fr,h1)=>FZ P fn true fr (lY P e good T n ds none h1)
  |some (.ret,ds,fr,h1)=>FZ P fn true fr (lY P e good T n ds none h1)
  |some (.panic v,ds,_,h1)=>FZ P fn (pg fn) fr0 (lY P e good T n ds (some v) h1)
  |_=>none
 |_=>none
theorem yy {e:dX} (hc:gM P e) (hmix:P.follows .mixedOrders=true) {good:FuncId->Bool} {T:FuncId->Nat->az} (hgood:∀f,good f=true->fZ P T f=true) {n:Nat} {f:FuncId} {fn:Func} {r0 rest:Code}
 (hf:P.funcs[f]?=some fn) (hb:fn.body=some (.seq r0 rest)) (hk:py P T f=true) {args:List VV} (hlen:args.length<=fn.ntmps) {h:aa} {r:fQ} {h':aa} (hx:yx P e good T n f fn r0 rest args h=some (r,h')):
 bA P f args h λr' h''=>r'=r/\h''=h':=by
 unfold py at hk
 simp only[hf,hb,Bool.and_eq_true] at hk
 obtain⟨⟨⟨hk1,hk2⟩,hk3⟩,hk4,hk5⟩:=hk
 refine me (by simp only[jn,hf,hb,Bool.and_eq_true,decide_eq_true_eq];exact⟨⟨⟨hk1,hk2⟩,hk3⟩,hlen⟩) ?_
 unfold ya
 simp only[hf,hb]
 unfold yx at hx
 have key:∀(ok:Bool) (fr:Fr) (ds:List bO) (pan:Option VV) (h1:aa),FZ P fn ok fr (lY P e good T n ds pan h1)=some (r,h')->lS P ds pan h1 (Et P fn ok fr λr' h''=>r'=r/\h''=h'):=by
  intro ok fr ds pan h1 ho
  cases hl:lY P e good T n ds pan h1 with
  |none=>rw[hl] at ho;cases ho
  |some q=>
   obtain⟨pan',h2⟩:=q
   rw[hl] at ho
   exact yC hc hmix hgood (CO ho) _ _ _ hl
 split at hx
 ·rename_i fr0 h0 hr0
  refine dW hc hmix r0 hk2 hk4 _ _ _ _ _ _ hr0 ?_
  simp only[VX.then]
  split at hx
  ·rename_i ds fr h1 hs
   exact l5 hc hmix rest hk3 hk5 _ _ _ _ _ _ _ _ hs (key _ _ _ _ _ hx)
  ·rename_i ds fr h1 hs
   exact l5 hc hmix rest hk3 hk5 _ _ _ _ _ _ _ _ hs (key _ _ _ _ _ hx)
  ·rename_i v ds fr h1 hs
   exact l5 hc hmix rest hk3 hk5 _ _ _ _ _ _ _ _ hs (key _ _ _ _ _ hx)
  ·cases hx
 ·cases hx
def nW (P:Program) (dQ:jg) (g:n8) (T:FuncId->Nat->az) (n:Nat) (e:dX):jg:=λf args h=>
 match dQ f args h with
 |some r=>some r
 |none=>
  match P.funcs[f]? with
  |some fn=>match fn.body with
   |some c=>
    if args.length<=fn.ntmps then
     if g.plain f=true then
      match eB P e (T f) (n+1) c (fp args) h with
      |some (.panic v,_,h')=>some (.panic v,h')
      |some (.exit _,_,_)=>none
      |some (_,fr,h')=>match cT P fn.results.toList fr h' with
       |some v=>some (.ret v,h')
       |none=>none
      |none=>none
     else if g.spine f=true then
      match c with
      |.seq r0 rest=>yx P e g.plain T (n+1) f fn r0 rest args h
      |_=>none
     else none
    else none
   |none=>none
  |none=>none
theorem sq (hmix:P.follows .mixedOrders=true) {dQ:jg} (hover:kf P dQ) {g:n8} {T:FuncId->Nat->az} (hg:sT P T g) {n:Nat} {e:dX} (hc:gM P e):kf P (nW P dQ g T n e):=by
 intro f args h r h' hx
 simp only[nW] at hx
 split at hx
 ·rename_i r' ho
  cases hx
  exact hover f args h _ _ ho
 ·split at hx
  ·rename_i fn hf
   split at hx
   ·rename_i c hb
    split at hx
    ·rename_i hlen
     split at hx
     ·rename_i hgp
      have hk:=hg.plain f hgp
      unfold fZ at hk
      simp only[hf,hb,Bool.and_eq_true] at hk
      refine jF (by simp only[fD,hf,hb,Bool.and_eq_true,decide_eq_true_eq];exact⟨hk.1,hlen⟩) ?_
      unfold qi
      simp only[hf,hb]
      split at hx
      ·rename_i v fr2 h2 hcode
       cases hx
       exact dW hc hmix c hk.1.2 hk.2 _ _ _ _ _ _ hcode ⟨rfl,rfl⟩
      ·cases hx
      ·rename_i x fr2 h2 hne1 hne2 hcode
       split at hx
       ·rename_i v hv
        cases hx
        refine dW hc hmix c hk.1.2 hk.2 _ _ _ _ _ _ hcode ?_
        cases x with
        |normal=>simp only[jf,hv];exact⟨trivial,trivial⟩
        |ret=>simp only[jf,hv];exact⟨trivial,trivial⟩
        |panic v'=>exact(hne1 _ rfl).elim
        |exit i=>exact(hne2 _ rfl).elim
       ·cases hx
      ·cases hx
     ·split at hx
      ·rename_i hgs
       split at hx
       ·exact yy hc hmix hg.plain hf hb (hg.spine f hgs) hlen hx
       ·cases hx
      ·cases hx
    ·cases hx
   ·cases hx
  ·cases hx
end
end Go.Vv
