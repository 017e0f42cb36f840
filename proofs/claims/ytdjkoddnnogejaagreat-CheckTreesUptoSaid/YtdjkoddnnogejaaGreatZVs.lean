/- Part of the proof of CheckTrees: plain laws and steps of its walks, for all arguments. -/
import Derived.Lib.Bytealg
import Derived.Test.YtdjkoddnnogejaaGreatZVr
set_option linter.unusedSimpArgs false
set_option linter.unusedVariables false
set_option linter.unusedSectionVars false
namespace Go.Vv
section
variable{P:Program} {G:ab} {w:World}
theorem vg {f:FuncId} {fn:Func} {e:Array Value->Sem Value} (hf:P.funcs[f]?=some fn) (hn:(fn.name== "runtime.NumGoroutine")=false) (hb:fn.body=none)
 (hnx:Extern.findNext fn=none) (he:Extern.find fn=some e) {args:List VV} {h:aa} {v:VV}
 (hrun:∀(G:ab) (w:World) (vargs:Array Value),cO G args vargs.toList->∃y,(e vargs).run P w=.ok y w/\RV G v y):bA P f args h λr h'=>r=.ret v/\h'=h:=by
 intro F n hF G w vargs hr ha o a K Q hK hQ
 obtain⟨y,hy,hrv⟩:=hrun G w vargs ha
 have h1:fn.name≠ "runtime.NumGoroutine" :=by simpa using hn
 have:(callFunc f vargs).run P w=.ok (.value y) w:=by
  simp[callFunc,hf,h1,hb,hnx,he,hy]
 rw[this]
 exact hK G w h y v ⟨rfl,rfl⟩ hrv hr (.refl G w)
def tR:List VV->Option VV
 |[.str s,.int .u8 n]=>some (.int .i64 (Lib.indexByte s n.toNat.toUInt8))
 |_=>none
theorem jw {f:FuncId} {fn:Func} (hf:P.funcs[f]?=some fn) (hn:(fn.name== "runtime.NumGoroutine")=false) (hb:fn.body=none)
 (hnx:Extern.findNext fn=none) (he:Extern.find fn=some Extern.BytealgIndexByte.indexByte) {args:List VV} {h:aa} {v:VV} (hv:tR args=some v):
 bA P f args h λr h'=>r=.ret v/\h'=h:=by
 refine vg hf hn hb hnx he λG w vargs ha=>?_
 unfold tR at hv
 split at hv
 ·rename_i s n
  cases hv
  obtain⟨hl,hall⟩:=ha
  obtain⟨l⟩:=vargs
  rcases l with _|⟨x,_|⟨y,_|⟨z,l⟩⟩⟩<;>simp at hl
  have h0:RV G (.str s) x:=by simpa using hall 0 (by simp) (by simp)
  have h1:RV G (.int .u8 n) y:=by simpa using hall 1 (by simp) (by simp)
  generalize hs:VV.str s=vs at h0
  cases h1
  cases h0<;>cases hs
  exact⟨_,Lib.run_indexByteString _ _ w,.int ..⟩
 ·cases hv
def Tr.jh (p:Nat->Bool):Tr Unit->Bool
 |.nil=>true
 |.node v l r=>(match v with|some _=>p 0|none=>true)&&Tr.jh (λn=>p (2*n+1)) l&&Tr.jh (λn=>p (2*n+2)) r
theorem Tr.Ii:∀(t:Tr Unit) (p:Nat->Bool),Tr.jh p t=true->∀n u,t.get n=some u->p n=true:=by
 intro t
 induction t with
 |nil=>intro p _ n u h;cases h
 |node v l r ihl ihr=>
  intro p hp n u h
  simp only[Tr.jh,Bool.and_eq_true] at hp
  simp only[Tr.get] at h
  split at h
  ·rename_i hn;subst hn;subst h;exact hp.1.1
  ·split at h
   ·rename_i hn ho
    have:=ihl _ hp.1.2 _ _ h
    rwa [show 2*(n/2)+1=n by omega] at this
   ·rename_i hn ho
    have:=ihr _ hp.2 _ _ h
    rwa [show 2*(n/2-1)+2=n by omega] at this
def iH (t:Tr Unit) (f:Nat):Bool:=
 match t.get f with
 |some _=>true
 |none=>false
theorem jC {t:Tr Unit} {p:Nat->Bool} (h:Tr.jh p t=true) (f:Nat) (hf:iH t f=true):p f=true:=by
 unfold iH at hf
 split at hf
 ·rename_i u hu;exact Tr.Ii t p h f u hu
 ·cases hf
end
section
variable{P:Program} {G:ab} {w:World}
def ab.none:ab:=⟨λ_=>Option.none,λ_=>False,λ_ _=>Option.none,0,0⟩
theorem Rel.none (w:World) (hm:∃m,w.cell? ⟨0,0,none⟩=some (.int .i64 m)):Rel ab.none aa.empty w:=
 ⟨⟨(λb o v h=>by cases h),(λo b base k h=>by cases h),(λo o' m m' h=>by cases h),(λo m off h=>by cases h),(λo m h=>by cases h),(λo h=>h.elim),rfl,(λo _=>rfl),Nat.zero_le _⟩,⟨hm,λo m h=>by(cases h),.inl λ_=>rfl⟩⟩
def VV.flat:VV->Bool
 |.bool _|.int .. |.str _|.iF|.da|.ig|.lJ|.ec=>true
 |_=>false
theorem RV.flat {G G':ab} {v:VV} {x:Value} (hv:v.flat=true) (h:RV G v x):RV G' v x:=by
 cases v<;>simp[VV.flat] at hv
 ·cases h;exact .bool _
 ·cases h;exact .int ..
 ·generalize hs:VV.str _=u at h
  cases h<;>cases hs
  exact .str _
 ·cases h;exact .iF
 ·cases h;exact .da
 ·cases h;exact .ig
 ·cases h;exact .lJ
 ·cases h;exact .ec
theorem cO.flat {G G':ab}:∀{l:List VV} {a:List Value},l.all VV.flat=true->cO G l a->cO G' l a:=by
 intro l a hl h
 refine⟨h.1,λj h1 h2=>(h.2 j h1 h2).flat ?_⟩
 exact List.all_eq_true.1 hl _ (by simp)
theorem Ext.forget {G:ab} {h:aa} {w w':World} {G':ab} (hr:Rel G h w) (he:Ext ab.none G' w w'):Rel G h w'/\Ext G G w w':=by
 have hold:∀b,b<w.heap.size->w'.heap[b]?=w.heap[b]?:=λb hb=>he.Fg b hb (λo m hm=>by cases hm) (.inl λ_=>rfl)
 refine Rel0.pair hr.mx ⟨?_,?_,hr.inj,hr.sep,hr.iD,hr.dead,hr.num,hr.fresh,Nat.le_trans hr.low he.size⟩ (.mk' ⟨.refl G,he.size,λb hb _ _=>hold b hb,λo m h=>.inl ⟨o,m,h,rfl⟩,λ_ i v h=>.inl ⟨i,v,h⟩,he.os,he.tape,he.output⟩ (.refl G))
 ·intro b i v hv
  rw[<-hr.kq b i v hv]
  exact World.cell?_of_block (hold b (hr.fJ hv))
 ·intro o b base k hm
  obtain⟨x,hx,hat⟩:=hr.obj o b base k hm
  exact⟨x,hx,hat.mono (.refl G) (hold b (hr.fX hm))⟩
theorem bA.closed {f:FuncId} {args:List VV} {v:VV} (ha:args.all VV.flat=true) (hv:v.flat=true) (hc:bA P f args aa.empty λr _=>r=.ret v) (h:aa):
 bA P f args h λr h'=>r=.ret v/\h'=h:=by
 intro F n hF G w vargs hr hargs o a K Q hK hQ
 refine hc F n hF ab.none w vargs (Rel.none w hr.mx.cell) (hargs.flat ha) o a K Q ?_ ?_
 ·intro G' w' h' y v' hv' hy hr' he
  cases hv'
  obtain⟨h1,h2⟩:=he.forget hr
  exact hK G w' h y v ⟨rfl,rfl⟩ (hy.flat hv) h1 h2
 ·intro G' w' h' y v' hv'
  cases hv'
end
section
variable{P:Program}
noncomputable def rn {α:Type} (t:Tr α):Nat->Option α:=
 Tr.rec (motive:=λ_=>Nat->Option α) (λ_=>none)
  (λv _ _ ihl ihr n=>Bool.rec (Bool.rec (ihr (Nat.pred (Nat.div n 2))) (ihl (Nat.div n 2)) (Nat.beq (Nat.mod n 2) 1)) v (Nat.beq n 0)) t
theorem th {α:Type}:∀(t:Tr α) (n:Nat),rn t n=t.get n:=by
 intro t
 induction t with
 |nil=>intro n;rfl
 |node v l r ihl ihr=>
  intro n
  show(Bool.rec (Bool.rec (rn r (Nat.pred (Nat.div n 2))) (rn l (Nat.div n 2)) (Nat.beq (Nat.mod n 2) 1)) v (Nat.beq n 0):Option α)=_
  rw[ihl,ihr]
  simp only[Tr.get]
  by_cases h0:n=0
  ·subst h0;rfl
  ·have e0:Nat.beq n 0=false:=by rw[<-Bool.not_eq_true];intro e;exact h0 (Nat.eq_of_beq_eq_true e)
   rw[if_neg h0,e0]
   by_cases h1:n%2=1
   ·have e1:Nat.beq (Nat.mod n 2) 1=true:=by
     have:Nat.mod n 2=1:=h1
     rw[this];rfl
    rw[if_pos h1,e1];rfl
   ·have e1:Nat.beq (Nat.mod n 2) 1=false:=by
     rw[<-Bool.not_eq_true];intro e;exact h1 (Nat.eq_of_beq_eq_true e)
    rw[if_neg h1,e1];rfl
noncomputable def pJ {α:Type} (t:Tr α):Nat->α->Tr α:=
 Tr.rec (motive:=λ_=>Nat->α->Tr α) (λn a=>Tr.set .nil n a)
  (λv l r ihl ihr n a=>Bool.rec (Bool.rec (.node v l (ihr (Nat.pred (Nat.div n 2)) a)) (.node v (ihl (Nat.div n 2) a) r) (Nat.beq (Nat.mod n 2) 1)) (.node (some a) l r) (Nat.beq n 0)) t
theorem vY {α:Type}:∀(f g:Nat) (t:Tr α) (n:Nat) (a:α),n<f->n<g->Tr.kU f t n a=Tr.kU g t n a:=by
 intro f
 induction f with
 |zero=>intro g t n a h;omega
 |succ f ih=>
  intro g t n a hf hg
  cases g with
  |zero=>omega
  |succ g=>
   cases t with
   |nil=>
    simp only[Tr.kU]
    split
    ·rfl
    ·split
     ·rw[ih g .nil (n/2) a (by omega) (by omega)]
     ·rw[ih g .nil (n/2-1) a (by omega) (by omega)]
   |node v l r=>
    simp only[Tr.kU]
    split
    ·rfl
    ·split
     ·rw[ih g l (n/2) a (by omega) (by omega)]
     ·rw[ih g r (n/2-1) a (by omega) (by omega)]
theorem tq {α:Type}:∀(t:Tr α) (n:Nat) (a:α),pJ t n a=t.set n a:=by
 intro t
 induction t with
 |nil=>intro n a;rfl
 |node v l r ihl ihr=>
  intro n a
  show(Bool.rec (Bool.rec (.node v l (pJ r (Nat.pred (Nat.div n 2)) a)) (.node v (pJ l (Nat.div n 2) a) r) (Nat.beq (Nat.mod n 2) 1)) (.node (some a) l r) (Nat.beq n 0):Tr α)=_
  rw[ihl,ihr]
  simp only[Tr.set,Tr.kU]
  by_cases h0:n=0
  ·subst h0;rfl
  ·have e0:Nat.beq n 0=false:=by rw[<-Bool.not_eq_true];intro e;exact h0 (Nat.eq_of_beq_eq_true e)
   rw[if_neg h0,e0]
   by_cases h1:n%2=1
   ·have e1:Nat.beq (Nat.mod n 2) 1=true:=by
     have:Nat.mod n 2=1:=h1
     rw[this];rfl
    rw[if_pos h1,e1,vY n (n/2+1) l (n/2) a (by omega) (by omega)];rfl
   ·have e1:Nat.beq (Nat.mod n 2) 1=false:=by
     rw[<-Bool.not_eq_true];intro e;exact h1 (Nat.eq_of_beq_eq_true e)
    rw[if_neg h1,e1,vY n (n/2-1+1) r (n/2-1) a (by omega) (by omega)];rfl
noncomputable def gO (fr:Fr) (t:Nat):VV:=Option.rec VV.undef (λv=>v) (rn fr t)
theorem wJ (fr:Fr) (t:Nat):gO fr t=fr.at t:=by
 unfold gO Fr.at
 rw[th]
 cases Tr.get fr t<;>rfl
noncomputable def fG (fr:Fr) (d:Option Nat) (v:VV):Fr:=Option.rec fr (λd=>pJ fr d v) d
theorem jT (fr:Fr) (d:Option Nat) (v:VV):fG fr d v=put fr d v:=by
 cases d with
 |none=>rfl
 |some d=>exact tq fr d v
noncomputable def VV.int?:VV->Option (IntKind×Int):=
 @VV.rec (λ_=>Option (IntKind×Int)) (λ_=>Option (IntKind×Int)) (λ_=>Option (IntKind×Int)) (λ_=>none) (λk n=>some (k,n)) (λ_=>none) none (λ_ _=>none) (λ_ _ _=>none) (λ_=>none) none
  (λ_ _ _=>none) (λ_ _ _ _ _=>none) none (λ_=>none) (λ_ _ _ _ _=>none) none (λ_ _ _=>none) none (λ_ _=>none) (λ_ _=>none) (λ_=>none) none (λ_ _ _ _=>none) none (λ_ _ _ _=>none)
theorem VV.int?_some {x:VV} {k:IntKind} {n:Int} (h:x.int?=some (k,n)):x=.int k n:=by
 cases x<;>first|(cases h;rfl)|(exact absurd h (λe=>by cases e))
noncomputable def VV.bool?:VV->Option Bool:=
 @VV.rec (λ_=>Option Bool) (λ_=>Option Bool) (λ_=>Option Bool) (λb=>some b) (λ_ _=>none) (λ_=>none) none (λ_ _=>none) (λ_ _ _=>none) (λ_=>none) none
  (λ_ _ _=>none) (λ_ _ _ _ _=>none) none (λ_=>none) (λ_ _ _ _ _=>none) none (λ_ _ _=>none) none (λ_ _=>none) (λ_ _=>none) (λ_=>none) none (λ_ _ _ _=>none) none (λ_ _ _ _=>none)
theorem VV.bool?_some {x:VV} {b:Bool} (h:x.bool?=some b):x=.bool b:=by
 cases x<;>first|(cases h;rfl)|(exact absurd h (λe=>by cases e))
noncomputable def VV.str?:VV->Option (List UInt8):=
 @VV.rec (λ_=>Option (List UInt8)) (λ_=>Option (List UInt8)) (λ_=>Option (List UInt8)) (λ_=>none) (λ_ _=>none) (λs=>some s) none (λ_ _=>none) (λ_ _ _=>none) (λ_=>none) none
  (λ_ _ _=>none) (λ_ _ _ _ _=>none) none (λ_=>none) (λ_ _ _ _ _=>none) none (λ_ _ _=>none) none (λ_ _=>none) (λ_ _=>none) (λ_=>none) none (λ_ _ _ _=>none) none (λ_ _ _ _=>none)
theorem VV.str?_some {x:VV} {s:List UInt8} (h:x.str?=some s):x=.str s:=by
 cases x<;>first|(cases h;rfl)|(exact absurd h (λe=>by cases e))
noncomputable def VV.bR?:VV->Option (List VV):=
 @VV.rec (λ_=>Option (List VV)) (λ_=>Option (List VV)) (λ_=>Option (List VV)) (λ_=>none) (λ_ _=>none) (λ_=>none) none (λ_ _=>none) (λ_ _ _=>none) (λ_=>none) none
  (λ_ _ _=>none) (λ_ _ _ _ _=>none) none (λ_=>none) (λ_ _ _ _ _=>none) none (λ_ _ _=>none) none (λ_ _=>none) (λcs _=>some cs) (λ_=>none) none (λ_ _ _ _=>none) none (λ_ _ _ _=>none)
theorem VV.bR?_some {x:VV} {s:List VV} (h:x.bR?=some s):x=.bR s:=by
 cases x<;>first|(cases h;rfl)|(exact absurd h (λe=>by cases e))
noncomputable def VV.agg?:VV->Option (List VV):=
 @VV.rec (λ_=>Option (List VV)) (λ_=>Option (List VV)) (λ_=>Option (List VV)) (λ_=>none) (λ_ _=>none) (λ_=>none) none (λ_ _=>none) (λ_ _ _=>none) (λ_=>none) none
  (λ_ _ _=>none) (λ_ _ _ _ _=>none) none (λ_=>none) (λ_ _ _ _ _=>none) none (λ_ _ _=>none) none (λcs _=>some cs) (λ_ _=>none) (λ_=>none) none (λ_ _ _ _=>none) none (λ_ _ _ _=>none)
theorem VV.agg?_some {x:VV} {s:List VV} (h:x.agg?=some s):x=.agg s:=by
 cases x<;>first|(cases h;rfl)|(exact absurd h (λe=>by cases e))
inductive KP where
 |ptr (o off:Nat)
 |fb (cs:List VV) (off:Nat)
noncomputable def VV.kp?:VV->Option KP:=
 @VV.rec (λ_=>Option KP) (λ_=>Option KP) (λ_=>Option KP) (λ_=>none) (λ_ _=>none) (λ_=>none) none (λo off=>some (.ptr o off)) (λcs off _=>some (.fb cs off)) (λ_=>none) none
  (λ_ _ _=>none) (λ_ _ _ _ _=>none) none (λ_=>none) (λ_ _ _ _ _=>none) none (λ_ _ _=>none) none (λ_ _=>none) (λ_ _=>none) (λ_=>none) none (λ_ _ _ _=>none) none (λ_ _ _ _=>none)
def KP.val:KP->VV
 |.ptr o off=>.ptr o off
 |.fb cs off=>.fb cs off
theorem VV.kp?_some {x:VV} {p:KP} (h:x.kp?=some p):x=p.val:=by
 cases x<;>first|(cases h;rfl)|(exact absurd h (λe=>by cases e))
inductive KS where
 |da
 |vs (es:List (List VV))
 |ref (o off len du:Nat)
noncomputable def VV.ks?:VV->Option KS:=
 @VV.rec (λ_=>Option KS) (λ_=>Option KS) (λ_=>Option KS) (λ_=>none) (λ_ _=>none) (λ_=>none) none (λ_ _=>none) (λ_ _ _=>none) (λ_=>none) (some .da)
  (λes _ _=>some (.vs es)) (λo off len du _=>some (.ref o off len du)) none (λ_=>none) (λ_ _ _ _ _=>none) none (λ_ _ _=>none) none (λ_ _=>none) (λ_ _=>none) (λ_=>none) none (λ_ _ _ _=>none) none (λ_ _ _ _=>none)
def KS.is:KS->VV->Prop
 |.da,x=>x=.da
 |.vs es,x=>∃c,x=.vs es c
 |.ref o off len du,x=>∃c,x=.ref o off len du c
theorem VV.ks?_some {x:VV} {p:KS} (h:x.ks?=some p):p.is x:=by
 cases x<;>first|(cases h;exact rfl)|(cases h;exact⟨_,rfl⟩)|(exact absurd h (λe=>by cases e))
noncomputable def sa {α:Type} (l:List α):Nat->Option α:=
 List.rec (motive:=λ_=>Nat->Option α) (λ_=>none) (λa _ ih n=>Bool.rec (ih (Nat.pred n)) (some a) (Nat.beq n 0)) l
theorem pU {α:Type}:∀(l:List α) (n:Nat),sa l n=l[n]?:=by
 intro l
 induction l with
 |nil=>intro n;simp;rfl
 |cons a l ih=>
  intro n
  cases n with
  |zero=>rfl
  |succ n=>
   show sa l n=_
   rw[ih];simp
noncomputable def r9 {α:Type} (l:List α):Nat->Nat:=
 List.rec (motive:=λ_=>Nat->Nat) (λn=>n) (λ_ _ ih n=>ih (Nat.succ n)) l
theorem pT {α:Type}:∀(l:List α) (n:Nat),r9 l n=l.length+n:=by
 intro l
 induction l with
 |nil=>intro n;show n=_;simp
 |cons a l ih=>intro n;show r9 l (n+1)=_;rw[ih];simp;omega
noncomputable def HN {α:Type} (l:List α):Nat->List α:=
 List.rec (motive:=λ_=>Nat->List α) (λ_=>[]) (λa l ih n=>Bool.rec (ih (Nat.pred n)) (a::l) (Nat.beq n 0)) l
theorem HP {α:Type}:∀(l:List α) (n:Nat),HN l n=l.drop n:=by
 intro l
 induction l with
 |nil=>intro n;simp;rfl
 |cons a l ih=>
  intro n
  cases n with
  |zero=>rfl
  |succ n=>show HN l n=_;rw[ih];simp
noncomputable def HW {α:Type} (l:List α):Nat->List α:=
 List.rec (motive:=λ_=>Nat->List α) (λ_=>[]) (λa _ ih n=>Bool.rec (a::ih (Nat.pred n)) [] (Nat.beq n 0)) l
theorem HX {α:Type}:∀(l:List α) (n:Nat),HW l n=l.take n:=by
 intro l
 induction l with
 |nil=>intro n;simp;rfl
 |cons a l ih=>
  intro n
  cases n with
  |zero=>rfl
  |succ n=>show a::HW l n=_;rw[ih];simp
end
end Go.Vv
