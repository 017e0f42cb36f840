/- Part of the proof of CheckTrees: plain laws and steps of its walks, for all arguments. -/
import Derived.Test.YtdjkoddnnogejaaGreatChecked
import Derived.Shelf.Strings.Cut
import Derived.Shelf.Strings.Search3
import Derived.Test.YtdjkoddnnogejaaGreatZEm
set_option linter.unusedSimpArgs false
set_option linter.unusedVariables false
set_option linter.unusedSectionVars false
namespace Go.Ee
section
open Go.Vv
def W (p:Prop):Prop:=p
theorem W.of {p:Prop} (h:p):W p:=h
theorem W.fin {K:aR->SH->Prop} {e e':aR} {s s':SH} (h:W (K e' s')) (he:e=e') (hs:s=s'):K e s:=by subst he hs;exact h
theorem bt {b:Bool} {k1 k2:Prop} (h:b=true) (hk:W k1):Br b k1 k2:=by subst h;exact hk
theorem bf {b:Bool} {k1 k2:Prop} (h:b=false) (hk:W k2):Br b k1 k2:=by subst h;exact hk
theorem bb {b:Bool} {k1 k2:Prop} (h1:b=true->W k1) (h2:b=false->W k2):Br b k1 k2:=br h1 h2
theorem on {α:Type} {o:Option α} {k:α->Prop} (a:α) (h:o=some a) (hk:W (k a)):iK o k:=os a h hk
theorem vN {α:Type} {l:List α} {i:Nat} {k:α->Prop} (h:i<l.length) (hk:∀a,l[i]?=some a->W (k a)):iK l[i]? k:=os l[i] (by simp) (hk _ (by simp))
theorem OV {n:Nat} {k:Nat->Prop} (h:W (k n)):S4 n k:=⟨h⟩
theorem fj {α β:Type} {f:α->β} {l:List α} {k:Nat->Prop} (h:W (k l.length)):S4 (l.map f).length k:=⟨by rw[List.length_map];exact h⟩
theorem iQ {α:Type} {l:List α} {k:List α->Prop} (h:W (k l)):Fold l k:=⟨h⟩
theorem fold_eq {α:Type} {l:List α} {k:List α->Prop} (m:List α) (e:l=m) (h:W (k m)):Fold l k:=by subst e;exact iQ h
theorem QJ {P:Program} {t:TypeId} {k:List TypeDesc->Prop} {ts:List TypeDesc} (h:lQ P t=some ts) (hk:W (k ts)):Lk P t k:=⟨ts,h,hk⟩
theorem W.and {p q:Prop} (h:p) (hq:W q):p/\q:=⟨h,hq⟩
theorem SC.mono {P:Program} {f:FuncId} {args:List EV} {s:SH} {R R':aR->SH->Prop} (hk:SC P f args s R) (hR:∀e s,R e s->R' e s):SC P f args s R':=by
 refine⟨λρ h vargs hs ha=>?_⟩
 refine(hk.run ρ h vargs hs ha).mono ?_
 rintro r h' ⟨e,s',ρ',h1,h2⟩
 exact⟨e,s',ρ',hR _ _ h1,h2⟩
theorem SC.call {P:Program} {f:FuncId} {args:List EV} {s:SH} {K:aR->SH->Prop} (hk:W (Gw s args λσ args0 s0=>ME σ s0.next s.next (SC P f args0 s0 λe s1=>H4 σ s e s1 K))):SC P f args s K:=.canon hk
def SU (P:Program) (N:Fm) (T:fI) (pol:vn) (c:Code) (Q:EQ):Nat->SF->SH->Prop
 |0,_,_=>False
 |n+1,fr,s=>er P (SC P) (SL P N) T pol c (λx=>match x with|.normal=>SU P N T pol c Q n|x=>Q x) fr s
theorem SL.SP {P:Program} (hmix:P.follows .mixedOrders=true) {N:Fm} {c:Code} {Q:EQ} {fr:SF} {s:SH} (T:fI) (pol:vn) (n:Nat) (hc:aT N c=true) (hk:W (SU P N T pol c Q n fr s)):SL P N c Q fr s:=by
 refine⟨λρ h vfr hs hf=>⟨n,?_⟩⟩
 have key:∀(n:Nat) (fr:SF) (s:SH) (ρ2:NM) (h2:aa) (vfr:Fr),SU P N T pol c Q n fr s->SR ρ2 s h2->jN ρ2 fr vfr->ch ρ h ρ2 h2->na (gB P N c) (VQ ρ h Q) n vfr h2:=by
  intro n
  induction n with
  |zero=>intro fr s ρ2 h2 vfr hk;exact hk.elim
  |succ n ih=>
   intro fr s ρ2 h2 vfr hk hs hf he
   show gB P N c (VX.then (na (gB P N c) (VQ ρ h Q) n) (VQ ρ h Q)) vfr h2
   refine dO c (λx f h' hx=>?_) _ _ (hU hmix c hc hk hs hf he)
   obtain⟨e,fr',s',ρ',b1,b2,b3,b4,b5⟩:=hx
   cases e<;>cases x<;>first|exact b2.elim|skip
   ·exact ih _ _ _ _ _ b1 b4 b3 b5
   all_goals exact⟨_,fr',s',ρ',b1,b2,b3,b4,b5⟩
 exact key n fr s ρ h vfr hk hs hf (.refl ρ h)
def Un (t e:Nat) (fr:SF) (s:SH) (k:SF->SH->Prop):Prop:=
 match gO fr t,s with
 |.f (.p (.vs [] _ true)),⟨l,n⟩=>Br (Nat.ble 1 e) (nK (n+1) λm=>k ((t,.f (.ref n 0 e none))::fr) ⟨(n,.arr e [] true)::l,m⟩) False
 |_,_=>False
theorem SL.nil (t e:Nat) {P:Program} {N:Fm} {c:Code} {Q:EQ} {fr:SF} {s:SH} (hk:W (Un t e fr s λfr s=>SL P N c Q fr s)):SL P N c Q fr s:=by
 refine⟨λρ h vfr hs hf=>?_⟩
 obtain⟨l,n⟩:=s
 unfold W Un at hk
 split at hk
 ·rename_i cap l n hx hq
  cases hq
  obtain⟨h5,h6⟩:=eZ hk
  have h8:=uX h6
  have hn:=hs.free n (Nat.le_refl _)
  let ρ':=ρ.eY n .MH
  have hl:ρ.Le ρ':=.eY (.inl hn)
  have hne:∀m,m≠n->ρ' m=ρ m:=λm e=>by simp[ρ',NM.eY,e]
  have hnn:ρ' n=.MH:=by simp[ρ',NM.eY]
  have hat:∀m i,ρ' m=.at i->ρ m=.at i:=λm i hm=>by
   by_cases e:m=n
   ·rw[e,hnn] at hm;cases hm
   ·rw[<-hne m e];exact hm
  have hs':SR ρ' ⟨(n,.arr e [] true)::l,n+1⟩ h:=by
   refine⟨λm z hz=>?_,λm m' i a b=>hs.inj m m' i (hat m i a) (hat m' i b),λm i a=>hs.iD m i (hat m i a),λm hm=>?_⟩
   ·simp only[al] at hz
    by_cases e1:m=n
    ·rw[if_pos e1] at hz;cases hz
     exact⟨⟨Nat.le_of_ble_eq_true h5,λr hr=>(by cases hr)⟩,.inl ⟨rfl,rfl,by rw[e1];exact hnn⟩⟩
    ·rw[if_neg e1] at hz
     exact(hs.obj m z hz).move (λ_ _=>rfl) hl (hne m e1)
   ·have h11:n+1<=m:=hm
    rw[hne m (by omega)];exact hs.free m (by simp only;omega)
  have hf':jN ρ' ((t,.f (.ref n 0 e none))::fr) vfr:=λt'=>by
   simp only[gO,al]
   by_cases e1:t'=t
   ·rw[if_pos e1]
    have:=hf t
    rw[hx] at this
    obtain⟨h9,_⟩:=this
    simp only[Option.getD_some,ER,FR,hnn]
    rw[e1,h9]
    exact⟨rfl,trivial⟩
   ·rw[if_neg e1];exact(hf t').mono hl
  have he:ch ρ h ρ' h:=⟨hl,λm i a=>.inl ⟨m,hat m i a⟩,Nat.le_refl _,λ_ _ _=>rfl⟩
  refine dO _ (λx f h' hx=>?_) _ _ (h8.run ρ' h vfr hs' hf')
  obtain⟨e,fr',s',ρ1,b1,b2,b3,b4,b5⟩:=hx
  exact⟨e,fr',s',ρ1,b1,b2,b3,b4,he.trans b5⟩
 ·exact hk.elim
abbrev H0:SH:=⟨[],0⟩
end
end Go.Ee
namespace Go.Proofs.YtdjkoddnnogejaaGreat
section
open Go.Vv Go.Ee
theorem uV:Tryz.prog.follows .mixedOrders=true:=by kernel_rfl
theorem fn {f:FuncId} {F:Func} {c:Code} {args:List EV} {s:SH} {K:aR->SH->Prop} (T:fI) (pol:vn) (hf:Tryz.prog.funcs[f]?=some F) (hb:F.body=some c) (hc:fD Tryz.prog f args.length=true)
 (hk:W (zn lH args λfr=>er Tryz.prog (SC Tryz.prog) (SL Tryz.prog ⟨F.ntmps,[]⟩) T pol c (QB Tryz.prog F.results.toList K) fr s)):SC Tryz.prog f args s K:=.body uV T pol hf hb hc hk
theorem aX {f:FuncId} {F:Func} {c:Code} {args:List EV} {os:List (Nat×SO)} {nx:Nat} {K:aR->SH->Prop} (T:fI) (pol:vn) (mv:List Nat) (hf:Tryz.prog.funcs[f]?=some F) (hb:F.body=some c) (hc:fD Tryz.prog f args.length=true)
 (hk:W (zn lH args λfr=>er Tryz.prog (SC Tryz.prog) (SL Tryz.prog ⟨F.ntmps,[]⟩) T pol c (QB Tryz.prog F.results.toList λe s1=>zp e s1 λe s2=>Fs mv nx e s2 K) fr ⟨os,nx⟩)):SC Tryz.prog f args ⟨os,nx⟩ K:=.nX mv (.vy (.body uV T pol hf hb hc hk))
theorem qy {α:Type}:∀{fr:SF} {m:List Nat} {Q:α->SF->Prop},(∀a,ph m fr (Q a))->ph m fr λb=>∀a,Q a b
 |[],_,_,h=>h
 |(t,x)::l,m,Q,h=>by
  simp only[ph] at h⊢
  split
  ·rename_i e;rw[e] at h;exact qy h
  ·rename_i e;rw[e] at h;exact qy (Q:=λa r=>Q a ((t,x)::r)) h
theorem bT {N:Fm} {c:Code} {Q:EQ} {fr:SF} {os:List (Nat×SO)} {nx:Nat} (T:fI) (pol:vn) {α:Type} (ls mv:List Nat) (U:α->List EV) (H:α->SH) (μ:α->Nat) (a0:α) (hc:aT N c=true)
 (h0:W (vz ls mv nx fr ⟨os,nx⟩ λus s'=>us=U a0/\s'=H a0))
 (hk:∀a,W (ph (uW c) fr λbase=>Ok ls (U a) base λfra=>er Tryz.prog (SC Tryz.prog) (SL Tryz.prog N) T pol c (λx fr' s'=>match x with
   |.normal=>(vz ls mv nx fr' s' λus s2=>∃a',μ a'<μ a/\us=U a'/\s2=H a')/\D2 fr' base
   |x=>Q x fr' s') fra (H a))):SL Tryz.prog N c Q fr ⟨os,nx⟩:=.loop uV T pol hc ls mv U H μ a0 h0 (qy hk)
theorem un {N:Fm} {c:Code} {Q:EQ} {fr:SF} {s:SH} (n:Nat) (hc:aT N c=true) (hk:W (SU Tryz.prog N [] [] c Q n fr s)):SL Tryz.prog N c Q fr s:=.SP uV [] [] n hc hk
end
section
open Go.Vv
def aJ (k:Int):Bool:=decide (10<=k)&&decide (k<=16)
def bY (k:Int):Bool:=decide (21<=k)&&decide (k<=27)
def aG (k:Int):Bool:=decide (k=20)||decide (30<=k)&&decide (k<=46)&&(k !=36)
def bN (k:Int):Bool:=decide (50<=k)&&decide (k<=54)
end
section
open Go.Vv
def lE (k:Int):Bool:=decide (1<=k)&&decide (k<=7)||aJ k||bY k||bN k||aG k||(k==36)||(k==47)
def tN (kind num params:Int):Bool:=
 if kind=2 then num==params else
 if kind=7\/kind=20\/kind=21\/kind=31\/kind=53\/kind=43 then num==0||num==1 else
 if kind=30 then decide (0<=num) else if kind=52 then decide (-9223372036854775808<num) else num==0
end
section
open Go.Vv
structure Nd where
 kind:Int
 name:List UInt8
 num:Int
 kn:Bool
 kids:List Int
 mE:Int
 to:Int
@[simp] theorem Qr (n:Nat):(1:Int)<=(n:Int)+1:=by omega
@[simp] theorem OK (n:Nat):(1:Int)<=(n:Int)+1+1:=by omega
@[simp] theorem Qs (n:Nat):(2:Int)<=(n:Int)+1+1:=by omega
end
section
open Go.Vv
def jU (c:Int):Bool:=decide (97<=c)&&decide (c<=122)||decide (65<=c)&&decide (c<=90)||(c==95)
def kg (c:Int):Bool:=decide (48<=c)&&decide (c<=57)
def words:List (List UInt8):=[[102,110],[115,116,114,117,99,116],[101,110,117,109],[108,101,116],[109,117,116],[119,104,105,108,101],[105,102],[101,108,115,101],[109,97,116,99,104],[114,101,116,117,114,110],[98,114,101,97,107],[99,111,110,116,105,110,117,101],[116,114,117,101],[102,97,108,115,101],[105,54,52],[98,111,111,108],[66,111,120]]
def Em (s:List UInt8):Bool:=words.contains s
def Ij (c:UInt8):Bool:=jU c.toNat||kg c.toNat
def gq (s:List UInt8):Bool:=!(s==[])&&!(s==[95])&&!(match s[0]? with|some c=>kg c.toNat|none=>false)&&s.all Ij
def fq (s:List UInt8):Bool:=gq s&&decide (s.length<=64)&&!Em s
end
section
open Go.Vv
def rK:List (List UInt8):=[[124,124],[38,38],[61,61],[33,61],[60],[62],[60,61],[62,61],[43],[45],[42],[47],[37]]
def rJ (s:List UInt8):Bool:=rK.contains s
def fS (c k:Int):Bool:=
 if c=105 then k==2||k==3||k==4 else if c=116 then aJ k else if c=115 then bY k else if c=101 then aG k else if c=112 then bN k else
 if c=98 then k==20 else if c=102 then k==5 else if c=118 then k==6 else if c=110 then k==36 else if c=97 then k==47 else if c=113 then k==7 else
 if c=111 then k==20||k==45 else false
end
section
open Go.Vv
def aL (k num:Int):List UInt8:=
 if k=1 then[42,105] else
 if k=2 then[42,113,116,98] else
 if k=3 then[42,102] else
 if k=4 then[42,118] else
 if k=5\/k=7\/k=14\/k=15\/k=16 then[116] else
 if k=6 then[63,116] else
 if k=20 then(if num=1 then[42,115,101] else[42,115]) else
 if k=21 then[63,116,101] else
 if k=23\/k=38 then[101,101] else
 if k=24 then[101,98] else
 if k=25\/k=37 then[63,101] else
 if k=34 then[42,101] else
 if k=35 then[42,110] else
 if k=22\/k=36\/k=41\/k=39\/k=40\/k=42\/k=44\/k=43 then[101] else
 if k=45 then[101,98,63,111] else
 if k=46 then[101,42,97] else
 if k=47 then[112,101] else
 if k=54 then[63,112] else
 []
end
section
open Go.Vv
def aV:List UInt8->List Int->Bool
 |[],l=>l.isEmpty
 |[c],l=>match l with|[k]=>fS c.toNat k|_=>false
 |c::d::s,l=>if c=63 then(match l with|k::l'=>fS d.toNat k&&aV s l'|[]=>false)||aV s l else(match l with|k::l'=>fS c.toNat k&&aV (d::s) l'|[]=>false)
def gQ:List UInt8->Bool
 |[]=>true
 |[c]=>c !=63
 |c::d::s=>if c=63 then gQ s else gQ (d::s)
end
section
open Go.Vv
end
section
open Go.Vv
def bu:List UInt8->Option Nat
 |[]=>none
 |c::s=>if c=42 then some 0 else(bu s).map (·+1)
def aS (s:List UInt8) (ks:List Int):Bool:=
 match bu s with
 |none=>aV s ks
 |some i=>
  if ks.length<i+(s.length-i-2) then false else
  aV (s.take i) (ks.take i)&&((ks.take (ks.length-(s.length-i-2))).drop i).all (fS ((s[i+1]?).getD 0).toNat)&&aV (s.drop (i+2)) (ks.drop (ks.length-(s.length-i-2)))
end
section
open Go.Vv
end
section
open Go.Vv
def cH (i:Int):List Int->List Int->Option (List Int)
 |out,[]=>some out
 |out,k::ks=>if 0<=(out[k.toNat]?).getD 0 then none else cH i (out.set k.toNat i) ks
def cJ:Nat->List Nd->List Int->Option (List Int)
 |_,[],out=>some out
 |i,x::xs,out=>match cH i out x.kids with
  |none=>none
  |some o=>cJ (i+1) xs o
def ca (ns:List Nd):Option (List Int):=cJ 0 ns (List.replicate ns.length (-1))
theorem mc {i:Int}:∀{ks out o:List Int},cH i out ks=some o->o.length=out.length:=by
 intro ks
 induction ks with
 |nil=>intro out o h;cases h;rfl
 |cons k ks ih=>
  intro out o h
  simp only[cH] at h
  split at h
  ·cases h
  ·rw[ih h];simp
end
section
open Go.Vv
def eH (ns:List Nd) (k:Int):Int:=((ns[k.toNat]?).map Nd.kind).getD 0
abbrev bF (ns:List Nd) (x:Nd):List Int:=x.kids.map (eH ns)
end
section
open Go.Vv
def nP (k:Int):Bool:=decide (1<=k)&&decide (k<=7)||aJ k||(k==20)||bY k||decide (30<=k)&&decide (k<=47)||bN k
theorem B7 (k:Int):nP k=lE k:=by
 unfold nP lE aJ bY bN aG
 rw[Bool.eq_iff_iff]
 simp
 omega
def dp (k c:Int):Bool:=
 if c=84 then aJ k else if c=83 then bY k else if c=69 then aG k else if c=80 then bN k else if c=66 then k==20 else
 if c=73 then k==2||k==3||k==4 else if c=70 then k==5 else if c=86 then k==6 else if c=77 then k==7 else if c=65 then k==47 else
 if c=74 then k==36 else k==20||k==45
def dJ (kind num:Int):Bool:=
 if kind=2 then true else
 if kind=7\/kind=20\/kind=21\/kind=31\/kind=53\/kind=43 then num==0||num==1 else
 if kind=30 then decide (0<=num) else if kind=52 then num !=-9223372036854775808 else num==0
end
section
open Go.Vv
attribute [local irreducible] words
end
section
open Go.Vv
def nY:List UInt8->Option Nat
 |[]=>none
 |c::s=>if c=58/\s.head?=some 58 then some 0 else(nY s).map (·+1)
def gl (s:List UInt8):Bool:=match nY s with|some i=>fq (s.take i)&&fq (s.drop (i+2))|none=>false
def fm (kind:Int) (name:List UInt8):Bool:=
 if kind=2\/kind=3\/kind=4\/kind=5\/kind=6\/kind=7\/kind=13\/kind=21\/kind=33\/kind=34\/kind=35\/kind=36\/kind=41\/kind=51 then fq name else
 if kind=37\/kind=54 then gl name else if kind=38 then rJ name else name==[]
theorem A9 {s:List UInt8} (h:s.length<=1):nY s=none:=by
 rcases s with _|⟨c,_|⟨d,s⟩⟩
 ·rfl
 ·simp[nY]
 ·simp at h
def dv (k:Int):List (List UInt8):=
 if k=1 then[[42,73]] else
 if k=2 then[[102,110]] else
 if k=3 then[[42,70]] else
 if k=4 then[[42,86]] else
 if k=5\/k=7\/k=14\/k=15\/k=16 then[[84]] else
 if k=6 then[[],[84]] else
 if k=20 then[[98,108,111,99,107]] else
 if k=21 then[[69],[84,69]] else
 if k=22\/k=36\/k=41\/k=39\/k=40\/k=42\/k=44\/k=43 then[[69]] else
 if k=23\/k=38 then[[69,69]] else
 if k=24 then[[69,66]] else
 if k=25\/k=37 then[[],[69]] else
 if k=34 then[[42,69]] else
 if k=35 then[[42,74]] else
 if k=45 then[[69,66],[69,66,88]] else
 if k=46 then[[69,42,65]] else
 if k=47 then[[80,69]] else
 if k=54 then[[],[80]] else
 [[]]
end
section
open Go.Vv Go.Proofs Go.Shelf
def Tryz.zY:Go.Shelf.Ren:=⟨fun|145=>259|220=>301|219=>307|217=>302|225=>329|224=>330|267=>331|266=>328|314=>338|n=>n,fun|9=>9|4=>4|59=>265|3=>3|5=>5|46=>291|146=>296|51=>295|n=>n,fun|1=>0|n=>n⟩
theorem Tryz.Mn:Go.Proofs.Lays.n145 Tryz.prog Tryz.zY:={
 mixed:=by kernel_rfl
 f145:=Tryz.func259.trans (congrArg some (by kernel_rfl))
 f217:=Tryz.func302.trans (congrArg some (by kernel_rfl))
 f219:=Tryz.func307.trans (congrArg some (by kernel_rfl))
 f220:=Tryz.func301.trans (congrArg some (by kernel_rfl))
 f224:=Tryz.func330.trans (congrArg some (by kernel_rfl))
 f225:=Tryz.func329.trans (congrArg some (by kernel_rfl))
 f266:=Tryz.func328.trans (congrArg some (by kernel_rfl))
 f267:=Tryz.func331.trans (congrArg some (by kernel_rfl))
 f314:=Tryz.func338.trans (congrArg some (by kernel_rfl))
 t3:=Tryz.underlying3
 a3:=Tryz.isAgg3
 z3:=Tryz.sizeOf3
 v3:=Tryz.zeroValue3
 t4:=Tryz.underlying4
 a4:=Tryz.isAgg4
 z4:=Tryz.sizeOf4
 v4:=Tryz.zeroValue4
 t5:=Tryz.underlying5
 a5:=Tryz.isAgg5
 z5:=Tryz.sizeOf5
 v5:=Tryz.zeroValue5
 t9:=Tryz.underlying9
 a9:=Tryz.isAgg9
 z9:=Tryz.sizeOf9
 v9:=Tryz.zeroValue9
 t46:=Tryz.underlying291
 a46:=Tryz.isAgg291
 z46:=Tryz.sizeOf291
 v46:=Tryz.zeroValue291
 t51:=Tryz.underlying295
 a51:=Tryz.isAgg295
 z51:=Tryz.sizeOf295
 v51:=Tryz.zeroValue295
 t59:=Tryz.underlying265
 a59:=Tryz.isAgg265
 z59:=Tryz.sizeOf265
 v59:=Tryz.zeroValue265
 t146:=Tryz.underlying296
 a146:=Tryz.isAgg296
 z146:=Tryz.sizeOf296
 v146:=Tryz.zeroValue296
 g1:=by kernel_rfl}
open Go.RowKit Go.Lib in
theorem Tryz.strings_Cut (s sep:ByteArray) (m:Int) (w:World) (hs:s.size<4294967281) (hm:w.cell? ⟨0,0,none⟩=some (.int .i64 m)):
 Calls Tryz.prog 259 #[.string s,.string sep] w λe w'=>e=.returned (.tuple #[.string ⟨(Lib.cut s.data.toList sep.data.toList).1.toArray⟩,.string ⟨(Lib.cut s.data.toList sep.data.toList).2.1.toArray⟩,.bool (Lib.cut s.data.toList sep.data.toList).2.2])/\∃n,w'=w.drewN n:=Any.strings_Cut Tryz.Mn s sep m w hs hm
theorem Rel.Be {G:ab} {h:aa} {w:World} (hr:Rel G h w) (n:Nat):Rel G h (w.drewN n):=hr.drew _
theorem Ext.Be (G:ab) (w:World) (n:Nat):Ext G G w (w.drewN n):=Ext.drew G w _
theorem sj {P:Program} {f:FuncId} {fn:Func} {c:Code} {args:List VV} {v:VV} {h:aa} (hf:P.funcs[f]?=some fn) (h1:(fn.name== "runtime.NumGoroutine")=false) (hb:fn.body=some c)
 (hw:∀(G:ab) (w:World) (vargs:Array Value),Rel G h w->cO G args vargs.toList->∃y,RV G v y/\Calls P f vargs w λe w'=>e=.returned y/\∃n,w'=w.drewN n):
 bA P f args h λr h'=>r=.ret v/\h'=h:=by
 intro F n hF G w vargs hr ha o a K Q hK hQ
 obtain⟨y,hy,hc⟩:=hw G w vargs hr ha
 rw[MuLone.run_callFunc_enter hf h1 hb]
 refine⟨λe=>by simp[hF.depth] at e,CallsIn.mono (wC hF hc) ?_⟩
 rintro e w' ⟨rfl,m,rfl⟩
 exact hK G _ h y v ⟨rfl,rfl⟩ hy (Rel.Be hr m) (Ext.Be G w m)
theorem RV.D8 {G:ab} {l:List UInt8} {x:Value} (h:RV G (.str l) x):∃s:ByteArray,x=.string s/\s.data.toList=l:=by
 generalize hs:VV.str l=u at h
 cases h<;>cases hs
 exact⟨_,rfl,rfl⟩
theorem cO.N9 {G:ab} {a b:VV} {l:Array Value} (h:cO G [a,b] l.toList):∃x y,l=#[x,y]/\RV G a x/\RV G b y:=by
 obtain⟨l⟩:=l
 obtain⟨h1,h2⟩:=h
 match l,h1,h2 with
 |[x,y],_,h2=>exact⟨x,y,rfl,h2 0 (by simp) (by simp),h2 1 (by simp) (by simp)⟩
theorem ub {G:ab} (l:List UInt8):RV G (.str l) (.string ⟨l.toArray⟩):=by
 have:=RV.str (G:=G) ⟨l.toArray⟩
 simpa using this
set_option maxRecDepth 100000 in
theorem EL (s sep:List UInt8) (hs:s.length<4294967281) (h:aa):bA Tryz.prog 259 [.str s,.str sep] h λr h'=>r=.ret (.bR [.str (Lib.cut s sep).1,.str (Lib.cut s sep).2.1,.bool (Lib.cut s sep).2.2])/\h'=h:=by
 refine sj Tryz.func259 (by kernel_rfl) rfl λG w vargs hr ha=>?_
 obtain⟨x,y,rfl,hx,hy⟩:=cO.N9 ha
 obtain⟨s',rfl,rfl⟩:=RV.D8 hx
 obtain⟨p',rfl,rfl⟩:=RV.D8 hy
 obtain⟨m,hm⟩:=hr.mx.cell
 refine⟨_,?_,Tryz.strings_Cut s' p' m w hs hm⟩
 exact RV.iV.2 ⟨_,rfl,cO.cons (ub _) (cO.cons (ub _) (.cons (.bool _) (.nil _)))⟩
end
section
open Go.Vv
theorem zK (s:List UInt8):Lib.index s [58,58]=(match nY s with|some i=>(i:Int)|none=>-1):=by
 induction s with
 |nil=>rfl
 |cons c s ih=>
  unfold Lib.index nY
  have hp:List.isPrefixOf [58,58] (c::s)=decide (c=58/\s.head?=some 58):=by
   cases s with
   |nil=>simp[List.isPrefixOf]
   |cons d s=>
    rw[Bool.eq_iff_iff]
    simp only[List.isPrefixOf,Bool.and_true,Bool.and_eq_true,beq_iff_eq,List.head?_cons,Option.some.injEq,decide_eq_true_eq]
    exact⟨λh=>⟨h.1.symm,h.2.symm⟩,λh=>⟨h.1.symm,h.2.symm⟩⟩
  rw[hp]
  by_cases h:c=58/\s.head?=some 58
  ·simp[h]
  ·simp only[decide_eq_false h,if_neg h,Bool.false_eq_true,if_false,ih]
   cases nY s with
   |none=>rfl
   |some i=>
    have:(((i:Int))==-1)=false:=by rw[beq_eq_false_iff_ne];omega
    simp[this]
theorem y8 {s:List UInt8} {i:Nat} (h:nY s=some i):Lib.cut s [58,58]=(s.take i,s.drop (i+2),true):=by
 have:=zK s
 rw[h] at this
 simp only at this
 unfold Lib.cut
 rw[this,if_pos (by omega)]
 simp
theorem y7 {s:List UInt8} (h:nY s=none):Lib.cut s [58,58]=(s,[],false):=by
 have:=zK s
 rw[h] at this
 simp only at this
 unfold Lib.cut
 rw[this,if_neg (by omega)]
end
section
open Go.Vv
def fM (ns:List Nd) (i:Nat) (x:Nd):Bool:=
 x.kids.all (λk=>decide (0<=k)&&decide (k<i))&&lE x.kind&&fm x.kind x.name&&tN x.kind x.num ((x.kids.filter (λk=>eH ns k==7)).length:Nat)&&decide (0<=x.mE)&&decide (x.mE<=x.to)&&aS (aL x.kind x.num) (x.kids.map (eH ns))
end
section
open Go.Vv
def qR (o:List Int):Bool:=o.length==0||!((o.take (o.length-1)).any ((-1:Int)==·))
end
section
open Go.Vv
def eJ (o:List Int):Bool:=(o.take (o.length-1)).all (λv=>decide (0<=v))
end
section
open Go.Vv
def gb (up:List Int) (i:Nat) (out:List Int):List Int:=
 if 0<=(up[i]?).getD 0 then out.set i ((out[((up[i]?).getD 0).toNat]?).getD 0+1) else out
def pD (up:List Int):Nat->List Int->List Int
 |0,out=>out
 |i+1,out=>pD up i (gb up i out)
def cN (up:List Int) (i:Nat) (out:List Int):List Int:=out.set i ((out[((up[i]?).getD 0).toNat]?).getD 0+1)
def pC (up:List Int):Nat->List Int->Int->Int
 |0,_,eo=>eo
 |i+1,out,eo=>pC up i (cN up i out) (if((cN up i out)[i]?).getD 0>eo then((cN up i out)[i]?).getD 0 else eo)
theorem rZ (up:List Int) (i:Nat) (out:List Int):(gb up i out).length=out.length:=by unfold gb;split<;>simp
theorem qC (up:List Int) (i:Nat) (out:List Int):(cN up i out).length=out.length:=by unfold cN;simp
end
section
open Go.Vv
theorem jx {i:Int} {n:Int} (hi:i<n) (hi0:0<=i):∀{ks out o:List Int},(∀v∈out, -1<=v/\v<n)->cH i out ks=some o->∀v∈o, -1<=v/\v<n:=by
 intro ks
 induction ks with
 |nil=>intro out o h e;cases e;exact h
 |cons k ks ih=>
  intro out o h e
  simp only[cH] at e
  split at e
  ·cases e
  ·refine ih ?_ e
   intro v hv
   rcases List.mem_or_eq_of_mem_set hv with hv|hv
   ·exact h v hv
   ·omega
theorem kv {n:Int}:∀{xs:List Nd} {i:Nat} {out o:List Int},(i:Int)+xs.length<=n->(∀v∈out, -1<=v/\v<n)->cJ i xs out=some o->o.length=out.length/\∀v∈o, -1<=v/\v<n:=by
 intro xs
 induction xs with
 |nil=>intro i out o _ h e;cases e;exact⟨rfl,h⟩
 |cons x xs ih=>
  intro i out o hi h e
  simp only[cJ] at e
  split at e
  ·cases e
  ·rename_i o1 h1
   have hl:((x::xs).length:Int)=xs.length+1:=by simp
   have h2:=jx (n:=n) (by omega) (by omega) h h1
   have h3:=ih (i:=i+1) (by omega) h2 e
   exact⟨by rw[h3.1,mc h1],h3.2⟩
theorem gk {ns:List Nd} {o:List Int} (hn:1<=ns.length) (h:ca ns=some o):o.length=ns.length/\∀v∈o, -1<=v/\v<ns.length:=by
 have:=kv (n:=ns.length) (i:=0) (by omega) (λv hv=>by have:=List.eq_of_mem_replicate hv;omega) h
 simpa using this
def bK (ns:List Nd):Bool:=
 decide (1<=ns.length)&&decide (ns.length<=20000)&&((ns[ns.length-1]?).map Nd.kind==some 1)&&ns.zipIdx.all (λp=>fM ns p.2 p.1)&&
 (match ca ns with
   |none=>false
   |some o=>qR o&&decide ((pD o o.length (List.replicate o.length 0)).foldl max 0<=400))
theorem oQ {ns:List Nd} {i:Nat} {x:Nd} (h:fM ns i x=true):∀k∈x.kids,0<=k/\k<(i:Int):=by
 intro k hk
 simp only[fM,Bool.and_eq_true,List.all_eq_true] at h
 have:=h.1.1.1.1.1.1 k hk
 simpa using this
theorem zb (up:List Int):∀(i:Nat) (out:List Int),(∀v∈out,0<=v)->(∀v∈pD up i out,0<=v)/\(pD up i out).length=out.length:=by
 intro i
 induction i with
 |zero=>intro out h;exact⟨h,rfl⟩
 |succ i ih=>
  intro out h
  have:=ih (gb up i out) (by
   intro v hv
   unfold gb at hv
   split at hv
   ·rcases List.mem_or_eq_of_mem_set hv with hv|hv
    ·exact h v hv
    ·subst hv
     cases hg:out[((up[i]?).getD 0).toNat]? with
     |none=>simp
     |some d=>have:=h d (List.mem_of_getElem? hg);simp;omega
   ·exact h v hv)
  exact⟨this.1,by rw[<-rZ up i out];exact this.2⟩
end
section
open Go.Vv
def aQ:List UInt8->List Int->Bool
 |[],ks=>ks.isEmpty
 |c::s,ks=>if c=42 then ks.all (λk=>dp k (s.headD 0).toNat) else match ks with
  |[]=>false
  |k::ks'=>dp k c.toNat&&aQ s ks'
def gr:List UInt8->Bool
 |[]=>true
 |c::s=>if c=42 then !s.isEmpty else gr s
end
section
open Go.Vv
def Aj (num:Int) (ks:List Int):Bool:=
 decide (2<=ks.length)&&num==(ks.length:Int)-2&&dp ((ks[ks.length-2]?).getD 0) 84&&dp ((ks[ks.length-1]?).getD 0) 66&&(ks.take (ks.length-2)).all (λk=>dp k 77)
def gm (num:Int) (ks:List Int):Bool:=
 !(num==1&&(ks.length==0||!dp ((ks[ks.length-1]?).getD 0) 69))&&(ks.take (ks.length-num.toNat)).all (λk=>dp k 83)
end
section
open Go.Vv
def iG (num:Int) (ks:List Int) (form:List UInt8):Bool:=
 if form=[102,110] then Aj num ks else if form=[98,108,111,99,107] then gm num ks else aQ form ks
def Gd (k:Int) (l:List (List UInt8)):Prop:=l.length<=2/\∀f∈l,(f=[102,110])\/(f=[98,108,111,99,107]/\k=20)\/(f≠[102,110]/\f≠[98,108,111,99,107]/\f.length<=1000/\gr f=true)
theorem Gd.ite {k:Int} {c:Prop} [Decidable c] {a b:List (List UInt8)} (ha:c->Gd k a) (hb:¬c->Gd k b):Gd k (if c then a else b):=by
 by_cases hc:c
 ·rw[if_pos hc];exact ha hc
 ·rw[if_neg hc];exact hb hc
theorem Gd.one {k:Int} {f:List UInt8} (h:(f=[102,110])\/(f=[98,108,111,99,107]/\k=20)\/(f≠[102,110]/\f≠[98,108,111,99,107]/\f.length<=1000/\gr f=true)):Gd k [f]:=
 ⟨by simp,λg hg=>by rw[List.mem_singleton] at hg;subst hg;exact h⟩
theorem Gd.two {k:Int} {f g:List UInt8} (h:f≠[102,110]/\f≠[98,108,111,99,107]/\f.length<=1000/\gr f=true) (h':g≠[102,110]/\g≠[98,108,111,99,107]/\g.length<=1000/\gr g=true):Gd k [f,g]:=
 ⟨by simp,λu hu=>by
  rcases List.mem_cons.1 hu with rfl|hu
  ·exact .inr (.inr h)
  ·rw[List.mem_singleton] at hu;subst hu;exact .inr (.inr h')⟩
theorem vx (k:Int):Gd k (dv k):=by
 unfold dv
 repeat' first
  |(refine Gd.ite (λhc=>?_) (λ_=>?_))
  |(refine Gd.two (by decide) (by decide))
  |(exact Gd.one (.inl rfl))
  |(exact Gd.one (.inr (.inl ⟨rfl,by assumption⟩)))
  |(exact Gd.one (.inr (.inr (by decide))))
theorem zm (k:Int):∀f∈dv k,(f=[102,110])\/(f=[98,108,111,99,107]/\k=20)\/(f≠[102,110]/\f≠[98,108,111,99,107]/\f.length<=1000/\gr f=true):=(vx k).2
theorem wR (k:Int):(dv k).length<=2:=(vx k).1
def jz (ns:List Nd) (i:Nat) (x:Nd):Bool:=
 nP x.kind&&fm x.kind x.name&&dJ x.kind x.num&&decide (0<=x.mE)&&decide (x.mE<=x.to)&&x.kids.all (λk=>decide (0<=k)&&decide (k<i))&&(dv x.kind).any (iG x.num (bF ns x))
theorem s8 {k num:Int} (h:dJ k num=true) (hk:k=20):num=0\/num=1:=by
 subst hk
 simpa[dJ] using h
end
section
open Go.Vv
namespace R
theorem jx {i:Int} {n:Int} (hi:i<n) (hi0:0<=i):∀{ks out o:List Int},(∀v∈out, -1<=v/\v<n)->cH i out ks=some o->∀v∈o, -1<=v/\v<n:=by
 intro ks
 induction ks with
 |nil=>intro out o h e;cases e;exact h
 |cons k ks ih=>
  intro out o h e
  simp only[cH] at e
  split at e
  ·cases e
  ·refine ih ?_ e
   intro v hv
   rcases List.mem_or_eq_of_mem_set hv with hv|hv
   ·exact h v hv
   ·omega
theorem kv {n:Int}:∀{xs:List Nd} {i:Nat} {out o:List Int},(i:Int)+xs.length<=n->(∀v∈out, -1<=v/\v<n)->cJ i xs out=some o->o.length=out.length/\∀v∈o, -1<=v/\v<n:=by
 intro xs
 induction xs with
 |nil=>intro i out o _ h e;cases e;exact⟨rfl,h⟩
 |cons x xs ih=>
  intro i out o hi h e
  simp only[cJ] at e
  split at e
  ·cases e
  ·rename_i o1 h1
   have hl:((x::xs).length:Int)=xs.length+1:=by simp
   have h2:=jx (n:=n) (by omega) (by omega) h h1
   have h3:=ih (i:=i+1) (by omega) h2 e
   exact⟨by rw[h3.1,mc h1],h3.2⟩
theorem gk {ns:List Nd} {o:List Int} (hn:1<=ns.length) (h:ca ns=some o):o.length=ns.length/\∀v∈o, -1<=v/\v<ns.length:=by
 have:=kv (n:=ns.length) (i:=0) (by omega) (λv hv=>by have:=List.eq_of_mem_replicate hv;omega) h
 simpa using this
end R
def fE (ns:List Nd):Bool:=
 decide (1<=ns.length)&&decide (ns.length<=20000)&&((ns[ns.length-1]?).map Nd.kind==some 1)&&ns.zipIdx.all (λp=>jz ns p.2 p.1)&&
 (match ca ns with
   |none=>false
   |some o=>eJ o&&decide (pC o (o.length-1) (List.replicate o.length 0) 0<=400))
theorem Ap {ns:List Nd} {i:Nat} {x:Nd} (h:jz ns i x=true):∀k∈x.kids,0<=k/\k<(i:Int):=by
 intro k hk
 simp only[jz,Bool.and_eq_true,List.all_eq_true] at h
 have:=h.1.2 k hk
 simpa using this
end
section
open Go.Vv
namespace Fo
def hp (s p:List UInt8):Bool:=decide (p.length<=s.length)&&(s.take p.length==p)
def hs (s p:List UInt8):Bool:=decide (p.length<=s.length)&&(s.drop (s.length-p.length)==p)
def cy:List UInt8:=[38,109,117,116,32]
def cj:List UInt8:=[38]
def eL:List UInt8:=[66,111,120,60]
def gF:List UInt8:=[62]
def aC (s:List UInt8):Option (List UInt8):=
 if hp s cy=true then some (s.drop 5) else if hp s cj=true then some (s.drop 1) else
 if hp s eL=true then(if hs (s.drop 4) gF=true then some ((s.drop 4).take ((s.drop 4).length-1)) else none) else none
def oL (s:List UInt8):Bool:=match s[s.length-1]? with|some b=>b==62|none=>false
def oK (s:List UInt8):Option (List UInt8):=
 if hp s cy=true then some (s.drop 5) else if hp s cj=true then some (s.drop 1) else
 if hp s eL=true/\oL s=true then some ((s.take (s.length-1)).drop 4) else none
theorem TO (b:UInt8):((b.toNat:Int)==62)=(b==62):=by
 by_cases e:b=62
 ·rw[e];rfl
 ·have e2:¬((b.toNat:Int)=62):=λe3=>e (UInt8.toNat_inj.1 (by show _=62;omega))
  have e4:((b.toNat:Int)==62)=false:=by simpa using e2
  have e5:(b==62)=false:=by simpa using e
  rw[e4,e5]
abbrev XS:Nat:=9223372036854775807
theorem TS (s:List UInt8) (h:hp s eL=true):hs (s.drop 4) gF=oL s:=by
 have hle:4<=s.length:=by simp[hp,eL] at h;exact h.1
 have htk:s.take 4=eL:=by simp[hp,eL] at h;simpa[eL] using h.2
 rcases Nat.lt_or_ge s.length 5 with h5|h5
 ·have h7:s=eL:=by rwa [List.take_of_length_le (by omega)] at htk
  subst h7
  rfl
 ·have hlt:s.length-1<s.length:=by omega
  have hget:s[s.length-1]?=some (s[s.length-1]):=List.getElem?_eq_getElem hlt
  have e1:(s.drop 4).drop (s.length-4-1)=[s[s.length-1]]:=by
   rw[List.drop_drop,show 4+(s.length-4-1)=s.length-1 by omega]
   rw[List.drop_eq_getElem_cons hlt,List.drop_of_length_le (by omega)]
  have hl:1<=s.length-4:=by omega
  unfold hs oL
  rw[hget]
  simp only[gF,List.length_cons,List.length_nil,List.length_drop,Nat.zero_add]
  rw[e1]
  have hl2:decide (1<=s.length-4)=true:=by simpa using hl
  rw[hl2]
  simp
theorem pP (s:List UInt8):aC s=oK s:=by
 unfold aC oK
 split
 ·rfl
 ·split
  ·rfl
  ·by_cases h:hp s eL=true
   ·rw[if_pos h,TS s h]
    by_cases h2:oL s=true
    ·rw[if_pos h2,if_pos ⟨h,h2⟩]
     rw[List.drop_take]
     simp only[List.length_drop]
     rw[show s.length-4-1=s.length-1-4 by omega]
    ·rw[if_neg h2,if_neg (λe=>h2 e.2)]
   ·rw[if_neg h,if_neg (λe=>h e.1)]
theorem bH {s t:List UInt8} (h:aC s=some t):t.length<s.length:=by
 unfold aC at h
 split at h
 ·rename_i h1;cases h;simp[hp,cy] at h1⊢;omega
 ·split at h
  ·rename_i h1;cases h;simp[hp,cj] at h1⊢;omega
  ·split at h
   ·rename_i h1
    split at h
    ·cases h;simp[hp,eL] at h1⊢;omega
    ·cases h
   ·cases h
def cu:Nat->List UInt8->List UInt8
 |0,s=>s
 |n+1,s=>match aC s with|some t=>cu n t|none=>s
end Fo
open Fo
end
section
open Go.Vv
@[simp] theorem X9 (n:Nat):(n=n+1+1)=False:=eq_false (by omega)
@[simp] theorem Yh (n:Nat):(n+1+1=n)=False:=eq_false (by omega)
@[simp] theorem Yi (n:Nat):(n<n+1+1)=True:=eq_true (by omega)
@[simp] theorem Ya (n:Nat):(n=n+1+1+1)=False:=eq_false (by omega)
@[simp] theorem Yj (n:Nat):(n<n+1+1+1)=True:=eq_true (by omega)
@[simp] theorem Yb (n:Nat):(n=n+1+1+1+1)=False:=eq_false (by omega)
@[simp] theorem Yc (n:Nat):(n=n+1+1+1+1+1)=False:=eq_false (by omega)
@[simp] theorem Yd (n:Nat):(n=n+1+1+1+1+1+1)=False:=eq_false (by omega)
@[simp] theorem Ye (n:Nat):(n=n+1+1+1+1+1+1+1)=False:=eq_false (by omega)
@[simp] theorem Yf (n:Nat):(n=n+1+1+1+1+1+1+1+1)=False:=eq_false (by omega)
@[simp] theorem Yg (n:Nat):(n=n+1+1+1+1+1+1+1+1+1)=False:=eq_false (by omega)
section loops
end loops
end
section
open Go.Vv
abbrev ah:=List UInt8
structure Fd where
 name:List UInt8
 ty:List UInt8
structure Sd where
 name:List UInt8
 nl:Bool
 fs:List Fd
structure Fx where
 name:List UInt8
 pn:Bool
 ps:List Fd
 mn:Bool
 ms:List Bool
 ret:List UInt8
 node:Int
structure aw where
 sn:Bool
 ss:List Sd
 en:Bool
 es:List Sd
 yG:Bool
 fns:List Fx
def aw.none:aw:=⟨true,[],true,[],true,[]⟩
def aM (l:List Sd) (s:List UInt8):Option Sd:=l.find? (λx=>x.name==s)
def hX (it:aw) (s:List UInt8):List (List UInt8)×Bool:=
 match aM it.ss s with
 |some x=>(x.fs.map Fd.ty,false)
 |none=>match aM it.es s with
  |some x=>((x.fs.map Fd.ty).filter (λt=>!(t==[])),true)
  |none=>([],false)
inductive Reach (E:List UInt8->List (List UInt8)):List UInt8->List UInt8->Prop where
 |one {a b:List UInt8}:b∈E a->Reach E a b
 |step {a b c:List UInt8}:b∈E a->Reach E b c->Reach E a c
theorem Reach.trans {E:List UInt8->List (List UInt8)} {a b c:List UInt8} (h:Reach E a b) (h':Reach E b c):Reach E a c:=by
 induction h with
 |one h=>exact .step h h'
 |step h _ ih=>exact .step h (ih h')
theorem Reach.snoc {E:List UInt8->List (List UInt8)} {a b c:List UInt8} (h:Reach E a b) (h':c∈E b):Reach E a c:=h.trans (.one h')
structure eI (E:List UInt8->List (List UInt8)) (name:List UInt8) (seen todo:List (List UInt8)):Prop where
 fresh:name∉seen
 mF:∀s,s∈seen\/s∈todo->Reach E name s
 first:∀s∈E name,s∈seen\/s∈todo
 closed:∀s∈seen,∀t∈E s,t∈seen\/t∈todo
theorem eI.done {E:List UInt8->List (List UInt8)} {name:List UInt8} {seen:List (List UInt8)} (i:eI E name seen []):¬Reach E name name:=by
 have key:∀a b,Reach E a b->(∀s∈E a,s∈seen)->b∈seen:=by
  intro a b h
  induction h with
  |one h=>intro ha;exact ha _ h
  |step h _ ih=>
   intro ha
   refine ih λs hs=>?_
   rcases i.closed _ (ha _ h) s hs with h|h
   ·exact h
   ·cases h
 intro h
 refine i.fresh (key _ _ h λs hs=>?_)
 rcases i.first s hs with h|h
 ·exact h
 ·cases h
theorem eI.hit {E:List UInt8->List (List UInt8)} {name:List UInt8} {seen todo:List (List UInt8)} (i:eI E name seen todo) (h:name∈todo):Reach E name name:=i.mF name (.inr h)
theorem eI.skip {E:List UInt8->List (List UInt8)} {name s:List UInt8} {seen todo todo':List (List UInt8)} (i:eI E name seen todo) (hm:∀t,t∈todo↔t=s\/t∈todo') (hs:s∈seen):eI E name seen todo':=by
 have key:∀t,t∈seen\/t∈todo->t∈seen\/t∈todo':=by
  rintro t (h|h)
  ·exact .inl h
  ·rcases(hm t).1 h with rfl|h
   ·exact .inl hs
   ·exact .inr h
 refine⟨i.fresh,λt h=>i.mF t ?_,λt h=>key t (i.first t h),λt h u hu=>key u (i.closed t h u hu)⟩
 rcases h with h|h
 ·exact .inl h
 ·exact .inr ((hm t).2 (.inr h))
theorem eI.take {E:List UInt8->List (List UInt8)} {name s:List UInt8} {seen todo todo':List (List UInt8)} (i:eI E name seen todo) (hm:∀t,t∈todo↔t=s\/t∈todo') (hs:s≠name) {todo2:List (List UInt8)} (h2:∀t,t∈todo2↔t∈todo'\/t∈E s):eI E name (s::seen) todo2:=by
 have hrs:Reach E name s:=i.mF s (.inr ((hm s).2 (.inl rfl)))
 have key:∀t,t∈seen\/t∈todo->t∈s::seen\/t∈todo2:=by
  rintro t (h|h)
  ·exact .inl (List.mem_cons_of_mem _ h)
  ·rcases(hm t).1 h with rfl|h
   ·exact .inl (List.mem_cons_self ..)
   ·exact .inr ((h2 t).2 (.inl h))
 refine⟨λh=>?_,λt h=>?_,λt h=>key t (i.first t h),λt h u hu=>?_⟩
 ·rcases List.mem_cons.1 h with h|h
  ·exact hs h.symm
  ·exact i.fresh h
 ·rcases h with h|h
  ·rcases List.mem_cons.1 h with rfl|h
   ·exact hrs
   ·exact i.mF t (.inl h)
  ·rcases(h2 t).1 h with h|h
   ·exact i.mF t (.inr ((hm t).2 (.inr h)))
   ·exact hrs.snoc h
 ·rcases List.mem_cons.1 h with rfl|h
  ·exact .inr ((h2 u).2 (.inr hu))
  ·exact key u (i.closed t h u hu)
def dq (E:List UInt8->List (List UInt8)) (U seen todo:List (List UInt8)):Nat:=((U.filter (λu=>!seen.contains u)).map (λu=>(E u).length+1)).sum+todo.length
theorem xO {E:List UInt8->List (List UInt8)} {U seen:List (List UInt8)} {s:List UInt8} (hu:s∈U) (hs:seen.contains s=false):
 ((U.filter (λu=>!(s::seen).contains u)).map (λu=>(E u).length+1)).sum+((E s).length+1)<=((U.filter (λu=>!seen.contains u)).map (λu=>(E u).length+1)).sum:=by
 have mono:∀V:List (List UInt8),((V.filter (λu=>!(s::seen).contains u)).map (λu=>(E u).length+1)).sum<=((V.filter (λu=>!seen.contains u)).map (λu=>(E u).length+1)).sum:=by
  intro V
  induction V with
  |nil=>exact Nat.le_refl _
  |cons v V ih=>
   by_cases h1:seen.contains v=true
   ·have h2:(s::seen).contains v=true:=by simp only[List.contains_cons,h1,Bool.or_true]
    rw[List.filter_cons_of_neg (by simp only[h2];decide),List.filter_cons_of_neg (by simp only[h1];decide)];exact ih
   ·have h1':seen.contains v=false:=by simpa using h1
    rw[List.filter_cons_of_pos (p:=λu=>!seen.contains u) (by simp only[h1'];decide)]
    by_cases h2:(s::seen).contains v=true
    ·rw[List.filter_cons_of_neg (by simp only[h2];decide)]
     simp only[List.map_cons,List.sum_cons];omega
    ·have h2':(s::seen).contains v=false:=by simpa using h2
     rw[List.filter_cons_of_pos (by simp only[h2'];decide)]
     simp only[List.map_cons,List.sum_cons];omega
 induction U with
 |nil=>cases hu
 |cons v U ih=>
  by_cases e:s=v
  ·subst e
   have h2:(s::seen).contains s=true:=by simp
   rw[List.filter_cons_of_neg (by simp only[h2];decide),List.filter_cons_of_pos (p:=λu=>!seen.contains u) (by simp only[hs];decide)]
   have:=mono U
   simp only[List.map_cons,List.sum_cons];omega
  ·have hu':s∈U:=by
    rcases List.mem_cons.1 hu with h|h
    ·exact absurd h e
    ·exact h
   have ih':=ih hu'
   have hc:(s::seen).contains v=seen.contains v:=by
    rw[List.contains_cons]
    have:(v==s)=false:=by simpa using λh=>e h.symm
    rw[this,Bool.false_or]
   cases h1:seen.contains v with
   |true=>
    rw[h1] at hc
    rw[List.filter_cons_of_neg (by simp only[hc];decide),List.filter_cons_of_neg (by simp only[h1];decide)];exact ih'
   |false=>
    rw[h1] at hc
    rw[List.filter_cons_of_pos (p:=λu=>!(s::seen).contains u) (by simp only[hc];decide),List.filter_cons_of_pos (p:=λu=>!seen.contains u) (by simp only[h1];decide)]
    simp only[List.map_cons,List.sum_cons];omega
def gu:List Nat->Nat
 |[]=>0
 |a::l=>a+gu l
def n4:List Nat->Nat
 |[]=>0
 |a::l=>max a (n4 l)
def Ci (it:aw):Nat->List UInt8->Nat×Nat
 |0,_=>(0,0)
 |n+1,s=>
  match aM it.ss s with
  |some x=>(1+gu ((x.fs.map Fd.ty).map λt=>(Ci it n t).1),gu ((x.fs.map Fd.ty).map λt=>(Ci it n t).2))
  |none=>match aM it.es s with
   |some x=>(1+gu (((x.fs.map Fd.ty).filter (λt=>!(t==[]))).map λt=>(Ci it n t).1),1+n4 (((x.fs.map Fd.ty).filter (λt=>!(t==[]))).map λt=>(Ci it n t).2))
   |none=>if s=[40,41] then(1,0) else(1,1)
def bB (it:aw) (s:List UInt8):List (List UInt8):=(hX it s).1
def aY (it:aw):List (List UInt8):=it.ss.map Sd.name++it.es.map Sd.name
def gD (it:aw):Prop:=∀x∈aY it,¬Reach (bB it) x x
open Classical in
noncomputable def Ah (it:aw) (s:List UInt8):Nat:=
 (aY it).countP λy=>decide (Reach (bB it) s y)
theorem EG {α:Type} {l:List α} {p q:α->Bool} (h:∀x∈l,p x=true->q x=true) {x:α} (hx:x∈l) (hp:p x=false) (hq:q x=true):l.countP p<l.countP q:=by
 induction l with
 |nil=>cases hx
 |cons a l ih=>
  have hmono:l.countP p<=l.countP q:=List.countP_mono_left λy hy=>h y (List.mem_cons_of_mem _ hy)
  rw[List.countP_cons,List.countP_cons]
  rcases List.mem_cons.1 hx with rfl|hx
  ·simp only[hp,hq]
   simp
   omega
  ·have:=ih (λy hy=>h y (List.mem_cons_of_mem _ hy)) hx
   have ha:=h a (List.mem_cons_self ..)
   cases h1:p a with
   |false=>simp;split<;>omega
   |true=>rw[ha h1];simp;omega
open Classical in
theorem JP {it:aw} (ha:gD it) {a b:List UInt8} (hb:b∈aY it) (he:b∈bB it a):Ah it b<Ah it a:=by
 unfold Ah
 refine EG (x:=b) (λy _ hy=>?_) hb ?_ ?_
 ·exact decide_eq_true (.step he (of_decide_eq_true hy))
 ·exact decide_eq_false (ha b hb)
 ·exact decide_eq_true (.one he)
theorem JO (it:aw) (s:List UInt8):Ah it s<=(aY it).length:=List.countP_le_length
theorem bD {l:List Sd} {s:List UInt8} {x:Sd} (h:aM l s=some x):x∈l/\x.name=s:=by
 unfold aM at h
 exact⟨List.mem_of_find?_eq_some h,by simpa using List.find?_some h⟩
open Classical in
noncomputable def jy (it:aw) (s:List UInt8):Nat:=if s∈aY it then Ah it s+1 else 0
theorem mW {it:aw} (ha:gD it) {a b:List UInt8} (han:a∈aY it) (he:b∈bB it a):jy it b<jy it a:=by
 unfold jy
 rw[if_pos han]
 split
 ·rename_i hb;have:=JP ha hb he;omega
 ·omega
theorem tT (it:aw) (s:List UInt8):jy it s<=(aY it).length+1:=by
 unfold jy
 have:=JO it s
 split<;>omega
theorem jR {it:aw} {s:List UInt8} {x:Sd} (h:aM it.ss s=some x):s∈aY it:=by
 obtain⟨h1,rfl⟩:=bD h
 exact List.mem_append_left _ (List.mem_map_of_mem h1)
theorem jQ {it:aw} {s:List UInt8} {x:Sd} (h:aM it.es s=some x):s∈aY it:=by
 obtain⟨h1,rfl⟩:=bD h
 exact List.mem_append_right _ (List.mem_map_of_mem h1)
theorem uh {it:aw} (ha:gD it):∀(n m:Nat) (s:List UInt8),jy it s<n->jy it s<m->Ci it n s=Ci it m s:=by
 intro n
 induction n with
 |zero=>intro m s h;omega
 |succ n ih=>
  intro m s hn hm
  obtain⟨m,rfl⟩:∃k,m=k+1:=⟨m-1,by omega⟩
  simp only[Ci]
  cases h1:aM it.ss s with
  |some x=>
   have key:∀t∈x.fs.map Fd.ty,Ci it n t=Ci it m t:=by
    intro t ht
    have:=mW ha (jR h1) (b:=t) (by simp only[bB,hX,h1];exact ht)
    exact ih m t (by omega) (by omega)
   simp only
   rw[List.map_congr_left (λt ht=>congrArg Prod.fst (key t ht)),List.map_congr_left (λt ht=>congrArg Prod.snd (key t ht))]
  |none=>
   simp only
   cases h2:aM it.es s with
   |some x=>
    have key:∀t∈(x.fs.map Fd.ty).filter (λt=>!(t==[])),Ci it n t=Ci it m t:=by
     intro t ht
     have:=mW ha (jQ h2) (b:=t) (by simp only[bB,hX,h1,h2];exact ht)
     exact ih m t (by omega) (by omega)
    simp only
    rw[List.map_congr_left (λt ht=>congrArg Prod.fst (key t ht)),List.map_congr_left (λt ht=>congrArg Prod.snd (key t ht))]
   |none=>rfl
def iL (it:aw) (s:List UInt8):Nat×Nat:=Ci it ((aY it).length+3) s
theorem KA {it:aw} (ha:gD it) {s:List UInt8} {x:Sd} (h:aM it.ss s=some x):
 iL it s=(1+gu ((x.fs.map Fd.ty).map λt=>(iL it t).1),gu ((x.fs.map Fd.ty).map λt=>(iL it t).2)):=by
 have hb:=tT it
 have e:=uh ha ((aY it).length+3) ((aY it).length+4) s (by have:=hb s;omega) (by have:=hb s;omega)
 unfold iL
 rw[e]
 simp only[Ci,h]
theorem Kz {it:aw} (ha:gD it) {s:List UInt8} {x:Sd} (h0:aM it.ss s=none) (h:aM it.es s=some x):
 iL it s=(1+gu (((x.fs.map Fd.ty).filter (λt=>!(t==[]))).map λt=>(iL it t).1),1+n4 (((x.fs.map Fd.ty).filter (λt=>!(t==[]))).map λt=>(iL it t).2)):=by
 have hb:=tT it
 have e:=uh ha ((aY it).length+3) ((aY it).length+4) s (by have:=hb s;omega) (by have:=hb s;omega)
 unfold iL
 rw[e]
 simp only[Ci,h0,h]
theorem Pc {it:aw} {s:List UInt8} (h0:aM it.ss s=none) (h:aM it.es s=none):iL it s=if s=[40,41] then(1,0) else(1,1):=by
 unfold iL
 simp only[Ci,h0,h]
def S7 (it:aw) (s:List UInt8) (w p:Nat):Prop:=p=min (iL it s).1 1025/\min w 65=min (iL it s).2 65/\w<=66+jy it s
def yN (it:aw) (s:List UInt8) (p w:Nat):Prop:=((iL it s).1<=1024->p=(iL it s).1/\w=min (iL it s).2 65)/\(1024<(iL it s).1->p=1025)/\w<=65
end
section
open Go.Vv
end
section
open Go.Vv
end
section
open Go.Vv
def findF (l:List Fx) (s:ah):Option Fx:=l.find? (λf=>f.name==s)
section finds
end finds
structure A1 (it:aw):Prop where
 ss:it.ss.length<=1048576
 es:it.es.length<=1048576
 fns:it.fns.length<=1048576
 sf:∀x∈it.ss,x.fs.length<=1048576
 ef:∀x∈it.es,x.fs.length<=1048576
end
end Go.Proofs.YtdjkoddnnogejaaGreat
namespace Go.Ee
section
open Go.Vv
theorem Rj {o j e:Nat} {s:SH} {k:SH->Prop} {ρ:NM} {h:aa} (hs:SR ρ s h) (hk:Ri o j e s k):∃s' ρ',k s'/\SR ρ' s' h/\ch ρ h ρ' h:=by
 obtain⟨x,h1,h2⟩:=bV hk
 obtain⟨l,n⟩:=s
 cases x with
 |cells c=>
  obtain⟨y,h3,h4⟩:=bV h2
  rw[lz] at h3
  split at h4
  ·rename_i cap
   obtain⟨h5,h6⟩:=eZ h4
   obtain⟨h7,h8⟩:=p7 h6
   obtain⟨l',h9,h10⟩:=xP (uX h8)
   have hn:=hs.free n (Nat.le_refl _)
   let ρ':=ρ.eY n .MH
   have hl:ρ.Le ρ':=.eY (.inl hn)
   have hne:∀m,m≠n->ρ' m=ρ m:=λm e=>by simp[ρ',NM.eY,e]
   have hnn:ρ' n=.MH:=by simp[ρ',NM.eY]
   have hat:∀m i,ρ' m=.at i->ρ m=.at i:=λm i hm=>by
    by_cases e:m=n
    ·rw[e,hnn] at hm;cases hm
    ·rw[<-hne m e];exact hm
   have hlt:∀m x,ay l m=some x->m≠n:=λm x hm e=>(hs.xq (s:=⟨l,n⟩) hm).1 (e▸hn)
   have hs':SR ρ' ⟨(n,.arr e [] true)::l',n+1⟩ h:=by
    refine⟨λm z hz=>?_,λm m' i a b=>hs.inj m m' i (hat m i a) (hat m' i b),λm i a=>hs.iD m i (hat m i a),λm hm=>?_⟩
    ·simp only[al,h10] at hz
     by_cases e1:m=n
     ·rw[if_pos e1] at hz;cases hz
      exact⟨⟨Nat.le_of_ble_eq_true h5,λr hr=>(by cases hr)⟩,.inl ⟨rfl,rfl,by rw[e1];exact hnn⟩⟩
     ·rw[if_neg e1] at hz
      by_cases e2:m=o
      ·rw[if_pos e2] at hz;cases hz
       subst e2
       obtain⟨i,lv,a1,a2,a3⟩:=hs.obj m _ h1
       refine⟨i,lv,(hne m e1).trans a1,a2,a3.SQ hl h3 λv hv=>?_⟩
       obtain⟨rfl,_⟩:=hv
       simp only[FR,hnn]
       exact⟨rfl,trivial⟩
      ·rw[if_neg e2] at hz
       exact(hs.obj m z hz).move (λ_ _=>rfl) hl (hne m e1)
    ·have h11:n+1<=m:=hm
     rw[hne m (by omega)];exact hs.free m (by simp only;omega)
   have he:ch ρ h ρ' h:=⟨hl,λm i a=>.inl ⟨m,hat m i a⟩,Nat.le_refl _,λ_ _ _=>rfl⟩
   exact⟨_,ρ',h9,hs',he⟩
  ·exact h4.elim
 |_=>exact h2.elim
theorem SL.oP (o j e:Nat) {P:Program} {N:Fm} {c:Code} {Q:EQ} {fr:SF} {s:SH} (hk:W (Ri o j e s λs=>SL P N c Q fr s)):SL P N c Q fr s:=by
 refine⟨λρ h vfr hs hf=>?_⟩
 obtain⟨s',ρ',h1,h2,h3⟩:=Rj hs hk
 refine dO _ (λx f h' hx=>?_) _ _ (h1.run ρ' h vfr h2 (hf.mono h3.le))
 obtain⟨e,fr',s',ρ1,b1,b2,b3,b4,b5⟩:=hx
 exact⟨e,fr',s',ρ1,b1,b2,b3,b4,h3.trans b5⟩
end
section
open Go.Vv
variable{P:Program}
def Vm (e:Nat) (rs rs':List (List PV)):Prop:=(ck rs).map Bo=ck rs'/\lg e rs'/\(rs'=[]↔rs=[])
theorem SC.OD {f:FuncId} {args:List EV} {s:SH} {K:aR->SH->Prop} (hk:SC P f args s λe s1=>(match e with|.ret _=>∃o w rs n nx rs',s1=⟨[(o,.arr w rs n)],nx⟩/\Vm w rs rs'/\K e ⟨[(o,.arr w rs' n)],nx⟩|.panic _=>K e s1)):SC P f args s K:=by
 refine⟨λρ h vargs hs ha=>?_⟩
 refine bA.vy (hk.run ρ h vargs hs ha) ?_ ?_
 ·rintro v h' ⟨e,s1,ρ',h1,h2,h3,h4⟩
  cases e with
  |ret x=>exact h2.elim
  |panic x=>exact⟨_,s1,ρ',h1,h2,h3,h4⟩
 ·rintro v h' ⟨e,s1,ρ',h1,h2,h3,h4⟩
  cases e with
  |panic x=>exact h2.elim
  |ret x=>
   obtain⟨o,w,rs,n,nx,rs',rfl,⟨f1,f2,f3⟩,hK⟩:=h1
   have hv:Fr.at (Tr.set .nil 0 v) 0=v:=by rw[Fr.dY,if_pos rfl]
   obtain⟨b0,⟨b1,b2,b3⟩|⟨b1,i,b2,b3⟩⟩:=h3.obj o (.arr w rs n) (by simp[ay])
   ·have e':rs'=rs:=by rw[b1];exact f3.2 b1
    subst e'
    exact⟨_,h',.refl _ _,_,_,ρ',hK,by rw[hv];exact h2,h3,h4⟩
   ·refine⟨_,_,.OD b3 (.refl _ _),_,_,ρ',hK,by rw[hv];exact h2,⟨λm z hz=>?_,h3.inj,h3.iD,h3.free⟩,⟨h4.le,h4.new,h4.next,λj hj hn=>?_⟩⟩
    ·simp only[al] at hz
     by_cases e:m=o
     ·rw[if_pos e] at hz;cases hz
      subst e
      exact⟨f2,.inr ⟨λe=>b1 (f3.1 e),i,b2,by rw[aa.bQ,f1]⟩⟩
     ·rw[if_neg e] at hz;simp[ay] at hz
    ·rw[aa.aO _ _ (λe=>?_)]
     ·exact h4.gE j hj hn
     ·subst e
      rcases h4.new o j b2 with⟨o',ho⟩|ho
      ·exact hn o' ho
      ·omega
end
end Go.Ee
