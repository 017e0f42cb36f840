/- Part of the proof of CheckTrees: plain laws and steps of its walks, for all arguments. -/
import Derived.Test.YtdjkoddnnogejaaGreatZEn
set_option linter.unusedSimpArgs false
set_option linter.unusedVariables false
set_option linter.unusedSectionVars false
namespace Go.Proofs.YtdjkoddnnogejaaGreat
section
open Go.Vv
theorem kH (k:Int):fS 101 k=aG k:=by simp[fS]
theorem vD (k:Int):fS 116 k=aJ k:=by simp[fS]
theorem Dt (k:Int):fS 115 k=bY k:=by simp[fS]
theorem Hy (k:Int):fS 112 k=bN k:=by simp[fS]
theorem TY (k:Int):fS 98 k=(k==20):=by simp[fS]
theorem ON (k:Int):fS 105 k=(k==2||k==3||k==4):=by simp[fS]
theorem OM (k:Int):fS 102 k=(k==5):=by simp[fS]
theorem OQ (k:Int):fS 118 k=(k==6):=by simp[fS]
theorem OO (k:Int):fS 110 k=(k==36):=by simp[fS]
theorem OL (k:Int):fS 97 k=(k==47):=by simp[fS]
theorem OP (k:Int):fS 113 k=(k==7):=by simp[fS]
theorem TZ (k:Int):fS 111 k=(k==20||k==45):=by simp[fS]
theorem RX (k:Int):dp k 69=aG k:=by simp[dp]
theorem R3 (k:Int):dp k 84=aJ k:=by simp[dp]
theorem B6 (k:Int):dp k 83=bY k:=by simp[dp]
theorem R2 (k:Int):dp k 80=bN k:=by simp[dp]
theorem RW (k:Int):dp k 66=(k==20):=by simp[dp]
theorem RZ (k:Int):dp k 73=(k==2||k==3||k==4):=by simp[dp]
theorem RY (k:Int):dp k 70=(k==5):=by simp[dp]
theorem R4 (k:Int):dp k 86=(k==6):=by simp[dp]
theorem R0 (k:Int):dp k 74=(k==36):=by simp[dp]
theorem RU (k:Int):dp k 65=(k==47):=by simp[dp]
theorem R1 (k:Int):dp k 77=(k==7):=by simp[dp]
theorem R5 (k:Int):dp k 88=(k==20||k==45):=by simp[dp]
theorem Qx:fS 105=λk=>(k==2||k==3||k==4):=funext ON
theorem Qw:fS 102=λk=>(k==5):=funext OM
theorem QC:fS 118=λk=>(k==6):=funext OQ
theorem Qu:fS 101=aG:=funext kH
theorem Qy:fS 110=λk=>(k==36):=funext OO
theorem Qt:fS 97=λk=>(k==47):=funext OL
theorem QA:fS 115=bY:=funext Dt
theorem Qz:fS 113=λk=>(k==7):=funext OP
attribute [local simp] Qx Qw QC Qu Qy Qt QA Qz kH vD Dt Hy TY ON OM OQ OO OL OP TZ RX R3 B6 R2 RW RZ RY R4 R0 RU R1 R5
section forms
variable(ks:List Int)
theorem Ml:aS [] ks=aQ [] ks:=by simp[aS,bu,aV,aQ]
theorem T9:aS [116] ks=aQ [84] ks:=by
 rcases ks with _|⟨a,_|⟨b,l⟩⟩<;>simp[aS,bu,aV,aQ]
theorem T8:aS [101] ks=aQ [69] ks:=by
 rcases ks with _|⟨a,_|⟨b,l⟩⟩<;>simp[aS,bu,aV,aQ]
theorem QX:aS [63,116] ks=(aQ [] ks||aQ [84] ks):=by
 rcases ks with _|⟨a,_|⟨b,l⟩⟩<;>simp[aS,bu,aV,aQ]
theorem QV:aS [63,101] ks=(aQ [] ks||aQ [69] ks):=by
 rcases ks with _|⟨a,_|⟨b,l⟩⟩<;>simp[aS,bu,aV,aQ]
theorem QW:aS [63,112] ks=(aQ [] ks||aQ [80] ks):=by
 rcases ks with _|⟨a,_|⟨b,l⟩⟩<;>simp[aS,bu,aV,aQ]
theorem QR:aS [101,101] ks=aQ [69,69] ks:=by
 rcases ks with _|⟨a,_|⟨b,_|⟨c,l⟩⟩⟩<;>simp[aS,bu,aV,aQ]
theorem QQ:aS [101,98] ks=aQ [69,66] ks:=by
 rcases ks with _|⟨a,_|⟨b,_|⟨c,l⟩⟩⟩<;>simp[aS,bu,aV,aQ]
theorem QU:aS [112,101] ks=aQ [80,69] ks:=by
 rcases ks with _|⟨a,_|⟨b,_|⟨c,l⟩⟩⟩<;>simp[aS,bu,aV,aQ]
theorem Mm:aS [63,116,101] ks=(aQ [69] ks||aQ [84,69] ks):=by
 rcases ks with _|⟨a,_|⟨b,_|⟨c,l⟩⟩⟩<;>simp[aS,bu,aV,aQ]
theorem Mk:aS [101,98,63,111] ks=(aQ [69,66] ks||aQ [69,66,88] ks):=by
 rcases ks with _|⟨a,_|⟨b,_|⟨c,_|⟨d,l⟩⟩⟩⟩<;>simp[aS,bu,aV,aQ]
 all_goals(cases aG a<;>simp)
theorem Q0:aS [42,105] ks=aQ [42,73] ks:=by simp[aS,bu,aV,aQ]
theorem QZ:aS [42,102] ks=aQ [42,70] ks:=by simp[aS,bu,aV,aQ]
theorem Q2:aS [42,118] ks=aQ [42,86] ks:=by simp[aS,bu,aV,aQ]
theorem QY:aS [42,101] ks=aQ [42,69] ks:=by simp[aS,bu,aV,aQ]
theorem Q1:aS [42,110] ks=aQ [42,74] ks:=by simp[aS,bu,aV,aQ]
theorem QP:aS [101,42,97] ks=aQ [69,42,65] ks:=by
 rcases ks with _|⟨a,l⟩
 ·simp[aS,bu,aV,aQ]
 ·have:¬l.length+1<1:=by omega
  simp[aS,bu,aV,aQ,this]
theorem HS {α:Type} {l:List α} (h:2<=l.length):∃ps a b,l=ps++[a,b]:=by
 obtain⟨r,b,rfl⟩:∃r b,l=r++[b]:=by
  rcases List.eq_nil_or_concat l with rfl|⟨r,b,h⟩
  ·simp at h
  ·exact⟨r,b,by simpa using h⟩
 obtain⟨ps,a,rfl⟩:∃ps a,r=ps++[a]:=by
  rcases List.eq_nil_or_concat r with rfl|⟨r,b,h⟩
  ·simp at h
  ·exact⟨r,b,by simpa using h⟩
 exact⟨ps,a,b,by simp⟩
theorem QT (num:Int):(num==((ks.filter (λk=>k==7)).length:Nat)&&aS [42,113,116,98] ks)=Aj num ks:=by
 by_cases h:ks.length<2
 ·have h2:¬2<=ks.length:=by omega
  simp[aS,bu,Aj,h,h2]
 ·obtain⟨ps,t,b,rfl⟩:=HS (l:=ks) (by omega)
  have e1:(ps++[t,b]).length=ps.length+2:=by simp
  have e2:aS [42,113,116,98] (ps++[t,b])=(ps.all (λk=>k==7)&&(aJ t&&b==20)):=by
   have:¬ps.length+2<2:=by omega
   simp only[aS,bu,e1]
   simp[this,aV]
  have e3:Aj num (ps++[t,b])=(num==(ps.length:Int)&&aJ t&&b==20&&ps.all (λk=>k==7)):=by
   have e4:((ps.length+2:Nat):Int)-2=ps.length:=by omega
   simp only[Aj,e1,e4,Nat.add_sub_cancel,show ps.length+2-1=ps.length+1 from rfl]
   simp
  rw[e2,e3]
  by_cases ha:ps.all (λk=>k==7)=true
  ·by_cases ht:aJ t=true
   ·by_cases hb:b=20
    ·have hf:(ps++[t,b]).filter (λk=>k==7)=ps:=by
      rw[List.filter_append,List.filter_eq_self.2 (by simpa using ha)]
      have h1:(t==7)=false:=by
       unfold aJ at ht
       simp at ht
       simp
       omega
      simp[h1,hb]
     rw[hf]
     simp[ha,ht,hb]
    ·have:(b==20)=false:=by simpa using hb
     simp[this]
   ·simp only[Bool.not_eq_true] at ht
    simp[ht]
  ·simp only[Bool.not_eq_true] at ha
   simp[ha]
theorem BN:aS [42,115] ks=gm 0 ks:=by
 have:(λk=>dp k 83)=bY:=funext B6
 simp[aS,bu,aV,gm,this]
theorem BO:aS [42,115,101] ks=gm 1 ks:=by
 have hs:(λk=>dp k 83)=bY:=funext B6
 rcases List.eq_nil_or_concat ks with rfl|⟨ps,e,h⟩
 ·simp[aS,bu,gm]
 ·have h:ks=ps++[e]:=by simpa using h
  subst h
  have e1:(ps++[e]).length=ps.length+1:=by simp
  have h1:¬ps.length+1<1:=by omega
  simp only[aS,bu,gm,e1,hs]
  simp[aV,h1,Bool.and_comm]
theorem HM (kind num:Int) (hk:lE kind=true) (hnum:-9223372036854775808<=num):(tN kind num ((ks.filter (λk=>k==7)).length:Nat)&&aS (aL kind num) ks)=(dJ kind num&&(dv kind).any (iG num ks)):=by
 have hn:(kind=1\/kind=2\/kind=3\/kind=4\/kind=5\/kind=6\/kind=7)\/(kind=10\/kind=11\/kind=12\/kind=13\/kind=14\/kind=15\/kind=16)\/
  (kind=20\/kind=21\/kind=22\/kind=23\/kind=24\/kind=25\/kind=26\/kind=27)\/(kind=30\/kind=31\/kind=32\/kind=33\/kind=34\/kind=35\/kind=36\/kind=37\/kind=38\/kind=39)\/
  (kind=40\/kind=41\/kind=42\/kind=43\/kind=44\/kind=45\/kind=46\/kind=47)\/(kind=50\/kind=51\/kind=52\/kind=53\/kind=54):=by
  unfold lE aJ bY bN aG at hk
  simp at hk
  omega
 have hbn:∀num:Int,(num==0||num==1)=true->aS (if num=1 then[42,115,101] else[42,115]) ks=gm num ks:=by
  intro num h
  simp at h
  rcases h with rfl|rfl
  ·rw[if_neg (by decide)];exact BN ks
  ·rw[if_pos rfl];exact BO ks
 rcases hn with(rfl|rfl|rfl|rfl|rfl|rfl|rfl)|(rfl|rfl|rfl|rfl|rfl|rfl|rfl)|(rfl|rfl|rfl|rfl|rfl|rfl|rfl|rfl)|(rfl|rfl|rfl|rfl|rfl|rfl|rfl|rfl|rfl|rfl)|(rfl|rfl|rfl|rfl|rfl|rfl|rfl|rfl)|(rfl|rfl|rfl|rfl|rfl)
 case inl.inr.inl=>simpa[tN,dJ,aL,dv,iG] using QT ks num
 case inr.inr.inl.inl=>
  by_cases h:(num==0||num==1)=true
  ·have:=hbn num h
   have hr:iG num ks [98,108,111,99,107]=gm num ks:=by simp[iG]
   have e1:aL 20 num=if num=1 then[42,115,101] else[42,115]:=by simp[aL]
   have e2:dv 20=[[98,108,111,99,107]]:=by simp[dv]
   rw[e1,e2,this]
   simp[tN,dJ,hr]
  ·simp only[Bool.not_eq_true] at h
   simp only[tN,dJ]
   simp[h]
 all_goals(simp only[tN,dJ,aL,dv,iG];simp[Ml,T9,T8,QX,QV,QW,QR,QQ,QU,Mm,Mk,Q0,QZ,Q2,QY,Q1,QP,iG])
 have:decide (-9223372036854775808<num)=(num !=-9223372036854775808):=by
  rw[Bool.eq_iff_iff]
  simp
  omega
 rw[this]
end forms
theorem Aa (ns:List Nd) (i:Nat) (x:Nd) (hnum:-9223372036854775808<=x.num):fM ns i x=jz ns i x:=by
 unfold fM jz
 rw[B7]
 have hc:(x.kids.filter (λk=>eH ns k==7)).length=((bF ns x).filter (λk=>k==7)).length:=by
  simp[bF,List.filter_map,Function.comp_def]
 rw[hc]
 by_cases hk:lE x.kind=true
 ·have:=HM (bF ns x) x.kind x.num hk hnum
  simp only[hk,Bool.and_true,Bool.true_and]
  generalize x.kids.all (λk=>decide (0<=k)&&decide (k<(i:Int)))=A at*
  generalize fm x.kind x.name=B at*
  generalize decide (0<=x.mE)=C at*
  generalize decide (x.mE<=x.to)=D at*
  generalize tN x.kind x.num _=E at*
  generalize dJ x.kind x.num=H at*
  generalize (dv x.kind).any _=I at*
  generalize aS _ _=J at*
  revert this
  cases A<;>cases B<;>cases C<;>cases D<;>cases E<;>cases H<;>cases I<;>cases J<;>simp
 ·simp only[Bool.not_eq_true] at hk
  simp[hk]
theorem uZ {i:Int} {m:Nat}:∀{ks out o:List Int},(∀k∈ks,0<=k/\k<(m:Int))->cH i out ks=some o->o[m]?=out[m]?:=by
 intro ks
 induction ks with
 |nil=>intro out o _ h;cases h;rfl
 |cons k ks ih=>
  intro out o hk h
  simp only[cH] at h
  split at h
  ·cases h
  ·rw[ih (λk hk'=>hk k (by simp[hk'])) h]
   have:=hk k (by simp)
   rw[List.getElem?_set_ne (by omega)]
theorem xy {m:Nat}:∀{xs:List Nd} {i:Nat} {out o:List Int},(∀x∈xs,∀k∈x.kids,0<=k/\k<(m:Int))->cJ i xs out=some o->o[m]?=out[m]?:=by
 intro xs
 induction xs with
 |nil=>intro i out o _ h;cases h;rfl
 |cons x xs ih=>
  intro i out o hk h
  simp only[cJ] at h
  split at h
  ·cases h
  ·rename_i o1 h1
   rw[ih (λy hy=>hk y (by simp[hy])) h,uZ (hk x (by simp)) h1]
end
section
open Go.Vv
theorem G7 (l:List Int):∀a:Int,l.foldl max a=max a (l.foldl max a)/\∀b:Int,l.foldl max (max a b)=max (l.foldl max a) b:=by
 induction l with
 |nil=>intro a;exact⟨by simp,λb=>rfl⟩
 |cons x l ih=>
  intro a
  simp only[List.foldl_cons]
  refine⟨?_,λb=>?_⟩
  ·have:=(ih (max a x)).1
   omega
  ·rw[show max (max a b) x=max (max a x) b by omega]
   exact(ih (max a x)).2 b
theorem G9:∀(l:List Int) (i:Nat) (a v:Int),0<=a->0<=v->l[i]?=some 0->(l.set i v).foldl max a=max (l.foldl max a) v:=by
 intro l
 induction l with
 |nil=>intro i a v _ _ h;simp at h
 |cons x l ih=>
  intro i a v ha hv h
  cases i with
  |zero=>
   simp at h
   subst h
   simp only[List.set_cons_zero,List.foldl_cons]
   rw[show max a (0:Int)=a by omega]
   exact(G7 l a).2 v
  |succ i=>
   simp only[List.getElem?_cons_succ] at h
   simp only[List.set_cons_succ,List.foldl_cons]
   exact ih i (max a x) v (by omega) hv h
theorem deep_law (up:List Int):∀(i:Nat) (out:List Int) (eo:Int),i<=out.length->(∀j,j<i->out[j]?=some 0)->(∀v∈out,0<=v)->eo=out.foldl max 0->(∀j,j<i->0<=(up[j]?).getD 0)->
 (pD up i out).foldl max 0=pC up i out eo:=by
 intro i
 induction i with
 |zero=>intro out eo _ _ _ h _;exact h.symm
 |succ i ih=>
  intro out eo hi hz hn hm hu
  have hs:gb up i out=cN up i out:=by
   unfold gb cN
   rw[if_pos (hu i (Nat.lt_succ_self i))]
  simp only[pD,pC]
  rw[hs]
  have hv:0<=(out[((up[i]?).getD 0).toNat]?).getD 0+1:=by
   cases hg:out[((up[i]?).getD 0).toNat]? with
   |none=>simp
   |some d=>have:=hn d (List.mem_of_getElem? hg);simp;omega
  have h0:=hz i (Nat.lt_succ_self i)
  have hgi:(cN up i out)[i]?=some ((out[((up[i]?).getD 0).toNat]?).getD 0+1):=by
   unfold cN
   rw[List.getElem?_set_self (by omega)]
  rw[hgi]
  simp only[Option.getD_some]
  refine ih _ _ (by rw[qC];omega) (λj hj=>?_) (λv hv'=>?_) ?_ (λj hj=>hu j (by omega))
  ·unfold cN
   rw[List.getElem?_set_ne (by omega)]
   exact hz j (by omega)
  ·unfold cN at hv'
   rcases List.mem_or_eq_of_mem_set hv' with h|h
   ·exact hn v h
   ·omega
  ·have:=G9 out i 0 _ (by omega) hv h0
   unfold cN
   rw[this,<-hm]
   split<;>omega
theorem Ik {o:List Int} (h:∀v∈o, -1<=v) (hl:1<=o.length):qR o=eJ o:=by
 have:(o.length==0)=false:=by simp;intro e;subst e;simp at hl
 unfold qR eJ
 rw[this,Bool.false_or,Bool.eq_iff_iff]
 simp only[Bool.not_eq_true',List.any_eq_false,List.all_eq_true,decide_eq_true_eq,beq_iff_eq]
 constructor
 ·intro hh v hv
  have h1:=h v (List.mem_of_mem_take hv)
  have h2:=hh v hv
  omega
 ·intro hh v hv
  have:=hh v hv
  intro e
  omega
theorem J4 (ns:List Nd) (hnum:∀x∈ns, -9223372036854775808<=x.num):bK ns=fE ns:=by
 unfold bK fE
 have hall:ns.zipIdx.all (λp=>fM ns p.2 p.1)=ns.zipIdx.all (λp=>jz ns p.2 p.1):=by
  rw[Bool.eq_iff_iff,List.all_eq_true,List.all_eq_true]
  constructor
  ·intro h p hp
   have hm:p.1∈ns:=by
    obtain⟨x,i⟩:=p
    rw[List.mem_zipIdx_iff_getElem?] at hp
    exact List.mem_of_getElem? hp
   rw[<-Aa ns p.2 p.1 (hnum _ hm)];exact h p hp
  ·intro h p hp
   have hm:p.1∈ns:=by
    obtain⟨x,i⟩:=p
    rw[List.mem_zipIdx_iff_getElem?] at hp
    exact List.mem_of_getElem? hp
   rw[Aa ns p.2 p.1 (hnum _ hm)];exact h p hp
 rw[<-hall]
 by_cases h1:1<=ns.length
 rotate_left
 ·simp[h1]
 cases ha:ns.zipIdx.all (λp=>fM ns p.2 p.1) with
 |false=>simp
 |true=>
  cases hp:ca ns with
  |none=>rfl
  |some o=>
   simp only
   obtain⟨ho1,ho2⟩:=gk h1 hp
   rw[Ik (λv hv=>(ho2 v hv).1) (by omega)]
   cases hap:eJ o with
   |false=>rfl
   |true=>
    simp only[Bool.true_and]
    have hkid:∀x∈ns,∀k∈x.kids,0<=k/\k<((ns.length-1:Nat):Int):=by
     intro x hx k hk
     obtain⟨i,hi,rfl⟩:=List.getElem_of_mem hx
     rw[List.all_eq_true] at ha
     have:=oQ (ha (ns[i],i) (by rw[List.mem_zipIdx_iff_getElem?];simp)) k hk
     simp only at this
     omega
    have hlast:o[o.length-1]?=some (-1):=by
     have:=xy hkid hp
     rw[ho1,this,List.getElem?_replicate]
     rw[if_pos (by omega)]
    obtain⟨m,hm⟩:∃m,o.length=m+1:=⟨o.length-1,by omega⟩
    have e1:pD o o.length (List.replicate o.length 0)=pD o m (List.replicate o.length 0):=by
     rw[hm]
     simp only[pD]
     congr 1
     unfold gb
     rw[hm,Nat.add_sub_cancel] at hlast
     rw[hlast]
     simp
    have e2:=deep_law o m (List.replicate o.length 0) 0 (by simp;omega) (λj hj=>by rw[List.getElem?_replicate,if_pos (by omega)])
     (λv hv=>by have:=List.eq_of_mem_replicate hv;omega) (by
       have key:∀n:Nat,(List.replicate n (0:Int)).foldl max 0=0:=by
        intro n
        induction n with
        |zero=>rfl
        |succ n ih=>rw[List.replicate_succ,List.foldl_cons];simpa using ih
       exact(key _).symm) (λj hj=>by
       unfold eJ at hap
       rw[List.all_eq_true] at hap
       obtain⟨v,hv⟩:∃v,o[j]?=some v:=⟨o[j]'(by omega),by simp⟩
       rw[hv]
       have:=hap v (by rw[List.mem_take_iff_getElem];exact⟨j,by omega,by rw[List.getElem?_eq_getElem (by omega)] at hv;exact Option.some.inj hv⟩)
       simpa using this)
    rw[e1,e2,show o.length-1=m by omega]
end
section
open Go.Vv
structure Good (ns:List Nd):Prop where
 right:bK ns=true
 kids:∀x∈ns,x.kids.length<=1048576
 names:∀x∈ns,x.name.length<=1048576
 X2:∀x∈ns, -9223372036854775808<=x.num/\x.num<=9223372036854775807
theorem Good.node {ns:List Nd} (g:Good ns) {i:Nat} {x:Nd} (hx:ns[i]?=some x):fM ns i x=true:=by
 have h:=g.right
 simp only[bK,Bool.and_eq_true] at h
 have h2:=h.1.2
 rw[List.all_eq_true] at h2
 exact h2 (x,i) (by rw[List.mem_zipIdx_iff_getElem?];exact hx)
theorem Good.len {ns:List Nd} (g:Good ns):1<=ns.length/\ns.length<=20000:=by
 have h:=g.right
 simp only[bK,Bool.and_eq_true,decide_eq_true_eq] at h
 exact⟨h.1.1.1.1,h.1.1.1.2⟩
theorem Good.last {ns:List Nd} (g:Good ns):∃x,ns[ns.length-1]?=some x/\x.kind=1:=by
 have h:=g.right
 simp only[bK,Bool.and_eq_true] at h
 have h2:=h.1.1.2
 cases hx:ns[ns.length-1]? with
 |none=>rw[hx] at h2;simp at h2
 |some x=>rw[hx] at h2;exact⟨x,rfl,by simpa using h2⟩
theorem Good.HD {ns:List Nd} (g:Good ns) {i:Nat} {x:Nd} (hx:ns[i]?=some x):∀k∈x.kids,0<=k/\k<(i:Int):=oQ (g.node hx)
theorem Good.fits {ns:List Nd} (g:Good ns) {i:Nat} {x:Nd} (hx:ns[i]?=some x):aS (aL x.kind x.num) (bF ns x)=true:=by
 have h:=g.node hx
 simp only[fM,Bool.and_eq_true] at h
 exact h.2
theorem Good.eH {ns:List Nd} {k:Int} {y:Nd} (h:ns[k.toNat]?=some y):eH ns k=y.kind:=by simp[Proofs.YtdjkoddnnogejaaGreat.eH,h]
theorem HF {ns:List Nd} {x:Nd} {c:UInt8} (hc:c≠42) (h:aS [c] (bF ns x)=true):∃k,x.kids=[k]/\fS c.toNat (eH ns k)=true:=by
 have:bu [c]=none:=by simp[bu,hc]
 simp only[aS,this] at h
 unfold bF at h
 match hk:x.kids,h with
 |[],h=>simp[aV] at h
 |[k],h=>exact⟨k,rfl,by simpa[aV] using h⟩
 |a::b::l,h=>simp[aV] at h
theorem Good.type1 {ns:List Nd} (g:Good ns) {i:Nat} {x:Nd} (hx:ns[i]?=some x) (hk:x.kind=14\/x.kind=15\/x.kind=16):∃(k:Nat) (y:Nd),x.kids=[(k:Int)]/\k<i/\ns[k]?=some y/\aJ y.kind=true:=by
 have hf:=g.fits hx
 have hs:aL x.kind x.num=[116]:=by rcases hk with h|h|h<;>simp[aL,h]
 rw[hs] at hf
 obtain⟨k,hk1,hk2⟩:=HF (by decide) hf
 obtain⟨h0,h1⟩:=g.HD hx k (by rw[hk1];simp)
 have hi:i<ns.length:=(List.getElem?_eq_some_iff.1 hx).1
 obtain⟨y,hy⟩:∃y,ns[k.toNat]?=some y:=⟨ns[k.toNat]'(by omega),by simp⟩
 refine⟨k.toNat,y,by rw[hk1];congr 1;omega,by omega,hy,?_⟩
 rw[<-Good.eH hy,<-vD]
 exact hk2
def cz (ns:List Nd) (i:Nat):List UInt8:=
 match ns[i]? with
 |none=>[]
 |some x=>
  let t:=if _h:(x.kids.headD 0).toNat<i then cz ns (x.kids.headD 0).toNat else[]
  if x.kind=10 then[105,54,52] else if x.kind=11 then[98,111,111,108] else if x.kind=12 then[40,41] else
  if x.kind=14 then 38::t else if x.kind=15 then[38,109,117,116,32]++t else if x.kind=16 then[66,111,120,60]++t++[62] else x.name
termination_by i
decreasing_by assumption
theorem jD {ns:List Nd} {i:Nat} {x:Nd} (hx:ns[i]?=some x):cz ns i=
 (if x.kind=10 then[105,54,52] else if x.kind=11 then[98,111,111,108] else if x.kind=12 then[40,41] else
 if x.kind=14 then 38::(if(x.kids.headD 0).toNat<i then cz ns (x.kids.headD 0).toNat else[]) else if x.kind=15 then[38,109,117,116,32]++(if(x.kids.headD 0).toNat<i then cz ns (x.kids.headD 0).toNat else[]) else
 if x.kind=16 then[66,111,120,60]++(if(x.kids.headD 0).toNat<i then cz ns (x.kids.headD 0).toNat else[])++[62] else x.name):=by
 rw[cz]
 simp[hx]
theorem xU {ns:List Nd} (g:Good ns):∀(n i:Nat),i<=n->(cz ns i).length<=1048576+5*(i+1):=by
 intro n
 induction n with
 |zero=>
  intro i hi
  cases hx:ns[i]? with
  |none=>rw[cz];simp[hx]
  |some x=>
   have hnm:=g.names x (List.mem_of_getElem? hx)
   rw[jD hx]
   have:¬(x.kids.headD 0).toNat<i:=by omega
   simp only[if_neg this]
   repeat' split
   all_goals simp
   all_goals omega
 |succ n ih=>
  intro i hi
  cases hx:ns[i]? with
  |none=>rw[cz];simp[hx]
  |some x=>
   have hnm:=g.names x (List.mem_of_getElem? hx)
   rw[jD hx]
   by_cases hk:(x.kids.headD 0).toNat<i
   ·have:=ih (x.kids.headD 0).toNat (by omega)
    simp only[if_pos hk]
    repeat' split
    all_goals(try simp only[List.length_append,List.length_cons,List.length_nil])
    all_goals omega
   ·simp only[if_neg hk]
    repeat' split
    all_goals(try simp only[List.length_append,List.length_cons,List.length_nil])
    all_goals omega
end
section
open Go.Vv
open Fo (hp aC oK cu cy cj eL gF oL)
structure Lc where
 name:List UInt8
 ty:List UInt8
 mt:Bool
structure St where
 types:List (List UInt8)
 vars:List Int
 locals:List Lc
 scope:List (List UInt8×Int)
 loops:Int
structure Dg where
 code:Int
 mE:Int
 to:Int
inductive aN (α:Type) where
 |ok (a:α) (st:St)
 |bad (d:Dg)
def aN.then {α β:Type} (r:aN α) (f:α->St->aN β):aN β:=
 match r with
 |.ok a st=>f a st
 |.bad d=>.bad d
abbrev Rec:=Int->St->aN ah
def nd (ns:List Nd) (k:Int):Nd:=(ns[k.toNat]?).getD ⟨0,[],0,true,[],0,0⟩
def ax (ns:List Nd) (n:Int) (i:Nat):Int:=((nd ns n).kids[i]?).getD 0
def aF:ah:=[33]
def bg:ah:=[105,54,52]
def aI:ah:=[98,111,111,108]
def aE:ah:=[40,41]
def aP (s:ah):Bool:=hp s cj
def bC (s:ah):Bool:=hp s cy
def bh (s:ah):Bool:=s.contains 38
def bZ (k:Int):Bool:=k==33||k==41||k==42
section walk
variable(ns:List Nd) (it:aw) (ret:ah)
def ai {α:Type} (e n:Int):aN α:=.bad ⟨e,(nd ns n).mE,(nd ns n).to⟩
def bw (n:Int) (name ty:ah) (mt:Bool) (st:St):aN Unit:=
 if st.locals.length=256 then ai ns 2 n else
 .ok () {st with locals:=st.locals++[⟨name,ty,mt⟩],vars:=st.vars.set n.toNat st.locals.length,scope:=st.scope++[(name,(st.locals.length:Int))]}
def cS (E:Rec) (n:Int) (st:St):aN ah:=(E n st).then λs st=>if s=aF then ai ns 160 n else .ok s st
def bP (E:Rec) (n:Int) (ty:ah) (st:St):aN Unit:=(cS ns E n st).then λs st=>if s=ty then .ok () st else ai ns 160 n
def typeAt (st:St) (n:Int):ah:=(st.types[n.toNat]?).getD []
def mB (n:Int) (ty:ah) (st:St):aN Unit:=if typeAt st n=ty\/typeAt st n=aF then .ok () st else ai ns 160 n
def ri (E:Rec) (n:Int) (st:St):aN ah:=(cS ns E n st).then λs st=>if aP s=true\/bZ (nd ns n).kind=true then .ok s st else ai ns 164 n
def cI:Nat->ah->Bool->Bool->Bool×Bool
 |0,_,may,dec=>(may,dec)
 |f+1,s,may,dec=>
  if aP s=true/\bC s=false then(false,true) else
  let m:=if aP s=true then true else may
  let d:=if aP s=true then true else dec
  match aC s with
  |none=>(m,d)
  |some t=>cI f t m d
def eR (s:ah):Bool×Bool:=cI (s.length+1) s false false
def tH (st:St):Nat->Int->Bool
 |0,_=>true
 |f+1,n=>
  let x:=nd ns n
  let b:=ax ns n 0
  if x.kind=33 then((st.locals[((st.vars[n.toNat]?).getD 0).toNat]?).map Lc.mt).getD false
  else if x.kind=42 then(if aP (typeAt st b)=true then bC (typeAt st b) else tH st f b)
  else if x.kind=41 then(if(eR (typeAt st b)).2=true then(eR (typeAt st b)).1 else tH st f b)
  else true
def sb (st:St) (n:Int):Bool:=tH ns st (n.toNat+1) n
def gG (E:Rec):List Int->List ah->St->aN Unit
 |k::ks,w::ws,st=>(bP ns E k w st).then λ_ st=>gG E ks ws st
 |_,_,st=>.ok () st
def gV (fs:List Fd) (s:ah):Option Fd:=fs.find? (λf=>f.name==s)
def kz (s:ah):Option (List ah×ah):=
 if s=[112,114,105,110,116] then some ([bg],aE) else if s=[114,101,97,100] then some ([],bg) else if s=[112,97,110,105,99] then some ([],aF) else
 (findF it.fns s).map λf=>(f.ps.map Fd.ty,f.ret)
def n9 (E:Rec) (n:Int) (st:St):aN ah:=
 match kz it (nd ns n).name with
 |none=>ai ns 162 n
 |some (want,r)=>if want.length≠(nd ns n).kids.length then ai ns 162 n else(gG ns E (nd ns n).kids want st).then λ_ st=>.ok r st
def fh (E:Rec) (fs:List Fd):List Int->List ah->St->aN (List ah)
 |[],fR,st=>.ok fR st
 |k::ks,fR,st=>
  match gV fs (nd ns k).name with
  |none=>ai ns 163 k
  |some f=>if fR.contains (nd ns k).name=true then ai ns 163 k else
   (bP ns E (ax ns k 0) f.ty st).then λ_ st=>fh E fs ks (fR++[(nd ns k).name]) st
def oe (E:Rec) (n:Int) (st:St):aN ah:=
 match aM it.ss (nd ns n).name with
 |none=>ai ns 163 n
 |some s=>(fh ns E s.fs (nd ns n).kids [] st).then λfR st=>if fR.length=s.fs.length then .ok (nd ns n).name st else ai ns 163 n
def ix (s:ah):List Sd->Option (ah×ah)
 |[]=>none
 |e::es=>match e.fs.find? (λv=>e.name++[58,58]++v.name==s) with
  |some v=>some (e.name,v.ty)
  |none=>ix s es
def eu (s:ah):Option (ah×ah):=ix s it.es
def om (E:Rec) (n:Int) (st:St):aN ah:=
 match eu it (nd ns n).name with
 |none=>ai ns 163 n
 |some (e,ty)=>
  if(decide (ty≠[]) !=decide ((nd ns n).kids.length=1))=true then ai ns 163 n else
  if(nd ns n).kids.length=1 then(bP ns E (ax ns n 0) ty st).then λ_ st=>.ok e st else .ok e st
def yS (E:Rec) (n:Int) (st:St):aN ah:=
 let s:=(nd ns n).name
 let a:=ax ns n 0
 let b:=ax ns n 1
 if s=[61,61]\/s=[33,61] then
  (cS ns E a st).then λt st=>if t≠bg/\t≠aI then ai ns 160 a else(bP ns E b t st).then λ_ st=>.ok aI st
 else if s=[38,38]\/s=[124,124] then(bP ns E a aI st).then λ_ st=>(bP ns E b aI st).then λ_ st=>.ok aI st
 else(bP ns E a bg st).then λ_ st=>(bP ns E b bg st).then λ_ st=>
  .ok (if s=[43]\/s=[45]\/s=[42]\/s=[47]\/s=[37] then bg else aI) st
def iO (E:Rec) (n:Int) (st:St):aN ah:=
 (bP ns E (ax ns n 0) aI st).then λ_ st=>(E (ax ns n 1) st).then λfirst st=>
   if(nd ns n).kids.length=2 then(mB ns (ax ns n 1) aE st).then λ_ st=>.ok aE st else
   (E (ax ns n 2) st).then λother st=>if first=aF then .ok other st else(mB ns (ax ns n 2) first st).then λ_ st=>.ok first st
def mi:Nat->Int->ah->St->aN Unit
 |0,_,_,st=>.ok () st
 |f+1,n,ty,st=>
  let x:=nd ns n
  let held:=if aP ty=true then(aC ty).getD [] else ty
  let front:=if aP ty=true then(if bC ty=true then cy else cj) else[]
  let r:aN Unit:=
   if x.kind=51 then bw ns n x.name ty false st
   else if x.kind=52 then(if held=bg then .ok () st else ai ns 167 n)
   else if x.kind=53 then(if held=aI then .ok () st else ai ns 167 n)
   else if x.kind=54 then
    match eu it x.name with
    |none=>ai ns 167 n
    |some (e,pt)=>if e≠held\/(decide (pt≠[]) !=decide (x.kids.length=1))=true then ai ns 167 n else
     if x.kids.length=1 then mi f (ax ns n 0) (front++pt) st else .ok () st
   else .ok () st
  r.then λ_ st=>.ok () {st with types:=st.types.set n.toNat ty}
def n6 (n:Int) (ty:ah) (st:St):aN Unit:=mi ns it (n.toNat+1) n ty st
def iJ (E:Rec) (subject:ah):List Int->ah->St->aN ah
 |[],out,st=>.ok out st
 |k::ks,out,st=>
  (n6 ns it (ax ns k 0) subject st).then λ_ st1=>(E (ax ns k 1) st1).then λs st1=>
    if out=aF then iJ E subject ks s {st1 with scope:=st1.scope.take st.scope.length} else
    (mB ns (ax ns k 1) out st1).then λ_ st1=>iJ E subject ks out {st1 with scope:=st1.scope.take st.scope.length}
def lI (E:Rec) (n:Int) (st:St):aN ah:=
 (cS ns E (ax ns n 0) st).then λs st=>iJ ns it E s ((nd ns n).kids.drop 1) aF st
def ln (E:Rec) (n:Int) (st:St):aN ah:=
 let k:=ax ns n 0
 (cS ns E k st).then λs st=>
   if bZ (nd ns k).kind=false then ai ns 164 k else if bh s=true then ai ns 142 n else
   if(nd ns n).num=0 then .ok (cj++s) st else if sb ns st k=true then .ok (cy++s) st else ai ns 165 k
def jV (s:ah) (l:List (ah×Int)):Option Int:=(l.reverse.find? (λp=>p.1==s)).map Prod.snd
def Cs (n:Int) (st:St):aN ah:=
 match jV (nd ns n).name st.scope with
 |none=>ai ns 161 n
 |some v=>.ok (((st.locals[v.toNat]?).map Lc.ty).getD []) {st with vars:=st.vars.set n.toNat v}
def sB (s:ah):ah:=cu s.length s
def dG (s f:ah):Option Fd:=(aM it.ss s).bind λx=>gV x.fs f
def EZ (E:Rec) (n:Int) (st:St):aN ah:=
 (ri ns E (ax ns n 0) st).then λs st=>match dG it (sB s) (nd ns n).name with
   |none=>ai ns 163 n
   |some f=>.ok f.ty st
def rL (E:Rec) (n:Int) (st:St):aN ah:=
 (ri ns E (ax ns n 0) st).then λs st=>match aC s with
   |none=>ai ns 168 n
   |some t=>.ok t st
def Fc (E:Rec) (n:Int) (st:St):aN ah:=
 (cS ns E (ax ns n 0) st).then λs st=>if bh s=true then ai ns 142 n else .ok (eL++s++gF) st
def cw (s:ah):Bool:=(aM it.ss s).isSome||(aM it.es s).isSome
def jE:Nat->Int->Option Int
 |0,_=>none
 |f+1,n=>if(nd ns n).kind=13/\cw it (nd ns n).name=false then some n else(nd ns n).kids.findSome? λk=>jE f k
def mK:Nat->Int->Bool->Option Int
 |0,_,_=>none
 |f+1,n,may=>if may=false/\((nd ns n).kind=14\/(nd ns n).kind=15) then some n else(nd ns n).kids.findSome? λk=>mK f k false
def bm (n:Int):Option Int:=jE ns it (n.toNat+1) n
def bj (n:Int) (may:Bool):Option Int:=mK ns (n.toNat+1) n may
def wy (n:Int) (st:St):aN ah:=
 match bm ns it n with
 |some k=>ai ns 141 k
 |none=>match bj ns n true with
  |some k=>ai ns 142 k
  |none=>.ok (cz ns n.toNat) st
def qM (E:Rec) (n:Int) (st:St):aN Unit:=
 let x:=nd ns n
 (if x.kids.length=2 then(wy ns it (ax ns n 0) st).then λty st=>(bP ns E (ax ns n 1) ty st).then λ_ st=>.ok ty st
   else cS ns E (ax ns n 0) st).then λty st=>bw ns n x.name ty (x.num==1) st
def cW (E:Rec) (n:Int) (st:St):aN Unit:=
 let x:=nd ns n
 let a:=ax ns n 0
 let b:=ax ns n 1
 if x.kind=21 then qM ns it E n st
 else if x.kind=22 then(E a st).then λ_ st=>.ok () st
 else if x.kind=23 then(cS ns E a st).then λs st=>
  if bZ (nd ns a).kind=false then ai ns 164 a else
  (bP ns E b s st).then λ_ st=>if sb ns st a=true then .ok () st else ai ns 165 a
 else if x.kind=24 then(bP ns E a aI st).then λ_ st=>(E b {st with loops:=st.loops+1}).then λ_ st=>mB ns b aE {st with loops:=st.loops-1}
 else if x.kind=25 then(if x.kids.length=1 then(E a st).then λ_ st=>mB ns a ret st else if ret=aE then .ok () st else ai ns 160 n)
 else if st.loops=0 then ai ns 166 n else .ok () st
def pE (st:St) (n:Int):Bool:=
 let x:=nd ns n
 if x.kind=25\/x.kind=26\/x.kind=27 then true else if x.kind=22 then typeAt st (ax ns n 0)==aF else false
def eh (E:Rec) (tail:Bool):List Int->ah->St->aN ah
 |[],out,st=>.ok out st
 |k::ks,_,st=>if tail=true/\ks=[] then E k st else
  (cW ns it ret E k st).then λ_ st=>eh E tail ks (if pE ns st k=true then aF else aE) st
def jk (E:Rec) (n:Int) (st:St):aN ah:=
 (eh ns it ret E ((nd ns n).num==1) (nd ns n).kids aE st).then λout st1=>.ok out {st1 with scope:=st1.scope.take st.scope.length}
def dc (E:Rec) (n:Int) (st:St):aN ah:=
 let k:=(nd ns n).kind
 if k=30 then .ok bg st else if k=31 then .ok aI st else if k=32 then .ok aE st else if k=33 then Cs ns n st else
 if k=34 then n9 ns it E n st else if k=35 then oe ns it E n st else if k=37 then om ns it E n st else if k=38 then yS ns E n st else
 if k=39 then(bP ns E (ax ns n 0) bg st).then λ_ st=>.ok bg st else if k=40 then(bP ns E (ax ns n 0) aI st).then λ_ st=>.ok aI st else
 if k=41 then EZ ns it E n st else if k=42 then rL ns E n st else if k=43 then ln ns E n st else if k=44 then Fc ns E n st else
 if k=45 then iO ns E n st else if k=46 then lI ns it E n st else jk ns it ret E n st
def pF:Nat->Rec
 |0,_,_=>.bad ⟨0,0,0⟩
 |f+1,n,st=>(dc ns it ret (pF f) n st).then λs st=>.ok s {st with types:=st.types.set n.toNat s}
def GN:Rec:=λn st=>pF ns it ret (n.toNat+1) n st
def gX:List Int->List Fd->List Bool->St->aN Unit
 |k::ks,p::ps,m::ms,st=>(bw ns k p.name p.ty m st).then λ_ st=>gX ks ps ms st
 |_,_,_,st=>.ok () st
end walk
def dg (ns:List Nd) (it:aw) (f:Fx) (st:St):aN Unit:=
 let x:=nd ns f.node
 let e:=ax ns f.node (x.kids.length-1)
 (gX ns x.kids f.ps f.ms {st with locals:=[],scope:=[],loops:=0}).then λ_ st=>
   (GN ns it f.ret e st).then λ_ st=>mB ns e f.ret st
def b9 (ns:List Nd) (it:aw):List Fx->List (List Lc)->St->aN (List (List Lc))
 |[],out,st=>.ok out st
 |f::fs,out,st=>(dg ns it f st).then λ_ st=>b9 ns it fs (out++[st.locals]) st
def eQ (ns:List Nd):St:=⟨List.replicate ns.length [],List.replicate ns.length (-1),[],[],0⟩
section items
variable(ns:List Nd)
def cm (k:Int):Fd:=⟨(nd ns k).name,match(nd ns k).kids with|[]=>[]|a::_=>cz ns a.toNat⟩
def au (n:Int):Bool:=(nd ns n).kind==2
def ar (n:Int):List Int:=if(nd ns n).kind=2 then(nd ns n).kids.take ((nd ns n).kids.length-2) else(nd ns n).kids
def dL (n:Int):Int:=ax ns n ((nd ns n).kids.length-2)
def mj (n:Int):Sd:=⟨(nd ns n).name,true,(nd ns n).kids.map (cm ns)⟩
def yH (n:Int):Fx:=⟨(nd ns n).name,true,(ar ns n).map (cm ns),true,(ar ns n).map (λk=>(nd ns k).num==1),cz ns (dL ns n).toNat,n⟩
def cX (n:Int) (it:aw):aw:=
 if(nd ns n).kind=3 then{it with ss:=it.ss++[mj ns n]} else if(nd ns n).kind=4 then{it with es:=it.es++[mj ns n]} else{it with fns:=it.fns++[yH ns n]}
def ei (n:Int) (it:aw):Bool:=
 if(nd ns n).kind=3 then decide (64<it.ss.length) else if(nd ns n).kind=4 then decide (64<it.es.length) else decide (64<it.fns.length)
def aU:List Int->aw->Option Int->aw×Option Int
 |[],it,bad=>(it,bad)
 |n::l,it,bad=>aU l (cX ns n it) (match bad with|some b=>some b|none=>if ei ns n (cX ns n it)=true then some n else none)
def kC:List Int->List ah->Option Int
 |[],_=>none
 |k::l,own=>if own.contains (nd ns k).name=true then some k else kC l (own++[(nd ns k).name])
def ba:List Int->List ah->List ah->Option (Int×Int)
 |[],_,_=>none
 |n::l,ts,fs=>
  if(if au ns n=true then fs else ts).contains (nd ns n).name=true then some (n,140) else
  if(ar ns n).length>(if au ns n=true then 6 else 16) then some (n,2) else
  match kC ns (ar ns n) [] with
  |some k=>some (k,140)
  |none=>if au ns n=true then ba l ts (fs++[(nd ns n).name]) else ba l (ts++[(nd ns n).name]) fs
def bG:List ah:=[[112,114,105,110,116],[114,101,97,100],[112,97,110,105,99]]
def typesOf (n:Int):List Int:=(ar ns n).flatMap (λk=>(nd ns k).kids)++(if au ns n=true then[dL ns n] else[])
def bn (it:aw) (fn:Bool):List Int->Option (Int×Int)
 |[]=>none
 |k::l=>match bm ns it k with
  |some i=>some (i,141)
  |none=>match bj ns k fn with
   |some i=>some (i,142)
   |none=>bn it fn l
def bz (it:aw):List Int->Option (Int×Int)
 |[]=>none
 |n::l=>match bn ns it (au ns n) (typesOf ns n) with
  |some e=>some e
  |none=>bz it l
open Classical in
noncomputable def aW (it:aw) (n:Int):Bool:=
 !(au ns n)&&decide (Reach (bB it) (nd ns n).name (nd ns n).name)||((nd ns n).kind==4&&(nd ns n).kids.isEmpty)
def cn (it:aw) (n:Int):Bool:=!(au ns n)&&(decide (64<(iL it (nd ns n).name).2)||decide (1024<(iL it (nd ns n).name).1))
noncomputable def cq (it:aw) (l:List Int):Option (Int×Int):=
 match l.find? (aW ns it) with
 |some n=>some (n,143)
 |none=>(l.find? (cn ns it)).map λn=>(n,2)
def oq:ah:=[109,97,105,110]
def jq (n code:Int):Dg:=⟨code,(nd ns n).mE,(nd ns n).to⟩
noncomputable def kM:Sum aw Dg:=
 if bK ns=false then .inr ⟨3,0,0⟩ else
 let l:=(nd ns ((ns.length:Int)-1)).kids
 let c:=aU ns l aw.none none
 match c.2 with
 |some n=>.inr (jq ns n 2)
 |none=>
  match ba ns l [] bG with
  |some e=>.inr (jq ns e.1 e.2)
  |none=>
   match bz ns c.1 l with
   |some e=>.inr (jq ns e.1 e.2)
   |none=>
    match cq ns c.1 l with
    |some e=>.inr (jq ns e.1 e.2)
    |none=>
     match findF c.1.fns oq with
     |none=>.inr ⟨144,0,0⟩
     |some f=>if f.ps.isEmpty=true/\f.ret=aE then .inl c.1 else .inr (jq ns f.node 144)
end items
end
section
open Go.Vv
theorem Good.at {ns:List Nd} {k:Int} (h0:0<=k) (h1:k<(ns.length:Int)):ns[k.toNat]?=some (nd ns k):=by
 have:k.toNat<ns.length:=by omega
 simp[nd,List.getElem?_eq_getElem this]
theorem Ib {ns:List Nd} {i:Nat} {x:Nd} (h:ns[i]?=some x):nd ns (i:Int)=x:=by simp[nd,h]
theorem ja {c:UInt8} {ks:List Int} (h:aS [42,c] ks=true):∀k∈ks,fS c.toNat k=true:=by
 simp[aS,bu] at h
 intro k hk
 exact h.1.2 k hk
theorem Di {ks:List Int} (h:aS [42,113,116,98] ks=true):2<=ks.length/\(∀k∈ks.take (ks.length-2),fS 113 k=true)/\aV [116,98] (ks.drop (ks.length-2))=true:=by
 simp[aS,bu] at h
 obtain⟨h1,⟨h2,h3⟩,h4⟩:=h
 exact⟨h1,h3,h4⟩
theorem tm {c:UInt8} {ks:List Int} (hc:c≠42) (h:aS [63,c] ks=true):ks=[]\/∃k,ks=[k]/\fS c.toNat k=true:=by
 have hs:bu [63,c]=none:=by simp[bu,hc]
 simp only[aS,hs] at h
 match ks,h with
 |[],_=>exact .inl rfl
 |[k],h=>exact .inr ⟨k,rfl,by simpa[aV] using h⟩
 |a::b::l,h=>simp[aV] at h
theorem zk {c:UInt8} {ks:List Int} (hc:c≠42) (h:aS [c] ks=true):∃k,ks=[k]/\fS c.toNat k=true:=by
 have hs:bu [c]=none:=by simp[bu,hc]
 simp only[aS,hs] at h
 match ks,h with
 |[],h=>simp[aV] at h
 |[k],h=>exact⟨k,rfl,by simpa[aV] using h⟩
 |a::b::l,h=>simp[aV] at h
theorem pV {α β:Type} {f:α->β} {l:List α} {b:β} (h:l.map f=[b]):∃a,l=[a]/\f a=b:=by
 match l,h with
 |[a],h=>exact⟨a,rfl,by simpa using h⟩
section good
variable{ns:List Nd} (g:Good ns)
include g
theorem Good.num {k:Int} (h0:0<=k) (h1:k<(ns.length:Int)):∀a∈(nd ns k).kids,0<=a/\a<k:=by
 intro a ha
 have:=g.HD (Good.at h0 h1) a ha
 omega
theorem Good.QM {k:Int} (h0:0<=k) (h1:k<(ns.length:Int)):Proofs.YtdjkoddnnogejaaGreat.eH ns k=(nd ns k).kind:=Good.eH (Good.at h0 h1)
theorem Good.shape {k:Int} (h0:0<=k) (h1:k<(ns.length:Int)):aS (aL (nd ns k).kind (nd ns k).num) ((nd ns k).kids.map λa=>(nd ns a).kind)=true:=by
 have h:=g.fits (Good.at h0 h1)
 rw[<-h]
 congr 1
 unfold bF
 refine List.map_congr_left λa ha=>?_
 have:=g.num h0 h1 a ha
 exact(g.QM this.1 (by omega)).symm
theorem Good.roots:∀n∈(nd ns ((ns.length:Int)-1)).kids,0<=n/\n<(ns.length:Int)-1/\((nd ns n).kind=2\/(nd ns n).kind=3\/(nd ns n).kind=4):=by
 intro n hn
 have hl:=g.len
 have h0:(0:Int)<=(ns.length:Int)-1:=by omega
 have h1:(ns.length:Int)-1<(ns.length:Int):=by omega
 have hb:=g.num h0 h1 n hn
 refine⟨hb.1,by omega,?_⟩
 obtain⟨x,hx,hk⟩:=g.last
 have hx2:=Good.at (ns:=ns) h0 h1
 rw[show((ns.length:Int)-1).toNat=ns.length-1 by omega,hx] at hx2
 have hxe:=Option.some.inj hx2
 have hs:=g.shape h0 h1
 rw[<-hxe,hk] at hs
 have hs2:aL 1 x.num=[42,105]:=by simp[aL]
 rw[hs2] at hs
 have:=ja hs (nd ns n).kind (List.mem_map_of_mem (hxe▸hn))
 simpa[fS,or_assoc] using this
def su (ns:List Nd) (k:Int):Prop:=0<=k/\k<(ns.length:Int)/\((nd ns k).kids=[]\/∃a,(nd ns k).kids=[a]/\0<=a/\a<k/\aJ (nd ns a).kind=true)
theorem Good.isField {k:Int} (h0:0<=k) (h1:k<(ns.length:Int)) (hk:(nd ns k).kind=5\/(nd ns k).kind=6\/(nd ns k).kind=7):su ns k:=by
 refine⟨h0,h1,?_⟩
 have hs:=g.shape h0 h1
 by_cases h6:(nd ns k).kind=6
 ·rw[show aL (nd ns k).kind (nd ns k).num=[63,116] by simp[aL,h6]] at hs
  rcases tm (by decide) hs with h|⟨b,h,hb⟩
  ·exact .inl (List.map_eq_nil_iff.1 h)
  ·obtain⟨a,ha,rfl⟩:=pV h
   have:=g.num h0 h1 a (by rw[ha];simp)
   exact .inr ⟨a,ha,this.1,this.2,by rw[<-vD];exact hb⟩
 ·have h57:(nd ns k).kind=5\/(nd ns k).kind=7:=by omega
  rw[show aL (nd ns k).kind (nd ns k).num=[116] by rcases h57 with h|h<;>simp[aL,h]] at hs
  obtain⟨b,h,hb⟩:=zk (by decide) hs
  obtain⟨a,ha,rfl⟩:=pV h
  have:=g.num h0 h1 a (by rw[ha];simp)
  exact .inr ⟨a,ha,this.1,this.2,by rw[<-vD];exact hb⟩
theorem Good.members {n:Int} (h0:0<=n) (h1:n<(ns.length:Int)) (hk:(nd ns n).kind=2\/(nd ns n).kind=3\/(nd ns n).kind=4):
 ∀k∈ar ns n,k<n/\su ns k/\(((nd ns n).kind=2->(nd ns k).kind=7)/\((nd ns n).kind=3->(nd ns k).kind=5)/\((nd ns n).kind=4->(nd ns k).kind=6)):=by
 intro k hkm
 have hs:=g.shape h0 h1
 have hmem:k∈(nd ns n).kids:=by
  unfold ar at hkm
  split at hkm
  ·exact List.mem_of_mem_take hkm
  ·exact hkm
 have hb:=g.num h0 h1 k hmem
 have hkind:((nd ns n).kind=2->(nd ns k).kind=7)/\((nd ns n).kind=3->(nd ns k).kind=5)/\((nd ns n).kind=4->(nd ns k).kind=6):=by
  refine⟨λe=>?_,λe=>?_,λe=>?_⟩
  ·rw[show aL (nd ns n).kind (nd ns n).num=[42,113,116,98] by simp[aL,e]] at hs
   obtain⟨_,h2,_⟩:=Di hs
   rw[List.length_map,<-List.map_take] at h2
   rw[ar,if_pos e] at hkm
   have:=h2 _ (List.mem_map_of_mem hkm)
   simpa[fS] using this
  ·rw[show aL (nd ns n).kind (nd ns n).num=[42,102] by simp[aL,e]] at hs
   have:=ja hs _ (List.mem_map_of_mem hmem)
   simpa[fS] using this
  ·rw[show aL (nd ns n).kind (nd ns n).num=[42,118] by simp[aL,e]] at hs
   have:=ja hs _ (List.mem_map_of_mem hmem)
   simpa[fS] using this
 refine⟨hb.2,g.isField hb.1 (by omega) ?_,hkind⟩
 obtain⟨a,b,c⟩:=hkind
 rcases hk with h|h|h
 ·exact .inr (.inr (a h))
 ·exact .inl (b h)
 ·exact .inr (.inl (c h))
theorem Good.fn {n:Int} (h0:0<=n) (h1:n<(ns.length:Int)) (hk:(nd ns n).kind=2):
 2<=(nd ns n).kids.length/\0<=dL ns n/\dL ns n<n/\aJ (nd ns (dL ns n)).kind=true/\
 0<=ax ns n ((nd ns n).kids.length-1)/\ax ns n ((nd ns n).kids.length-1)<n/\(nd ns (ax ns n ((nd ns n).kids.length-1))).kind=20:=by
 have hs:=g.shape h0 h1
 rw[show aL (nd ns n).kind (nd ns n).num=[42,113,116,98] by simp[aL,hk]] at hs
 obtain⟨h2,_,h3⟩:=Di hs
 rw[List.length_map] at h2 h3
 obtain⟨a,b,hab⟩:∃a b,(nd ns n).kids.drop ((nd ns n).kids.length-2)=[a,b]:=by
  have hl:((nd ns n).kids.drop ((nd ns n).kids.length-2)).length=2:=by rw[List.length_drop];omega
  match h:(nd ns n).kids.drop ((nd ns n).kids.length-2),hl with
  |[a,b],_=>exact⟨a,b,rfl⟩
 rw[<-List.map_drop,hab] at h3
 have ha:(nd ns n).kids[(nd ns n).kids.length-2]?=some a:=by
  have:=congrArg (λl=>l[0]?) hab
  simpa[List.getElem?_drop] using this
 have hb:(nd ns n).kids[(nd ns n).kids.length-1]?=some b:=by
  have:=congrArg (λl=>l[1]?) hab
  rw[List.getElem?_drop,show(nd ns n).kids.length-2+1=(nd ns n).kids.length-1 by omega] at this
  simpa using this
 have e1:dL ns n=a:=by simp[dL,ax,ha]
 have e2:ax ns n ((nd ns n).kids.length-1)=b:=by simp[ax,hb]
 rw[e1,e2]
 have ma:=g.num h0 h1 a (List.mem_of_getElem? ha)
 have mb:=g.num h0 h1 b (List.mem_of_getElem? hb)
 simp[aV] at h3
 refine⟨h2,ma.1,ma.2,?_,mb.1,mb.2,?_⟩
 ·rw[<-vD];exact h3.1
 ·have:=h3.2;simpa[fS] using this
end good
end
section
open Go.Vv
def eg (o:Option Int):Int:=o.getD (-1)
theorem dK {α β:Type} {f g:α->Option β}:∀{l:List α},(∀a∈l,f a=g a)->l.findSome? f=l.findSome? g:=by
 intro l
 induction l with
 |nil=>intro _;rfl
 |cons a l ih=>
  intro h
  simp only[List.findSome?_cons]
  rw[h a (by simp),ih λb hb=>h b (by simp[hb])]
theorem u9 {ns:List Nd} (g:Good ns) (it:aw):∀(m:Nat) (f:Nat) (k:Int),k.toNat<=m->k.toNat<f->0<=k->k<(ns.length:Int)->jE ns it f k=jE ns it (k.toNat+1) k:=by
 intro m
 induction m with
 |zero=>
  intro f k hm hf h0 h1
  obtain⟨f,rfl⟩:∃j,f=j+1:=⟨f-1,by omega⟩
  simp only[jE]
  split
  ·rfl
  ·refine dK λa ha=>?_
   have:=g.num h0 h1 a ha
   omega
 |succ m ih=>
  intro f k hm hf h0 h1
  obtain⟨f,rfl⟩:∃j,f=j+1:=⟨f-1,by omega⟩
  simp only[jE]
  split
  ·rfl
  ·refine dK λa ha=>?_
   have:=g.num h0 h1 a ha
   rw[ih f a (by omega) (by omega) this.1 (by omega),ih k.toNat a (by omega) (by omega) this.1 (by omega)]
theorem iu {ns:List Nd} (g:Good ns) (it:aw) {k:Int} (h0:0<=k) (h1:k<(ns.length:Int)):
 bm ns it k=if(nd ns k).kind=13/\cw it (nd ns k).name=false then some k else(nd ns k).kids.findSome? (bm ns it):=by
 unfold bm
 simp only[jE]
 split
 ·rfl
 ·refine dK λa ha=>?_
  have:=g.num h0 h1 a ha
  exact u9 g it k.toNat k.toNat a (by omega) (by omega) this.1 (by omega)
theorem zL {ns:List Nd} (g:Good ns):∀(m:Nat) (f:Nat) (k:Int) (may:Bool),k.toNat<=m->k.toNat<f->0<=k->k<(ns.length:Int)->mK ns f k may=mK ns (k.toNat+1) k may:=by
 intro m
 induction m with
 |zero=>
  intro f k may hm hf h0 h1
  obtain⟨f,rfl⟩:∃j,f=j+1:=⟨f-1,by omega⟩
  simp only[mK]
  split
  ·rfl
  ·refine dK λa ha=>?_
   have:=g.num h0 h1 a ha
   omega
 |succ m ih=>
  intro f k may hm hf h0 h1
  obtain⟨f,rfl⟩:∃j,f=j+1:=⟨f-1,by omega⟩
  simp only[mK]
  split
  ·rfl
  ·refine dK λa ha=>?_
   have:=g.num h0 h1 a ha
   rw[ih f a _ (by omega) (by omega) this.1 (by omega),ih k.toNat a _ (by omega) (by omega) this.1 (by omega)]
theorem eC {ns:List Nd} (g:Good ns) {k:Int} (may:Bool) (h0:0<=k) (h1:k<(ns.length:Int)):
 bj ns k may=if may=false/\((nd ns k).kind=14\/(nd ns k).kind=15) then some k else(nd ns k).kids.findSome? (λa=>bj ns a false):=by
 show mK ns (k.toNat+1) k may=_
 rw[mK]
 split
 ·rfl
 ·refine dK λa ha=>?_
  have:=g.num h0 h1 a ha
  exact zL g k.toNat k.toNat a _ (by omega) (by omega) this.1 (by omega)
theorem dU {ns:List Nd} (g:Good ns) (it:aw):∀(m:Nat) (k:Int),k.toNat<=m->0<=k->k<(ns.length:Int)->∀u,bm ns it k=some u->0<=u/\u<=k:=by
 intro m
 induction m with
 |zero=>
  intro k hm h0 h1 u hu
  rw[iu g it h0 h1] at hu
  split at hu
  ·cases hu;exact⟨h0,Int.le_refl _⟩
  ·obtain⟨a,ha,hf⟩:=List.exists_of_findSome?_eq_some hu
   have:=g.num h0 h1 a ha
   omega
 |succ m ih=>
  intro k hm h0 h1 u hu
  rw[iu g it h0 h1] at hu
  split at hu
  ·cases hu;exact⟨h0,Int.le_refl _⟩
  ·obtain⟨a,ha,hf⟩:=List.exists_of_findSome?_eq_some hu
   have:=g.num h0 h1 a ha
   have:=ih a (by omega) this.1 (by omega) u hf
   omega
theorem fK {ns:List Nd} (g:Good ns):∀(m:Nat) (k:Int) (may:Bool),k.toNat<=m->0<=k->k<(ns.length:Int)->∀u,bj ns k may=some u->0<=u/\u<=k:=by
 intro m
 induction m with
 |zero=>
  intro k may hm h0 h1 u hu
  rw[eC g may h0 h1] at hu
  split at hu
  ·cases hu;exact⟨h0,Int.le_refl _⟩
  ·obtain⟨a,ha,hf⟩:=List.exists_of_findSome?_eq_some hu
   have:=g.num h0 h1 a ha
   omega
 |succ m ih=>
  intro k may hm h0 h1 u hu
  rw[eC g may h0 h1] at hu
  split at hu
  ·cases hu;exact⟨h0,Int.le_refl _⟩
  ·obtain⟨a,ha,hf⟩:=List.exists_of_findSome?_eq_some hu
   have:=g.num h0 h1 a ha
   have:=ih a _ (by omega) this.1 (by omega) u hf
   omega
end
section
open Go.Vv
def uY (ns:List Nd) (o:Option (Int×Int)):Dg:=match o with|some e=>jq ns e.1 e.2|none=>⟨0,0,0⟩
end
section
open Go.Vv
theorem oa (l:List ah) (t s:ah):(l++[t]).contains s=(t::l).contains s:=by
 rw[List.contains_append,List.contains_cons,List.contains_cons,List.contains_nil,Bool.or_false,Bool.or_comm]
def cG (it:aw):List ah:=it.ss.flatMap (λx=>x.fs.map Fd.ty)++it.es.flatMap (λx=>x.fs.map Fd.ty)
theorem vt (it:aw) (s:ah):∀t∈bB it s,t∈cG it:=by
 intro t ht
 unfold bB hX at ht
 cases h1:aM it.ss s with
 |some x=>
  rw[h1] at ht
  exact List.mem_append_left _ (List.mem_flatMap.2 ⟨x,(bD h1).1,ht⟩)
 |none=>
  rw[h1] at ht
  cases h2:aM it.es s with
  |some x=>
   rw[h2] at ht
   exact List.mem_append_right _ (List.mem_flatMap.2 ⟨x,(bD h2).1,(List.mem_filter.1 ht).1⟩)
  |none=>rw[h2] at ht;cases ht
open Classical in
noncomputable def wF (it:aw) (name:ah):Bool:=decide (Reach (bB it) name name)
open Classical in
theorem qE {it:aw} {name:ah} (h:Reach (bB it) name name):wF it name=true:=by unfold wF;exact decide_eq_true h
open Classical in
theorem tc {it:aw} {name:ah} (h:¬Reach (bB it) name name):wF it name=false:=by unfold wF;exact decide_eq_false h
theorem vu {it:aw} (hfew:A1 it) (s:ah):(bB it s).length<=1048576:=by
 unfold bB hX
 cases h1:aM it.ss s with
 |some x=>simp only[List.length_map];exact hfew.sf x (bD h1).1
 |none=>
  simp only
  cases h2:aM it.es s with
  |some x=>exact Nat.le_trans (List.length_filter_le _ _) (by rw[List.length_map];exact hfew.ef x (bD h2).1)
  |none=>simp
theorem qe {E:List UInt8->List (List UInt8)} {U seen todo:List ah} {s:ah} (hu:s∈U) (hs:seen.contains s=false) {todo':List ah} (ht:todo'.length+1=todo.length+(E s).length):dq E U (s::seen) todo'<dq E U seen todo:=by
 have:=xO (E:=E) hu hs
 unfold dq
 omega
end
section
open Go.Vv
def sg (it:aw) (r:List ah) (a:Nat×Nat):Nat×Nat:=(min (max a.1 (match r with|[]=>0|_::_=>1+n4 (r.map λt=>(iL it t).2))) 65,min (a.2+gu (r.map λt=>(iL it t).1)) 1025)
def sh (it:aw) (r:List ah) (a:Nat×Nat):Nat×Nat:=(min (a.1+gu (r.map λt=>(iL it t).2)) 65,min (a.2+gu (r.map λt=>(iL it t).1)) 1025)
theorem FF {it:aw} {t:ah} {ts:List ah} {w p w2 p2:Nat} (h1:min w2 65=min (iL it t).2 65) (h2:p2=min (iL it t).1 1025):sg it (t::ts) (w,p)=sg it ts (max w (1+w2),min (p+p2) 1025):=by
 unfold sg
 cases ts with
 |nil=>simp only[List.map_cons,List.map_nil,gu,n4,Prod.mk.injEq];omega
 |cons u us=>simp only[List.map_cons,gu,n4,Prod.mk.injEq];omega
theorem FG {it:aw} {t:ah} {ts:List ah} {w p w2 p2:Nat} (h1:min w2 65=min (iL it t).2 65) (h2:p2=min (iL it t).1 1025):sh it (t::ts) (w,p)=sh it ts (min (w+w2) 65,min (p+p2) 1025):=by
 unfold sh
 simp only[List.map_cons,gu,Prod.mk.injEq];omega
theorem Kx {it:aw} (hac:gD it) {s:ah} {x:Sd} (h1:aM it.ss s=none) (h2:aM it.es s=some x) {l:List ah} (hl:l=(x.fs.map Fd.ty).filter (λt=>!(t==[]))) {w p:Nat} (hp:p<=1025) (hF:sg it [] (w,p)=sg it l (1,1)) (hb:w<=66+jy it s):S7 it s w p:=by
 unfold S7
 rw[Kz hac h1 h2,<-hl]
 unfold sg at hF
 cases l with
 |nil=>simp only[List.map_nil,gu,n4,Prod.mk.injEq] at hF⊢;omega
 |cons u us=>simp only[List.map_nil,List.map_cons,gu,n4,Prod.mk.injEq] at hF⊢;omega
theorem Ky {it:aw} (hac:gD it) {s:ah} {x:Sd} (h1:aM it.ss s=some x) {l:List ah} (hl:l=x.fs.map Fd.ty) {w p:Nat} (hp:p<=1025) (hF:sh it [] (w,p)=sh it l (0,1)) (hb:w<=65):S7 it s w p:=by
 unfold S7
 rw[KA hac h1,<-hl]
 unfold sh at hF
 simp only[List.map_nil,gu,Prod.mk.injEq] at hF⊢
 omega
end
section
open Go.Vv
section put
end put
end
section
open Go.Vv
open Fo (hp aC cy cj eL gF)
theorem aN.then_ok {α β:Type} {r:aN α} {f:α->St->aN β} {b:β} {st:St} (h:r.then f=.ok b st):∃a st1,r=.ok a st1/\f a st1=.ok b st:=by
 cases r with
 |ok a st1=>exact⟨a,st1,rfl,h⟩
 |bad d=>cases h
theorem bc {α:Type} {ns:List Nd} {e n:Int} {a:α} {st:St} (h:(ai ns e n:aN α)=.ok a st):False:=by cases h
theorem dx (a b:ah):bh (a++b)=(bh a||bh b):=by simp[bh]
theorem jS {a:ah} (k:Nat) (h:bh a=false):bh (a.drop k)=false:=by
 have h2:=dx (a.take k) (a.drop k)
 rw[List.take_append_drop,h] at h2
 cases hh:bh (a.drop k) with
 |false=>rfl
 |true=>rw[hh] at h2;simp at h2
theorem zF {a:ah} (k:Nat) (h:bh a=false):bh (a.take k)=false:=by
 have h2:=dx (a.take k) (a.drop k)
 rw[List.take_append_drop,h] at h2
 cases hh:bh (a.take k) with
 |false=>rfl
 |true=>rw[hh] at h2;simp at h2
def cM (s:ah):Prop:=bh s=false\/∃t,(s=cy++t\/s=cj++t)/\bh t=false
theorem cM.nil:cM []:=.inl rfl
theorem cM.i64:cM bg:=.inl rfl
theorem cM.bool:cM aI:=.inl rfl
theorem cM.unit:cM aE:=.inl rfl
theorem cM.PD:cM aF:=.inl rfl
theorem Dn (p t:ah):hp (p++t) p=true:=by simp[hp]
theorem pO {s p:ah} (h:hp s p=true):s=p++s.drop p.length:=by
 simp[hp] at h
 have:=List.take_append_drop p.length s
 rw[h.2] at this
 exact this.symm
theorem qV {s:ah} (h:bh s=false):aP s=false/\bC s=false:=by
 constructor
 ·cases hh:aP s with
  |false=>rfl
  |true=>
   have:=pO hh
   rw[this,dx] at h
   simp[bh,cj] at h
 ·cases hh:bC s with
  |false=>rfl
  |true=>
   have:=pO hh
   rw[this,dx] at h
   simp[bh,cy] at h
theorem cM.WT {s:ah} (h:cM s):bh s=aP s:=by
 rcases h with h|⟨t,rfl|rfl,ht⟩
 ·rw[h,(qV h).1]
 ·rw[dx];simp[bh,aP,hp,cy,cj]
 ·rw[dx];simp[bh,aP,hp,cj]
theorem mL {s t:ah} (h:bh s=false) (hi:aC s=some t):bh t=false:=by
 unfold aC at hi
 split at hi
 ·cases hi;exact jS _ h
 ·split at hi
  ·cases hi;exact jS _ h
  ·split at hi
   ·split at hi
    ·cases hi;exact zF _ (jS _ h)
    ·cases hi
   ·cases hi
theorem cM.inner {s t:ah} (h:cM s) (hi:aC s=some t):bh t=false:=by
 rcases h with h|⟨u,rfl|rfl,hu⟩
 ·exact mL h hi
 ·rw[aC,if_pos (Dn _ _)] at hi
  cases hi
  simpa[cy] using hu
 ·unfold aC at hi
  split at hi
  ·rename_i h2
   cases hi
   have:=jS 4 hu
   simpa[cj] using this
  ·rw[if_pos (Dn _ _)] at hi
   cases hi
   simpa[cj] using hu
theorem ow:∀(f:Nat) (s:ah) (m d:Bool),bh s=false->cI f s m d=(m,d):=by
 intro f
 induction f with
 |zero=>intro s m d h;rfl
 |succ f ih=>
  intro s m d h
  have hr:=(qV h).1
  simp only[cI,hr]
  cases hi:aC s with
  |none=>simp
  |some t=>simpa using ih t m d (mL h hi)
theorem cM.through {s:ah} (h:cM s):(eR s).2=aP s/\(eR s).1=(aP s&&bC s):=by
 cases hr:aP s with
 |false=>
  have:=h.WT
  rw[hr] at this
  rw[eR,ow _ _ _ _ this]
  simp
 |true=>
  unfold eR
  simp only[cI,hr]
  cases hm:bC s with
  |false=>simp
  |true=>
   cases hi:aC s with
   |none=>simp
   |some t=>simp only[Bool.true_eq_false,and_false,if_false,if_true];rw[ow _ _ _ _ (h.inner hi)];simp
inductive Below (ns:List Nd):Int->Int->Prop where
 |refl (n:Int):Below ns n n
 |step {n k m:Int}:k∈(nd ns n).kids->Below ns k m->Below ns n m
theorem DA {ns:List Nd} {n:Int} {i:Nat} (h:i<(nd ns n).kids.length):ax ns n i∈(nd ns n).kids:=by
 simp[ax,List.getElem?_eq_getElem h]
def fu (st:St) (m:Int):Int:=(st.vars[m.toNat]?).getD 0
def pf (st:St) (m:Int):Prop:=0<=fu st m/\fu st m<(st.locals.length:Int)
def cU (l:Nat):Nat:=2000000+200000*l
structure Wf (ns:List Nd) (st:St):Prop where
 tl:st.types.length=ns.length
 vl:st.vars.length=ns.length
 ll:st.locals.length<=256
 sl:st.scope.length<=st.locals.length
 sc:∀p∈st.scope,0<=p.2/\p.2<(st.locals.length:Int)
 lt:∀l∈st.locals,cM l.ty/\l.ty.length<=cU st.locals.length
structure Mv (ns:List Nd) (n:Int) (st st':St):Prop where
 wf:Wf ns st'
 types:∀m,0<=m->¬Below ns n m->typeAt st' m=typeAt st m
 vars:∀m,0<=m->¬Below ns n m->fu st' m=fu st m
 gE:∀m,pf st m->pf st' m
 loc:st.locals<+:st'.locals
 sc:st.scope<+:st'.scope
 lp:st'.loops=st.loops
theorem Mv.refl {ns:List Nd} {n:Int} {st:St} (w:Wf ns st):Mv ns n st st:=⟨w,λ_ _ _=>rfl,λ_ _ _=>rfl,λ_ h=>h,List.prefix_refl _,List.prefix_refl _,rfl⟩
theorem Mv.trans {ns:List Nd} {n:Int} {a b c:St} (x:Mv ns n a b) (y:Mv ns n b c):Mv ns n a c:=
 ⟨y.wf,λm h0 h=>(y.types m h0 h).trans (x.types m h0 h),λm h0 h=>(y.vars m h0 h).trans (x.vars m h0 h),λm h=>y.gE m (x.gE m h),x.loc.trans y.loc,x.sc.trans y.sc,y.lp.trans x.lp⟩
theorem Mv.up {ns:List Nd} {n k:Int} {a b:St} (x:Mv ns k a b) (hk:k∈(nd ns n).kids):Mv ns n a b:=
 ⟨x.wf,λm h0 h=>x.types m h0 λhb=>h (.step hk hb),λm h0 h=>x.vars m h0 λhb=>h (.step hk hb),x.gE,x.loc,x.sc,x.lp⟩
theorem Mv.len {ns:List Nd} {n:Int} {a b:St} (x:Mv ns n a b):a.locals.length<=b.locals.length:=x.loc.length_le
theorem Mv.cut {ns:List Nd} {n:Int} {a b:St} (x:Mv ns n a b):Mv ns n a {b with scope:=b.scope.take a.scope.length}/\b.scope.take a.scope.length=a.scope:=by
 have he:b.scope.take a.scope.length=a.scope:=by
  obtain⟨t,ht⟩:=x.sc
  rw[<-ht];simp
 have hw:=x.wf
 refine⟨⟨⟨hw.tl,hw.vl,hw.ll,?_,λp hp=>hw.sc p (List.mem_of_mem_take hp),hw.lt⟩,x.types,x.vars,x.gE,x.loc,?_,x.lp⟩,he⟩
 ·have:=hw.sl
  simp only[List.length_take]
  omega
 ·simp only[he];exact List.prefix_refl _
theorem Cq {st:St} {n:Int} {s:ah} (h:n.toNat<st.types.length):typeAt {st with types:=st.types.set n.toNat s} n=s:=by
 simp[typeAt,List.getElem?_set_self h]
theorem oz {st:St} {n m:Int} {s:ah} (h0:0<=n) (h1:0<=m) (h:m≠n):typeAt {st with types:=st.types.set n.toNat s} m=typeAt st m:=by
 have:n.toNat≠m.toNat:=by omega
 simp[typeAt,List.getElem?_set_ne this]
theorem Mv.setType {ns:List Nd} {n:Int} {a b:St} (x:Mv ns n a b) (s:ah) (h0:0<=n):Mv ns n a {b with types:=b.types.set n.toNat s}:=by
 have hw:=x.wf
 refine⟨⟨by simpa using hw.tl,hw.vl,hw.ll,hw.sl,hw.sc,hw.lt⟩,λm hm h=>?_,x.vars,x.gE,x.loc,x.sc,x.lp⟩
 rw[oz h0 hm (λe=>h (e▸Below.refl _))]
 exact x.types m hm h
theorem x5 {st:St} {n m v:Int} (h0:0<=n) (h1:0<=m) (h:m≠n):fu {st with vars:=st.vars.set n.toNat v} m=fu st m:=by
 have:n.toNat≠m.toNat:=by omega
 simp[fu,List.getElem?_set_ne this]
theorem E6 (l:Nat):cU (l+1)=cU l+200000:=by unfold cU;rw[Nat.mul_add,Nat.mul_one,Nat.add_assoc]
theorem eD {a b:Nat} (h:a<=b):cU a<=cU b:=by unfold cU;omega
theorem Mv.variable {ns:List Nd} {n:Int} {a b c:St} {name ty:ah} {mt:Bool} (x:Mv ns n a b) (h0:0<=n) (h1:n<(ns.length:Int)) (ht:cM ty) (htl:ty.length<=cU b.locals.length+200000)
 (hv:bw ns n name ty mt b=.ok () c):Mv ns n a c:=by
 unfold bw at hv
 split at hv
 ·exact(bc hv).elim
 ·rename_i hl
  cases hv
  have hw:=x.wf
  have hnl:n.toNat<b.vars.length:=by rw[hw.vl];omega
  refine⟨⟨hw.tl,by simpa using hw.vl,?_,?_,?_,?_⟩,x.types,λm hm h=>?_,λm h=>?_,?_,?_,x.lp⟩
  ·simp only[List.length_append,List.length_cons,List.length_nil];have:=hw.ll;omega
  ·simp only[List.length_append,List.length_cons,List.length_nil];have:=hw.sl;omega
  ·intro p hp
   simp only[List.length_append,List.length_cons,List.length_nil]
   rcases List.mem_append.1 hp with hp|hp
   ·have:=hw.sc p hp;omega
   ·simp at hp;subst hp;simp only;omega
  ·intro l hl2
   simp only[List.length_append,List.length_cons,List.length_nil]
   rcases List.mem_append.1 hl2 with hl2|hl2
   ·have:=hw.lt l hl2
    refine⟨this.1,Nat.le_trans this.2 (eD (by omega))⟩
   ·simp at hl2;subst hl2
    refine⟨ht,?_⟩
    simp only[Nat.zero_add]
    rw[E6]
    exact htl
  ·have:fu {b with locals:=b.locals++[⟨name,ty,mt⟩],vars:=b.vars.set n.toNat b.locals.length,scope:=b.scope++[(name,(b.locals.length:Int))]} m=fu b m:=by
    have:n.toNat≠m.toNat:=λe=>h (by rw[show m=n by omega];exact Below.refl _)
    simp[fu,List.getElem?_set_ne this]
   rw[this]
   exact x.vars m hm h
  ·have h2:=x.gE m h
   unfold pf fu at h2⊢
   simp only[List.length_append,List.length_cons,List.length_nil]
   by_cases hm:m.toNat=n.toNat
   ·rw[hm,List.getElem?_set_self hnl]
    simp only[Option.getD_some]
    omega
   ·rw[List.getElem?_set_ne (λe=>hm e.symm)]
    omega
  ·exact x.loc.trans (List.prefix_append _ _)
  ·exact x.sc.trans (List.prefix_append _ _)
end
end Go.Proofs.YtdjkoddnnogejaaGreat
