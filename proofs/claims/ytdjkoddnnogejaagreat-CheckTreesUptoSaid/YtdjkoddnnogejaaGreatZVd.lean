/- Part of the proof of CheckTrees: plain laws and steps of its walks, for all arguments. -/
import Derived.Great.FillDense
import Derived.Laws.Slices
import Derived.Great.BuildSlice
import Derived.Test.YtdjkoddnnogejaaGreatZVa
set_option linter.unusedSimpArgs false
set_option linter.unusedVariables false
set_option linter.unusedSectionVars false
namespace Go.Vv
section
variable{P:Program} {G:ab} {w:World}
theorem vh {t:TypeId} {u:TypeDesc} (hu:P.underlying t=some u) {a b:VV} {x y:Value} (ha:RV G a x) (hb:RV G b y) {r:Bool} (hv:j4 u a b=some r) (d:Nat):
 (Op.equalIn (d+1) t x y).run P w=.ok r w:=by
 cases u<;>cases a<;>cases b<;>simp only[j4,reduceCtorEq] at hv
 ·cases ha;cases hb;cases hv;exact run_equalIn_bool' w d t _ _ hu
 ·cases ha;cases hb
  split at hv
  ·rename_i hkk;subst hkk;cases hv;exact run_equalIn_int w d t _ _ _ _ hu
  ·cases hv
 ·cases ha;cases hb;cases hv
  rw[run_equalIn_string w d t _ _ hu,fY,fY]
theorem ur {xs ys:Array Value} (d:Nat):∀(fs':List Field) (k:Nat) (ts:List TypeDesc) (as bs:List VV) (r:Bool),
 cO G as (xs.toList.drop k)->cO G bs (ys.toList.drop k)->fA ts as bs=some r->
 fs'.mapM (λf=>match P.underlying f.type with|some .bool=>some TypeDesc.bool|some (.int k)=>some (.int k)|some .string=>some .string|_=>none)=some ts->
 (∀i f,fs'[i]?=some f->f.name≠ "_" /\f.offset=k+i)->
 (Op.eqFields (d+1) xs ys fs').run P w=.ok r w:=by
 intro fs'
 induction fs' with
 |nil=>
  intro k ts as bs r ha hb hv hm _
  have:ts=[]:=by simpa using hm.symm
  subst this
  cases as<;>cases bs<;>simp[fA] at hv
  subst hv;simp[Op.eqFields]
 |cons f fs' ih=>
  intro k ts as bs r ha hb hv hm hf
  simp only[List.mapM_cons] at hm
  cases ht:(match P.underlying f.type with|some .bool=>some TypeDesc.bool|some (.int k)=>some (.int k)|some .string=>some .string|_=>none) with
  |none=>simp[ht] at hm
  |some u=>
   cases hr:fs'.mapM (λf=>match P.underlying f.type with|some .bool=>some TypeDesc.bool|some (.int k)=>some (.int k)|some .string=>some .string|_=>none) with
   |none=>simp[ht,hr] at hm
   |some us=>
    have hts:ts=u::us:=by simpa[ht,hr] using hm.symm
    subst hts
    have hu:P.underlying f.type=some u:=by
     cases hq:P.underlying f.type with
     |none=>simp[hq] at ht
     |some q=>cases q<;>simp[hq] at ht<;>subst ht<;>rfl
    cases as<;>cases bs<;>simp only[fA,reduceCtorEq] at hv
    rename_i a as b bs
    cases h1:j4 u a b with
    |none=>simp[h1] at hv
    |some r1=>
     cases h2:fA us as bs with
     |none=>simp[h1,h2] at hv
     |some r2=>
      simp[h1,h2] at hv
      obtain⟨hn,ho⟩:=hf 0 f rfl
      obtain⟨x,hx0,hax⟩:=ha.get (j:=0) (v:=a) rfl
      obtain⟨y,hy0,hby⟩:=hb.get (j:=0) (v:=b) rfl
      have hx':xs[k]?=some x:=by simpa using hx0
      have hy':ys[k]?=some y:=by simpa using hy0
      have hagg:∀(w:World),(isAgg f.type).run P w=.ok false w:=by
       intro w
       unfold isAgg
       rw[Sem.run_bind,run_underlying hu w]
       cases u<;>cases a<;>simp[j4] at h1<;>simp
      have hpx:(part f.type xs f.offset).run P w=.ok x w:=by
       unfold part
       rw[Sem.run_bind,hagg]
       simp[ho,hx']
      have hpy:(part f.type ys f.offset).run P w=.ok y w:=by
       unfold part
       rw[Sem.run_bind,hagg]
       simp[ho,hy']
      have heq:=vh (P:=P) (w:=w) hu hax hby h1 d
      have hrest:=ih (k+1) us as bs r2 (by have:=ha.drop 1;simpa[List.drop_drop,Nat.add_comm] using this) (by have:=hb.drop 1;simpa[List.drop_drop,Nat.add_comm] using this) h2 hr
       (λi f' hf'=>by have:=hf (i+1) f' hf';exact⟨this.1,by omega⟩)
      simp only[Op.eqFields,hn,ne_eq,not_false_eq_true,if_true,Sem.run_bind,hpx,hpy,heq,Result.andThen_ok]
      cases r1 with
      |false=>simp at hv;subst hv;simp
      |true=>simp at hv;subst hv;simpa using hrest
theorem ki {op:BinOp} {t:TypeId} {ox oy:Operand} {x y:Value} (h1:∀xs ys,x=.agg xs->y=.agg ys->False) (h2:x=.nilIface->y=.nilIface->False):
 (eqGuard op t ox oy x y).run P w=.ok () w:=by
 have key:(match x,y with
  |.nilIface,.nilIface=>(do
   if(ox matches .const _)||(oy matches .const _) then return
   if<-Op.eqGuardIn Op.maxDepth t x y then unsupported (.noEntry "binop/eql: two nil values of an interface type with methods, neither of them the literal nil"):Sem Unit)
  |.agg _,.agg _=>(do
   if !(<-program).eqGuardType (<-program).depth t then return
   if<-Op.eqGuardIn Op.maxDepth t x y then unsupported (.noEntry "binop/eql: two nil values of an interface type with methods, in a part of a struct or an array"):Sem Unit)
  |_,_=>pure ()).run P w=.ok () w:=by
  split
  ·exact(h2 rfl rfl).elim
  ·exact(h1 _ _ rfl rfl).elim
  ·rfl
 cases op<;>first|exact key|rfl
theorem vi {t:TypeId} {ms:Array (String×TypeId)} (hu:P.underlying t=some (.interface ms)) (hms:ms.isEmpty=true) {x y:Value} (ha:RV G .ec x) (hb:RV G .ec y) (d:Nat):
 (Op.equalIn (d+1) t x y).run P w=.ok true w/\∀op ox oy,(eqGuard op t ox oy x y).run P w=.ok () w:=by
 cases ha;cases hb
 refine⟨by simp[Op.equalIn,run_underlying hu],λop ox oy=>?_⟩
 have hin:(Op.eqGuardIn Op.maxDepth t .nilIface .nilIface).run P w=.ok false w:=by
  show(Op.eqGuardIn (9999+1) t .nilIface .nilIface).run P w=_
  unfold Op.eqGuardIn
  rw[Sem.run_bind,run_underlying hu]
  simp[hms]
 have key:((do
  if(ox matches .const _)||(oy matches .const _) then return
  if<-Op.eqGuardIn Op.maxDepth t .nilIface .nilIface then unsupported (.noEntry "binop/eql: two nil values of an interface type with methods, neither of them the literal nil"):Sem Unit)).run P w=.ok () w:=by
  cases ox<;>cases oy<;>simp[hin]
 cases op<;>first|exact key|rfl
theorem uu {t:TypeId} {u:TypeDesc} (hu:P.underlying t=some u) {a b:VV} {x y:Value} (ha:RV G a x) (hb:RV G b y) {r:Bool} (hv:gy u a b=some r) (d:Nat):
 (Op.equalIn (d+1) t x y).run P w=.ok r w/\∀op ox oy,(eqGuard op t ox oy x y).run P w=.ok () w:=by
 unfold gy at hv
 split at hv<;>first|(cases hv;done)|skip
 case h_13 ms _=>
  split at hv
  ·rename_i hms
   cases hv
   exact vi hu hms ha hb d
  ·cases hv
 all_goals cases hv
 all_goals cases ha
 all_goals cases hb
 all_goals exact⟨by simp[Op.equalIn,run_underlying hu],λ_ _ _=>ki (by intro _ _ h _;cases h) (by intro h h';first|(cases h;done)|(cases h';done))⟩
theorem q9 {t:TypeId} {a b:VV} {x y:Value} (ha:RV G a x) (hb:RV G b y) {r:Bool} (hv:Cv P t a b=some r):
 (Op.equal t x y).run P w=.ok r w/\∀op ox oy,(eqGuard op t ox oy x y).run P w=.ok () w:=by
 unfold Cv at hv
 split at hv
 case h_1 fs hu=>
  unfold nU at hv
  split at hv
  case h_2=>cases hv
  rename_i as bs
  cases hk:lQ P t with
  |none=>simp[hk] at hv
  |some ts=>
   simp only[hk] at hv
   obtain⟨xs,rfl,hx1,_⟩:=RV.fW.1 ha
   obtain⟨ys,rfl,hy1,_⟩:=RV.fW.1 hb
   unfold lQ at hk
   simp only[hu] at hk
   split at hk
   ·rename_i hcond
    simp only[Bool.and_eq_true,Bool.not_eq_true',List.all_eq_true] at hcond
    obtain⟨⟨hs,hg⟩,hall⟩:=hcond
    have hfo:P.fieldsOf t=fs:=by simp[Program.fieldsOf,hu]
    refine⟨?_,λop ox oy=>run_eqGuard_agg w op t ox oy xs ys hg⟩
    have:=run_equalIn_struct (P:=P) w 9999 t xs ys (by rw[hfo];exact hu) hs
    simp only[Op.equal,Op.maxDepth]
    rw[this,hfo]
    refine ur 9998 fs.toList 0 ts as bs r (by simpa using hx1) (by simpa using hy1) hv hk (λi f hf=>?_)
    have hm:=hall (f,i) (by
     rw[List.mem_zipIdx_iff_getElem?];simpa using hf)
    simp at hm
    exact⟨hm.1,by omega⟩
   ·cases hk
 case h_2 u _ hu=>exact uu hu ha hb hv 9999
 case h_3=>cases hv
theorem KW {t:TypeId} {a b:VV} {x:Value} (ha:RV G a x) {r:Bool} (hv:Cv P t a b=some r):
 (match x with|.int .. |.float .. |.complex .. |.string _=>false|_=>true)=true:=by
 unfold Cv at hv
 split at hv
 ·unfold nU at hv
  split at hv
  ·cases ha;rfl
  ·cases hv
 ·unfold gy at hv
  split at hv<;>first|(cases hv;done)|(cases ha<;>rfl)|(split at hv<;>first|(cases hv;done)|(cases ha<;>rfl))
 ·cases hv
theorem x9 {op:BinOp} {t:TypeId} {a b:VV} {x y:Value} {ox oy:Operand} (ha:RV G a x) (hb:RV G b y) {v:VV} (hv:cD P op t a b=some v):
 ∃z,((do eqGuard op t ox oy x y;binOp op t x y:Sem Value)).run P w=.ok z w/\RV G v z:=by
 unfold cD at hv
 split at hv
 ·rename_i k n k' n'
  cases ha;cases hb
  have hg:(eqGuard op t ox oy (.int k n) (.int k' n')).run P w=.ok () w:=ki (by intro _ _ h _;cases h) (by intro h _;cases h)
  rw[Sem.run_bind,hg]
  simp only[Result.andThen_ok]
  split at hv
  ·split at hv
   ·rename_i h0
    cases hv
    exact⟨_,by simp[binOp,Op.shift,Int.not_lt.2 h0],.int ..⟩
   ·cases hv
  ·split at hv
   ·rename_i h0
    cases hv
    exact⟨_,by simp[binOp,Op.shift,Int.not_lt.2 h0],.int ..⟩
   ·cases hv
  ·split at hv
   ·rename_i hkk;subst hkk
    exact yi hv t
   ·cases hv
 ·cases ha;cases hb
  rename_i s s'
  have hg:(eqGuard op t ox oy (.string s) (.string s')).run P w=.ok () w:=ki (by intro _ _ h _;cases h) (by intro h _;cases h)
  rw[Sem.run_bind,hg]
  exact yv hv t
 ·have hbin:∀r,Cv P t a b=some r->(binOp .eql t x y).run P w=.ok (.bool r) w/\(binOp .neq t x y).run P w=.ok (.bool (!r)) w:=by
   intro r hr
   have he:=(q9 (P:=P) (w:=w) ha hb hr).1
   have hk:=KW ha hr
   constructor
   ·cases x<;>first|(cases hk;done)|(simp[binOp,he])
   ·cases x<;>first|(cases hk;done)|(simp[binOp,he])
  split at hv
  ·cases hq:Cv P t a b with
   |none=>simp[hq] at hv
   |some r=>
    simp[hq] at hv;subst hv
    refine⟨.bool r,?_,.bool _⟩
    rw[Sem.run_bind,(q9 ha hb hq).2,Result.andThen_ok]
    exact(hbin r hq).1
  ·cases hq:Cv P t a b with
   |none=>simp[hq] at hv
   |some r=>
    simp[hq] at hv;subst hv
    refine⟨.bool (!r),?_,.bool _⟩
    rw[Sem.run_bind,(q9 ha hb hq).2,Result.andThen_ok]
    exact(hbin r hq).2
  ·cases hv
end
section
variable{P:Program} {G:ab} {w:World}
theorem gW (G:ab) {v:Value} (h:e8 v=true):RV G (ofValue v) v/\v.oneCell'=true:=by
 unfold e8 at h
 split at h<;>first|(cases h;done)|skip
 ·exact⟨.bool _,rfl⟩
 ·exact⟨.int ..,rfl⟩
 ·exact⟨.str _,rfl⟩
 ·exact⟨.iF,rfl⟩
 ·exact⟨.ig,rfl⟩
 ·exact⟨.lJ,rfl⟩
 ·exact⟨.ec,rfl⟩
 ·exact⟨.da,rfl⟩
 ·rename_i f a b
  simp only[Bool.and_eq_true,Array.isEmpty_iff] at h
  obtain⟨rfl,rfl⟩:=h
  exact⟨.fn rfl rfl (λ_ h=>absurd h (Nat.not_lt_zero _)) (λ_ h=>absurd h (Nat.not_lt_zero _)),rfl⟩
theorem rC (v:Value) (h:e8 v=true):ju v=ofValue v:=by
 cases v<;>first|rfl|(simp[e8] at h)
theorem ly {v:Value} (h:e9 v=true) (ha:¬∃cs,v=.agg cs):e8 v=true:=by
 cases v<;>first|exact h|exact absurd ⟨_,rfl⟩ ha
theorem lK (G:ab) {v:Value} (h:e9 v=true):RV G (ju v) v:=by
 by_cases ha:∃cs,v=.agg cs
 ·obtain⟨cs,rfl⟩:=ha
  simp only[e9,Array.all_eq_true] at h
  refine RV.fW.2 ⟨cs,rfl,⟨by simp,λj h1 h2=>?_⟩,λu hu=>?_⟩
  ·have:=(gW G (h j (by simpa using h2))).1
   simpa using this
  ·obtain⟨j,hj,rfl⟩:=List.getElem_of_mem hu
   have:=(gW G (h j (by simpa using hj))).2
   simpa using this
 ·rw[rC _ (ly h ha)];exact(gW G (ly h ha)).1
theorem dV (G:ab) {t:TypeId} {z:VV} (h:eA P t=some z):∃i x,P.info? t=some i/\i.zero=some x/\z=ju x/\RV G z x/\(zeroValue t).run P w=.ok x w:=by
 unfold eA at h
 cases hi:P.info? t with
 |none=>simp[hi] at h
 |some i=>
  cases hz:i.zero with
  |none=>simp[hi,hz] at h
  |some x=>
   simp[hi,hz] at h
   obtain⟨hc,rfl⟩:=h
   exact⟨i,x,rfl,hz,rfl,lK G hc,by simp[zeroValue,typeInfo,hi,hz]⟩
theorem xp {v:VV} (h:v.one=true):v.gh=false:=by
 cases v<;>first|rfl|(simp[VV.one] at h)
theorem pY {v:Value} (h:e9 v=true):(ju v).gh=false:=by
 by_cases ha:∃cs,v=.agg cs
 ·obtain⟨cs,rfl⟩:=ha;rfl
 ·have hc:=ly h ha
  rw[rC _ hc]
  have:=gW ⟨λ_=>none,λ_=>False,λ_ _=>none,0,0⟩ hc
  exact xp (this.1.one.trans this.2)
theorem rE {c:List VV} {off:Nat} {new:List VV} (h:off+new.length<=c.length):(dQ c off new).length=c.length:=by
 simp[dQ];omega
def oh (c:List Value) (off:Nat) (new:List Value):List Value:=c.take off++new++c.drop (off+new.length)
theorem cO.dQ {c new:List VV} {L N:List Value} (hc:cO G c L) (hn:cO G new N) (off:Nat):cO G (Vv.dQ c off new) (oh L off N):=by
 unfold Vv.dQ oh
 rw[hn.1]
 exact((hc.take off).append hn).append (hc.drop _)
theorem getElem?_overV (c new:List Value) (off k:Nat) (h:off+new.length<=c.length):(oh c off new)[k]?=if off<=k/\k<off+new.length then new[k-off]? else c[k]?:=by
 unfold oh
 by_cases h1:k<off
 ·rw[List.append_assoc,List.getElem?_append_left (by simp;omega),if_neg (by omega),List.getElem?_take,if_pos h1]
 ·by_cases h2:k<off+new.length
  ·rw[if_pos ⟨by omega,h2⟩,List.getElem?_append_left (by simp;omega),List.getElem?_append_right (by simp;omega)]
   congr 1;simp;omega
  ·rw[if_neg (by omega),List.getElem?_append_right (by simp;omega),List.getElem?_drop]
   congr 1;simp;omega
theorem Bu (off:Nat) (x:Array Value) (cs:Array Value) (h:off+x.size<=cs.size):
 (x.zipIdx.foldl (fun(cs:Array Value) (c:Value×Nat)=>cs.setIfInBounds (off+c.2) c.1) cs).toList=oh cs.toList off x.toList:=by
 rw[<-Array.foldl_toList,Array.toList_zipIdx]
 obtain⟨h1,h2⟩:=Great.foldl_set off x.toList 0 cs
 apply List.ext_getElem?
 intro k
 rw[getElem?_overV _ _ _ _ (by simpa using h),Array.getElem?_toList,h2 k]
 simp only[Nat.add_zero,Array.length_toList,Array.getElem?_toList]
 by_cases hk:off<=k/\k<off+x.size
 ·rw[if_pos ⟨hk.1,hk.2,by omega⟩,if_pos hk]
 ·rw[if_neg (by omega),if_neg hk]
theorem m8 {place:Nat->Option (Nat×Nat)}:∀(parts:List (Nat×VV)) (ps:List (Nat×Value)) (cells:List VV) (arr:Array Value) (out:List VV),
 parts.length=ps.length->(∀j (h:j<parts.length) (h':j<ps.length),parts[j].1=ps[j].1/\RV G parts[j].2 ps[j].2)->
 cO G cells arr.toList->(∀u∈arr.toList,u.oneCell'=true)->m7 place cells parts=some out->
 ∃arr',Instr.fill place arr ps=some arr'/\cO G out arr'.toList/\∀u∈arr'.toList,u.oneCell'=true:=by
 intro parts
 induction parts with
 |nil=>
  intro ps cells arr out hl _ hc h1 hv
  have:ps=[]:=List.eq_nil_of_length_eq_zero (by simpa using hl.symm)
  subst this
  simp[m7] at hv;subst hv
  exact⟨arr,rfl,hc,h1⟩
 |cons p parts ih=>
  intro ps cells arr out hl hp hc h1 hv
  cases ps with
  |nil=>simp at hl
  |cons q ps=>
   obtain⟨i,v⟩:=p
   obtain⟨i',x⟩:=q
   have h0:=hp 0 (by simp) (by simp)
   simp at h0
   obtain⟨rfl,hvx⟩:=h0
   simp only[m7] at hv
   cases hpl:place i with
   |none=>simp[hpl] at hv
   |some os=>
    obtain⟨off,size⟩:=os
    simp only[hpl] at hv
    split at hv
    ·cases hv
    ·rename_i hn
     simp only[not_or,ne_eq,Decidable.not_not,gt_iff_lt,Nat.not_lt] at hn
     obtain⟨hn1,hn2,hn3⟩:=hn
     have hnt:v.gh=false:=by simpa using hn3
     obtain⟨hcells,hone⟩:=hvx.cells hnt
     have e1:x.cells.size=v.cells.length:=by have:=hcells.1;simpa using this.symm
     have e2:arr.size=cells.length:=by have:=hc.1;simpa using this.symm
     have hfo:=Bu off x.cells arr (by omega)
     obtain⟨arr',ha,hb,hd⟩:=ih ps (dQ cells off v.cells) (x.cells.zipIdx.foldl (λcs c=>cs.setIfInBounds (off+c.2) c.1) arr) out (by simpa using hl)
      (λj hj hj'=>by have:=hp (j+1) (by simpa using hj) (by simpa using hj');simpa using this)
      (by rw[hfo];exact hc.dQ hcells off) (by
        rw[hfo]
        intro u hu
        simp only[oh,List.mem_append] at hu
        rcases hu with(hu|hu)|hu
        ·exact h1 u (List.mem_of_mem_take hu)
        ·exact hone u hu
        ·exact h1 u (List.mem_of_mem_drop hu)) hv
     refine⟨arr',?_,hb,hd⟩
     simp only[Instr.fill,hpl]
     rw[if_neg (by simp;omega)]
     exact ha
end
section
variable{P:Program} {G:ab} {w:World}
theorem yc {t:TypeId} {parts:List (Nat×VV)} {ps:Array (Nat×Value)} (hl:parts.length=ps.size)
 (hp:∀j (h:j<parts.length) (h':j<ps.size),parts[j].1=ps[j].1/\RV G parts[j].2 ps[j].2) {v:VV} (hv:yb P t parts=some v):
 ∃x,(Instr.build t ps).run P w=.ok x w/\RV G v x:=by
 unfold yb at hv
 split at hv
 ·rename_i places z hpl hz
  obtain⟨it,zx,hit,hzx,_,hzr,_⟩:=dV (w:=w) G hz
  simp only[Option.map_eq_some_iff] at hv
  obtain⟨out,hout,rfl⟩:=hv
  have hzt:z.gh=false:=by
   unfold eA at hz
   simp only[hit,Option.bind_some,hzx] at hz
   split at hz
   ·rename_i hc;cases hz;exact pY hc
   ·cases hz
  obtain⟨hzc,hz1⟩:=hzr.cells hzt
  unfold sP at hpl
  split at hpl
  ·rename_i fs hu
   obtain⟨arr,ha,hr,h1⟩:=m8 (place:=λi=>places[i]?) parts ps.toList z.cells zx.cells out (by simpa using hl) (λj h h'=>by simpa using hp j h (by simpa using h')) hzc hz1 hout
   refine⟨.agg arr,run_build w t ps arr ?_,RV.fW.2 ⟨arr,rfl,hr,h1⟩⟩
   simp only[Program.built,hit,hu,hzx,hpl]
   simpa using ha
  ·cases hpl
 ·cases hv
theorem yf {place:Nat->Option (Nat×Nat)}:∀(parts:List (Nat×VV)) (cells:List VV) (out:List VV),m7 place cells parts=some out->out.length=cells.length:=by
 intro parts
 induction parts with
 |nil=>intro cells out h;simp[m7] at h;rw[h]
 |cons p parts ih=>
  intro cells out h
  obtain⟨i,v⟩:=p
  simp only[m7] at h
  split at h
  ·cases h
  ·split at h
   ·cases h
   ·rename_i hn
    simp only[not_or,gt_iff_lt,Nat.not_lt] at hn
    rw[ih _ _ h,rE hn.2.1]
theorem jY (n k:Nat):∀(l:List VV),(rows n k l).length=n:=by
 induction n with
 |zero=>intro l;rfl
 |succ n ih=>intro l;simp[rows,ih]
theorem mY {k:Nat}:∀(n:Nat) (l:List VV) (i:Nat) (h:i<(rows n k l).length),(rows n k l)[i]=(l.drop (i*k)).take k:=by
 intro n
 induction n with
 |zero=>intro l i h;simp[rows] at h
 |succ n ih=>
  intro l i h
  cases i with
  |zero=>simp[rows]
  |succ i=>
   have:=ih (l.drop k) i (by simpa[rows] using h)
   simp only[rows,List.getElem_cons_succ,this,List.drop_drop]
   congr 2
   rw[Nat.succ_mul,Nat.add_comm]
theorem RV.rW {cs:List VV} {L:List Value} (hc:cO G cs L) (h1:∀u∈L,u.oneCell'=true) {b base n k c:Nat} {cap:Option Nat} (hI:∀j u,L[j]?=some u->G.I b (base+j)=some u)
 (hn:n*k<=cs.length) (hcap:n<=c) (hk:∀q,cap=some q->c=q/\G.low<=b):RV G (.vs (rows n k cs) cap) (.slice (some ⟨b,base,none⟩) n c):=by
 have hlen:(rows n k cs).length=n:=jY n k cs
 have hidx:∀i j,i<n->j<k->i*k+j<L.length:=by
  intro i j hi hj
  have:(i+1)*k<=n*k:=Nat.mul_le_mul_right k hi
  rw[Nat.succ_mul] at this
  rw[<-hc.1];omega
 have hrow:∀i (h:i<(rows n k cs).length),(rows n k cs)[i].length=k:=by
  intro i h
  rw[mY]
  have:=hidx i
  have h2:(i+1)*k<=n*k:=Nat.mul_le_mul_right k (by omega)
  rw[Nat.succ_mul] at h2
  simp;omega
 have:=RV.vs (G:=G) (es:=rows n k cs) (cap:=cap) (b:=b) (base:=base) (n:=k) (c:=c) (λi j=>L.getD (i*k+j) Go.undef)
  (by rw[hlen];exact hcap) (λq hq=>⟨(hk q hq).1,.inr (hk q hq).2⟩) hrow
  (λi j hi hj=>by
    rw[Nat.add_assoc]
    apply hI
    have hlt:=hidx i j (by omega) hj
    rw[List.getElem?_eq_getElem hlt];simp[List.getD,List.getElem?_eq_getElem hlt])
  (λi hi j hj=>by
    have hlt:=hidx i j (by omega) (by rw[hrow i hi] at hj;exact hj)
    have h2:=hc.2 (i*k+j) (by rw[hc.1];exact hlt) hlt
    have e:(rows n k cs)[i][j]=cs[i*k+j]'(by rw[hc.1];exact hlt):=by
     have e1:=mY n cs i hi
     have:(rows n k cs)[i][j]?=cs[i*k+j]?:=by
      rw[e1,List.getElem?_take,if_pos (by rw[hrow i hi] at hj;exact hj),List.getElem?_drop]
     rw[List.getElem?_eq_getElem hj,List.getElem?_eq_getElem (by rw[hc.1];exact hlt)] at this
     exact Option.some.inj this
    rw[e]
    simpa[List.getD,List.getElem?_eq_getElem hlt] using h2)
  (λi j hi hj=>by
    have hlt:=hidx i j (by omega) hj
    simp only[List.getD,List.getElem?_eq_getElem hlt,Option.getD_some]
    exact h1 _ (List.getElem_mem hlt)) (.inr rfl)
 rw[hlen] at this
 exact this
theorem kj (n:Nat) (l:List VV):((List.replicate n l).flatten).length=n*l.length:=by
 simp[List.length_flatten]
theorem getElem?_flatten_replicate {α:Type} (l:List α):∀(n j:Nat),j<n*l.length->((List.replicate n l).flatten)[j]?=l[j%l.length]?:=by
 intro n
 induction n with
 |zero=>intro j h;simp at h
 |succ n ih=>
  intro j h
  rw[List.replicate_succ,List.flatten_cons]
  have hpos:0<l.length:=by
   rcases Nat.eq_zero_or_pos l.length with h0|h0
   ·rw[h0] at h;simp at h
   ·exact h0
  by_cases hj:j<l.length
  ·rw[List.getElem?_append_left hj,Nat.mod_eq_of_lt hj]
  ·rw[List.getElem?_append_right (by omega),ih _ (by rw[Nat.succ_mul] at h;omega)]
   congr 1
   exact(Nat.mod_eq_sub_mod (by omega)).symm
theorem cO.Po {zc:List VV} {zx:Array Value} (h:cO G zc zx.toList) (n:Nat) (hpos:0<zx.size):
 cO G ((List.replicate n zc).flatten) ((Array.range (n*zx.size)).map (zx[·%zx.size]!)).toList:=by
 have hl:zc.length=zx.size:=by simpa using h.1
 refine⟨by simp[List.length_flatten,hl],λj h1 h2=>?_⟩
 have hj:j<n*zc.length:=by simpa[List.length_flatten] using h1
 have e:=getElem?_flatten_replicate zc n j hj
 rw[List.getElem?_eq_getElem h1] at e
 have hm:j%zc.length<zc.length:=Nat.mod_lt _ (by omega)
 rw[List.getElem?_eq_getElem hm] at e
 rw[Option.some.inj e]
 have hm':j%zx.size<zx.size:=by rw[<-hl];exact hm
 have:=h.2 (j%zc.length) hm (by simpa[hl] using hm')
 simpa[hl,getElem!_pos,hm'] using this
theorem wo {zx:Array Value} (h:∀u∈zx.toList,u.oneCell'=true) (n:Nat) (hpos:0<zx.size):
 ∀u∈((Array.range (n*zx.size)).map (zx[·%zx.size]!)).toList,u.oneCell'=true:=by
 intro u hu
 simp only[Array.toList_map,Array.toList_range,List.mem_map,List.mem_range] at hu
 obtain⟨j,_,rfl⟩:=hu
 have hm':j%zx.size<zx.size:=Nat.mod_lt _ hpos
 rw[getElem!_pos zx _ hm']
 exact h _ (by simp)
theorem j7 {t:TypeId} {z:VV} (hz:eA P t=some z):z.gh=false:=by
 unfold eA at hz
 split at hz
 ·split at hz
  ·rename_i hc;cases hz;exact pY hc
  ·cases hz
 ·cases hz
theorem qj {h:aa} (hr:Rel G h w) {t:TypeId} {len:Nat} {parts:List (Nat×VV)} {ps:Array (Nat×Value)} (hl:parts.length=ps.size)
 (hp:∀j (h:j<parts.length) (h':j<ps.size),parts[j].1=ps[j].1/\RV G parts[j].2 ps[j].2) {v:VV} (hv:iy P t len parts=some v):
 ∃x w' G',(Instr.buildSlice t len ps).run P w=.ok x w'/\RV G' v x/\Rel G' h w'/\Ext G G' w w'/\G'.φ=G.φ/\G'.D=G.D:=by
 unfold iy at hv
 split at hv
 ·rename_i e he
  split at hv
  ·rename_i z hz
   split at hv
   ·cases hv
   ·rename_i hc
    simp only[not_or,ne_eq,Decidable.not_not,gt_iff_lt,Nat.not_lt] at hc
    obtain⟨hc1,hc2,hc3⟩:=hc
    obtain⟨ie,zx,hie,hzx,_,hzr,_⟩:=dV (w:=w) G hz
    have hs:cE P e=ie.size:=by simp[cE,hie]
    obtain⟨hzc,hz1⟩:=hzr.cells (j7 hz)
    have hzl:zx.cells.size=ie.size:=by have:=hzc.1;simp at this;omega
    split at hv
    ·rename_i cs hcs
     cases hv
     by_cases hlen:len=0
     ·subst hlen
      obtain⟨arr,ha,hra,h1a⟩:=m8 (place:=λi=>some (i*cE P e,cE P e)) parts ps.toList ((List.replicate 0 z.cells).flatten) #[] cs (by simpa using hl) (λj h h'=>by simpa using hp j h (by simpa using h'))
       (.nil G) (by simp) hcs
      have hrun:(Instr.buildSlice t 0 ps).run P w=.ok (.slice (some ⟨w.heap.size,0,none⟩) 0 0) (w.alloc (.cells arr e)):=by
       simp[Instr.buildSlice,run_underlying (jG he),sizeOf,typeInfo,hie,newRow,<-hs]
       rw[show Array.map (λ_=>(default:Value)) (Array.range 0)=#[] from(by apply Array.ext<;>simp),ha]
       rfl
      obtain⟨hrel,hext⟩:=hr.fix arr.toList e
      simp only[Array.toArray_toList] at hrel hext
      exact⟨_,_,_,hrun,RV.rW (G:=G.fix w.heap.size arr.toList) (L:=arr.toList) (hra.mono hext.le) h1a (λj u hu=>by simpa[ab.fix] using hu) (by simp) (Nat.le_refl _) (λq hq=>by cases hq;exact⟨rfl,hr.low⟩),hrel,hext,rfl,rfl⟩
     ·have hpos:0<zx.cells.size:=by omega
      obtain⟨arr,ha,hra,h1a⟩:=m8 (place:=λi=>some (i*cE P e,cE P e)) parts ps.toList ((List.replicate len z.cells).flatten) _ cs (by simpa using hl) (λj h h'=>by simpa using hp j h (by simpa using h'))
       (cO.Po hzc len hpos) (wo hz1 len hpos) hcs
      have hrun:=run_buildSlice (P:=P) w t e len ps arr ie zx (jG he) hie hzx (by rw[<-hs];omega)
       (by rw[<-hs];exact Nat.mul_ne_zero hlen hc1) (by rw[<-hs,<-hc2,hzc.1];simpa[hs,hzl] using ha)
      obtain⟨hrel,hext⟩:=hr.fix arr.toList e
      simp only[Array.toArray_toList] at hrel hext
      have hcl:cs.length=len*cE P e:=by
       have h2:=yf _ _ _ hcs
       rw[h2];simp[List.length_flatten,hc2]
      exact⟨_,_,_,hrun,RV.rW (G:=G.fix w.heap.size arr.toList) (L:=arr.toList) (hra.mono hext.le) h1a (λj u hu=>by simpa[ab.fix] using hu) (by omega) (Nat.le_refl _) (λq hq=>by cases hq;exact⟨rfl,hr.low⟩),hrel,hext,rfl,rfl⟩
    ·cases hv
  ·cases hv
 ·cases hv
end
section
variable{P:Program} {G:ab} {w:World}
def CV (G:ab):Option VV->Option Value->Prop
 |none,none=>True
 |some v,some x=>RV G v x
 |_,_=>False
theorem cL {v:Option VV} {x:Option Value} (h:CV G v x) {eo other n:Nat} (hb:bound v eo other=some n):
 (x=none/\n=other)\/∃k,x=some (.int k n)/\n<=eo:=by
 cases v with
 |none=>
  cases x with
  |none=>simp[bound] at hb;exact .inl ⟨rfl,hb.symm⟩
  |some x=>exact h.elim
 |some v=>
  cases x with
  |none=>exact h.elim
  |some x=>
   cases v<;>simp only[bound,reduceCtorEq] at hb
   rename_i k m
   cases h
   split at hb
   ·rename_i hm
    cases hb
    refine .inr ⟨k,?_,by omega⟩
    rw[Int.toNat_of_nonneg hm.1]
   ·cases hb
theorem dN {x:Value} {k:IntKind} {n y:Nat} (hx:x=.int k n) (hn:n<=y) (code:BoundsCode):(Instr.sliceBound x y code).run P w=.ok n w:=by
 subst hx
 have:=run_sliceBound (P:=P) w k (n:Int) y code (by omega) (by omega)
 simpa using this
theorem gY {len c:Nat} {cap:Option Nat} {lo hi mx:Option VV} {lo' hi' mx':Option Value} (hlo:CV G lo lo') (hhi:CV G hi hi') (hmx:CV G mx mx')
 (hlen:len<=c) (hcap:∀k,cap=some k->c=k) {l h:Nat} {cr:Option Nat} (hv:fc len cap lo hi mx=some (l,h,cr)):
 ∃m,(Instr.sliceBounds true len c lo' hi' mx').run P w=.ok (l,h,m) w/\l<=h/\h<=m/\h<=len/\m<=c/\∀q,cr=some q->m-l=q:=by
 unfold fc at hv
 cases mx with
 |none=>
  cases mx' with
  |some m=>exact hmx.elim
  |none=>
   simp only at hv
   cases hb:bound hi len len with
   |none=>simp[hb] at hv
   |some h'=>
    simp only[hb] at hv
    cases hl:bound lo h' 0 with
    |none=>simp[hl] at hv
    |some l'=>
     simp only[hl,Option.some.injEq,Prod.mk.injEq] at hv
     obtain⟨rfl,rfl,rfl⟩:=hv
     have hle:h'<=len:=by rcases cL hhi hb with⟨_,rfl⟩|⟨_,_,h⟩<;>omega
     have hll:l'<=h':=by rcases cL hlo hl with⟨_,rfl⟩|⟨_,_,h⟩<;>omega
     refine⟨c,?_,hll,by omega,hle,Nat.le_refl _,λq hq=>?_⟩
     ·simp only[Instr.sliceBounds,Sem.run_bind,Sem.run_pure,Result.andThen_ok]
      rcases cL hhi hb with⟨rfl,rfl⟩|⟨k,rfl,_⟩<;>rcases cL hlo hl with⟨rfl,rfl⟩|⟨k',rfl,_⟩
      ·simp
      ·simp[dN rfl hll]
      ·simp[dN rfl (show h'<=c by omega)]
      ·simp[dN rfl (show h'<=c by omega),dN rfl hll]
     ·cases cap with
      |none=>cases hq
      |some k=>simp at hq;rw[hcap k rfl];exact hq
 |some m=>
  cases mx' with
  |none=>exact hmx.elim
  |some m'=>
   cases hi with
   |none=>simp at hv
   |some hi=>
    cases hi' with
    |none=>exact hhi.elim
    |some hi'=>
     simp only at hv
     cases hm:bound (some m) len 0 with
     |none=>simp[hm] at hv
     |some mm=>
      simp only[hm] at hv
      cases hb:bound (some hi) mm 0 with
      |none=>simp[hb] at hv
      |some h'=>
       simp only[hb] at hv
       cases hl:bound lo h' 0 with
       |none=>simp[hl] at hv
       |some l'=>
        simp only[hl,Option.some.injEq,Prod.mk.injEq] at hv
        obtain⟨rfl,rfl,rfl⟩:=hv
        rcases cL hmx hm with⟨h0,_⟩|⟨km,hkm,hmle⟩
        ·cases h0
        rcases cL hhi hb with⟨h0,_⟩|⟨kh,hkh,hhle⟩
        ·cases h0
        cases hkm;cases hkh
        have hll:l'<=h':=by rcases cL hlo hl with⟨_,rfl⟩|⟨_,_,h⟩<;>omega
        refine⟨mm,?_,hll,hhle,by omega,by omega,λq hq=>by cases hq;rfl⟩
        simp only[Instr.sliceBounds,Sem.run_bind,Result.andThen_ok,dN rfl (show mm<=c by omega),dN rfl hhle]
        rcases cL hlo hl with⟨rfl,rfl⟩|⟨k',rfl,_⟩
        ·simp
        ·simp[dN rfl hll]
theorem iS {t e:TypeId} (hu:P.underlying t=some (.slice e)) (hz:cE P e≠0) {a:Option Addr} {len c l h m:Nat} {lo hi mx:Option Value}
 (hb:(Instr.sliceBounds true len c lo hi mx).run P w=.ok (l,h,m) w):
 (Instr.sliceAt t (.slice a len c) lo hi mx).run P w=.ok (.slice (if m=l then a else a.map (·.add (l*cE P e))) (h-l) (m-l)) w:=by
 obtain⟨ie,hie⟩:=k9 hz
 simp only[Instr.sliceAt,Sem.run_bind,run_underlying hu,Result.andThen_ok]
 simp only[Instr.slice,Sem.run_bind,run_underlying hu,Result.andThen_ok,hb,cd hie,Sem.run_pure]
theorem uF {t e:TypeId} (hu:P.underlying t=some (.slice e)) (hz:cE P e≠0) {x v:VV} {a:Value} {lo hi mx:Option VV} {lo' hi' mx':Option Value} (hx:RV G x a)
 (hlo:CV G lo lo') (hhi:CV G hi hi') (hmx:CV G mx mx') (hv:eX x (cE P e) lo hi mx=some v):
 ∃y,(Instr.sliceAt t a lo' hi' mx').run P w=.ok y w/\RV G v y:=by
 unfold eX at hv
 split at hv
 ·cases hx
  simp only[Option.map_eq_some_iff] at hv
  obtain⟨⟨l,h,cr⟩,hb,rfl⟩:=hv
  obtain⟨m,hrun,h1,h2,h3,h4,_⟩:=gY (P:=P) (w:=w) hlo hhi hmx (Nat.le_refl 0) (λk hk=>by cases hk;rfl) hb
  have:m=0:=by omega
  subst this
  have:h=0:=by omega
  subst this
  have:l=0:=by omega
  subst this
  exact⟨_,iS hu hz hrun,by simpa using RV.da⟩
 ·rename_i es cap
  split at hv
  ·rename_i hfit
   cases hb:fc es.length cap lo hi mx with
   |none=>simp[hb] at hv
   |some r=>
    obtain⟨l,h,cr⟩:=r
    simp only[hb,Option.some.injEq] at hv
    subst hv
    cases hx with
    |vs vals h1 h2 h3 h4 h5 h6 h7=>
     rename_i b base n c a
     obtain⟨m,hrun,k1,k2,k3,k4,k5⟩:=gY (P:=P) (w:=w) hlo hhi hmx h1 (λk hk=>(h2 k hk).1) hb
     refine⟨_,iS hu hz hrun,?_⟩
     have hlen:((es.take h).drop l).length=h-l:=by simp;omega
     have hn:0<es.length->n=cE P e:=by
      intro hp
      cases es with
      |nil=>simp at hp
      |cons r es=>
       have:=h3 0 hp
       simp[wb] at hfit
       simp at this;omega
     have k6:∀k,(if(mx.isSome&&decide (h<=l))=true then cr else cap.bind λ_=>cr)=some k->m-l=k/\((es.take h).drop l=[]\/G.low<=b):=by
      intro k hk
      split at hk
      ·rename_i hm
       simp at hm
       exact⟨k5 k hk,.inl (by apply List.drop_eq_nil_of_le;simp;omega)⟩
      ·cases cap with
       |none=>cases hk
       |some q=>
        rcases(h2 q rfl).2 with h2|h2
        ·exact⟨k5 k hk,.inl (by subst h2;simp)⟩
        ·exact⟨k5 k hk,.inr h2⟩
     generalize (if(mx.isSome&&decide (h<=l))=true then cr else cap.bind λ_=>cr)=cr2 at k6⊢
     by_cases hnil:es=[]
     ·subst hnil
      simp at k3
      subst k3
      have hl0:l=0:=by omega
      subst hl0
      have:=RV.vs (G:=G) (es:=[]) (cap:=cr2) (b:=b) (base:=base) (n:=n) (c:=m) (a:=a) (λ_ _=>Go.undef) (by simp) (by simpa using k6) (λi hi=>absurd hi (Nat.not_lt_zero _)) (λi j hi=>absurd hi (Nat.not_lt_zero _)) (λi hi=>absurd hi (Nat.not_lt_zero _)) (λi j hi=>absurd hi (Nat.not_lt_zero _)) (.inl rfl)
      simpa[Addr.add] using this
     obtain rfl:=h7.resolve_left hnil
     have key:RV G (.vs ((es.take h).drop l) cr2) (.slice (some ⟨b,base+l*n,none⟩) ((es.take h).drop l).length (m-l)):=by
      refine .vs (n:=n) (λi j=>vals (l+i) j) (by rw[hlen];omega) k6 (λi hi=>?_) (λi j hi hj=>?_) (λi hi j hj=>?_) (λi j hi hj=>h6 _ _ (by omega) hj) (.inr rfl)
      ·simp;exact h3 _ _
      ·rw[hlen] at hi
       have:=h4 (l+i) j (by omega) hj
       rw[Nat.add_mul,<-Nat.add_assoc] at this
       exact this
      ·have hi':l+i<es.length:=by rw[hlen] at hi;omega
       have e1:((es.take h).drop l)[i]=es[l+i]:=by simp
       have:=h5 (l+i) hi' j (by rw[<-e1];exact hj)
       simpa using this
     rw[hlen] at key
     by_cases hml:m=l
     ·have:h=l:=by omega
      subst this
      rw[if_pos hml]
      have e0:(es.take h).drop h=[]:=by simp
      rw[e0] at key⊢
      rw[e0] at k6
      have:=RV.vs (G:=G) (es:=[]) (cap:=cr2) (b:=b) (base:=base) (n:=n) (c:=m-h) (λ_ _=>Go.undef) (by simp) k6 (λi hi=>absurd hi (Nat.not_lt_zero _)) (λi j hi=>absurd hi (Nat.not_lt_zero _)) (λi hi=>absurd hi (Nat.not_lt_zero _)) (λi j hi=>absurd hi (Nat.not_lt_zero _)) (.inr rfl)
      simpa using this
     ·rw[if_neg hml]
      have hpos:0<es.length\/es.length=0:=by omega
      rcases hpos with hp|hp
      ·rw[<-hn hp]
       simpa[dI] using key
      ·have:es=[]:=List.eq_nil_of_length_eq_zero hp
       subst this
       simp at k3
       subst k3
       have:l=0:=by omega
       subst this
       simpa[dI] using key
  ·cases hv
 ·rename_i o off len du cap
  split at hv
  ·rename_i he
   subst he
   cases hb:fc len cap lo hi mx with
   |none=>simp[hb] at hv
   |some r=>
    obtain⟨l,h,cr⟩:=r
    simp only[hb,Option.some.injEq] at hv
    subst hv
    cases hx with
    |ref hφ h1 h2 h3 h4=>
     rename_i b base k c a
     obtain⟨m,hrun,k1,k2,k3,k4,k5⟩:=gY (P:=P) (w:=w) hlo hhi hmx h1 h2 hb
     refine⟨_,iS hu hz hrun,?_⟩
     by_cases hml:m=l
     ·rw[if_pos hml]
      exact .ref hφ (by omega) k5 (.inl (by omega)) h4
     ·rw[if_neg hml]
      rcases h3 with h3|⟨rfl,h3⟩
      ·omega
      ·refine .ref hφ (by omega) k5 (.inr ⟨by simp[dI,Nat.add_assoc],?_⟩) (by simp[dI])
       have:l*cE P e+(m-l)*cE P e=m*cE P e:=by rw[<-Nat.add_mul];congr 1;omega
       have:m*cE P e<=c*cE P e:=Nat.mul_le_mul_right _ k4
       omega
    |sd hd h1 h2=>
     rename_i c a
     obtain⟨m,hrun,k1,k2,k3,k4,k5⟩:=gY (P:=P) (w:=w) hlo hhi hmx h1 h2 hb
     refine⟨_,iS hu hz hrun,?_⟩
     by_cases hml:m=l
     ·rw[if_pos hml];exact .sd hd (by omega) k5
     ·rw[if_neg hml];exact .sd hd (by omega) k5
  ·cases hv
 ·cases hv
theorem so {t:TypeId} (hu:P.underlying t=some .string) {s:ByteArray} {v:VV} {lo hi mx:Option VV} {lo' hi' mx':Option Value}
 (hlo:CV G lo lo') (hhi:CV G hi hi') (hmx:CV G mx mx') (hv:k8 s.data.toList lo hi mx=some v):
 ∃y,(Instr.sliceAt t (.string s) lo' hi' mx').run P w=.ok y w/\RV G v y:=by
 unfold k8 at hv
 cases mx with
 |some m=>simp at hv
 |none=>
  cases mx' with
  |some m=>exact hmx.elim
  |none=>
   simp only at hv
   cases hb:bound hi s.data.toList.length s.data.toList.length with
   |none=>simp only[hb,reduceCtorEq] at hv
   |some h=>
    simp only[hb] at hv
    cases hl:bound lo h 0 with
    |none=>simp only[hl,reduceCtorEq] at hv
    |some l=>
     simp only[hl,Option.some.injEq] at hv
     subst hv
     rw[lr] at hb
     have e:(s.extract l h).data.toList=(s.data.toList.take h).drop l:=by
      simp[List.extract_eq_take_drop,List.drop_take]
     refine⟨.string (s.extract l h),?_,by rw[<-e];exact .str _⟩
     rw[run_sliceAt_string (P:=P) w t _ _ _ _ hu]
     simp only[Instr.slice,Sem.run_bind,run_underlying hu,Result.andThen_ok,Option.isSome_none,Bool.false_eq_true,if_false,Instr.sliceBounds,Sem.run_pure]
     rcases cL hhi hb with⟨rfl,rfl⟩|⟨k,rfl,hle⟩<;>rcases cL hlo hl with⟨rfl,rfl⟩|⟨k',rfl,hle'⟩
     ·simp
     ·simp[dN rfl hle']
     ·simp[dN rfl hle]
     ·simp[dN rfl hle,dN rfl hle']
theorem yq {t:TypeId} {x v:VV} {a:Value} {lo hi mx:Option VV} {lo' hi' mx':Option Value} (hx:RV G x a) (hlo:CV G lo lo') (hhi:CV G hi hi') (hmx:CV G mx mx')
 (hv:uD P t x lo hi mx=some v):∃y,(Instr.sliceAt t a lo' hi' mx').run P w=.ok y w/\RV G v y:=by
 unfold uD at hv
 split at hv
 ·rename_i hu
  split at hv
  ·cases hx;exact so hu hlo hhi hmx hv
  ·cases hv
 ·rename_i e hu
  split at hv
  ·cases hv
  ·rename_i hz;exact uF hu hz hx hlo hhi hmx hv
 ·cases hv
theorem run_getObj_map {b cl:Nat} {ents:Array MapEntry} (hb:w.heap[b]?=some (.map ents cl)):(getObj b).run P w=.ok (.map ents cl) w:=by
 simp[getObj,Sem.run,hb]
theorem Cy {h:aa} (hr:Rel G h w) {t ty:TypeId} {x v:VV} {a:Value} (hx:RV G x a) (hv:lT P t x h=some v):
 ∃y,(Builtin.len_ #[t] ty #[a]).run P w=.ok y w/\RV G v y:=by
 unfold lT at hv
 split at hv<;>first|(cases hv;done)|skip
 ·rename_i hu;cases hx;cases hv
  exact⟨_,run_len_string w t ty _ hu,by rw[lr];exact .int ..⟩
 ·rename_i hu;cases hx;cases hv;exact⟨_,by simp[Builtin.len_,run_underlying hu,goInt],.int ..⟩
 ·rename_i hu;cases hx;cases hv;exact⟨_,by simp[Builtin.len_,run_underlying hu];rfl,.int ..⟩
 ·rename_i hu;cases hv
  cases hx<;>exact⟨_,by simp[Builtin.len_,run_underlying hu];rfl,.int ..⟩
 ·rename_i hu;cases hx;cases hv;exact⟨_,by simp[Builtin.len_,run_underlying hu,goInt],.int ..⟩
 ·rename_i o hu
  split at hv
  ·rename_i es hg
   cases hv
   cases hx with
   |zZ hd=>have:=(hr.dead _ hd).2;rw[hg] at this;cases this
   |map hφ=>
    obtain⟨x,hx,hat⟩:=hr.obj _ _ _ _ hφ
    rw[hg] at hx;cases hx
    obtain⟨ents,cl,hb,hsz,_⟩:=hat
    refine⟨.int .i64 ents.size,?_,by rw[hsz];exact .int ..⟩
    have hgo:=run_getObj_map (P:=P) hb
    simp[Builtin.len_,run_underlying hu,hgo,goInt]
  ·cases hv
theorem getElem?_flatten_uniform {α:Type} {n:Nat} (hn:0<n):∀(es:List (List α)),(∀r∈es,r.length=n)->∀k,es.flatten[k]?=(es[k/n]?).bind (·[k%n]?):=by
 intro es
 induction es with
 |nil=>intro _ k;simp
 |cons r es ih=>
  intro h k
  have hr:r.length=n:=h r (by simp)
  rw[List.flatten_cons]
  by_cases hk:k<n
  ·rw[List.getElem?_append_left (by omega),Nat.div_eq_of_lt hk,Nat.mod_eq_of_lt hk]
   simp
  ·rw[List.getElem?_append_right (by omega),ih (λr hr=>h r (by simp[hr])),hr]
   have e1:k/n=(k-n)/n+1:=by
    have:=Nat.div_eq_sub_div hn (by omega:n<=k)
    exact this
   have e2:k%n=(k-n)%n:=Nat.mod_eq_sub_mod (by omega)
   rw[e1,e2,List.getElem?_cons_succ]
theorem dZ {α:Type} {n:Nat}:∀(es:List (List α)),(∀r∈es,r.length=n)->es.flatten.length=es.length*n:=by
 intro es
 induction es with
 |nil=>intro _;simp
 |cons r es ih=>
  intro h
  rw[List.flatten_cons,List.length_append,ih (λr hr=>h r (by simp[hr])),h r (by simp),List.length_cons,Nat.succ_mul]
  omega
theorem Kf {n k:Nat} {l:List VV} (h:n*k<=l.length):∀r∈rows n k l,r.length=k:=by
 intro r hr
 obtain⟨i,hi,rfl⟩:=List.getElem_of_mem hr
 rw[mY]
 rw[jY] at hi
 have:(i+1)*k<=n*k:=Nat.mul_le_mul_right k hi
 rw[Nat.succ_mul] at this
 simp;omega
theorem xJ {k:Nat}:∀(n:Nat) (l:List VV),n*k<=l.length->(rows n k l).flatten=l.take (n*k):=by
 intro n
 induction n with
 |zero=>intro l _;simp[rows]
 |succ n ih=>
  intro l h
  rw[Nat.succ_mul] at h
  simp only[rows,List.flatten_cons,ih (l.drop k) (by simp;omega)]
  rw[Nat.succ_mul,Nat.add_comm,List.take_add]
theorem gx {h:aa} (hr:Rel G h w) {x:VV} {a:Value} {e:Nat} {es:List (List VV)} (hx:RV G x a) (hv:eS x h e=some es):
 ∃b n c,a=.slice b n c/\n=es.length/\n<=c/\(∀r∈es,r.length=e)/\∃L:List Value,cO G es.flatten L/\(∀u∈L,u.oneCell'=true)/\
  (n=0\/∃bl o,b=some ⟨bl,o,none⟩/\nq w bl o L):=by
 unfold eS at hv
 split at hv<;>first|(cases hv;done)|skip
 ·cases hx;cases hv
  exact⟨none,0,0,rfl,rfl,Nat.le_refl _,by simp,[],.nil G,by simp,.inl rfl⟩
 ·rename_i es' cap
  split at hv
  ·rename_i hfit
   cases hv
   cases hx with
   |vs vals h1 h2 h3 h4 h5 h6 h7=>
    rename_i b base n c a
    by_cases hnil:es=[]
    ·subst hnil
     exact⟨_,_,_,rfl,rfl,h1,by simp,[],.nil G,by simp,.inl rfl⟩
    obtain rfl:=h7.resolve_left hnil
    have hall:∀r∈es,r.length=n:=by
     intro r hr'
     obtain⟨i,hi,rfl⟩:=List.getElem_of_mem hr'
     exact h3 i hi
    have hne:es=[]\/n=e:=by
     cases es with
     |nil=>exact .inl rfl
     |cons r es=>
      have:=hall r (by simp)
      simp[wb] at hfit
      right;omega
    have hlenF:=dZ es hall
    refine⟨_,_,_,rfl,rfl,h1,?_,(List.range (es.length*n)).map (λk=>vals (k/n) (k%n)),?_,?_,?_⟩
    ·rcases hne with rfl|rfl
     ·simp
     ·exact hall
    ·refine⟨by simp[hlenF],λj hj hj'=>?_⟩
     have hj2:j<es.length*n:=by rw[<-hlenF];exact hj
     have hn:0<n:=by
      rcases Nat.eq_zero_or_pos n with h0|h0
      ·subst h0;simp at hj2
      ·exact h0
     have hd:j/n<es.length:=(Nat.div_lt_iff_lt_mul hn).2 hj2
     have hm:j%n<n:=Nat.mod_lt _ hn
     have hm':j%n<es[j/n].length:=by rw[h3 _ hd];exact hm
     have e1:=getElem?_flatten_uniform hn es hall j
     rw[List.getElem?_eq_getElem hj,List.getElem?_eq_getElem hd] at e1
     simp only[Option.bind_some] at e1
     rw[List.getElem?_eq_getElem hm'] at e1
     rw[Option.some.inj e1]
     simpa using h5 _ hd _ hm'
    ·intro u hu
     obtain⟨k,hk,rfl⟩:=List.mem_map.1 hu
     have hk':k<es.length*n:=by simpa using hk
     have hn:0<n:=by
      rcases Nat.eq_zero_or_pos n with h0|h0
      ·subst h0;simp at hk'
      ·exact h0
     exact h6 _ _ ((Nat.div_lt_iff_lt_mul hn).2 hk') (Nat.mod_lt _ hn)
    ·refine .inr ⟨b,base,rfl,λj u hu=>?_⟩
     obtain⟨hj,rfl⟩:=List.getElem?_eq_some_iff.1 hu
     have hk':j<es.length*n:=by simpa using hj
     have hn:0<n:=by
      rcases Nat.eq_zero_or_pos n with h0|h0
      ·subst h0;simp at hk'
      ·exact h0
     have:=hr.kq _ _ _ (h4 (j/n) (j%n) ((Nat.div_lt_iff_lt_mul hn).2 hk') (Nat.mod_lt _ hn))
     have e:base+j/n*n+j%n=base+j:=by
      have:=Nat.div_add_mod j n
      rw[Nat.mul_comm] at this
      omega
     rw[e] at this
     simpa using this
  ·cases hv
 ·rename_i o off len du cap
  split at hv
  ·cases hv
  ·rename_i hes
   have hes':du=e:=Decidable.not_not.1 hes
   subst hes'
   split at hv
   ·rename_i c hg
    split at hv
    ·rename_i hle
     cases hv
     cases hx with
     |sd hd _ _=>have:=(hr.dead _ hd).2;rw[hg] at this;cases this
     |ref hφ h1 h2 h3 h4=>
      rename_i b base k cc a
      obtain⟨arr,t',g1,g2,g3,L,hL,hone,hat,_⟩:=nJ hr hφ hg
      have hdl:len*du<=(c.drop off).length:=by simp;omega
      have hfl:=xJ len (c.drop off) hdl
      refine⟨_,_,_,rfl,(jY _ _ _).symm,h1,Kf hdl,(L.drop off).take (len*du),?_,?_,?_⟩
      ·rw[hfl];exact(hL.drop off).take _
      ·intro u hu;exact hone u (List.mem_of_mem_drop (List.mem_of_mem_take hu))
      ·rcases h3 with h3|⟨rfl,h3⟩
       ·exact .inl (by omega)
       ·refine .inr ⟨_,_,rfl,λj u hu=>?_⟩
        rw[List.getElem?_take] at hu
        split at hu
        ·rw[List.getElem?_drop] at hu
         rw[Nat.add_assoc];exact hat _ _ hu
        ·cases hu
    ·cases hv
   ·cases hv
end
end Go.Vv
