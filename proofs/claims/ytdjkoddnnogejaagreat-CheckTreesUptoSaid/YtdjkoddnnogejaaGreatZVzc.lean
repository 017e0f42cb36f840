/- Part of the proof of CheckTrees: plain laws and steps of its walks, for all arguments. -/
import Derived.Test.YtdjkoddnnogejaaGreatZVzb
set_option linter.unusedSimpArgs false
set_option linter.unusedVariables false
set_option linter.unusedSectionVars false
namespace Go.Vv
section
variable{P:Program}
noncomputable def VV.fn?:VV->Option (Fn×List VV×List VV):=
 @VV.rec (λ_=>Option (Fn×List VV×List VV)) (λ_=>Option (Fn×List VV×List VV)) (λ_=>Option (Fn×List VV×List VV)) (λ_=>none) (λ_ _=>none) (λ_=>none) none (λ_ _=>none) (λ_ _ _=>none) (λ_=>none) none
  (λ_ _ _=>none) (λ_ _ _ _ _=>none) none (λ_=>none) (λf a b _ _=>some (f,a,b)) none (λ_ _ _=>none) none (λ_ _=>none) (λ_ _=>none) (λ_=>none) none (λ_ _ _ _=>none) none (λ_ _ _ _=>none)
theorem VV.fn?_some {x:VV} {f:Fn} {a b:List VV} (h:x.fn?=some (f,a,b)):x=.fn f a b:=by
 cases x<;>first|(cases h;rfl)|(exact absurd h (λe=>by cases e))
noncomputable def zX {α:Type} (a b:List α):List α:=@List.rec α (λ_=>List α) b (λx _ ih=>x::ih) a
theorem DB {α:Type}:∀(a b:List α),zX a b=a++b:=by
 intro a b
 induction a with
 |nil=>rfl
 |cons x a ih=>show x::zX a b=_;rw[ih];rfl
noncomputable def HC (fr:Fr) (l:List KX):List VV:=@List.rec KX (λ_=>List VV) [] (λx _ ih=>fU fr x::ih) l
theorem Me (fr:Fr):∀(l:List Operand),HC fr (l.map kx)=l.map (ev fr):=by
 intro l
 induction l with
 |nil=>rfl
 |cons x l ih=>show fU fr (kx x)::HC fr (l.map kx)=_;rw[ih,cZ];rfl
inductive KO where
 |rd (r:KR)
 |call (f:KX) (args:List KX) (o:Oper)
 |alloc (cs:List VV)
 |Sr (a v:KX) (o:Oper)
 |ud (o:Oper)
structure sV where
 dst:Option Nat
 guard:Option (Nat×Bool)
 op:KO
noncomputable def js (P:Program) (e:dX) (o:Oper) (fr:Fr) (h:aa):Option X1:=mg P e o fr h
noncomputable def QI (dst:Option Nat) (fr:Fr) (r:fQ) (h':aa):Option X1:=
 @fQ.rec (λ_=>Option X1) (λv=>some (.next (fG fr dst v) h')) (λv=>some (.panic v h')) r
noncomputable def HU {α:Type} (l:List α):Nat->α->List α:=
 @List.rec α (λ_=>Nat->α->List α) (λ_ _=>[]) (λx xs ih n a=>@Bool.rec (λ_=>List α) (x::ih (Nat.pred n) a) (a::xs) (Nat.beq n 0)) l
theorem Mo {α:Type}:∀(l:List α) (n:Nat) (a:α),HU l n a=l.set n a:=by
 intro l
 induction l with
 |nil=>intro n a;rfl
 |cons x l ih=>
  intro n a
  cases n with
  |zero=>rfl
  |succ n=>show x::HU l n a=_;rw[ih];rfl
noncomputable def VV.one?:VV->Bool:=
 @VV.rec (λ_=>Bool) (λ_=>Bool) (λ_=>Bool) (λ_=>true) (λ_ _=>true) (λ_=>true) true (λ_ _=>true) (λ_ _ _=>true) (λ_=>true) true
  (λ_ _ _=>true) (λ_ _ _ _ _=>true) true (λ_=>true) (λ_ _ _ _ _=>true) true (λ_ _ _=>true) true (λ_ _=>false) (λ_ _=>false) (λ_=>true) true (λ_ _ _ _=>true) true (λ_ _ _ _=>true)
noncomputable def pR (P:Program) (e:dX) (dst:Option Nat) (k:KO):Fr->aa->Option X1:=
 @KO.rec (λ_=>Fr->aa->Option X1)
  (λr fr h=>bI (QO P r fr h) λv=>some (.next (fG fr dst v) h))
  (λf args o fr h=>@Option.rec (Fn×List VV×List VV) (λ_=>Option X1) (js P e o fr h) (λq=>@Fn.rec (λ_=>Option X1)
    (λid=>bI (e.call id (zX q.2.1 (zX (HC fr args) q.2.2)) h) λp=>QI dst fr p.1 p.2) (λ_=>js P e o fr h) (λ_ _=>js P e o fr h) (λ_ _ _ _=>js P e o fr h) (λ_=>js P e o fr h) q.1) (fU fr f).fn?)
  (λcs fr h=>some (.next (fG fr dst (.ptr h.next 0)) ⟨pJ h.bp h.next (.cells cs),Nat.succ h.next⟩))
  (λa v o fr h=>@Option.rec KP (λ_=>Option X1) (js P e o fr h) (λp=>@KP.rec (λ_=>Option X1) (λo' off=>bI (rn h.bp o') λob=>
    @dC.rec (λ_=>Option X1) (λc=>F3 (Nat.ble (Nat.succ off) (r9 c 0)) (@Bool.rec (λ_=>Option X1) (js P e o fr h) (some (.next (fG fr dst .undef) ⟨pJ h.bp o' (.cells (HU c off (fU fr v))),h.next⟩)) (fU fr v).one?)) (λ_=>none) none (λ_=>none) ob)
    (λ_ _=>none) p) (fU fr a).kp?)
  (λo fr h=>js P e o fr h) k
def l8 (P:Program) (o:Oper):KO:=
 match vq P o.op with
 |some r=>.rd r
 |none=>match o.op with
  |.call c=>(match c.callee with
   |.value f=>.call (kx f) (c.args.toList.map kx) o
   |_=>.ud o)
  |.alloc t=>(match eA P t with
   |some z=>.alloc z.cells
   |none=>.ud o)
  |.store t a v=>if cE P t=1 then .Sr (kx a) (kx v) o else .ud o
  |_=>.ud o
theorem CR {e:dX} {o:Oper} {r:KR} (hr:vq P o.op=some r) {fr:Fr} {h:aa} {v:VV} (hv:aK P o.op fr h=some v):mg P e o fr h=some (.next (put fr o.dst v) h):=by
 have hp:lZ P o fr h=some (.next (put fr o.dst v) h):=by
  unfold lZ rR
  rw[hv]
 unfold mg
 split
 ·rename_i x hop;rw[hop] at hr;simp[vq] at hr
 ·rename_i c hop
  have hcv:dH fr c=none/\jK fr c=none:=by
   rw[hop] at hr
   unfold vq at hr
   split at hr<;>first|(rename_i heq;cases heq)|skip
   all_goals first|(constructor<;>rfl)|(cases hr)
  rw[hcv.1]
  simp only
  rw[hcv.2]
  exact hp
 ·exact hp
theorem E8 (l:List VV) (n:Nat) (a:VV) (h:n<l.length):l.set n a=dQ l n [a]:=by
 unfold dQ
 rw[List.set_eq_take_append_cons_drop,if_pos h]
 simp
theorem rA {e:dX} {o:Oper} {fr:Fr} {h:aa} {r:X1} (hx:pR P e o.dst (l8 P o) fr h=some r):mg P e o fr h=some r:=by
 unfold l8 at hx
 split at hx
 ·rename_i kr hr
  have hx:bI (QO P kr fr h) (λv=>some (.next (fG fr o.dst v) h))=some r:=hx
  obtain⟨v,h1,h2⟩:=aZ hx
  rw[CR hr (vJ hr h1),<-jT]
  exact h2
 ·split at hx
  ·rename_i c hop
   split at hx
   ·rename_i f hcl
    have hx:@Option.rec (Fn×List VV×List VV) (λ_=>Option X1) (js P e o fr h) (λq=>@Fn.rec (λ_=>Option X1)
     (λid=>bI (e.call id (zX q.2.1 (zX (HC fr (c.args.toList.map kx)) q.2.2)) h) λp=>QI o.dst fr p.1 p.2) (λ_=>js P e o fr h) (λ_ _=>js P e o fr h) (λ_ _ _ _=>js P e o fr h) (λ_=>js P e o fr h) q.1) (fU fr (kx f)).fn?=some r:=hx
    cases hf:(fU fr (kx f)).fn? with
    |none=>rw[hf] at hx;exact hx
    |some q=>
     obtain⟨fn,first,cap⟩:=q
     rw[hf] at hx
     cases fn with
     |func id=>
      have hx:bI (e.call id (zX first (zX (HC fr (c.args.toList.map kx)) cap)) h) (λp=>QI o.dst fr p.1 p.2)=some r:=hx
      obtain⟨⟨en,h'⟩,h1,h2⟩:=aZ hx
      rw[Me,DB,DB] at h1
      have h3:=VV.fn?_some hf
      rw[cZ] at h3
      unfold mg
      simp only[hop,dH,hcl,h3]
      rw[List.append_assoc,h1]
      cases en with
      |ret v=>
       have h2:some (X1.next (fG fr o.dst v) h')=some r:=h2
       rw[jT] at h2
       exact h2
      |panic v=>exact h2
     |method=>exact hx
     |methodOf=>exact hx
     |via=>exact hx
     |yield=>exact hx
   ·exact hx
  ·rename_i t hop
   split at hx
   ·rename_i z hz
    have hx:some (X1.next (fG fr o.dst (.ptr h.next 0)) ⟨pJ h.bp h.next (.cells z.cells),Nat.succ h.next⟩)=some r:=hx
    rw[jT,tq] at hx
    unfold mg lZ rR
    simp only[hop,aK,fT,hz]
    exact hx
   ·exact hx
  ·rename_i t a v hop
   split at hx
   ·rename_i hsz
    have hx:@Option.rec KP (λ_=>Option X1) (js P e o fr h) (λp=>@KP.rec (λ_=>Option X1) (λo' off=>bI (rn h.bp o') λob=>
     @dC.rec (λ_=>Option X1) (λc=>F3 (Nat.ble (Nat.succ off) (r9 c 0)) (@Bool.rec (λ_=>Option X1) (js P e o fr h) (some (.next (fG fr o.dst .undef) ⟨pJ h.bp o' (.cells (HU c off (fU fr (kx v)))),h.next⟩)) (fU fr (kx v)).one?)) (λ_=>none) none (λ_=>none) ob)
     (λ_ _=>none) p) (fU fr (kx a)).kp?=some r:=hx
    cases hp:(fU fr (kx a)).kp? with
    |none=>rw[hp] at hx;exact hx
    |some p=>
     rw[hp] at hx
     have h3:=VV.kp?_some hp
     rw[cZ] at h3
     cases p with
     |fb cs off=>cases hx
     |ptr o' off=>
      obtain⟨ob,h4,h5⟩:=aZ (show bI _ _=some r from hx)
      rw[th] at h4
      cases ob with
      |map=>cases h5
      |dead=>cases h5
      |loop=>cases h5
      |cells c=>
       obtain⟨h6,h7⟩:=mO (show F3 _ _=some r from h5)
       cases h8:(fU fr (kx v)).one? with
       |false=>rw[h8] at h7;exact h7
       |true=>
       rw[h8] at h7
       have h9:some (X1.next (fG fr o.dst .undef) ⟨pJ h.bp o' (.cells (HU c off (fU fr (kx v)))),h.next⟩)=some r:=h7
       have h10:=Nat.le_of_ble_eq_true h6
       rw[pT] at h10
       rw[cZ] at h8 h9
       rw[jT,tq,Mo] at h9
       have hone:(ev fr v).cells=[ev fr v]/\(ev fr v).gh=false:=by
        generalize ev fr v=u at h8
        cases u<;>first|exact⟨rfl,rfl⟩|exact absurd h8 (by intro e;cases e)
       have hget:h.get o'=some (.cells c):=h4
       have hlt:off<c.length:=h10
       have hst:nj P t (ev fr a) (ev fr v) h=some (h.set o' (.cells (dQ c off [ev fr v]))):=by
        have h3':ev fr a=.ptr o' off:=h3
        unfold nj
        simp only[h3',hget,hone.1,hone.2,hsz]
        rw[if_pos ⟨rfl,by decide,by show off+1<=c.length;exact hlt,trivial⟩]
       unfold mg lZ rR
       simp only[hop,aK,fT,iI,hst,Option.map_some]
       rw[E8 c off _ hlt] at h9
       exact h9
   ·exact hx
  ·exact hx
structure KD where
 i:Nat
 OY:Bool
 new:Bool
 cK:List Nat
 op:sV
inductive sU where
 |Xb
 |ops (l:List sV)
 |draw (orig:Array Oper) (l:List KD)
 |seq (a b:sU)
 |cond (c:KX) (a b:sU)
 |block (id:Nat) (c:sU)
 |loop (c:sU)
 |exit (id:Nat)
 |ret
 |bad
noncomputable def zW (g:Option (Nat×Bool)) (fr:Fr):Bool:=
 @Option.rec (Nat×Bool) (λ_=>Bool) true (λg=>@Option.rec Bool (λ_=>Bool) false (λb=>@Bool.rec (λ_=>Bool) (@Bool.rec (λ_=>Bool) true false g.2) g.2 b) (gO fr g.1).bool?) g
def s6 (ops:Array Oper) (o:Oper):Option (Option (Nat×Bool)):=
 match o.guard with
 |none=>some none
 |some (j,b)=>match(ops[j]?).bind (·.dst) with
  |some d=>some (some (d,b))
  |none=>none
theorem pS {ops:Array Oper} {o:Oper} {g:Option (Nat×Bool)} (hg:s6 ops o=some g) (fr:Fr):zW g fr=cf ops fr o:=by
 unfold s6 at hg
 unfold cf Region.wanted
 split at hg
 ·rename_i hn
  cases hg
  simp only[hn]
  rfl
 ·rename_i j b hn
  split at hg
  ·rename_i d hd
   cases hg
   simp only[hn,rf,hd]
   show @Option.rec Bool (λ_=>Bool) false _ (gO fr d).bool?=_
   rw[wJ]
   cases hb:(fr.at d).bool? with
   |none=>
    show false=_
    generalize fr.at d=x at hb
    cases x<;>first|rfl|(exact absurd hb (by intro e;cases e))
   |some b'=>
    rw[VV.bool?_some hb]
    cases b<;>cases b'<;>rfl
  ·cases hg
def pz (P:Program) (ops:Array Oper) (o:Oper):Option sV:=
 match s6 ops o with
 |some g=>some ⟨o.dst,g,l8 P o⟩
 |none=>none
def nt (P:Program) (ops:Array Oper):List Oper->Option (List sV)
 |[]=>some []
 |o::l=>match pz P ops o,nt P ops l with
  |some k,some ks=>some (k::ks)
  |_,_=>none
def pA (P:Program) (ops:Array Oper):az->Option (List KD)
 |[]=>some []
 |(i,cK)::l=>match pz P ops (aA ops i),pA P ops l with
  |some k,some ks=>some (⟨i,bU (aA ops i).op,cR (aA ops i).op,cK,k⟩::ks)
  |_,_=>none
def comp (P:Program) (T:Nat->az):Code->sU
 |.skip=>.Xb
 |.label _=>.Xb
 |.region _ ops false=>match nt P ops ops.toList with|some l=>.ops l|none=>.bad
 |.region id ops true=>match pA P ops (T id) with|some l=>.draw ops l|none=>.bad
 |.seq a b=>.seq (comp P T a) (comp P T b)
 |.cond c a b=>.cond (kx c) (comp P T a) (comp P T b)
 |.block id c=>.block id (comp P T c)
 |.loop c=>.loop (comp P T c)
 |.exit id=>.exit id
 |.ret=>.ret
 |_=>.bad
noncomputable def HK (P:Program) (e:dX) (l:List sV):Fr->aa->cF:=
 @List.rec sV (λ_=>Fr->aa->cF) (λfr h=>some (.normal,fr,h))
  (λo _ ih fr h=>@Bool.rec (λ_=>cF) (ih (fG fr o.dst .undef) h) (@Option.rec X1 (λ_=>cF) none (λr=>@X1.rec (λ_=>cF) (λfr' h'=>ih fr' h') (λv h'=>some (.panic v,fr,h')) r) (pR P e o.dst o.op fr h)) (zW o.guard fr)) l
noncomputable def gL (P:Program) (e:dX) (ops:Array Oper) (l:List KD):List (Nat×Nat)->Fr->aa->cF:=
 @List.rec KD (λ_=>List (Nat×Nat)->Fr->aa->cF) (λ_ fr h=>some (.normal,fr,h))
  (λd _ ih ids fr h=>@Bool.rec (λ_=>cF) (ih ids (fG fr d.op.dst .undef) h)
    (@Bool.rec (λ_=>cF)
      (@Option.rec X1 (λ_=>cF) none (λr=>@X1.rec (λ_=>cF)
        (λfr' h'=>@Bool.rec (λ_=>cF) none (ih ids fr' h') (@List.rec Nat (λ_=>Bool) true (λ_ _ _=>gC P ops ids h fr' h' d.cK) d.cK)) (λv h'=>some (.panic v,fr,h')) r) (pR P e d.op.dst d.op.op fr h))
      (@Bool.rec (λ_=>cF)
        (@KO.rec (λ_=>cF) (λr=>bI (QO P r fr h) λv=>ih ids (fG fr d.op.dst v) h)
          (λ_ _ o=>bI (aK P o.op fr h) λv=>ih ids (fG fr d.op.dst v) h) (λ_=>none) (λ_ _ o=>bI (aK P o.op fr h) λv=>ih ids (fG fr d.op.dst v) h) (λo=>bI (aK P o.op fr h) λv=>ih ids (fG fr d.op.dst v) h) d.op.op)
        (bI (fT P (aA ops d.i).op fr) λp=>ih ((d.i,h.next)::ids) (fG fr d.op.dst (p.1 h.next)) (h.push p.2))
        d.new)
      d.OY)
    (zW d.op.guard fr)) l
noncomputable def OT (body:Fr->aa->cF) (n:Nat):Fr->aa->cF:=
 @Nat.rec (λ_=>Fr->aa->cF) (λ_ _=>none)
  (λ_ ih fr h=>bI (body fr h) λr=>@VX.rec (λ_=>cF) (ih r.2.1 r.2.2) (λid=>some (.exit id,r.2.1,r.2.2)) (some (.ret,r.2.1,r.2.2)) (λv=>some (.panic v,r.2.1,r.2.2)) r.1) n
noncomputable def BL (P:Program) (e:dX) (n:Nat) (c:sU):Fr->aa->cF:=
 @sU.rec (λ_=>Fr->aa->cF)
  (λfr h=>some (.normal,fr,h))
  (λl=>HK P e l)
  (λops l=>gL P e ops l [])
  (λ_ _ iha ihb fr h=>bI (iha fr h) λr=>@VX.rec (λ_=>cF) (ihb r.2.1 r.2.2) (λid=>some (.exit id,r.2.1,r.2.2)) (some (.ret,r.2.1,r.2.2)) (λv=>some (.panic v,r.2.1,r.2.2)) r.1)
  (λc _ _ iha ihb fr h=>bI (fU fr c).bool? λt=>@Bool.rec (λ_=>cF) (ihb fr h) (iha fr h) t)
  (λid _ ih fr h=>bI (ih fr h) λr=>@VX.rec (λ_=>cF) (some (.normal,r.2.1,r.2.2)) (λid'=>@Bool.rec (λ_=>cF) (some (.exit id',r.2.1,r.2.2)) (some (.normal,r.2.1,r.2.2)) (Nat.beq id' id)) (some (.ret,r.2.1,r.2.2)) (λv=>some (.panic v,r.2.1,r.2.2)) r.1)
  (λ_ ih=>OT ih n)
  (λid fr h=>some (.exit id,fr,h))
  (λfr h=>some (.ret,fr,h))
  (λ_ _=>none) c
theorem BK {e:dX} {ops:Array Oper}:∀(l:List Oper) (ks:List sV),nt P ops l=some ks->∀(fr:Fr) (h:aa) (r:VX×Fr×aa),HK P e ks fr h=some r->CM P e ops l fr h=some r:=by
 intro l
 induction l with
 |nil=>intro ks hk fr h r hx;cases hk;exact hx
 |cons o l ih=>
  intro ks hk fr h r hx
  simp only[nt] at hk
  split at hk
  ·rename_i k ks' h1 h2
   cases hk
   unfold pz at h1
   split at h1
   ·rename_i g hg
    cases h1
    have hx:@Bool.rec (λ_=>cF) (HK P e ks' (fG fr o.dst .undef) h) (@Option.rec X1 (λ_=>cF) none (λr=>@X1.rec (λ_=>cF) (λfr' h'=>HK P e ks' fr' h') (λv h'=>some (.panic v,fr,h')) r) (pR P e o.dst (l8 P o) fr h)) (zW g fr)=some r:=hx
    rw[pS hg] at hx
    simp only[CM]
    cases hw:cf ops fr o with
    |false=>
     rw[hw] at hx
     rw[if_neg (by simp),<-jT]
     exact ih ks' h2 _ _ _ hx
    |true=>
     rw[hw] at hx
     rw[if_pos rfl]
     have hx:@Option.rec X1 (λ_=>cF) none (λr=>@X1.rec (λ_=>cF) (λfr' h'=>HK P e ks' fr' h') (λv h'=>some (.panic v,fr,h')) r) (pR P e o.dst (l8 P o) fr h)=some r:=hx
     cases hs:pR P e o.dst (l8 P o) fr h with
     |none=>rw[hs] at hx;cases hx
     |some r1=>
      rw[hs] at hx
      rw[rA hs]
      cases r1 with
      |next fr' h'=>exact ih ks' h2 _ _ _ hx
      |panic v h'=>exact hx
   ·cases h1
  ·cases hk
theorem zR {e:dX} {ops:Array Oper}:∀(l:az) (ks:List KD),pA P ops l=some ks->∀(ids:List (Nat×Nat)) (fr:Fr) (h:aa) (r:VX×Fr×aa),gL P e ops ks ids fr h=some r->Lh P e ops l ids fr h=some r:=by
 intro l
 induction l with
 |nil=>intro ks hk ids fr h r hx;cases hk;exact hx
 |cons ip l ih=>
  obtain⟨i,cK⟩:=ip
  intro ks hk ids fr h r hx
  simp only[pA] at hk
  split at hk
  ·rename_i k ks' h1 h2
   cases hk
   unfold pz at h1
   split at h1
   ·rename_i g hg
    cases h1
    generalize ho:aA ops i=o at*
    have hx:@Bool.rec (λ_=>cF) (gL P e ops ks' ids (fG fr o.dst .undef) h)
     (@Bool.rec (λ_=>cF)
       (@Option.rec X1 (λ_=>cF) none (λr=>@X1.rec (λ_=>cF)
         (λfr' h'=>@Bool.rec (λ_=>cF) none (gL P e ops ks' ids fr' h') (@List.rec Nat (λ_=>Bool) true (λ_ _ _=>gC P ops ids h fr' h' cK) cK)) (λv h'=>some (.panic v,fr,h')) r) (pR P e o.dst (l8 P o) fr h))
       (@Bool.rec (λ_=>cF)
         (@KO.rec (λ_=>cF) (λr=>bI (QO P r fr h) λv=>gL P e ops ks' ids (fG fr o.dst v) h)
           (λ_ _ o'=>bI (aK P o'.op fr h) λv=>gL P e ops ks' ids (fG fr o.dst v) h) (λ_=>none) (λ_ _ o'=>bI (aK P o'.op fr h) λv=>gL P e ops ks' ids (fG fr o.dst v) h) (λo'=>bI (aK P o'.op fr h) λv=>gL P e ops ks' ids (fG fr o.dst v) h) (l8 P o))
         (bI (fT P (aA ops i).op fr) λp=>gL P e ops ks' ((i,h.next)::ids) (fG fr o.dst (p.1 h.next)) (h.push p.2))
         (cR o.op))
       (bU o.op))
     (zW g fr)=some r:=hx
    rw[pS hg] at hx
    simp only[Lh]
    rw[ho]
    cases hw:cf ops fr o with
    |false=>
     rw[hw] at hx
     rw[if_neg (by simp),<-jT]
     exact ih ks' h2 _ _ _ _ hx
    |true=>
     rw[hw] at hx
     rw[if_pos rfl]
     cases hm:bU o.op with
     |false=>
      rw[hm] at hx
      rw[if_neg (by simp)]
      have hx:@Option.rec X1 (λ_=>cF) none (λr=>@X1.rec (λ_=>cF)
       (λfr' h'=>@Bool.rec (λ_=>cF) none (gL P e ops ks' ids fr' h') (@List.rec Nat (λ_=>Bool) true (λ_ _ _=>gC P ops ids h fr' h' cK) cK)) (λv h'=>some (.panic v,fr,h')) r) (pR P e o.dst (l8 P o) fr h)=some r:=hx
      cases hs:pR P e o.dst (l8 P o) fr h with
      |none=>rw[hs] at hx;cases hx
      |some r1=>
       rw[hs] at hx
       rw[rA hs]
       cases r1 with
       |next fr' h'=>
        have hx:@Bool.rec (λ_=>cF) none (gL P e ops ks' ids fr' h') (@List.rec Nat (λ_=>Bool) true (λ_ _ _=>gC P ops ids h fr' h' cK) cK)=some r:=hx
        have hst:@List.rec Nat (λ_=>Bool) true (λ_ _ _=>gC P ops ids h fr' h' cK) cK=gC P ops ids h fr' h' cK:=by cases cK<;>rfl
        rw[hst] at hx
        simp only
        cases hb:gC P ops ids h fr' h' cK with
        |false=>rw[hb] at hx;cases hx
        |true=>rw[hb] at hx;rw[if_pos rfl];exact ih ks' h2 _ _ _ _ hx
       |panic v h'=>exact hx
     |true=>
      rw[hm] at hx
      rw[if_pos rfl]
      cases hn:cR o.op with
      |true=>
       rw[hn] at hx
       rw[if_pos rfl]
       have hx:bI (fT P (aA ops i).op fr) (λp=>gL P e ops ks' ((i,h.next)::ids) (fG fr o.dst (p.1 h.next)) (h.push p.2))=some r:=hx
       rw[ho] at hx
       obtain⟨⟨f,x⟩,h3,h4⟩:=aZ hx
       rw[h3]
       simp only
       rw[jT] at h4
       exact ih ks' h2 _ _ _ _ h4
      |false=>
       rw[hn] at hx
       rw[if_neg (by simp)]
       have key:∀v,aK P o.op fr h=some v->gL P e ops ks' ids (fG fr o.dst v) h=some r->(match aK P o.op fr h with|some v=>Lh P e ops l ids (put fr o.dst v) h|none=>none)=some r:=by
        intro v h3 h4
        rw[h3]
        simp only
        rw[jT] at h4
        exact ih ks' h2 _ _ _ _ h4
       have hx:@KO.rec (λ_=>cF) (λr=>bI (QO P r fr h) λv=>gL P e ops ks' ids (fG fr o.dst v) h)
        (λ_ _ o'=>bI (aK P o'.op fr h) λv=>gL P e ops ks' ids (fG fr o.dst v) h) (λ_=>none) (λ_ _ o'=>bI (aK P o'.op fr h) λv=>gL P e ops ks' ids (fG fr o.dst v) h) (λo'=>bI (aK P o'.op fr h) λv=>gL P e ops ks' ids (fG fr o.dst v) h) (l8 P o)=some r:=hx
       unfold l8 at hx
       split at hx
       ·rename_i kr hr
        obtain⟨v,h3,h4⟩:=aZ (show bI (QO P kr fr h) _=some r from hx)
        exact key v (vJ hr h3) h4
       ·have ud:bI (aK P o.op fr h) (λv=>gL P e ops ks' ids (fG fr o.dst v) h)=some r->(match aK P o.op fr h with|some v=>Lh P e ops l ids (put fr o.dst v) h|none=>none)=some r:=by
         intro hs
         obtain⟨v,h3,h4⟩:=aZ hs
         exact key v h3 h4
        split at hx
        ·split at hx
         ·exact ud hx
         ·exact ud hx
        ·split at hx
         ·cases hx
         ·exact ud hx
        ·split at hx
         ·exact ud hx
         ·exact ud hx
        ·exact ud hx
   ·cases h1
  ·cases hk
theorem BM {e:dX} {T:Nat->az} {n:Nat}:∀(c:Code) (fr:Fr) (h:aa) (r:VX×Fr×aa),BL P e n (comp P T c) fr h=some r->eB P e T n c fr h=some r:=by
 intro c
 induction c with
 |skip=>intro fr h r hx;exact hx
 |label l=>intro fr h r hx;exact hx
 |exit id=>intro fr h r hx;exact hx
 |ret=>intro fr h r hx;exact hx
 |rangeFunc=>intro fr h r hx;cases hx
 |goto=>intro fr h r hx;cases hx
 |refuse=>intro fr h r hx;cases hx
 |scope=>intro fr h r hx;cases hx
 |region id ops draw=>
  intro fr h r hx
  cases draw with
  |false=>
   simp only[comp] at hx
   split at hx
   ·rename_i l hl
    exact BK _ _ hl _ _ _ hx
   ·cases hx
  |true=>
   simp only[comp] at hx
   split at hx
   ·rename_i l hl
    exact zR _ _ hl _ _ _ _ hx
   ·cases hx
 |seq a b iha ihb=>
  intro fr h r hx
  obtain⟨⟨x,fr',h'⟩,h1,h2⟩:=aZ (show bI (BL P e n (comp P T a) fr h) _=some r from hx)
  simp only[eB]
  rw[iha _ _ _ h1]
  cases x with
  |normal=>exact ihb _ _ _ h2
  |exit id=>exact h2
  |ret=>exact h2
  |panic v=>exact h2
 |cond c a b iha ihb=>
  intro fr h r hx
  obtain⟨t,h1,h2⟩:=aZ (show bI (fU fr (kx c)).bool? _=some r from hx)
  have h3:=VV.bool?_some h1
  rw[cZ] at h3
  simp only[eB,h3]
  cases t with
  |true=>rw[if_pos rfl];exact iha _ _ _ h2
  |false=>rw[if_neg (by simp)];exact ihb _ _ _ h2
 |block id c ih=>
  intro fr h r hx
  obtain⟨⟨x,fr',h'⟩,h1,h2⟩:=aZ (show bI (BL P e n (comp P T c) fr h) _=some r from hx)
  simp only[eB]
  rw[ih _ _ _ h1]
  cases x with
  |normal=>exact h2
  |ret=>exact h2
  |panic v=>exact h2
  |exit i=>
   have h2:@Bool.rec (λ_=>cF) (some (.exit i,fr',h')) (some (.normal,fr',h')) (Nat.beq i id)=some r:=h2
   simp only
   cases hb:Nat.beq i id with
   |true=>rw[hb] at h2;rw[if_pos (Nat.eq_of_beq_eq_true hb)];exact h2
   |false=>rw[hb] at h2;rw[if_neg (λe=>by subst e;rw[Nat.beq_refl] at hb;cases hb)];exact h2
 |loop c ih=>
  intro fr h r hx
  have key:∀(m:Nat) (fr:Fr) (h:aa),OT (BL P e n (comp P T c)) m fr h=some r->wk (eB P e T n c) m fr h=some r:=by
   intro m
   induction m with
   |zero=>intro fr h hx;cases hx
   |succ m ihm=>
    intro fr h hx
    obtain⟨⟨x,fr',h'⟩,h1,h2⟩:=aZ (show bI (BL P e n (comp P T c) fr h) _=some r from hx)
    simp only[wk]
    rw[ih _ _ _ h1]
    cases x with
    |normal=>exact ihm _ _ h2
    |exit id=>exact h2
    |ret=>exact h2
    |panic v=>exact h2
  exact key n fr h hx
def VO (P:Program) (fn:Func):cF->Option (fQ×aa)
 |some (.panic v,_,h')=>some (.panic v,h')
 |some (.exit _,_,_)=>none
 |some (_,fr,h')=>match cT P fn.results.toList fr h' with
  |some v=>some (.ret v,h')
  |none=>none
 |none=>none
noncomputable def qI (P:Program) (dQ:jg) (g:n8) (T:FuncId->Nat->az) (n:Nat) (e:dX):jg:=λf args h=>
 match dQ f args h with
 |some r=>some r
 |none=>
  match P.funcs[f]? with
  |some fn=>match fn.body with
   |some c=>
    if args.length<=fn.ntmps then
     if g.plain f=true then VO P fn (BL P e (n+1) (comp P (T f) c) (fp args) h)
     else if g.spine f=true then
      match c with
      |.seq r0 rest=>yx P e g.plain T (n+1) f fn r0 rest args h
      |_=>none
     else none
    else none
   |none=>none
  |none=>none
noncomputable def T5 (P:Program) (dQ:jg) (g:n8) (T:FuncId->Nat->az) (n:Nat):dX:=
 @Nat.rec (λ_=>dX) ⟨λ_ _ _=>none,λ_ _ _=>none⟩ (λn ih=>⟨qI P dQ g T n ih,CQ P ih T (n+1)⟩) n
noncomputable def HB (P:Program) (dQ:jg) (g:n8) (T:FuncId->Nat->az) (n:Nat):jg:=(T5 P dQ g T n).call
theorem r8 {dQ:jg} {g:n8} {T:FuncId->Nat->az} {n:Nat} {e:dX} {f:FuncId} {args:List VV} {h:aa} {r:fQ×aa} (hx:qI P dQ g T n e f args h=some r):nW P dQ g T n e f args h=some r:=by
 unfold qI at hx
 unfold nW
 split at hx
 ·rename_i r' ho
  rw[ho];exact hx
 ·rename_i ho
  rw[ho]
  simp only
  split at hx
  ·rename_i fn hf
   rw[hf]
   simp only
   split at hx
   ·rename_i c hb
    rw[hb]
    simp only
    split at hx
    ·rename_i hlen
     rw[if_pos hlen]
     split at hx
     ·rename_i hg
      rw[if_pos hg]
      cases hk:BL P e (n+1) (comp P (T f) c) (fp args) h with
      |none=>rw[hk] at hx;cases hx
      |some q=>
       obtain⟨x,fr,h'⟩:=q
       rw[BM c _ _ _ hk]
       rw[hk] at hx
       cases x with
       |normal=>exact hx
       |exit id=>cases hx
       |ret=>exact hx
       |panic v=>exact hx
     ·rename_i hg
      rw[if_neg hg]
      exact hx
    ·cases hx
   ·cases hx
  ·cases hx
theorem BI (hmix:P.follows .mixedOrders=true) {dQ:jg} (hover:kf P dQ) {g:n8} {T:FuncId->Nat->az} (hg:sT P T g):∀n,gM P (T5 P dQ g T n):=by
 intro n
 induction n with
 |zero=>exact⟨(λf args h r h' hx=>by cases hx),(λo args h v h' hx=>by cases hx)⟩
 |succ n ih=>exact⟨λf args h r h' hx=>sq hmix hover hg ih f args h r h' (r8 hx),yE ih hmix⟩
theorem zQ (hmix:P.follows .mixedOrders=true) {dQ:jg} (hover:kf P dQ) {g:n8} {T:FuncId->Nat->az} (hg:sT P T g) (n:Nat):kf P (HB P dQ g T n):=(BI hmix hover hg n).call
end
end Go.Vv
