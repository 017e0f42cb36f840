/- Part of the proof of CheckTrees: plain laws and steps of its walks, for all arguments. -/
import Derived.Test.YtdjkoddnnogejaaGreatZVza
set_option linter.unusedSimpArgs false
set_option linter.unusedVariables false
set_option linter.unusedSectionVars false
namespace Go.Vv
section
variable{P:Program}
inductive KX where
 |tmp (t:Nat)
 |val (v:VV)
def kx:Operand->KX
 |.tmp t=>.tmp t
 |.const v=>.val (ju v)
 |.global g=>.val (.qH g)
 |.func f=>.val (.fn (.func f) [] [])
noncomputable def fU (fr:Fr) (x:KX):VV:=@KX.rec (λ_=>VV) (λt=>gO fr t) (λv=>v) x
theorem cZ (fr:Fr) (x:Operand):fU fr (kx x)=ev fr x:=by
 cases x with
 |tmp t=>exact wJ fr t
 |_=>rfl
inductive KR where
 |OY (x:KX)
 |pick (c a b:KX)
 |load (a:KX)
 |Uc (sz:Nat) (a:KX)
 |TE (off:Nat) (a:KX)
 |TU (du:Nat) (x i:KX)
 |VZ (x:KX)
 |bin (op:BinOp) (t:TypeId) (x y:KX)
 |VR (x:KX)
 |VP (x:KX)
 |index (x i:KX)
 |VD (x:KX) (i:Nat)
 |not (x:KX)
 |field (off:Nat) (x:KX)
 |Qb (sz off:Nat) (x:KX)
noncomputable def zV (sz:Nat) (cs:List VV) (off:Nat):Option VV:=
 @Bool.rec (λ_=>Option VV) none (some (.agg (HW (HN cs off) sz))) (Nat.ble (Nat.add off sz) (r9 cs 0))
noncomputable def tA (h:aa) (p:KP) (K:List VV->Nat->Option VV):Option VV:=
 @KP.rec (λ_=>Option VV) (λo off=>@Option.rec dC (λ_=>Option VV) none (λob=>@dC.rec (λ_=>Option VV) (λc=>K c off) (λ_=>none) none (λ_=>none) ob) (rn h.bp o)) (λcs off=>K cs off) p
noncomputable def bI {α β:Type} (x:Option α) (K:α->Option β):Option β:=@Option.rec α (λ_=>Option β) none K x
theorem aZ {α β:Type} {x:Option α} {K:α->Option β} {b:β} (h:bI x K=some b):∃a,x=some a/\K a=some b:=by
 cases x with
 |none=>cases h
 |some a=>exact⟨a,rfl,h⟩
noncomputable def HI (i:Int) (K:Nat->Option VV):Option VV:=@Int.rec (λ_=>Option VV) K (λ_=>none) i
theorem vI {i:Int} {K:Nat->Option VV} {b:VV} (h:HI i K=some b):∃n,i=Int.ofNat n/\K n=some b:=by
 cases i with
 |ofNat n=>exact⟨n,rfl,h⟩
 |negSucc n=>cases h
noncomputable def F3 {α:Type} (b:Bool) (x:Option α):Option α:=@Bool.rec (λ_=>Option α) none x b
theorem mO {α:Type} {b:Bool} {x:Option α} {y:α} (h:F3 b x=some y):b=true/\x=some y:=by
 cases b with
 |true=>exact⟨rfl,h⟩
 |false=>cases h
noncomputable def QO (P:Program) (r:KR):Fr->aa->Option VV:=
 @KR.rec (λ_=>Fr->aa->Option VV)
  (λx fr _=>some (fU fr x))
  (λc a b fr _=>bI (fU fr c).bool? λt=>some (@Bool.rec (λ_=>VV) (fU fr b) (fU fr a) t))
  (λa fr h=>bI (fU fr a).kp? λp=>tA h p λc off=>sa c off)
  (λsz a fr h=>bI (fU fr a).kp? λp=>tA h p λc off=>zV sz c off)
  (λfo a fr _=>bI (fU fr a).kp? λp=>some (@KP.rec (λ_=>VV) (λo off=>.ptr o (Nat.add off fo)) (λcs off=>.fb cs (Nat.add off fo)) p))
  (λdu x i fr _=>bI (fU fr i).int? λq=>HI q.2 λn=>bI (fU fr x).ks? λs=>
    @KS.rec (λ_=>Option VV) none (λes=>bI (sa es n) λrow=>F3 (Nat.beq (r9 row 0) du) (some (.fb row 0)))
     (λo off len esz'=>F3 (Nat.ble (Nat.succ n) len) (F3 (Nat.beq esz' du) (some (.ptr o (Nat.add off (Nat.mul n du)))))) s)
  (λx fr _=>bI (fU fr x).kp? λ_=>some (fU fr x))
  (λop t x y fr _=>Ma P op t (fU fr x) (fU fr y))
  (λx fr _=>bI (fU fr x).str? λs=>some (.int .i64 (Int.ofNat (r9 s 0))))
  (λx fr _=>bI (fU fr x).ks? λs=>some (.int .i64 (Int.ofNat (@KS.rec (λ_=>Nat) 0 (λes=>r9 es 0) (λ_ _ len _=>len) s))))
  (λx i fr _=>bI (fU fr x).str? λs=>bI (fU fr i).int? λq=>HI q.2 λn=>bI (sa s n) λb=>some (.int .u8 (Int.ofNat b.toNat)))
  (λx i fr _=>bI (fU fr x).bR? λl=>sa l i)
  (λx fr _=>bI (fU fr x).bool? λb=>some (.bool (@Bool.rec (λ_=>Bool) true false b)))
  (λoff x fr _=>bI (fU fr x).agg? λcs=>sa cs off)
  (λsz off x fr _=>bI (fU fr x).agg? λcs=>zV sz cs off) r
def vq (P:Program):Op->Option KR
 |.move x=>some (.OY (kx x))
 |.assign x=>some (.OY (kx x))
 |.pick c a b=>some (.pick (kx c) (kx a) (kx b))
 |.load t a=>match uk P t with|some true=>some (.Uc (cE P t) (kx a))|some false=>some (.load (kx a))|none=>none
 |.fieldAddr t x i=>match kA P t i with|some (fo,ft)=>if cE P ft=0 then none else some (.TE fo (kx x))|none=>none
 |.indexAddr t x i=>match iM P t with|some e=>if cE P e=0 then none else some (.TU (cE P e) (kx x) (kx i))|none=>none
 |.nilCheck x=>some (.VZ (kx x))
 |.binOp op t x y _=>some (.bin op t (kx x) (kx y))
 |.call {callee:=.builtin .len,args:=⟨[x]⟩,argTypes:=⟨[t]⟩}=>match P.underlying t with|some .string=>some (.VR (kx x))|some (.slice _)=>some (.VP (kx x))|_=>none
 |.index t x i=>match P.underlying t with|some .string=>some (.index (kx x) (kx i))|_=>none
 |.extract x i=>some (.VD (kx x) i)
 |.unOp .not _ x=>some (.not (kx x))
 |.field t x i=>match kA P t i with|some (fo,ft)=>(match uk P ft with|some true=>some (.Qb (cE P ft) fo (kx x))|some false=>some (.field fo (kx x))|none=>none)|none=>none
 |_=>none
theorem tC {t:TypeId} {cs:List VV} {off:Nat} {v:VV} (ha:uk P t=some true) (h:zV (cE P t) cs off=some v):gz P t cs off=some v:=by
 obtain⟨h1,h2⟩:=mO (show F3 _ _=some v from h)
 cases h2
 have hle:off+cE P t<=cs.length:=by
  have:=Nat.le_of_ble_eq_true h1
  rw[pT] at this
  exact this
 unfold gz
 simp only[ha]
 rw[if_pos hle,HX,HP]
theorem rz {h:aa} {p:KP} {K:List VV->Nat->Option VV} {v:VV} {t:TypeId} (hK:∀c off,K c off=some v->gz P t c off=some v) (hv:tA h p K=some v):jJ P t p.val h=some v:=by
 cases p with
 |ptr o off=>
  have hv2:bI (rn h.bp o) (λob=>@dC.rec (λ_=>Option VV) (λc=>K c off) (λ_=>none) none (λ_=>none) ob)=some v:=hv
  obtain⟨ob,h1,h2⟩:=aZ hv2
  rw[th] at h1
  cases ob with
  |cells c=>
   show(match h.get o with|some (.cells c)=>gz P t c off|_=>none)=some v
   have:h.get o=some (.cells c):=h1
   rw[this]
   exact hK c off h2
  |map es=>cases h2
  |dead=>cases h2
  |loop l=>cases h2
 |fb cs off=>exact hK cs off hv
theorem vJ {op:Op} {r:KR} (hr:vq P op=some r) {fr:Fr} {h:aa} {v:VV} (hv:QO P r fr h=some v):aK P op fr h=some v:=by
 unfold vq at hr
 split at hr
 ·cases hr
  have hv:some (fU fr (kx _))=some v:=hv
  rw[cZ] at hv;exact hv
 ·cases hr
  have hv:some (fU fr (kx _))=some v:=hv
  rw[cZ] at hv;exact hv
 ·rename_i c a b
  cases hr
  have hv:bI (fU fr (kx c)).bool? (λt=>some (@Bool.rec (λ_=>VV) (fU fr (kx b)) (fU fr (kx a)) t))=some v:=hv
  obtain⟨t,h1,h2⟩:=aZ hv
  have h3:=VV.bool?_some h1
  simp only[cZ] at h2 h3
  unfold aK
  simp only[h3]
  cases t<;>exact h2
 ·rename_i t a
  split at hr
  ·rename_i ha
   cases hr
   have hv:bI (fU fr (kx a)).kp? (λp=>tA h p λc off=>zV (cE P t) c off)=some v:=hv
   obtain⟨p,h1,h2⟩:=aZ hv
   have h3:=VV.kp?_some h1
   rw[cZ] at h3
   unfold aK
   simp only[h3]
   exact rz (λc off hc=>tC ha hc) h2
  ·rename_i ha
   cases hr
   have hv:bI (fU fr (kx a)).kp? (λp=>tA h p λc off=>sa c off)=some v:=hv
   obtain⟨p,h1,h2⟩:=aZ hv
   have h3:=VV.kp?_some h1
   rw[cZ] at h3
   unfold aK
   simp only[h3]
   exact rz (λc off hc=>by rw[pU] at hc;simp only[gz,ha];exact hc) h2
  ·cases hr
 ·rename_i t x i
  split at hr
  ·rename_i fo ft hf
   split at hr
   ·cases hr
   ·rename_i hz
    cases hr
    have hv:bI (fU fr (kx x)).kp? (λp=>some (@KP.rec (λ_=>VV) (λo off=>.ptr o (Nat.add off fo)) (λcs off=>.fb cs (Nat.add off fo)) p))=some v:=hv
    obtain⟨p,h1,h2⟩:=aZ hv
    have h3:=VV.kp?_some h1
    rw[cZ] at h3
    unfold aK
    simp only[h3,eT,hf]
    rw[if_neg hz]
    cases p<;>exact h2
  ·cases hr
 ·rename_i t x i
  split at hr
  ·rename_i e he
   split at hr
   ·cases hr
   ·rename_i hz
    cases hr
    have hv:bI (fU fr (kx i)).int? (λq=>HI q.2 λn=>bI (fU fr (kx x)).ks? λs=>
     @KS.rec (λ_=>Option VV) none (λes=>bI (sa es n) λrow=>F3 (Nat.beq (r9 row 0) (cE P e)) (some (.fb row 0)))
      (λo off len esz'=>F3 (Nat.ble (Nat.succ n) len) (F3 (Nat.beq esz' (cE P e)) (some (.ptr o (Nat.add off (Nat.mul n (cE P e))))))) s)=some v:=hv
    obtain⟨⟨k,m⟩,h1,h2⟩:=aZ hv
    obtain⟨n,h3,h4⟩:=vI h2
    obtain⟨s,h5,h6⟩:=aZ h4
    have h7:=VV.int?_some h1
    have h8:=VV.ks?_some h5
    simp only at h3
    rw[cZ] at h7 h8
    subst h3
    unfold aK
    simp only[dA,he,h7]
    cases s with
    |da=>cases h6
    |vs es=>
     obtain⟨c,h9⟩:=h8
     obtain⟨row,h10,h11⟩:=aZ (show bI _ _=some v from h6)
     obtain⟨h12,h13⟩:=mO h11
     have h14:=Nat.eq_of_beq_eq_true h12
     rw[pT] at h14
     rw[pU] at h10
     simp only[h9]
     rw[if_pos (show(0:Int)<=Int.ofNat n from Int.natCast_nonneg n)]
     have h15:es[(Int.ofNat n).toNat]?=some row:=h10
     simp only[h15]
     rw[if_pos ⟨h14,hz⟩]
     exact h13
    |ref o off len esz'=>
     obtain⟨c,h9⟩:=h8
     obtain⟨h10,h11⟩:=mO (show F3 _ _=some v from h6)
     obtain⟨h12,h13⟩:=mO h11
     have h14:=Nat.eq_of_beq_eq_true h12
     have h15:=Nat.le_of_ble_eq_true h10
     subst h14
     simp only[h9]
     rw[if_pos (show(0:Int)<=Int.ofNat n/\Int.ofNat n<(len:Int)/\True/\cE P e≠0 from⟨Int.natCast_nonneg n,by show(n:Int)<len;omega,trivial,hz⟩)]
     exact h13
  ·cases hr
 ·rename_i x
  cases hr
  have hv:bI (fU fr (kx x)).kp? (λ_=>some (fU fr (kx x)))=some v:=hv
  obtain⟨p,h1,h2⟩:=aZ hv
  have h3:=VV.kp?_some h1
  rw[cZ] at h2 h3
  unfold aK
  simp only[h3,gS] at h2⊢
  cases p<;>exact h2
 ·rename_i op t x y yt
  cases hr
  have hv:Ma P op t (fU fr (kx x)) (fU fr (kx y))=some v:=hv
  rw[Mb,cZ,cZ] at hv
  exact hv
 ·rename_i x t
  split at hr
  ·rename_i hu
   cases hr
   have hv:bI (fU fr (kx x)).str? (λs=>some (.int .i64 (Int.ofNat (r9 s 0))))=some v:=hv
   obtain⟨s,h1,h2⟩:=aZ hv
   have h3:=VV.str?_some h1
   rw[cZ] at h3
   unfold aK
   simp only[lT,hu,h3]
   rw[pT] at h2
   exact h2
  ·rename_i e hu
   cases hr
   have hv:bI (fU fr (kx x)).ks? (λs=>some (.int .i64 (Int.ofNat (@KS.rec (λ_=>Nat) 0 (λes=>r9 es 0) (λ_ _ len _=>len) s))))=some v:=hv
   obtain⟨s,h1,h2⟩:=aZ hv
   have h3:=VV.ks?_some h1
   rw[cZ] at h3
   unfold aK
   cases s with
   |da=>
    have h3:ev fr x=.da:=h3
    simp only[lT,hu,h3]
    exact h2
   |vs es=>
    obtain⟨c,h3⟩:=h3
    simp only[lT,hu,h3]
    have h2:some (VV.int .i64 (Int.ofNat (r9 es 0)))=some v:=h2
    rw[pT] at h2
    exact h2
   |ref o off len du=>
    obtain⟨c,h3⟩:=h3
    simp only[lT,hu,h3]
    exact h2
  ·cases hr
 ·rename_i t x i
  split at hr
  ·rename_i hu
   cases hr
   have hv:bI (fU fr (kx x)).str? (λs=>bI (fU fr (kx i)).int? λq=>HI q.2 λn=>bI (sa s n) λb=>some (.int .u8 (Int.ofNat b.toNat)))=some v:=hv
   obtain⟨s,h1,h2⟩:=aZ hv
   obtain⟨⟨k,m⟩,h3,h4⟩:=aZ h2
   obtain⟨n,h5,h6⟩:=vI h4
   obtain⟨b,h7,h8⟩:=aZ h6
   have h9:=VV.str?_some h1
   have h10:=VV.int?_some h3
   rw[cZ] at h9 h10
   simp only at h5
   subst h5
   rw[pU] at h7
   unfold aK
   simp only[hu,rb,h9,h10]
   rw[if_pos (show(0:Int)<=Int.ofNat n from Int.natCast_nonneg n)]
   have h15:s[(Int.ofNat n).toNat]?=some b:=h7
   rw[h15]
   exact h8
  ·cases hr
 ·rename_i x i
  cases hr
  have hv:bI (fU fr (kx x)).bR? (λl=>sa l i)=some v:=hv
  obtain⟨l,h1,h2⟩:=aZ hv
  have h3:=VV.bR?_some h1
  rw[cZ] at h3
  rw[pU] at h2
  unfold aK
  simp only[kW,h3]
  exact h2
 ·rename_i t x
  cases hr
  have hv:bI (fU fr (kx x)).bool? (λb=>some (.bool (@Bool.rec (λ_=>Bool) true false b)))=some v:=hv
  obtain⟨b,h1,h2⟩:=aZ hv
  have h3:=VV.bool?_some h1
  rw[cZ] at h3
  unfold aK
  simp only[wi,h3]
  cases b<;>exact h2
 ·rename_i t x i
  split at hr
  ·rename_i fo ft hf
   split at hr
   ·rename_i ha
    cases hr
    have hv:bI (fU fr (kx x)).agg? (λcs=>zV (cE P ft) cs fo)=some v:=hv
    obtain⟨cs,h1,h2⟩:=aZ hv
    have h3:=VV.agg?_some h1
    rw[cZ] at h3
    unfold aK
    simp only[kX,hf,h3]
    exact tC ha h2
   ·rename_i ha
    cases hr
    have hv:bI (fU fr (kx x)).agg? (λcs=>sa cs fo)=some v:=hv
    obtain⟨cs,h1,h2⟩:=aZ hv
    have h3:=VV.agg?_some h1
    rw[cZ] at h3
    rw[pU] at h2
    unfold aK
    simp only[kX,hf,h3,gz,ha]
    exact h2
   ·cases hr
  ·cases hr
 ·cases hr
end
end Go.Vv
