/- Part of the proof of CheckTrees: plain laws and steps of its walks, for all arguments. -/
import Derived.Test.YtdjkoddnnogejaaGreatZVs
set_option linter.unusedSimpArgs false
set_option linter.unusedVariables false
set_option linter.unusedSectionVars false
namespace Go.Vv
section
variable{P:Program}
noncomputable def E4 (k:IntKind):Nat:=@IntKind.rec (λ_=>Nat) 128 32768 2147483648 9223372036854775808 128 32768 2147483648 9223372036854775808 k
theorem HL (k:IntKind):(E4 k:Int)=2^(k.bits-1):=by cases k<;>rfl
theorem Gr (k:IntKind):(2:Int)^k.bits=2*2^(k.bits-1):=by cases k<;>rfl
theorem wrap_small (k:IntKind) (m:Nat) (h:m<E4 k):k.wrap (Int.ofNat m)=Int.ofNat m:=by
 have h1:=HL k
 have h2:=Gr k
 unfold IntKind.wrap
 generalize (2:Int)^k.bits=M at*
 generalize (2:Int)^(k.bits-1)=B at*
 generalize E4 k=T at*
 have e:(Int.ofNat m)%M=Int.ofNat m:=Int.emod_eq_of_lt (Int.natCast_nonneg m) (by show(m:Int)<M;omega)
 have e2:¬(Int.ofNat m≥B):=by show¬((m:Int)≥B);omega
 simp only[e,e2,decide_false,Bool.and_false,Bool.false_eq_true,if_false]
noncomputable def zU (k:IntKind):Nat:=@IntKind.rec (λ_=>Nat) 0 1 2 3 4 5 6 7 k
theorem HJ {j k:IntKind} (h:Nat.beq (zU j) (zU k)=true):j=k:=by
 cases j<;>cases k<;>first|rfl|(exact absurd h (by decide))
noncomputable def E3 (k:IntKind) (m:Nat) (z:Option VV):Option VV:=@Bool.rec (λ_=>Option VV) z (some (.int k (Int.ofNat m))) (Nat.ble (Nat.succ m) (E4 k))
noncomputable def QJ (op:BinOp):IntKind->Nat->Nat->Option VV->Option VV:=
 @BinOp.rec (λ_=>IntKind->Nat->Nat->Option VV->Option VV)
  (λk m n z=>E3 k (Nat.add m n) z) (λk m n z=>@Bool.rec (λ_=>Option VV) z (E3 k (Nat.sub m n) z) (Nat.ble n m)) (λk m n z=>E3 k (Nat.mul m n) z)
  (λ_ _ _ z=>z) (λ_ _ _ z=>z) (λ_ _ _ z=>z) (λ_ _ _ z=>z) (λ_ _ _ z=>z) (λ_ _ _ z=>z) (λ_ _ _ z=>z) (λ_ _ _ z=>z)
  (λ_ m n _=>some (.bool (Nat.beq m n))) (λ_ m n _=>some (.bool (@Bool.rec (λ_=>Bool) true false (Nat.beq m n)))) (λ_ m n _=>some (.bool (Nat.ble (Nat.succ m) n))) (λ_ m n _=>some (.bool (Nat.ble m n)))
  (λ_ m n _=>some (.bool (Nat.ble (Nat.succ n) m))) (λ_ m n _=>some (.bool (Nat.ble n m))) op
noncomputable def QN (op:BinOp) (k:IntKind) (a b:Int) (z:Option VV):Option VV:=
 @Int.rec (λ_=>Option VV) (λm=>@Int.rec (λ_=>Option VV) (λn=>QJ op k m n z) (λ_=>z) b) (λ_=>z) a
theorem w9 {k:IntKind} {m:Nat} {z:Option VV} (hz:z=some (.int k (k.wrap (Int.ofNat m)))):E3 k m z=z:=by
 unfold E3
 cases hb:Nat.ble (Nat.succ m) (E4 k) with
 |false=>rfl
 |true=>
  have hlt:m<E4 k:=Nat.le_of_ble_eq_true hb
  rw[hz,wrap_small k m hlt]
theorem sw (m n:Nat):Nat.ble m n=decide (m<=n):=by
 cases h:Nat.ble m n with
 |true=>exact(decide_eq_true (Nat.le_of_ble_eq_true h)).symm
 |false=>exact(decide_eq_false (λe=>by rw[Nat.ble_eq_true_of_le e] at h;cases h)).symm
theorem tL (m n:Nat):Nat.beq m n=decide (m=n):=by
 cases h:Nat.beq m n with
 |true=>exact(decide_eq_true (Nat.eq_of_beq_eq_true h)).symm
 |false=>exact(decide_eq_false (λe=>by subst e;rw[Nat.beq_refl] at h;cases h)).symm
theorem dr (P:Program) (op:BinOp) (t:TypeId) (k:IntKind) (a b:Int) (h1:op≠.shl) (h2:op≠.shr):cD P op t (.int k a) (.int k b)=oX op k a b:=by
 cases op<;>first|exact absurd rfl h1|exact absurd rfl h2|simp[cD]
theorem Mf (P:Program) (op:BinOp) (t:TypeId) (k:IntKind) (a b:Int):QN op k a b (cD P op t (.int k a) (.int k b))=cD P op t (.int k a) (.int k b):=by
 cases a with
 |negSucc m=>rfl
 |ofNat m=>
  cases b with
  |negSucc n=>rfl
  |ofNat n=>
   show QJ op k m n _=_
   cases op<;>first|rfl|skip
   ·exact w9 (by rw[dr _ _ _ _ _ _ (by simp) (by simp)];rfl)
   ·show(@Bool.rec (λ_=>Option VV) _ (E3 k (Nat.sub m n) _) (Nat.ble n m):Option VV)=_
    cases hb:Nat.ble n m with
    |false=>rfl
    |true=>
     have hle:n<=m:=Nat.le_of_ble_eq_true hb
     refine w9 ?_
     rw[dr _ _ _ _ _ _ (by simp) (by simp)]
     simp only[oX]
     have:(Int.ofNat m:Int)-Int.ofNat n=Int.ofNat (Nat.sub m n):=by
      show(m:Int)-(n:Int)=((m-n:Nat):Int)
      omega
     rw[this]
   ·exact w9 (by rw[dr _ _ _ _ _ _ (by simp) (by simp)];rfl)
   ·rw[dr _ _ _ _ _ _ (by simp) (by simp)]
    show some (VV.bool (Nat.beq m n))=some (VV.bool (Int.ofNat m==Int.ofNat n))
    rw[tL]
    congr 2
    by_cases h:m=n<;>simp[h]<;>omega
   ·rw[dr _ _ _ _ _ _ (by simp) (by simp)]
    show some (VV.bool (@Bool.rec (λ_=>Bool) true false (Nat.beq m n)))=some (VV.bool (Int.ofNat m !=Int.ofNat n))
    rw[tL]
    congr 2
    by_cases h:m=n<;>simp[h]<;>omega
   ·rw[dr _ _ _ _ _ _ (by simp) (by simp)]
    show some (VV.bool (Nat.ble (Nat.succ m) n))=some (VV.bool (decide (Int.ofNat m<Int.ofNat n)))
    rw[sw]
    congr 2
    simp;omega
   ·rw[dr _ _ _ _ _ _ (by simp) (by simp)]
    show some (VV.bool (Nat.ble m n))=some (VV.bool (decide (Int.ofNat m<=Int.ofNat n)))
    rw[sw]
    congr 2
    simp
   ·rw[dr _ _ _ _ _ _ (by simp) (by simp)]
    show some (VV.bool (Nat.ble (Nat.succ n) m))=some (VV.bool (decide (Int.ofNat m>Int.ofNat n)))
    rw[sw]
    congr 2
    simp;omega
   ·rw[dr _ _ _ _ _ _ (by simp) (by simp)]
    show some (VV.bool (Nat.ble n m))=some (VV.bool (decide (Int.ofNat m≥Int.ofNat n)))
    rw[sw]
    congr 2
    simp
noncomputable def E7 (a:List UInt8):List UInt8->Bool:=
 @List.rec UInt8 (λ_=>List UInt8->Bool) (λb=>@List.rec UInt8 (λ_=>Bool) true (λ_ _ _=>false) b)
  (λx _ ih b=>@List.rec UInt8 (λ_=>Bool) false (λy ys _=>@Bool.rec (λ_=>Bool) false (ih ys) (Nat.beq x.toNat y.toNat)) b) a
theorem DC:∀(a b:List UInt8),E7 a b=(a==b):=by
 intro a
 induction a with
 |nil=>intro b;cases b<;>rfl
 |cons x a ih=>
  intro b
  cases b with
  |nil=>rfl
  |cons y b=>
   show(@Bool.rec (λ_=>Bool) false (E7 a b) (Nat.beq x.toNat y.toNat))=_
   rw[ih,tL]
   by_cases h:x=y
   ·subst h;simp
   ·have:¬x.toNat=y.toNat:=λe=>h (UInt8.toNat_inj.1 e)
    simp[this,h]
noncomputable def T7 (op:BinOp):List UInt8->List UInt8->Option VV->Option VV:=
 @BinOp.rec (λ_=>List UInt8->List UInt8->Option VV->Option VV)
  (λ_ _ z=>z) (λ_ _ z=>z) (λ_ _ z=>z) (λ_ _ z=>z) (λ_ _ z=>z) (λ_ _ z=>z) (λ_ _ z=>z) (λ_ _ z=>z) (λ_ _ z=>z) (λ_ _ z=>z) (λ_ _ z=>z)
  (λa b _=>some (.bool (E7 a b))) (λa b _=>some (.bool (@Bool.rec (λ_=>Bool) true false (E7 a b)))) (λ_ _ z=>z) (λ_ _ z=>z) (λ_ _ z=>z) (λ_ _ z=>z) op
theorem Mh (P:Program) (op:BinOp) (t:TypeId) (a b:List UInt8):T7 op a b (cD P op t (.str a) (.str b))=cD P op t (.str a) (.str b):=by
 cases op<;>first|rfl|skip
 ·show some (VV.bool (E7 a b))=_
  rw[DC];rfl
 ·show some (VV.bool (@Bool.rec (λ_=>Bool) true false (E7 a b)))=_
  rw[DC]
  show _=some (VV.bool (!(a==b)))
  cases(a==b)<;>rfl
noncomputable def Ma (P:Program) (op:BinOp) (t:TypeId) (x y:VV):Option VV:=
 @Option.rec (IntKind×Int) (λ_=>Option VV)
  (@Option.rec (List UInt8) (λ_=>Option VV) (cD P op t x y) (λa=>@Option.rec (List UInt8) (λ_=>Option VV) (cD P op t x y) (λb=>T7 op a b (cD P op t x y)) y.str?) x.str?)
  (λp=>@Option.rec (IntKind×Int) (λ_=>Option VV) (cD P op t x y) (λq=>@Bool.rec (λ_=>Option VV) (cD P op t x y) (QN op p.1 p.2 q.2 (cD P op t x y)) (Nat.beq (zU p.1) (zU q.1))) y.int?)
  x.int?
theorem Mb (P:Program) (op:BinOp) (t:TypeId) (x y:VV):Ma P op t x y=cD P op t x y:=by
 unfold Ma
 cases hx:x.int? with
 |none=>
  show(@Option.rec (List UInt8) (λ_=>Option VV) _ _ x.str?)=_
  cases hs:x.str? with
  |none=>rfl
  |some a=>
   show(@Option.rec (List UInt8) (λ_=>Option VV) _ _ y.str?)=_
   cases ht:y.str? with
   |none=>rfl
   |some b=>
    have h1:=VV.str?_some hs
    have h2:=VV.str?_some ht
    subst h1;subst h2
    exact Mh P op t a b
 |some p=>
  obtain⟨k,a⟩:=p
  show(@Option.rec (IntKind×Int) (λ_=>Option VV) _ _ y.int?)=_
  cases hy:y.int? with
  |none=>rfl
  |some q=>
   obtain⟨k',b⟩:=q
   show(@Bool.rec (λ_=>Option VV) _ (QN op k a b _) (Nat.beq (zU k) (zU k')))=_
   cases hk:Nat.beq (zU k) (zU k') with
   |false=>rfl
   |true=>
    have h1:=VV.int?_some hx
    have h2:=VV.int?_some hy
    have h3:=HJ hk
    subst h1;subst h2;subst h3
    exact Mf P op t k a b
end
end Go.Vv
