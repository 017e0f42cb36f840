/- Part of the proof of CheckTrees: plain laws and steps of its walks, for all arguments. -/
import Derived.Laws.BytesString
import Derived.MapKept
import Derived.Laws.MakeOwn
import Derived.Test.YtdjkoddnnogejaaGreatZVd
set_option linter.unusedSimpArgs false
set_option linter.unusedVariables false
set_option linter.unusedSectionVars false
namespace Go.Vv
section
variable{P:Program} {G:ab} {w:World}
theorem AQ {op:UnOp} {x v:VV} {a:Value} (hx:RV G x a) (hv:wi op x=some v):∃y,(Op.unary op a).run P w=.ok y w/\RV G v y:=by
 unfold wi at hv
 split at hv<;>first|(cases hv;done)|skip
 ·cases hx;cases hv;exact⟨_,by simp[Op.unary],.bool _⟩
 ·cases hx;cases hv;exact⟨_,by simp[Op.unary,Op.intArith],.int ..⟩
theorem uv {x v:VV} {a:Value} {i:Nat} (hx:RV G x a) (hv:kW x i=some v):∃y,(Instr.extract a i).run P w=.ok y w/\RV G v y:=by
 unfold kW at hv
 split at hv
 ·obtain⟨a,rfl,h⟩:=RV.iV.1 hx
  obtain⟨y,hy,hr⟩:=h.get hv
  have hy':a[i]?=some y:=by simpa using hy
  exact⟨y,by simp[Instr.extract,hy'],hr⟩
 ·cases hv
theorem nc {t:TypeId} {x v:VV} {a:Value} (hx:RV G x a) (hv:eW P t x=some v):∃y,(Instr.makeInterface t a).run P w=.ok y w/\RV G v y:=by
 unfold eW at hv
 split at hv<;>first|(cases hv;done)|skip
 rename_i d hd hu
 cases hv
 refine⟨.iface t a,?_,.iface hx⟩
 unfold Instr.makeInterface
 rw[Sem.run_bind,run_underlying hu]
 simp only[Result.andThen_ok]
 cases d<;>first|(exact(hd _ rfl).elim)|rfl
theorem vf {x v:VV} {a:Value} {xt asserted:TypeId} {ok:Bool} (hx:RV G x a) (hv:nT P x asserted ok=some v):
 ∃y,(Instr.typeAssert a xt asserted ok).run P w=.ok y w/\RV G v y:=by
 unfold nT at hv
 split at hv<;>first|(cases hv;done)|skip
 ·rename_i d t u hd hu
  cases hx
  rename_i xv hxv
  by_cases ht:t=asserted
  ·subst ht
   simp only[if_true,Option.some.injEq] at hv
   subst hv
   refine⟨if ok then .tuple #[xv,.bool true] else xv,?_,?_⟩
   ·unfold Instr.typeAssert
    rw[Sem.run_bind,run_underlying hu]
    simp only[Result.andThen_ok]
    cases d<;>first|(exact(hd _ rfl).elim)|simp
   ·cases ok
    ·simpa using hxv
    ·exact RV.iV.2 ⟨_,rfl,.cons hxv (.cons (.bool true) (.nil G))⟩
  ·simp only[ht,if_false] at hv
   cases ok with
   |false=>simp at hv
   |true=>
    simp only[if_true,Option.map_eq_some_iff] at hv
    obtain⟨z,hz,rfl⟩:=hv
    obtain⟨i,zx,_,_,_,hzr,hzrun⟩:=dV (w:=w) G hz
    refine⟨.tuple #[zx,.bool false],?_,RV.iV.2 ⟨_,rfl,.cons hzr (.cons (.bool false) (.nil G))⟩⟩
    unfold Instr.typeAssert
    rw[Sem.run_bind,run_underlying hu]
    simp only[Result.andThen_ok]
    cases d<;>first|(exact(hd _ rfl).elim)|simp[ht,hzrun]
 ·rename_i d hd hu
  cases hx
  cases ok with
  |false=>simp at hv
  |true=>
   simp only[if_true,Option.map_eq_some_iff] at hv
   obtain⟨z,hz,rfl⟩:=hv
   obtain⟨i,zx,_,_,_,hzr,hzrun⟩:=dV (w:=w) G hz
   refine⟨.tuple #[zx,.bool false],?_,RV.iV.2 ⟨_,rfl,.cons hzr (.cons (.bool false) (.nil G))⟩⟩
   unfold Instr.typeAssert
   rw[Sem.run_bind,run_underlying hu]
   simp only[Result.andThen_ok]
   cases d<;>first|(exact(hd _ rfl).elim)|simp[hzrun]
theorem oE {mx:Bool} {x y v:VV} {a b:Value} (hx:RV G x a) (hy:RV G y b) (hv:nV mx x y=some v):
 ∃z,(if mx then Builtin.max2 a b else Builtin.min2 a b).run P w=.ok z w/\RV G v z:=by
 unfold nV at hv
 split at hv
 ·cases hx;cases hy;cases hv
  cases mx
  ·exact⟨_,by simp[Builtin.min2];rfl,by simpa using RV.int ..⟩
  ·exact⟨_,by simp[Builtin.max2];rfl,by simpa using RV.int ..⟩
 ·cases hv
theorem uC {kind:TypeDesc} {k k':VV} {x x':Value} (hx:RV G k x) (hx':RV G k' x') {r:Bool} (hv:fC k k'=some r)
 (hkind:jI kind k=true):Instr.sameNow kind x x'=some r:=by
 unfold fC at hv
 split at hv
 ·cases hx;cases hx'
  split at hv
  ·rename_i hj;subst hj;cases hv
   cases kind<;>simp[jI] at hkind
   simp[Instr.sameNow]
  ·cases hv
 ·cases hx;cases hx';cases hv
  cases kind<;>simp[jI] at hkind
  rename_i s s'
  have:(s==s')=(s.data.toList==s'.data.toList):=by rw[beq_toListBytes,fY,fY]
  simp only[Instr.sameNow,this]
 ·cases hv
theorem rP {kind:TypeDesc} {k:VV} {x:Value} (hx:RV G k x) (hkind:jI kind k=true):
 ∀(es:List (VV×VV)) (ents:List MapEntry) (i:Nat) (r:Option (Nat×VV)),es.length=ents.length->
  (∀j (h:j<es.length) (h':j<ents.length),RV G es[j].1 ents[j].key/\RV G es[j].2 ents[j].val)->j5 k es i=some r->
  match r with
  |none=>Instr.findNow kind x ents i=some none
  |some (n,v)=>i<=n/\n<i+es.length/\∃y,Instr.findNow kind x ents i=some (some (n,y))/\RV G v y/\(es[n-i]?).map (·.2)=some v:=by
 intro es
 induction es with
 |nil=>
  intro ents i r hl _ hv
  have:ents=[]:=List.eq_nil_of_length_eq_zero (by simpa using hl.symm)
  subst this
  simp[j5] at hv;subst hv
  rfl
 |cons e es ih=>
  intro ents i r hl hr hv
  cases ents with
  |nil=>simp at hl
  |cons f ents=>
   have h0:=hr 0 (by simp) (by simp)
   simp at h0
   simp only[j5] at hv
   cases hs:fC k e.1 with
   |none=>simp[hs] at hv
   |some b=>
    have hsn:=uC hx h0.1 hs hkind
    cases b with
    |true=>
     simp[hs] at hv;subst hv
     refine⟨Nat.le_refl _,by simp,f.val,by simp[Instr.findNow,hsn],h0.2,by simp⟩
    |false=>
     simp[hs] at hv
     have:=ih ents (i+1) r (by simpa using hl) (λj hj hj'=>by have:=hr (j+1) (by simpa using hj) (by simpa using hj');simpa using this) hv
     cases r with
     |none=>simpa[Instr.findNow,hsn] using this
     |some q=>
      obtain⟨n,v⟩:=q
      obtain⟨h1,h2,y,h3,h4,h5⟩:=this
      refine⟨by omega,by simp;omega,y,by simp[Instr.findNow,hsn,h3],h4,?_⟩
      have:n-i=(n-(i+1))+1:=by omega
      rw[this,List.getElem?_cons_succ];exact h5
theorem oD {t e:TypeId} (h:kZ P t=some e):∃kt d,P.underlying t=some (.map kt e)/\P.underlying kt=some d/\((∃k,d=.int k)\/d=.string):=by
 unfold kZ at h
 split at h
 ·rename_i kt e' hu
  split at h
  ·rename_i j hk;cases h;exact⟨kt,_,hu,hk,.inl ⟨_,rfl⟩⟩
  ·rename_i hk;cases h;exact⟨kt,_,hu,hk,.inr rfl⟩
  ·cases h
 ·cases h
theorem oC {t kt e:TypeId} {d:TypeDesc} {k:VV} (hu:P.underlying t=some (.map kt e)) (hk:P.underlying kt=some d) (h:kY P t k=true):
 jI d k=true:=by
 unfold kY at h
 simpa[hu,hk] using h
theorem mw {kt:TypeId} {d:TypeDesc} (hk:P.underlying kt=some d) (hd:(∃k,d=.int k)\/d=.string) (empty:Bool) (x:Value):
 (Instr.checkKey empty 10000 kt x).run P w=.ok () w:=by
 show(Instr.checkKey empty (9999+1) kt x).run P w=.ok () w
 unfold Instr.checkKey
 rw[Sem.run_bind,run_underlying hk]
 rcases hd with⟨k,rfl⟩|rfl<;>rfl
theorem uq {h:aa} (hr:Rel G h w) {m:VV} {a:Value} (hm:RV G m a) {es:List (VV×VV)} (hes:iz m h=some es):
 ∃ents:Array MapEntry,es.length=ents.size/\(∀j (h:j<es.length) (h':j<ents.size),RV G es[j].1 ents[j].key/\RV G es[j].2 ents[j].val)/\
  (a=.map none/\ents=#[]\/∃b cl,a=.map (some b)/\w.heap[b]?=some (.map ents cl)):=by
 unfold iz at hes
 split at hes
 ·cases hm;cases hes
  exact⟨#[],rfl,λj h=>absurd h (Nat.not_lt_zero _),.inl ⟨rfl,rfl⟩⟩
 ·split at hes
  ·rename_i o _ es' hg
   cases hes
   cases hm with
   |zZ hd=>have:=(hr.dead _ hd).2;rw[hg] at this;cases this
   |map hφ=>
    obtain⟨y,hy,hat⟩:=hr.obj _ _ _ _ hφ
    rw[hg] at hy;cases hy
    obtain⟨ents,cl,hb,hsz,hall⟩:=hat
    exact⟨ents,hsz.symm,hall,.inr ⟨_,cl,rfl,hb⟩⟩
  ·cases hes
 ·cases hes
theorem ua {t kt e:TypeId} {d:TypeDesc} (hu:P.underlying t=some (.map kt e)) (hk:P.underlying kt=some d) (hd:(∃k,d=.int k)\/d=.string)
 {a x zx:Value} {ents:Array MapEntry} (ha:a=.map none/\ents=#[]\/∃b cl,a=.map (some b)/\w.heap[b]?=some (.map ents cl))
 (hz:(zeroValue e).run P w=.ok zx w) {r:Option (Nat×Value)} (hf:Instr.findNow d x ents.toList 0=some r) (ok:Bool):
 (Instr.lookup t a x ok).run P w=(match r with|some (_,v)=>.ok (if ok then .tuple #[v,.bool true] else v) w|none=>.ok (if ok then .tuple #[zx,.bool false] else zx) w):=by
 have hfk:(Instr.findKey kt x ents.toList).run P w=.ok r w:=by
  unfold Instr.findKey
  rw[Sem.run_bind,run_underlying hk]
  simp[hf]
 have hck:=λempty=>mw (P:=P) (w:=w) hk hd empty x
 unfold Instr.lookup
 rcases ha with⟨rfl,rfl⟩|⟨b,cl,rfl,hb⟩
 ·cases r with
  |none=>simp[run_underlying hu,hck,hfk,hz]
  |some q=>simp[run_underlying hu,hck,hfk]
 ·have hgo:=run_getObj_map (P:=P) hb
  cases r with
  |none=>simp[run_underlying hu,hck,hfk,hz,hgo]
  |some q=>simp[run_underlying hu,hck,hfk,hgo]
theorem vj {h:aa} (hr:Rel G h w) {t:TypeId} {m k v:VV} {a x:Value} {ok:Bool} (hm:RV G m a) (hx:RV G k x) (hv:hH P t m k ok h=some v):
 ∃y,(Instr.lookup t a x ok).run P w=.ok y w/\RV G v y:=by
 unfold hH at hv
 split at hv
 ·rename_i e he
  obtain⟨kt,d,hu,hk,hd⟩:=oD he
  split at hv
  ·rename_i hfit
   have hkind:=oC hu hk hfit
   split at hv
   ·rename_i es z hes hz
    obtain⟨i,zx,_,_,_,hzr,hzrun⟩:=dV (w:=w) G hz
    obtain⟨ents,hlen,hrel,ha⟩:=uq hr hm hes
    have hfs:=λr=>rP hx hkind es ents.toList 0 r (by simpa using hlen) (λj hj hj'=>by simpa using hrel j hj (by simpa using hj'))
    split at hv
    ·rename_i n v' hf
     cases hv
     obtain⟨_,_,y,h3,h4,_⟩:=hfs _ hf
     refine⟨_,ua hu hk hd ha hzrun h3 ok,?_⟩
     cases ok
     ·simpa using h4
     ·exact RV.iV.2 ⟨_,rfl,.cons h4 (.cons (.bool true) (.nil G))⟩
    ·rename_i hf
     cases hv
     have h3:=hfs _ hf
     refine⟨_,ua hu hk hd ha hzrun h3 ok,?_⟩
     cases ok
     ·simpa using hzr
     ·exact RV.iV.2 ⟨_,rfl,.cons hzr (.cons (.bool false) (.nil G))⟩
    ·cases hv
   ·cases hv
  ·cases hv
 ·cases hv
theorem AH {r:List VV} {b:UInt8} (h:rN r=some b):∃n:Int,r=[.int .u8 n]/\UInt8.ofNat n.toNat=b:=by
 unfold rN at h
 split at h
 ·split at h
  ·cases h;exact⟨_,rfl,rfl⟩
  ·cases h
 ·cases h
theorem BR:∀(es:List (List VV)) (bs:List UInt8),es.mapM rN=some bs->∃ns:List Int,es.flatten=ns.map (VV.int .u8)/\ns.map (λn=>UInt8.ofNat n.toNat)=bs/\ns.length=es.length:=by
 intro es
 induction es with
 |nil=>intro bs h;simp at h;subst h;exact⟨[],rfl,rfl,rfl⟩
 |cons r es ih=>
  intro bs h
  simp only[List.mapM_cons] at h
  cases hb:rN r with
  |none=>simp[hb] at h
  |some b=>
   cases hr:es.mapM rN with
   |none=>simp[hb,hr] at h
   |some bs'=>
    simp[hb,hr] at h
    subst h
    obtain⟨n,rfl,hn⟩:=AH hb
    obtain⟨ns,h1,h2,h3⟩:=ih bs' hr
    exact⟨n::ns,by simp[h1],by simp[h2,hn],by simp[h3]⟩
theorem F8 {k:IntKind}:∀(ns:List Int) (L:List Value),cO G (ns.map (VV.int k)) L->L=ns.map (Value.int k):=by
 intro ns
 induction ns with
 |nil=>intro L h;exact List.eq_nil_of_length_eq_zero (by simpa using h.1.symm)
 |cons n ns ih=>
  intro L h
  cases L with
  |nil=>have:=h.1;simp at this
  |cons x L=>
   have h0:=h.2 0 (by simp) (by simp)
   simp at h0
   cases h0
   rw[ih L (by simpa using h.drop 1)]
   rfl
theorem foldl_push (ns:List Int):∀(s:ByteArray),(ns.foldl (λr n=>r.push (UInt8.ofNat n.toNat)) s).data.toList=s.data.toList++ns.map (λn=>UInt8.ofNat n.toNat):=by
 induction ns with
 |nil=>intro s;simp
 |cons n ns ih=>
  intro s
  have hp:(s.push (UInt8.ofNat n.toNat)).data.toList=s.data.toList++[UInt8.ofNat n.toNat]:=by simp[ByteArray.push]
  rw[List.foldl_cons,ih,hp];simp
theorem um {h:aa} (hr:Rel G h w) {src dst:TypeId} {x v:VV} {a:Value} (hx:RV G x a) (hv:ew P src dst x h=some v):
 ∃y,(convert src dst a).run P w=.ok y w/\RV G v y:=by
 unfold ew at hv
 split at hv<;>first|(cases hv;done)|skip
 ·rename_i hs hd
  cases hx;cases hv
  exact⟨_,by simp[convert,run_underlying hs,run_underlying hd,Conv.intToInt],.int ..⟩
 ·rename_i d hs hd
  cases hx;cases hv
  exact⟨_,by simp[convert,run_underlying hs,run_underlying hd],.str _⟩
 ·rename_i x e hs hd hne
  split at hv
  ·rename_i he
   split at hv
   ·rename_i es hes
    simp only[Option.map_eq_some_iff] at hv
    obtain⟨bs,hbs,rfl⟩:=hv
    obtain⟨b,n,c,rfl,hn,hnc,hrow,L,hL,hone,hat⟩:=gx hr hx hes
    obtain⟨ns,h1,h2,h3⟩:=BR es bs hbs
    have hL':L=ns.map (Value.int .u8):=F8 ns L (by rw[<-h1];exact hL)
    rw[show(convert src dst (.slice b n c)).run P w=(Conv.bytesToString (.slice b n c)).run P w by simp[convert,run_underlying hs,run_underlying hd,run_underlying he]]
    cases b with
    |none=>
     have hn0:n=0:=by
      rcases hat with h0|⟨_,_,h0,_⟩
      ·exact h0
      ·cases h0
     have:bs=[]:=by
      rw[<-h2]
      have:ns=[]:=List.eq_nil_of_length_eq_zero (by omega)
      simp[this]
     subst this
     exact⟨.string .empty,by simp[Conv.bytesToString],RV.str .empty⟩
    |some a=>
     have hload:(loadCells a n).run P w=.ok (ns.map (Value.int .u8)).toArray w:=by
      rcases hat with h0|⟨bl,o,h0,hc⟩
      ·have:ns=[]:=List.eq_nil_of_length_eq_zero (by omega)
       subst this;subst h0
       simp[loadCells,loadCellsFrom]
      ·cases h0
       have:=kR (P:=P) hc 0 n (by rw[hL'];simp;omega)
       simp only[Nat.add_zero,List.drop_zero] at this
       rw[this,hL',List.take_of_length_le (by simp;omega)]
     refine⟨_,run_bytesToString w a n c ns hload,?_⟩
     have e1:(ns.foldl (λr n=>r.push (UInt8.ofNat n.toNat)) ByteArray.empty).data.toList=bs:=by rw[foldl_push,h2];simp
     rw[<-e1]
     exact .str _
   ·cases hv
  ·cases hv
theorem yn {h:aa} (hr:Rel G h w) {src dst:TypeId} {x:VV} {a:Value} (hx:RV G x a) (hv:nf P src dst x=true):
 ∃w',(convert src dst a).run P w=.ok a w'/\Rel G h w'/\Ext G G w w':=by
 unfold nf at hv
 simp only[Bool.and_eq_true,beq_iff_eq] at hv
 obtain⟨rfl,hv⟩:=hv
 split at hv
 ·rename_i e v0 r0 es cap hs
  split at hv
  ·rename_i he
   cases hx with
   |vs vals h1 h2 h3 h4 h5 h6 h7=>
    rename_i b base n c a
    obtain rfl:=h7.resolve_left (by simp)
    have hn:0<n:=by have:=h3 0 (by simp);simp at this;omega
    have hI:=h4 0 0 (by simp) hn
    simp only[Nat.zero_mul,Nat.add_zero] at hI
    have hcell:=hr.kq _ _ _ hI
    obtain⟨arr,t,fz,hb⟩:∃arr t fz,w.heap[b]?=some (.cells arr t fz):=by
     unfold World.cell? at hcell
     simp only at hcell
     split at hcell
     ·rename_i arr t fz hb;exact⟨arr,t,fz,hb⟩
     ·cases hcell
    have hsh:w.shape? b=some (t,arr.size):=by simp[World.shape?,hb]
    have hother:∀b',b'≠b->(w.freeze ⟨b,arr.size,none⟩ 1).heap[b']?=w.heap[b']?:=by
     intro b' hne
     simp[World.freeze,Array.getElem?_modify]
     intro e;exact absurd e.symm hne
    have hcells:∀ad,(w.freeze ⟨b,arr.size,none⟩ 1).cell? ad=w.cell? ad:=by
     intro ad
     by_cases hne:ad.block=b
     ·simp only[World.freeze,World.cell?,Array.getElem?_modify,hne,if_true,Nat.one_ne_zero,if_false]
      rw[hb]
      obtain⟨lo,hi⟩:=fz
      rfl
     ·exact World.cell?_of_block (hother _ hne)
    refine⟨w.freeze ⟨b,arr.size,none⟩ 1,?_,Rel0.pair hr.mx ⟨λb' i v hv'=>by rw[hcells];exact hr.kq b' i v hv',λo b' base' k hm=>?_,hr.inj,hr.sep,hr.iD,hr.dead,hr.num,hr.fresh,by simpa[World.freeze] using hr.low⟩
     (.mk' ⟨.refl G,by simp[World.freeze],λb' _ _ hno=>hother b' (λe=>by
       subst e
       rcases hno with hno|hno
       ·rw[hno] at hI;cases hI
       ·have:=(h2 _ rfl).2
        rcases this with h9|h9
        ·cases h9
        ·omega),λo m hm=>.inl ⟨o,m,hm,rfl⟩,λ_ i v hv'=>.inl ⟨i,v,hv'⟩,rfl,rfl,rfl⟩ (.refl G))⟩
    ·simp[convert,run_underlying hs,run_underlying he,markStringish,hsh]
    ·obtain⟨y,hy,hat⟩:=hr.obj o b' base' k hm
     refine⟨y,hy,hat.mono (.refl G) (hother b' λe=>?_)⟩
     have:=hr.sep o _ base hm
     simp only at this
     rw[e,hI] at this
     cases this
  ·cases hv
 ·cases hv
theorem cO.tE {fr:Fr} {ρ:Operand->Value} {xs:Array Operand} (h:∀x∈xs,RV G (ev fr x) (ρ x)):cO G (xs.toList.map (ev fr)) (xs.map ρ).toList:=by
 refine⟨by simp,λj h1 h2=>?_⟩
 have hj:j<xs.size:=by simpa using h1
 have:=h xs[j] (by simp)
 simpa using this
theorem rV {h:aa} (hr:Rel G h w) {o:Oper} {fr:Fr} {ρ:Operand->Value} (hρ:∀x∈o.op.operands,RV G (ev fr x) (ρ x)) {v:VV} (hv:aK P o.op fr h=some v):
 ∃x w' G',(execOp ρ o).run P w=.ok (.value x) w'/\RV G' v x/\Rel G' h w'/\Ext G G' w w'/\G'.φ=G.φ/\G'.D=G.D:=by
 have plain:∀{s:Sem Value} {y:Value},(execOp ρ o)=(do pure (.value (<-s)))->s.run P w=.ok y w->RV G v y->
  ∃x w' G',(execOp ρ o).run P w=.ok (.value x) w'/\RV G' v x/\Rel G' h w'/\Ext G G' w w'/\G'.φ=G.φ/\G'.D=G.D:=by
  intro s y he hs hy
  exact⟨y,w,G,by rw[he,Sem.run_bind,hs];rfl,hy,hr,.refl G w,rfl,rfl⟩
 obtain⟨dst,op,type,pos,after,guard⟩:=o
 unfold aK at hv
 simp only at hv hρ
 split at hv
 ·
   cases hv
   exact⟨_,w,G,rfl,hρ _ (by simp[Op.operands]),hr,.refl G w,rfl,rfl⟩
 ·cases hv
  exact⟨_,w,G,rfl,hρ _ (by simp[Op.operands]),hr,.refl G w,rfl,rfl⟩
 ·
   rename_i c a b
   split at hv
   ·rename_i cb hc
    cases hv
    have h1:=hρ c (by simp[Op.operands])
    have h2:=hρ a (by simp[Op.operands])
    have h3:=hρ b (by simp[Op.operands])
    rw[hc] at h1
    generalize hcv:ρ c=cv at h1
    cases h1
    refine⟨if cb then ρ a else ρ b,w,G,?_,?_,hr,.refl G w,rfl,rfl⟩
    ·simp[execOp,hcv,asBool]
    ·cases cb<;>simp[h2,h3]
   ·cases hv
 ·
   rename_i t ps
   obtain⟨y,hy,hrv⟩:=yc (G:=G) (w:=w) (ps:=ps.map λp=>(p.1,ρ p.2)) (by simp) (λj h1 h2=>by
    have hj:j<ps.size:=by simpa using h1
    have:=hρ ps[j].2 (by simp only[Op.operands];exact Array.mem_def.2 (List.mem_map.2 ⟨ps[j],by simp,rfl⟩))
    simpa using this) hv
   exact plain rfl hy hrv
 ·
   rename_i t n ps
   obtain⟨y,w',G',hy,hrv,hr',he,e1,e2⟩:=qj (G:=G) (w:=w) hr (ps:=ps.map λp=>(p.1,ρ p.2)) (by simp) (λj h1 h2=>by
    have hj:j<ps.size:=by simpa using h1
    have:=hρ ps[j].2 (by simp only[Op.operands];exact Array.mem_def.2 (List.mem_map.2 ⟨ps[j],by simp,rfl⟩))
    simpa using this) hv
   refine⟨y,w',G',?_,hrv,hr',he,e1,e2⟩
   show(do pure (Next.value (<-Instr.buildSlice t n (ps.map λp=>(p.1,ρ p.2)))):Sem Next).run P w=_
   rw[Sem.run_bind,hy];rfl
 ·
   obtain⟨y,hy,hrv⟩:=rQ (P:=P) hr (hρ _ (by simp[Op.operands])) hv
   exact plain rfl hy hrv
 ·
   obtain⟨hy,hrv⟩:=sm (P:=P) (w:=w) ρ _ ⟨dst,_,type,pos,after,guard⟩ rfl rfl (hρ _ (by simp[Op.operands])) hv
   exact⟨_,w,G,hy,hrv,hr,.refl G w,rfl,rfl⟩
 ·
   obtain⟨y,hy,hrv⟩:=x9 (P:=P) (w:=w) (hρ _ (by simp[Op.operands])) (hρ _ (by simp[Op.operands])) hv
   exact plain rfl hy hrv
 ·obtain⟨y,hy,hrv⟩:=AQ (P:=P) (w:=w) (hρ _ (by simp[Op.operands])) hv
  exact plain rfl hy hrv
 ·split at hv
  ·rename_i hmk
   cases hv
   obtain⟨w',h1,h2,h3⟩:=yn (P:=P) hr (hρ _ (by simp[Op.operands])) hmk
   refine⟨_,w',G,?_,hρ _ (by simp[Op.operands]),h2,h3,rfl,rfl⟩
   show(do pure (Next.value (<-convert _ _ _)):Sem Next).run P w=_
   rw[Sem.run_bind,h1];rfl
  ·obtain⟨y,hy,hrv⟩:=um (P:=P) hr (hρ _ (by simp[Op.operands])) hv
   exact plain rfl hy hrv
 ·obtain⟨y,hy,hrv⟩:=nc (P:=P) (w:=w) (hρ _ (by simp[Op.operands])) hv
  exact plain rfl hy hrv
 ·
   rename_i f a b
   cases hv
   have ha:=cO.tE (G:=G) (fr:=fr) (ρ:=ρ) (xs:=a) (λx hx=>hρ x (by simp[Op.operands,hx]))
   have hb:=cO.tE (G:=G) (fr:=fr) (ρ:=ρ) (xs:=b) (λx hx=>hρ x (by simp[Op.operands,hx]))
   refine⟨.func f (a.map ρ) (b.map ρ),w,G,rfl,.fn (by simp) (by simp) (λj h1 h2=>?_) (λj h1 h2=>?_),hr,.refl G w,rfl,rfl⟩
   ·have:=ha.2 j h1 (by simpa using h2);rwa [Array.getElem_toList] at this
   ·have:=hb.2 j h1 (by simpa using h2);rwa [Array.getElem_toList] at this
 ·
   rename_i t x lo hi mx
   have ho:∀q:Option Operand,(∀y,q=some y->RV G (ev fr y) (ρ y))->CV G (q.map (ev fr)) (q.map ρ):=by
    intro q hq
    cases q with
    |none=>exact trivial
    |some y=>exact hq y rfl
   obtain⟨y,hy,hrv⟩:=yq (P:=P) (w:=w) (hρ x (by simp[Op.operands])) (ho lo λy e=>hρ y (by simp[Op.operands,e])) (ho hi λy e=>hρ y (by simp[Op.operands,e]))
    (ho mx λy e=>hρ y (by simp[Op.operands,e])) hv
   exact plain rfl hy hrv
 ·obtain⟨y,hy,hrv⟩:=ra (P:=P) (w:=w) (hρ _ (by simp[Op.operands])) hv
  exact plain rfl hy hrv
 ·obtain⟨y,hy,hrv⟩:=uw (P:=P) (w:=w) (hρ _ (by simp[Op.operands])) hv
  exact plain rfl hy hrv
 ·obtain⟨y,hy,hrv⟩:=re (P:=P) (w:=w) (hρ _ (by simp[Op.operands])) (hρ _ (by simp[Op.operands])) hv
  exact plain rfl hy hrv
 ·
   split at hv
   ·rename_i hu
    obtain⟨y,hy,hrv⟩:=yh (P:=P) (w:=w) hu (hρ _ (by simp[Op.operands])) (hρ _ (by simp[Op.operands])) hv
    exact plain rfl hy hrv
   ·cases hv
 ·obtain⟨y,hy,hrv⟩:=vj (P:=P) hr (hρ _ (by simp[Op.operands])) (hρ _ (by simp[Op.operands])) hv
  exact plain rfl hy hrv
 ·obtain⟨y,hy,hrv⟩:=vf (P:=P) (w:=w) (hρ _ (by simp[Op.operands])) hv
  exact plain rfl hy hrv
 ·obtain⟨y,hy,hrv⟩:=uv (P:=P) (w:=w) (hρ _ (by simp[Op.operands])) hv
  exact plain rfl hy hrv
 ·
   rename_i x t
   obtain⟨y,hy,hrv⟩:=Cy (P:=P) (ty:=type) hr (hρ x (by simp[Op.operands,Call.operands])) hv
   refine⟨y,w,G,?_,hrv,hr,.refl G w,rfl,rfl⟩
   simp[execOp,resolve,invoke,builtin,hy]
 ·
   rename_i x z ts
   obtain⟨y,hy,hrv⟩:=oE (P:=P) (w:=w) (mx:=false) (hρ x (by simp[Op.operands,Call.operands])) (hρ z (by simp[Op.operands,Call.operands])) hv
   refine⟨y,w,G,?_,hrv,hr,.refl G w,rfl,rfl⟩
   simp only[Bool.false_eq_true,if_false] at hy
   simp[execOp,resolve,invoke,builtin,Builtin.min_,hy]
 ·
   rename_i x z ts
   obtain⟨y,hy,hrv⟩:=oE (P:=P) (w:=w) (mx:=true) (hρ x (by simp[Op.operands,Call.operands])) (hρ z (by simp[Op.operands,Call.operands])) hv
   refine⟨y,w,G,?_,hrv,hr,.refl G w,rfl,rfl⟩
   simp only[if_true] at hy
   simp[execOp,resolve,invoke,builtin,Builtin.max_,hy]
 ·cases hv
end
section
variable{P:Program} {G:ab} {w:World}
theorem Rel.rewrite {h:aa} (hr:Rel G h w) {o b base k:Nat} (hφ:G.φ o=some (b,base,k)) {x:dC} {w':World}
 (hat:mo G w' b base k x) (hother:∀b',b'≠b->w'.heap[b']?=w.heap[b']?) (hsz:w'.heap.size=w.heap.size) (hos:w'.os=w.os)
 (ht:w'.tape=w.tape) (hout:w'.output=w.output):Rel G (h.set o x) w'/\Ext G G w w':=by
 refine Rel0.pair hr.mx ⟨?_,?_,hr.inj,hr.sep,hr.iD,?_,hr.num,λo' ho'=>by rw[aa.aO _ _ (λe=>by subst e;exact absurd (hr.iD _ _ hφ) (Nat.not_lt.2 ho'))];exact hr.fresh o' ho',by rw[hsz];exact hr.low⟩ (.mk' ⟨.refl G,by omega,?_,λo m hm=>.inl ⟨o,m,hm,rfl⟩,λ_ i v h=>.inl ⟨i,v,h⟩,hos,ht,hout⟩ (.refl G))
 ·intro b' i v hv
  have hne:b'≠b:=by
   rintro rfl
   have:=hr.sep o _ i hφ
   simp only at this
   rw[this] at hv;cases hv
  rw[<-hr.kq b' i v hv]
  exact World.cell?_of_block (hother b' hne)
 ·intro o' b' base' k' hm
  by_cases ho:o'=o
  ·subst ho
   rw[hφ] at hm;cases hm
   exact⟨x,aa.bQ ..,hat⟩
  ·obtain⟨y,hy,hyt⟩:=hr.obj o' b' base' k' hm
   refine⟨y,by rw[aa.aO _ _ ho];exact hy,hyt.mono (.refl G) (hother b' ?_)⟩
   exact hr.inj o' o _ _ hm hφ ho
 ·intro o' hd
  refine⟨(hr.dead o' hd).1,?_⟩
  by_cases ho:o'=o
  ·subst ho
   obtain⟨y,hy,hyt⟩:=hr.obj _ _ _ _ hφ
   rw[(hr.dead _ hd).2] at hy;cases hy
   exact hyt.elim
  ·rw[aa.aO _ _ ho];exact(hr.dead o' hd).2
 ·intro b' _ hn _
  exact hother b' (λe=>hn o _ hφ e.symm)
theorem ij {c:List VV} {L:List Value} (hc:cO G c L) (h1:∀u∈L,u.oneCell'=true) {b base k:Nat} {arr:Array Value} {t:TypeId}
 (hb:w.heap[b]?=some (.cells arr t (0,0))) (hk:base+k<=arr.size) (hl:c.length<=k) (hL:∀j u,L[j]?=some u->arr[base+j]?=some u):mo G w b base k (.cells c):=by
 refine⟨arr,t,hb,hk,hl,λj hj=>?_⟩
 have hj':j<L.length:=hc.1▸hj
 exact⟨L[j],hL j _ (by simp[hj']),hc.2 j hj hj',h1 _ (by simp)⟩
theorem yu {h h':aa} (hr:Rel G h w) {t:TypeId} {p v:VV} {a x:Value} (hp:RV G p a) (hx:RV G v x) (hv:nj P t p v h=some h'):
 ∃w',(Instr.storeAt t a x).run P w=.ok () w'/\Rel G h' w'/\Ext G G w w':=by
 unfold nj at hv
 split at hv
 ·rename_i o off
  split at hv
  ·rename_i c hg
   split at hv
   ·rename_i hc
    obtain⟨hc1,hc0,hc2,hc3⟩:=hc
    cases hv
    obtain⟨hxc,hx1⟩:=hx.cells hc3
    cases hp with
    |tS hd=>have:=(hr.dead o hd).2;rw[hg] at this;cases this
    |ptr hφ=>
     rename_i b base k
     obtain⟨arr,t',h1,h2,h3,L,hL,hone,hat,hLeq⟩:=nJ hr hφ hg
     have hlen:x.cells.toList.length=v.cells.length:=hxc.1.symm
     have hst:=run_storeCells_at P b (base+off) t' x.cells.toList 0 arr w h1 (by omega) hx1
     simp only[Nat.add_zero] at hst
     have hLl:L.length=c.length:=hL.1.symm
     obtain⟨i,hi⟩:=k9 hc0
     have hsize:=cd (w:=w) hi
     have hrun:(Instr.storeAt t (.pointer (some ⟨b,base+off,none⟩)) x).run P w=.ok () (w.setRow b (arr.toList.take (base+off)++x.cells.toList++arr.toList.drop (base+off+x.cells.toList.length)).toArray):=by
      have hcs:x.cells.size=cE P t:=by rw[<-hc1,<-hlen];simp
      simp[Instr.storeAt,Instr.sureAddr,storeVar,hsize,hcs]
      simpa[hcs] using hst
     refine⟨_,hrun,?_⟩
     refine hr.rewrite hφ ?_ (λb' hb'=>setRow_other w b b' _ hb') (by simp) rfl rfl rfl
     refine ij (L:=oh L off x.cells.toList) (hL.dQ hxc off) ?_ (setRow_heap w b arr _ t' _ h1) ?_ ?_ ?_
     ·intro u hu
      simp only[oh,List.mem_append] at hu
      rcases hu with(hu|hu)|hu
      ·exact hone u (List.mem_of_mem_take hu)
      ·exact hx1 u hu
      ·exact hone u (List.mem_of_mem_drop hu)
     ·simp only[List.size_toArray,List.length_append,List.length_take,List.length_drop,Array.length_toList];omega
     ·rw[rE hc2];exact h3
     ·intro j u hu
      rw[getElem?_overV _ _ _ _ (by omega)] at hu
      have key:=getElem?_overV arr.toList x.cells.toList (base+off) (base+j) (by have e:arr.toList.length=arr.size:=Array.length_toList;omega)
      simp only[oh] at key
      simp only[List.getElem?_toArray]
      rw[key]
      split at hu
      ·rw[if_pos (by omega)]
       rw[show base+j-(base+off)=j-off by omega];exact hu
      ·rw[if_neg (by omega)]
       have hjc:j<c.length:=by rw[<-hLl];exact(List.getElem?_eq_some_iff.1 hu).1
       rw[hLeq,List.getElem?_take,if_pos hjc,List.getElem?_drop] at hu
       exact hu
   ·cases hv
  ·cases hv
 ·cases hv
theorem AP {k k':VV} {x x':Value} (hx:RV G k x) (hx':RV G k' x') (hv:fC k k'=some true):x'=x/\∀n,Instr.sameBits n x x=true:=by
 unfold fC at hv
 split at hv
 ·cases hx;cases hx'
  split at hv
  ·rename_i hj;subst hj
   simp at hv;subst hv
   exact⟨rfl,λn=>by cases n<;>simp[Instr.sameBits]⟩
  ·cases hv
 ·cases hx;cases hx'
  rename_i s s'
  simp at hv
  have:s=s':=by
   apply ByteArray.ext
   exact hv
  subst this
  have hs:(s==s)=true:=by rw[beq_toListBytes];simp
  exact⟨rfl,λn=>by cases n<;>simp[Instr.sameBits,hs]⟩
 ·cases hv
theorem FN {k:VV}:∀(es:List (VV×VV)) (i n:Nat) (v:VV),j5 k es i=some (some (n,v))->i<=n/\∃e,es[n-i]?=some e/\fC k e.1=some true:=by
 intro es
 induction es with
 |nil=>intro i n v h;simp[j5] at h
 |cons e es ih=>
  intro i n v h
  simp only[j5] at h
  cases hs:fC k e.1 with
  |none=>simp[hs] at h
  |some b=>
   cases b with
   |true=>simp[hs] at h;obtain⟨rfl,_⟩:=h;exact⟨Nat.le_refl _,e,by simp,hs⟩
   |false=>
    simp[hs] at h
    obtain⟨h1,e',h2,h3⟩:=ih (i+1) n v h
    refine⟨by omega,e',?_,h3⟩
    rw[show n-i=(n-(i+1))+1 by omega,List.getElem?_cons_succ];exact h2
def tD (r:Option (Nat×Value)) (ents:Array MapEntry) (cl:Nat) (x y:Value):Obj:=
 match r with
 |some (n,_)=>.map (ents.modify n λe=>{e with key:=x,val:=y}) cl
 |none=>.map (ents.push {key:=x,val:=y,born:=cl}) (cl+1)
theorem kS {t kt e:TypeId} {d:TypeDesc} (hu:P.underlying t=some (.map kt e)) (hk:P.underlying kt=some d) (hd:(∃k,d=.int k)\/d=.string)
 {b cl:Nat} {x y:Value} {ents:Array MapEntry} (hb:w.heap[b]?=some (.map ents cl)) {r:Option (Nat×Value)} (hf:Instr.findNow d x ents.toList 0=some r)
 (hkey:∀n v,r=some (n,v)->∃en,ents[n]?=some en/\en.key=x/\Instr.sameBits 10000 x x=true):
 (Instr.mapUpdate t (.map (some b)) x y).run P w=.ok () {w with heap:=w.heap.setIfInBounds b (tD r ents cl x y)}:=by
 have hfk:(Instr.findKey kt x ents.toList).run P w=.ok r w:=by
  unfold Instr.findKey
  rw[Sem.run_bind,run_underlying hk]
  simp[hf]
 have hck:=mw (P:=P) (w:=w) hk hd false x
 have hset:=λo=>MapKept.run_setObj_map (P:=P) o hb
 unfold Instr.mapUpdate
 cases r with
 |none=>simp[run_underlying hu,run_getObj_map (P:=P) hb,hck,hfk,hset,tD]
 |some q=>
  obtain⟨n,v⟩:=q
  obtain⟨en,h1,h2,h3⟩:=hkey n v rfl
  simp[run_underlying hu,run_getObj_map (P:=P) hb,hck,hfk,h1,h2,Instr.keyThatStays,h3,hset,tD]
theorem k7 {h h':aa} (hr:Rel G h w) {t:TypeId} {m k v:VV} {a x y:Value} (hm:RV G m a) (hx:RV G k x) (hy:RV G v y) (hv:fH P t m k v h=some h'):
 ∃w',(Instr.mapUpdate t a x y).run P w=.ok () w'/\Rel G h' w'/\Ext G G w w':=by
 unfold fH at hv
 split at hv
 ·rename_i e o he
  obtain⟨kt,d,hu,hk,hd⟩:=oD he
  split at hv
  ·rename_i hfit
   have hkind:=oC hu hk hfit
   split at hv
   ·rename_i es hg
    cases hm with
    |zZ hdd=>have:=(hr.dead _ hdd).2;rw[hg] at this;cases this
    |map hφ=>
     rename_i b base k'
     obtain⟨z,hz,hat⟩:=hr.obj _ _ _ _ hφ
     rw[hg] at hz;cases hz
     obtain⟨ents,cl,hb,hsz,hall⟩:=hat
     have hbl:b<w.heap.size:=(Array.getElem?_eq_some_iff.1 hb).1
     have hfs:=λr=>rP hx hkind es ents.toList 0 r (by simpa using hsz.symm) (λj hj hj'=>by simpa using hall j hj (by simpa using hj'))
     have hother:∀o',∀b',b'≠b->({w with heap:=w.heap.setIfInBounds b o'}:World).heap[b']?=w.heap[b']?:=λo' b' hb'=>(MapKept.heap_set (o':=o') hb).2 b' hb'
     have hsame:∀o',({w with heap:=w.heap.setIfInBounds b o'}:World).heap[b]?=some o':=λo'=>(MapKept.heap_set hb).1
     split at hv
     ·rename_i n v' hf
      cases hv
      obtain⟨_,hn,y',h3,_,_⟩:=hfs _ hf
      obtain⟨_,e',h5,h6⟩:=FN _ _ _ _ hf
      simp only[Nat.sub_zero,Nat.zero_add] at h5 hn
      obtain⟨hn',rfl⟩:=List.getElem?_eq_some_iff.1 h5
      have hn2:n<ents.size:=by omega
      obtain⟨hkx,hbits⟩:=AP hx (hall n hn' hn2).1 h6
      refine⟨_,kS (y:=y) hu hk hd hb h3 (λn' v'' hq=>by cases hq;exact⟨ents[n],by simp[hn2],hkx,hbits _⟩),hr.rewrite hφ ?_ (hother _) (by simp) rfl rfl rfl⟩
      refine⟨_,cl,hsame _,by simp[hsz],λj hj hj'=>?_⟩
      simp only[Array.getElem_modify,List.getElem_set]
      split
      ·exact⟨hx,hy⟩
      ·exact hall j (by simpa using hj) (by simpa using hj')
     ·rename_i hf
      cases hv
      have h3:=hfs _ hf
      refine⟨_,kS (y:=y) hu hk hd hb h3 (λn' v'' hq=>by cases hq),hr.rewrite hφ ?_ (hother _) (by simp) rfl rfl rfl⟩
      refine⟨_,cl+1,hsame _,by simp[hsz],λj hj hj'=>?_⟩
      by_cases hjl:j<es.length
      ·rw[List.getElem_append_left hjl,Array.getElem_push_lt (by omega)]
       exact hall j hjl (by omega)
      ·have hje:j=es.length:=by simp at hj;omega
       subst hje
       rw[List.getElem_append_right (by omega)]
       simp[<-hsz]
       exact⟨hx,hy⟩
     ·cases hv
   ·cases hv
  ·cases hv
 ·cases hv
def Th (G:ab) (w:World) (f:Nat->VV) (x:dC) (y:Value) (B:Obj) (k:Nat):Prop:=
 ∀(G':ab) (i:Nat) (w':World),G.Le G'->w'.heap[w.heap.size]?=some B->G'.φ i=some (w.heap.size,0,k)->RV G' (f i) y/\mo G' w' w.heap.size 0 k x
theorem sZ {v:VV} {x:Value} (hx:RV G v x) (ht:v.gh=false) (e:TypeId):
 Th G w (λo=>.ptr o 0) (.cells v.cells) (.pointer (some ⟨w.heap.size,0,none⟩)) (.cells x.cells e) x.cells.size:=by
 intro G' i w' hle hb hφ
 obtain⟨hc,h1⟩:=hx.cells ht
 refine⟨.ptr hφ,ij (hc.mono hle) h1 hb (by omega) (by rw[hc.1];simp) (λj u hu=>by simpa using hu)⟩
theorem uz {o:Oper} {fr:Fr} {ρ:Operand->Value} (hρ:∀x∈o.op.operands,RV G (ev fr x) (ρ x)) {f:Nat->VV} {x:dC} (hv:fT P o.op fr=some (f,x)):
 ∃y B k,(execOp ρ o).run P w=.ok (.value y) (w.alloc B)/\Th G w f x y B k:=by
 obtain⟨dst,op,type,pos,after,guard⟩:=o
 unfold fT at hv
 simp only at hv hρ
 split at hv
 ·rename_i t
  cases hz:eA P t with
  |none=>simp[hz] at hv
  |some z=>
   simp[hz] at hv
   obtain⟨rfl,rfl⟩:=hv
   obtain⟨i,zx,hi,hzx,_,hzr,hzrun⟩:=dV (w:=w) G hz
   exact⟨_,_,_,by simp[execOp,Instr.alloc,hzrun,newVar,newRow],sZ hzr (j7 hz) t⟩
 ·rename_i t x'
  split at hv
  ·cases hv
  ·rename_i ht
   cases hv
   have hx:=hρ x' (by simp[Op.operands])
   exact⟨_,_,_,by simp[execOp,Instr.box,newVar,newRow],sZ hx (by simpa using ht) t⟩
 ·cases hv
  refine⟨_,_,0,by simp[execOp,Instr.makeMap],λG' i w' hle hb hφ=>⟨.map hφ,#[],0,hb,rfl,λj h=>absurd h (Nat.not_lt_zero _)⟩⟩
 ·rename_i t l c
  have hl:=hρ l (by simp[Op.operands])
  have hc:=hρ c (by simp[Op.operands])
  unfold lV at hv
  split at hv
  ·rename_i e kl l' kc c' he hel hec
   split at hv
   ·rename_i z hz
    split at hv
    ·rename_i hcond
     obtain⟨h1,h2,h3,h4,h5,h6⟩:=hcond
     cases hv
     rw[hel] at hl;rw[hec] at hc
     generalize hlv:ρ l=lv at hl
     generalize hcv:ρ c=cv at hc
     cases hl;cases hc
     obtain⟨i,zx,hi,hzx,_,hzr,_⟩:=dV (w:=w) G hz
     have hs:cE P e=i.size:=by simp[cE,hi]
     have hbb:dy P e=i.bytes:=by simp[dy,hi]
     have hrun:=run_make (P:=P) w t e i zx (jG he) hi hzx kl kc l' c' h1 h2 (by rw[<-hbb];omega) h3
     obtain⟨hzc,hz1⟩:=hzr.cells (j7 hz)
     have hzl:zx.cells.size=i.size:=by have:=hzc.1;simp at this;omega
     have hpos:0<zx.cells.size:=by omega
     have e1:madeCells zx.cells (c'.toNat*i.size)=(Array.range (c'.toNat*zx.cells.size)).map (zx.cells[·%zx.cells.size]!):=by rw[<-hzl];rfl
     refine⟨_,_,c'.toNat*i.size,by simp[execOp,hlv,hcv,hrun];exact⟨rfl,rfl⟩,λG' j w' hle hb hφ=>⟨?_,?_⟩⟩
     ·refine .ref (a:=⟨w.heap.size,0,none⟩) hφ (by omega) (λk' hk'=>by cases hk';rfl) (.inr ⟨rfl,by rw[hs];omega⟩) rfl
     ·refine ij (L:=(madeCells zx.cells (c'.toNat*i.size)).toList) ?_ ?_ hb ?_ ?_ (λj u hu=>by simpa using hu)
      ·rw[e1];exact(cO.Po hzc c'.toNat hpos).mono hle
      ·rw[e1];exact wo hz1 c'.toNat hpos
      ·rw[e1];simp[hzl]
      ·rw[kj,h5,hs];exact Nat.le_refl _
    ·cases hv
   ·cases hv
  ·cases hv
 ·cases hv
end
section
variable{P:Program} {G:ab} {w:World}
def ab.kill (G:ab) (o:Nat):ab:={G with φ:=λi=>if i=o then none else G.φ i,D:=λi=>i=o\/G.D i}
theorem ab.kill_φ {G:ab} {o i:Nat} {m:Nat×Nat×Nat} (h:(G.kill o).φ i=some m):i≠o/\G.φ i=some m:=by
 unfold ab.kill at h
 by_cases hi:i=o
 ·simp[hi] at h
 ·exact⟨hi,by simpa[hi] using h⟩
theorem ab.xf (G:ab) (o:Nat):G.Le (G.kill o):=
 ⟨λi m hm=>by
  by_cases hi:i=o
  ·exact .inr (.inl hi)
  ·exact .inl (by simp[ab.kill,hi,hm]),λi hd=>.inr hd,λ_ _ _ h=>h,rfl⟩
theorem Rel.kill {h:aa} (hr:Rel G h w) {o:Nat} (hlt:o<h.next):Rel (G.kill o) (h.set o .dead) w/\Ext G (G.kill o) w w:=by
 refine Rel0.pair hr.mx ⟨hr.kq,?_,?_,?_,?_,?_,hr.num,λo' ho'=>by rw[aa.aO _ _ (λe=>by subst e;exact absurd hlt (Nat.not_lt.2 ho'))];exact hr.fresh o' ho',hr.low⟩ (.mk' ⟨G.xf o,Nat.le_refl _,λ_ _ _ _=>rfl,λi m hm=>.inl ⟨i,m,(ab.kill_φ hm).2,rfl⟩,λ_ i v h=>.inl ⟨i,v,h⟩,rfl,rfl,rfl⟩ ⟨Nat.le_refl _,λi _ hi=>by simp[ab.kill,hi]⟩)
 ·intro i b base k hm
  obtain⟨hi,hm⟩:=ab.kill_φ hm
  obtain⟨x,hx,hat⟩:=hr.obj i b base k hm
  exact⟨x,by rw[aa.aO _ _ hi];exact hx,hat.mono (G.xf o) rfl⟩
 ·intro i i' m m' h1 h2 hne
  exact hr.inj i i' m m' (ab.kill_φ h1).2 (ab.kill_φ h2).2 hne
 ·intro i m off hm
  exact hr.sep i m off (ab.kill_φ hm).2
 ·intro i m hm
  exact hr.iD i m (ab.kill_φ hm).2
 ·intro i hd
  by_cases hi:i=o
  ·subst hi;exact⟨hlt,aa.bQ ..⟩
  ·rcases hd with hd|hd
   ·exact absurd hd hi
   ·exact⟨(hr.dead i hd).1,by rw[aa.aO _ _ hi];exact(hr.dead i hd).2⟩
theorem Rel.Tp {h:aa} (hr:Rel G h w) {i b base k:Nat} {x:dC} (hx:h.get i=some x) (hlt:i<h.next) (hφ:G.φ i=none)
 (hown:∀o m,G.φ o=some m->m.1≠b) (hI:∀off,G.I b off=none) {w':World} (hsz:w.heap.size<=w'.heap.size) (hother:∀b',b'<w.heap.size->b'≠b->w'.heap[b']?=w.heap[b']?)
 (hb0:b≠0) (hat:mo (G.cp i (b,base,k)) w' b base k x):Rel (G.cp i (b,base,k)) h w':=by
 have hle:G.Le (G.cp i (b,base,k)):=ab.lG _ hφ
 refine⟨⟨?_,?_,?_,?_,?_,hr.dead,hr.num,hr.fresh,Nat.le_trans hr.low hsz⟩,⟨?_,?_,hr.mx.Qm⟩⟩
 rotate_left 5
 ·obtain⟨m,hm⟩:=hr.mx.cell
  exact⟨m,by rw[<-hm];exact World.cell?_of_block (hother 0 hr.mx.lt (Ne.symm hb0))⟩
 ·intro j m hm
  by_cases hj:j=i
  ·subst hj
   simp[ab.cp] at hm
   subst hm
   exact hb0
  ·simp[ab.cp,hj] at hm
   exact hr.mx.own j m hm
 ·intro b' off v hv
  have hne:b'≠b:=by rintro rfl;have:=hI off;rw[show G.I b' off=some v from hv] at this;cases this
  rw[<-hr.kq b' off v hv]
  exact World.cell?_of_block (hother b' (hr.fJ hv) hne)
 ·intro j b' base' k' hm
  by_cases hj:j=i
  ·subst hj
   simp[ab.cp] at hm
   obtain⟨rfl,rfl,rfl⟩:=hm
   exact⟨x,hx,hat⟩
  ·simp[ab.cp,hj] at hm
   obtain⟨y,hy,hyt⟩:=hr.obj j b' base' k' hm
   exact⟨y,hy,hyt.mono hle (hother b' (hr.fX hm) (hown j _ hm))⟩
 ·intro j j' m m' hm hm' hne
  by_cases hj:j=i
  ·subst hj
   have hj':j'≠j:=λe=>hne e.symm
   simp[ab.cp] at hm
   simp[ab.cp,hj'] at hm'
   subst hm
   exact λe=>hown j' m' hm' e.symm
  ·simp[ab.cp,hj] at hm
   by_cases hj':j'=i
   ·subst hj'
    simp[ab.cp] at hm'
    subst hm'
    exact hown j m hm
   ·simp[ab.cp,hj'] at hm'
    exact hr.inj j j' m m' hm hm' hne
 ·intro j m off hm
  by_cases hj:j=i
  ·subst hj
   simp[ab.cp] at hm
   subst hm
   exact hI off
  ·simp[ab.cp,hj] at hm
   exact hr.sep j m off hm
 ·intro j m hm
  by_cases hj:j=i
  ·subst hj;exact hlt
  ·simp[ab.cp,hj] at hm
   exact hr.iD j m hm
theorem oU (t ty e:TypeId) (sz:Nat) (ht:P.underlying t=some (.slice e)) (hsz:(sizeOf e).run P w=.ok sz w)
 {g base sLen sCap:Nat} {cur:Array Value} {rt:TypeId} (hg:w.heap[g]?=some (.cells cur rt (0,0)))
 {a:Addr} {m c:Nat} {news:List Value} (hl:news.length=m*sz) (hnews:∀j u,news[j]?=some u->w.cell? (a.add j)=some u) (h1:∀u∈news,u.oneCell'=true)
 (hroom:sLen+m<=sCap) (hfit:base+sLen*sz+news.length<=cur.size):
 (Builtin.append_ #[t,t] ty #[.slice (some ⟨g,base,none⟩) sLen sCap,.slice (some a) m c]).run P w=
   .ok (.slice (some ⟨g,base,none⟩) (sLen+m) sCap) (w.setRow g (cur.toList.take (base+sLen*sz)++news++cur.toList.drop (base+sLen*sz+news.length)).toArray):=by
 have hf:=run_firstCells_some (P:=P) w sz m a m c news hl hnews
 have hst:=run_storeCells_at P g (base+sLen*sz) rt news 0 cur w hg (by simpa using hfit) h1
 simp only[Nat.add_zero] at hst
 simp[Builtin.append_,run_underlying ht,hsz,Builtin.lenOf,hroom,hf,dI,hst]
theorem se (t ty e:TypeId) (sz:Nat) (ht:P.underlying t=some (.slice e)) (hsz:(sizeOf e).run P w=.ok sz w) {b b':Option Addr} {n c c':Nat} (hn:n<=c):
 (Builtin.append_ #[t,t] ty #[.slice b n c,.slice b' 0 c']).run P w=.ok (.slice b n c) w:=by
 have hf:(Builtin.firstCells sz 0 (.slice b' 0 c')).run P w=.ok #[] w:=by
  cases b'<;>simp[Builtin.firstCells,loadCells,loadCellsFrom]
 cases b with
 |none=>simp[Builtin.append_,run_underlying ht,hsz,Builtin.lenOf,hn,hf]
 |some a=>simp[Builtin.append_,run_underlying ht,hsz,Builtin.lenOf,hn,hf,storeCells]
theorem Young.qz {n:Nat} (hn:G.n=n) (m:Nat×Nat×Nat):Young G (G.more.cp n m):=by
 refine⟨Nat.le_succ _,λo ho hφ=>?_⟩
 have:o≠n:=by omega
 simp[ab.cp,this,ab.more,hφ]
theorem zE {h:aa} (hr:Rel G h w) {F:List VV} {L:List Value} (hF:cO G F L) (hone:∀u∈L,u.oneCell'=true) {n sz cap:Nat} (hL:L.length=n*sz) (hcap:n<=cap)
 {zs:Array Value} (hz:zs.size=(cap-n)*sz) (e:TypeId):
 ∃G',RV G' (.ref h.next 0 n sz none) (.slice (some ⟨w.heap.size,0,none⟩) n cap)/\Rel G' (h.push (.cells F)) (w.drew.alloc (.cells (L.toArray++zs) e))/\
  Ext G G' w (w.drew.alloc (.cells (L.toArray++zs) e)):=by
 have hφ:G.φ h.next=none:=by
  cases hc:G.φ h.next with
  |none=>rfl
  |some m=>have:=hr.iD _ _ hc;omega
 have hrp:=(hr.push (.cells F)).drew (w.drawn+1)
 have hφ':G.more.φ h.next=none:=hφ
 have hk:cap*sz=n*sz+(cap-n)*sz:=by rw[<-Nat.add_mul];congr 1;omega
 have hb:=hrp.cp (o:=h.next) (x:=.cells F) (aa.dw ..) (by rw[aa.cA];omega) hφ' (.cells (L.toArray++zs) e) (cap*sz)
  (ij (hF.mono (G.nE.trans (ab.lG _ hφ'))) hone (heap_alloc_new w.drew _) (by simp[hL,hz,hk]) (by rw[hF.1,hL,hk];omega) (λj u hu=>by
    have hj:=(List.getElem?_eq_some_iff.1 hu).1
    rw[Array.getElem?_append_left (by simpa using hj)]
    simpa using hu))
 refine⟨_,?_,hb.1,.mk' ((Ext.drew G w (w.drawn+1)).toExt0.trans ((Ext.more G _).toExt0.trans hb.2)) (Young.qz hr.num _)⟩
 exact .ref (a:=⟨w.heap.size,0,none⟩) (b:=w.heap.size) (base:=0) (k:=cap*sz) (by simp[ab.cp]) hcap (λk' hk'=>by cases hk') (.inr ⟨rfl,by omega⟩) rfl
theorem RV.Ie {b:Option Addr} {n c:Nat} (h:RV G .da (.slice b n c)):b=none/\c=0:=by cases h;exact⟨rfl,rfl⟩
theorem RV.S0 {es:List (List VV)} {cap:Option Nat} {b:Option Addr} {n c:Nat} (h:RV G (.vs es cap) (.slice b n c)):b≠none/\∀k,cap=some k->c=k:=by
 cases h with
 |vs vals h1 h2 h3 h4 h5 h6 h7=>exact⟨by simp,λk hk=>(h2 k hk).1⟩
theorem RV.DT {o off len du:Nat} {cap:Option Nat} {b:Option Addr} {n c:Nat} (h:RV G (.ref o off len du cap) (.slice b n c)):
 b≠none/\n=len/\(∀k,cap=some k->c=k)/\
  ((∃bl base k,G.φ o=some (bl,base,k)/\(c=0\/(b=some ⟨bl,base+off,none⟩/\off+c*du<=k)))\/G.D o):=by
 cases h with
 |ref h1 h2 h3 h4 h5=>exact⟨by simp,rfl,h3,.inl ⟨_,_,_,h1,h4.imp_right fun⟨a,b⟩=>⟨by rw[a],b⟩⟩⟩
 |sd h1 h2 h3=>exact⟨by simp,rfl,h3,.inr h1⟩
theorem vd {h h':aa} (hr:Rel G h w) {t:TypeId} {s x v:VV} {a b:Value} (hs:RV G s a) (hx:RV G x b) (hv:lO P t s x h=some (v,h')) (ty:TypeId):
 ∃y w' G',(Builtin.append_ #[t,t] ty #[a,b]).run P w=.ok y w'/\RV G' v y/\Rel G' h' w'/\Ext G G' w w':=by
 unfold lO at hv
 split at hv
 ·rename_i e he
  have ht:=jG he
  split at hv
  ·cases hv
  ·rename_i hsz
   simp only[not_or,ne_eq,Decidable.not_not] at hsz
   obtain⟨hs0,hzc⟩:=hsz
   obtain⟨i,hi⟩:=k9 hs0
   have hss:=cd (w:=w) hi
   have hsi:cE P e=i.size:=by simp[cE,hi]
   have hbi:dy P e=i.bytes:=by simp[dy,hi]
   cases hz:eA P e with
   |none=>simp[hz] at hzc
   |some z=>
   obtain⟨i',zx,hi',hzx,_,hzr,_⟩:=dV (w:=w) G hz
   rw[hi] at hi';cases hi'
   have hzcs:zx.cells.size=i.size:=by
    have h1:=(hzr.cells (j7 hz)).1.1
    simp[hz] at hzc
    simp at h1;omega
   split at hv
   ·
     rename_i ss hex hes
     cases hv
     obtain⟨bx,n,c,rfl,hn,_,_⟩:=gx hr hx hex
     obtain⟨bs,m,c',rfl,hm,hmc,_⟩:=gx hr hs hes
     simp at hn;subst hn
     exact⟨_,w,G,se t ty e _ ht hss hmc,hs,hr,.refl G w⟩
   ·rename_i xs ss hne hex hes
    split at hv
    ·rename_i hfit
     obtain⟨hfit1,hfit2⟩:=hfit
     obtain⟨bx,n,c,rfl,hn,hnc,hxr,N,hN,hN1,hNat⟩:=gx hr hx hex
     obtain⟨bs,m,c',rfl,hm,hmc,hsr,L,hL,hL1,hLat⟩:=gx hr hs hes
     subst hn;subst hm
     have hxpos:0<xs.length:=by
      cases xs with
      |nil=>first|exact(hne rfl).elim|exact(hne _).elim|exact(hne _ rfl).elim
      |cons=>simp
     have hNl:N.length=xs.length*i.size:=by rw[<-hN.1,dZ xs hxr,hsi]
     have hLl:L.length=ss.length*i.size:=by rw[<-hL.1,dZ ss hsr,hsi]
     have hF:cO G ((ss++xs).flatten) (L++N):=by rw[List.flatten_append];exact hL.append hN
     have hF1:∀u∈L++N,u.oneCell'=true:=by
      intro u hu
      rcases List.mem_append.1 hu with hu|hu
      ·exact hL1 u hu
      ·exact hN1 u hu
     have hFl:(L++N).length=(ss.length+xs.length)*i.size:=by rw[List.length_append,hLl,hNl,Nat.add_mul]
     obtain⟨bl,o,rfl,hNat2⟩:∃bl o,bx=some ⟨bl,o,none⟩/\nq w bl o N:=by
      rcases hNat with h0|h0
      ·omega
      ·exact h0
     have hnews:∀j u,N[j]?=some u->w.cell? ((⟨bl,o,none⟩:Addr).add j)=some u:=λj u hu=>by rw[dI];exact hNat2 j u hu
     have hb48:(ss.length+xs.length)*i.bytes<=140737488355328:=by rw[<-hbi];exact hfit1
     have h63:((ss.length+xs.length:Nat):Int)<=9223372036854775807:=by omega
     have grow:∀{h1:aa} {G1:ab},Rel G1 h1 w->Ext G G1 w w->bs≠none\/ss=[]/\c'=0->c'<ss.length+xs.length->
      ∃y w' G',(Builtin.append_ #[t,t] ty #[.slice bs ss.length c',.slice (some ⟨bl,o,none⟩) xs.length c]).run P w=.ok y w'/\
       RV G' (.ref h1.next 0 (ss.length+xs.length) (cE P e) none) y/\Rel G' (h1.push (.cells ((ss++xs).flatten))) w'/\Ext G G' w w':=by
      intro h1 G1 hr1 he1 hbs hc
      have hge:=grownCap_ge w (ss.length+xs.length) c' e
      obtain⟨G',g1,g2,g3⟩:=zE hr1 (hF.mono he1.le) hF1 hFl hge (zs:=Builtin.zeroCells zx.cells (grownCap w (ss.length+xs.length) c' e-(ss.length+xs.length)))
       (by rw[size_zeroCells,hzcs]) e
      rw[<-hsi] at g1
      cases bs with
      |some ad=>
       refine⟨_,_,G',?_,g1,g2,he1.trans g3⟩
       have hol:∀j u,L[j]?=some u->w.cell? (ad.add j)=some u:=by
        intro j u hu
        rcases hLat with h0|⟨bl',o',h0,hat⟩
        ·have:L=[]:=List.eq_nil_of_length_eq_zero (by rw[hLl,h0];simp)
         subst this;simp at hu
        ·cases h0;rw[dI];exact hat j u hu
       rw[run_append_grow w t ty e i zx ht hi hzx ad ss.length c' L hLl hol ⟨bl,o,none⟩ xs.length c N hNl hnews hc h63 (growslice_fits hc hb48)]
       simp
      |none=>
       obtain⟨rfl,rfl⟩:ss=[]/\c'=0:=by
        rcases hbs with h0|h0
        ·exact absurd rfl h0
        ·exact h0
       have:L=[]:=List.eq_nil_of_length_eq_zero (by rw[hLl];simp)
       subst this
       refine⟨_,_,G',?_,g1,g2,he1.trans g3⟩
       simp only[List.length_nil]
       rw[run_append_nil w t ty e i zx ht hi hzx ⟨bl,o,none⟩ xs.length c N hNl hnews hxpos (by omega) (by simp at hb48;omega)]
       simp
     simp only at hv
     split at hv
     ·
       cases hv
       simp[eS] at hes
       subst hes
       obtain⟨rfl,rfl⟩:=hs.Ie
       exact grow hr (.refl G w) (.inr ⟨rfl,rfl⟩) (by simp;omega)
     ·
       rename_i es' c0
       split at hv
       ·rename_i hc0
        cases hv
        obtain⟨h1,h2⟩:=hs.S0
        exact grow hr (.refl G w) (.inl h1) (by rw[h2 _ rfl,hc0];omega)
       ·cases hv
     ·
       rename_i o' off len du cap
       split at hv
       ·rename_i hcap
        cases hv
        obtain⟨h1,h2,h3,_⟩:=hs.DT
        exact grow hr (.refl G w) (.inl h1) (by rw[h3 _ hcap];omega)
       ·cases hv
        obtain⟨h1,rfl,h3,h4⟩:=hs.DT
        have hcell:du=cE P e/\∃c,h.get o'=some (.cells c):=by
         unfold eS at hes
         simp only at hes
         split at hes
         ·cases hes
         ·rename_i hq
          split at hes
          ·rename_i c hg;exact⟨Decidable.not_not.1 hq,c,hg⟩
          ·cases hes
        obtain⟨rfl,cs,hg⟩:=hcell
        rcases h4 with⟨blk,base,k,hφ,hat⟩|hd
        ·have hlt:=hr.iD _ _ hφ
         obtain⟨hkr,hke⟩:=hr.kill hlt
         by_cases hroom:ss.length+xs.length<=c'
         ·rcases hat with hc0|⟨rfl,hk⟩
          ·omega
          obtain⟨arr,t',ha1,ha2,ha3,_⟩:=nJ hr hφ hg
          rw[hsi] at hk
          have hmul:(ss.length+xs.length)*i.size<=c'*i.size:=Nat.mul_le_mul_right _ hroom
          have hadd:(ss.length+xs.length)*i.size=ss.length*i.size+xs.length*i.size:=Nat.add_mul ..
          have hfits:base+off+ss.length*i.size+N.length<=arr.size:=by rw[hNl];omega
          have hrun:=oU (P:=P) (w:=w) t ty e i.size ht (by rw[<-hsi];exact hss) ha1 hNl hnews hN1 (sCap:=c') (c:=c) hroom hfits
          have hLcell:∀j u,L[j]?=some u->arr[base+off+j]?=some u:=by
           intro j u hu
           rcases hLat with h0|⟨bl',o2,h0,hat⟩
           ·have:L=[]:=List.eq_nil_of_length_eq_zero (by rw[hLl,h0];simp)
            subst this;simp at hu
           ·cases h0
            have:=hat j u hu
            rw[cell_of_row w blk _ arr t' (0,0) ha1] at this
            exact this
          have hφn:(G.kill o').φ h.next=none:=by
           cases hc:(G.kill o').φ h.next with
           |none=>rfl
           |some m=>have:=hr.iD _ _ (ab.kill_φ hc).2;omega
          have hle:G.Le ((G.kill o').more.cp h.next (blk,base+off,k-off)):=(G.xf o').trans ((ab.nE _).trans (ab.lG _ hφn))
          refine⟨_,_,(G.kill o').more.cp h.next (blk,base+off,k-off),hrun,?_,?_,.mk' ⟨hle,by simp,?_,?_,λ_ i v h=>.inl ⟨i,v,h⟩,rfl,rfl,rfl⟩ (hke.toYoung.trans (Young.qz hkr.num _))⟩
          ·refine .ref (a:=⟨blk,base+off,none⟩) (b:=blk) (base:=base+off) (k:=k-off) (by simp[ab.cp]) hroom (λk' hk'=>by cases hk') (.inr ⟨rfl,by rw[hsi];omega⟩) rfl
          ·refine(hkr.push _).Tp (aa.dw ..) (by rw[aa.cA];exact Nat.lt_succ_self _) hφn ?_ ?_ (by simp) (λb' _ hb'=>setRow_other w blk b' _ hb') (hr.mx.own o' _ hφ) ?_
           ·intro o2 m hm
            obtain⟨hne2,hm⟩:=ab.kill_φ hm
            exact hr.inj o2 o' _ _ hm hφ hne2
           ·intro off'
            exact hr.sep o' _ off' hφ
           ·refine ij (hF.mono hle) hF1 (setRow_heap w blk arr _ t' _ ha1) ?_ ?_ ?_
            ·simp only[List.size_toArray,List.length_append,List.length_take,List.length_drop,Array.length_toList]
             omega
            ·rw[hF.1,hFl];omega
            ·intro j u hu
             have key:=getElem?_overV arr.toList N (base+off+ss.length*i.size) (base+off+j) (by have e:arr.toList.length=arr.size:=Array.length_toList;omega)
             simp only[oh] at key
             simp only[List.getElem?_toArray]
             rw[key]
             have hj:=(List.getElem?_eq_some_iff.1 hu).1
             rw[List.length_append,hLl] at hj
             by_cases hjL:j<ss.length*i.size
             ·rw[if_neg (by omega)]
              rw[List.getElem?_append_left (by omega)] at hu
              simpa using hLcell j u hu
             ·rw[if_pos (by omega)]
              rw[List.getElem?_append_right (by omega),hLl] at hu
              rw[show base+off+j-(base+off+ss.length*i.size)=j-ss.length*i.size by omega]
              exact hu
          ·intro b' _ hn' _
           exact setRow_other w blk b' _ (λe=>hn' o' _ hφ e.symm)
          ·intro i2 m hm
           by_cases hi2:i2=h.next
           ·subst hi2
            simp[ab.cp] at hm
            subst hm
            exact .inl ⟨o',_,hφ,rfl⟩
           ·simp only[ab.cp,if_neg hi2,ab.more] at hm
            exact .inl ⟨i2,m,(ab.kill_φ hm).2,rfl⟩
         ·exact grow hkr hke (.inl h1) (by omega)
        ·have:=(hr.dead _ hd).2;rw[hg] at this;cases this
     ·cases hv
    ·cases hv
   ·cases hv
 ·cases hv
theorem yw {h h':aa} (hr:Rel G h w) {o:Oper} {fr:Fr} {ρ:Operand->Value} (hρ:∀x∈o.op.operands,RV G (ev fr x) (ρ x)) {v:VV} (hv:iI P o.op fr h=some (v,h')):
 ∃y w' G',((execOp ρ o).run P w=.ok (.value y) w'\/(execOp ρ o).run P w=.ok .skip w'/\y=Go.undef)/\RV G' v y/\Rel G' h' w'/\Ext G G' w w':=by
 obtain⟨dst,op,type,pos,after,guard⟩:=o
 unfold iI at hv
 simp only at hv hρ
 split at hv
 ·rename_i t a x
  simp only[Option.map_eq_some_iff,Prod.mk.injEq] at hv
  obtain⟨h1,hst,rfl,rfl⟩:=hv
  obtain⟨w',h2,h3,h4⟩:=yu (P:=P) hr (hρ a (by simp[Op.operands])) (hρ x (by simp[Op.operands])) hst
  exact⟨_,w',G,.inr ⟨by simp[execOp,h2],rfl⟩,.undef G,h3,h4⟩
 ·rename_i t m k x
  simp only[Option.map_eq_some_iff,Prod.mk.injEq] at hv
  obtain⟨h1,hst,rfl,rfl⟩:=hv
  obtain⟨w',h2,h3,h4⟩:=k7 (P:=P) hr (hρ m (by simp[Op.operands])) (hρ k (by simp[Op.operands])) (hρ x (by simp[Op.operands])) hst
  exact⟨_,w',G,.inr ⟨by simp[execOp,h2],rfl⟩,.undef G,h3,h4⟩
 ·rename_i t m k x
  simp only[Option.map_eq_some_iff,Prod.mk.injEq] at hv
  obtain⟨h1,hst,rfl,rfl⟩:=hv
  obtain⟨w',h2,h3,h4⟩:=k7 (P:=P) hr (hρ m (by simp[Op.operands])) (hρ k (by simp[Op.operands])) (hρ x (by simp[Op.operands])) hst
  exact⟨_,w',G,.inr ⟨by simp[execOp,h2],rfl⟩,.undef G,h3,h4⟩
 ·rename_i s x t t'
  split at hv
  ·rename_i htt
   subst htt
   obtain⟨y,w',G',h1,h2,h3,h4⟩:=vd (P:=P) hr (hρ s (by simp[Op.operands,Call.operands])) (hρ x (by simp[Op.operands,Call.operands])) hv type
   exact⟨y,w',G',.inl (by simp[execOp,resolve,invoke,builtin,h1]),h2,h3,h4⟩
  ·cases hv
 ·cases hv
theorem we {h h':aa} (hr:Rel G h w) {o:Oper} {fr:Fr} {ρ:Operand->Value} (hρ:∀x∈o.op.operands,RV G (ev fr x) (ρ x)) {v:VV} (hv:rR P o.op fr h=some (v,h')):
 ∃y w' G',((execOp ρ o).run P w=.ok (.value y) w'\/(execOp ρ o).run P w=.ok .skip w'/\y=Go.undef)/\RV G' v y/\Rel G' h' w'/\Ext G G' w w':=by
 unfold rR at hv
 split at hv
 ·rename_i v' hrd
  cases hv
  obtain⟨y,w',G',h1,h2,h3,h4,_⟩:=rV hr hρ hrd
  exact⟨y,w',G',.inl h1,h2,h3,h4⟩
 ·split at hv
  ·rename_i f x hnew
   cases hv
   obtain⟨y,B,k,h1,h2⟩:=uz (w:=w) hρ hnew
   have hφ:G.φ h.next=none:=by
    cases hc:G.φ h.next with
    |none=>rfl
    |some m=>have:=hr.iD _ _ hc;omega
   have hle:=G.nE.trans (ab.lG (G:=G.more) (o:=h.next) (w.heap.size,0,k) hφ)
   obtain⟨h3,h4⟩:=h2 (G.more.cp h.next (w.heap.size,0,k)) h.next (w.alloc B) hle (heap_alloc_new w B) (by simp[ab.cp])
   obtain⟨h5,h6⟩:=(hr.push x).cp (aa.dw ..) (by rw[aa.cA];exact Nat.lt_succ_self _) hφ B k h4
   exact⟨y,_,_,.inl h1,h3,h5,.mk' ((Ext.more G w).toExt0.trans h6) (Young.qz hr.num _)⟩
  ·exact yw hr hρ hv
end
end Go.Vv
