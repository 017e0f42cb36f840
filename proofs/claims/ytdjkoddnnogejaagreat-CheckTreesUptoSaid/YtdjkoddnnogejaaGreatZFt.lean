/- Proved: for every tree that holds at most 1048576 values and letters, CheckTrees tells true (patinalaw16.CheckTrees: the types and variables of every tree, or what does not fit first, as the reference tells them, and the law's own little programs), and the tree reads behind the call as it read before. Its condition: the bound of the second form of the given row ('narrowed'). -/
import Derived.Test.YtdjkoddnnogejaaGreatRows
import Derived.Deep.Slices
import Derived.ProofKit
import Derived.ChangeMaps5
import Derived.Deep.DeepHandedRow
import Derived.Shelf.Vars
import Derived.Carry
import Derived.LaidLaws
import Derived.Test.YtdjkoddnnogejaaGreatZFl
set_option linter.unusedSimpArgs false
set_option linter.unusedVariables false
set_option linter.unusedSectionVars false
namespace Go.Proofs.YtdjkoddnnogejaaGreat
section
open Go.Vv Go.ChangeShapes Go.WideShapes Go.ChangeAt Go.RowKit Go.Deep Go.Ee
def G0 (W:World):ab:=⟨λ_=>Option.none,λ_=>False,λb o=>W.cell? ⟨b,o,Option.none⟩,0,W.heap.size⟩
theorem RO (W:World) (hm:∃m,W.cell? ⟨0,0,Option.none⟩=some (.int .i64 m)):Rel (G0 W) aa.empty W:=by
 refine⟨⟨(λb o v h=>h),(λo b base k h=>by cases h),(λo o' m m' h=>by cases h),(λo m off h=>by cases h),(λo m h=>by cases h),(λo h=>h.elim),rfl,(λo _=>rfl),Nat.le_refl _⟩,⟨hm,λo m h=>by(cases h),.inr ?_⟩⟩
 obtain⟨m,hm⟩:=hm
 exact World.block_lt_of_cell? W _ hm
theorem GQ {W W':World} {G':ab} (he:Ext (G0 W) G' W W'):∀b,b<W.heap.size->W'.heap[b]?=W.heap[b]?:=
 λb hb=>he.Fg b hb (λo m h=>by cases h) (.inr hb)
theorem DD {α:Type} {p:Nat->α->Prop}:∀n,(∀i,i<n->∃a,p i a)->∃l:List α,l.length=n/\∀(i:Nat) a,l[i]?=some a->p i a
 |0,_=>⟨[],rfl,λi a h=>by simp at h⟩
 |n+1,h=>by
  obtain⟨l,hl,hp⟩:=DD n λi hi=>h i (by omega)
  obtain⟨a,ha⟩:=h n (by omega)
  refine⟨l++[a],by simp[hl],λi b hb=>?_⟩
  by_cases hi:i<n
  ·rw[List.getElem?_append_left (by omega)] at hb
   exact hp i b hb
  ·have hin:i=n:=by have:=(List.getElem?_eq_some_iff.1 hb).1;simp at this;omega
   subst hin
   rw[List.getElem?_append_right (by omega)] at hb
   simp[hl] at hb
   subst hb
   exact ha
theorem Gv {H:Type} (d:DataW H):1<=Rows.uptoBulk d:=by
 unfold Rows.uptoBulk
 split<;>omega
theorem mu {H:Type} {d:DataW H}:∀{l:List (DataW H)},d∈l->Rows.uptoBulk d<=Rows.uptoBulkAll l
 |[],h=>by cases h
 |x::l,h=>by
  rw[Rows.uptoBulkAll]
  rcases List.mem_cons.1 h with rfl|h
  ·omega
  ·have:=mu h;omega
theorem rj {H:Type}:∀l:List (DataW H),l.length<=Rows.uptoBulkAll l
 |[]=>Nat.zero_le _
 |x::l=>by
  rw[Rows.uptoBulkAll,List.length_cons]
  have:=rj l
  have:=Gv x
  omega
section opn
variable{H:Type} {enc:TypeId×Value->H} {W:World}
def S5 (enc:TypeId×Value->H) (W:World) (t:TypeId) {α:Type} (cells:α->List VV) (ok:Nat->α->Prop):Prop:=
 ∀(fuel:Nat) (cs:List Value) (x:DataW H×List MemPlace),DataW.trod enc Tryz.prog W 0 (λ_=>true) true fuel t cs=some x->∃a,cO (G0 W) (cells a) cs/\(∀v∈cs,v.oneCell'=true)/\ok (Rows.uptoBulk x.1) a
theorem p6 {t:TypeId} (ht:Tryz.prog.underlying t=some (.int .i64)):S5 enc W t (λn:Int=>[.int .i64 n]) (λ_ n=>-9223372036854775808<=n/\n<=9223372036854775807):=by
 intro fuel cs x hx
 obtain⟨n,rfl,rfl,hw⟩:=DataW.trod_int ht hx
 refine⟨n,cO.cons (.int _ _) (.nil _),by simp[Value.oneCell'],?_⟩
 simp only[Lit.wf,Bool.and_eq_true,decide_eq_true_eq] at hw
 have h1:IntKind.i64.min=-9223372036854775808:=by decide
 have h2:IntKind.i64.max=9223372036854775807:=by decide
 rw[h1,h2] at hw
 exact hw
theorem Ut {t:TypeId} (ht:Tryz.prog.underlying t=some .bool):S5 enc W t (λn:Bool=>[.bool n]) (λ_ _=>True):=by
 intro fuel cs x hx
 obtain⟨n,rfl,rfl⟩:=DataW.trod_bool ht hx
 exact⟨n,cO.cons (.bool _) (.nil _),by simp[Value.oneCell'],trivial⟩
theorem MN {t:TypeId} (ht:Tryz.prog.underlying t=some .string):S5 enc W t (λs:List UInt8=>[.str s]) (λn s=>s.length<n):=by
 intro fuel cs x hx
 obtain⟨s,rfl,rfl,hw⟩:=DataW.trod_string ht hx
 exact⟨s.data.toList,cO.cons (.str _) (.nil _),by simp[Value.oneCell'],by simp[Rows.uptoBulk]⟩
theorem vO {t e:TypeId} {n0:Nat} {α:Type} {cells:α->List VV} {ok:Nat->α->Prop} (ht:Tryz.prog.underlying t=some (.slice e)) (hc:Tryz.prog.cellsOf e=n0) (h0:0<n0) (hlen:∀a,(cells a).length=n0)
 (hok:∀n m a,n<=m->ok n a->ok m a) (h:S5 enc W e cells ok):S5 enc W t (λp:Bool×List α=>[yI (p.2.map cells) none p.1]) (λn p=>p.2.length<=n/\∀a∈p.2,ok n a):=by
 intro fuel cs x hx
 rcases open_slice ht hx with⟨rfl,rfl⟩|⟨a,len,cap,m,n,D,Pl,rfl,_,hlc,_,hm,rfl,hel⟩
 ·exact⟨(true,[]),cO.cons (by simp[yI];exact .da) (.nil _),by simp[Value.oneCell'],Nat.zero_le _,λa ha=>by cases ha⟩
 ·have hm':m=cap:=by simpa using hm
  subst hm'
  obtain⟨l,hl,hp⟩:=DD (p:=λi (y:α)=>∃cs',W.cells? 0 (a.add (i*n0)) n0=some cs'/\cO (G0 W) (cells y) cs'/\(∀v∈cs',v.oneCell'=true)/\ok (Rows.uptoBulk (D i)) y) len (λi hi=>by
   obtain⟨cs',h1,h2⟩:=hel i (by omega)
   rw[hc] at h1
   obtain⟨y,h3,h4,h5⟩:=h _ _ _ h2
   exact⟨y,cs',h1,h3,h4,h5⟩)
  have hbulk:∀i,i<len->Rows.uptoBulk (D i)<=Rows.uptoBulk (DataW.slice ((List.range len).map D) ((List.range (m-len)).map λj=>D (len+j))):=λi hi=>by
   rw[Rows.uptoBulk]
   have:=mu (d:=D i) (l:=(List.range len).map D) (List.mem_map.2 ⟨i,by simpa using hi,rfl⟩)
   omega
  refine⟨(false,l),cO.cons ?_ (.nil _),by simp[Value.oneCell'],?_,?_⟩
  ·have hsl:yI (l.map cells) none false=.vs (l.map cells) Option.none:=nI _ _
   show RV (G0 W) (yI (l.map cells) none false) _
   rw[hsl]
   by_cases hnil:l=[]
   ·subst hnil
    simp at hl
    subst hl
    exact RV.vs (G:=G0 W) (es:=[]) (cap:=Option.none) (b:=0) (base:=0) (n:=0) (c:=m) (a:=a) (λ_ _=>Go.undef) (by simp) (λk hk=>by cases hk) (λi hi=>absurd hi (Nat.not_lt_zero _)) (λi j hi=>absurd hi (Nat.not_lt_zero _)) (λi hi=>absurd hi (Nat.not_lt_zero _)) (λi j hi=>absurd hi (Nat.not_lt_zero _)) (.inl rfl)
   ·have hspot:a.spot=Option.none:=by
     cases l with
     |nil=>exact absurd rfl hnil
     |cons y l=>
      obtain⟨cs',h1,_⟩:=hp 0 y rfl
      obtain⟨_,h2,h3⟩:=World.cells?_some h1
      have h4:=h3 0 h0
      simp only[Nat.zero_mul,Addr.add,if_true] at h4
      cases hsp:a.spot with
      |none=>rfl
      |some z=>
       exfalso
       have:cs'[0]?=some cs'[0]:=List.getElem?_eq_getElem (by omega)
       rw[this] at h4
       unfold World.cell? at h4
       split at h4
       ·simp[hsp] at h4
       ·cases h4
    obtain⟨b,o,sp⟩:=a
    simp only at hspot
    subst hspot
    have cell:∀(i:Nat) (hi:i<l.length) (j:Nat) (hj:j<n0),∃v,W.cell? ⟨b,o+i*n0+j,Option.none⟩=some v/\RV (G0 W) ((cells l[i])[j]'(by rw[hlen];exact hj)) v/\v.oneCell'=true:=by
     intro i hi j hj
     obtain⟨cs',h1,h2,h3,_⟩:=hp i l[i] (by simp[hi])
     obtain⟨_,h4,h5⟩:=World.cells?_some h1
     have h6:=h5 j hj
     rw[dI,dI,List.getElem?_eq_getElem (by omega)] at h6
     exact⟨_,h6,h2.2 j (by rw[hlen];exact hj) (by omega),h3 _ (List.getElem_mem _)⟩
    have key:=RV.vs (G:=G0 W) (es:=l.map cells) (cap:=Option.none) (b:=b) (base:=o) (n:=n0) (c:=m) (a:=⟨b,o,Option.none⟩) (λi j=>(W.cell? ⟨b,o+i*n0+j,Option.none⟩).getD Go.undef) (by simp[hl];omega) (λk hk=>by cases hk) (λi hi=>by simp[hlen]) (λi j hi hj=>by
     obtain⟨v,h1,_⟩:=cell i (by simpa using hi) j hj
     simp[G0,h1]) (λi hi j hj=>by
     obtain⟨v,h1,h2,_⟩:=cell i (by simpa using hi) j (by simpa[hlen] using hj)
     simp only[h1,Option.getD_some,List.getElem_map]
     exact h2) (λi j hi hj=>by
     obtain⟨v,h1,_,h3⟩:=cell i (by simpa using hi) j hj
     simpa[h1] using h3) (.inr rfl)
    simpa[hl] using key
  ·show l.length<=_
   rw[hl,Rows.uptoBulk]
   have:=rj ((List.range len).map D)
   simp at this
   omega
  ·intro y hy
   obtain⟨i,hi,rfl⟩:=List.getElem_of_mem hy
   have hi:i<l.length:=hi
   obtain⟨_,_,_,_,h5⟩:=hp i l[i] (by simp[hi])
   exact hok _ _ _ (hbulk i (by omega)) h5
end opn
theorem Tryz.laidOut:laidOutB Tryz.prog=true:=by kernel_rfl
theorem own:ownKnob Tryz.prog.godebug=none:=by kernel_rfl
section opn
variable{H:Type} {enc:TypeId×Value->H} {W:World}
theorem s4 {H:Type} {d:DataW H} {l:List (DataW H)} (h:d∈l):Rows.uptoBulk d<=Rows.uptoBulk (.agg l):=by
 rw[Rows.uptoBulk]
 have:=mu h
 omega
def Tl (n:Nat) (x:Nd):Prop:=x.kids.length<=n/\x.name.length<n/\-9223372036854775808<=x.num/\x.num<=9223372036854775807
set_option maxRecDepth 100000 in
theorem Fh:S5 enc W 47 Um Tl:=by
 intro fuel cs x hx
 obtain⟨xs,n,rfl,rfl,hl,hlen,hf⟩:=DataW.trod_struct Tryz.underlying47 hx
 have c3:Tryz.prog.cellsOf 3=1:=by kernel_rfl
 have c9:Tryz.prog.cellsOf 9=1:=by kernel_rfl
 have c2:Tryz.prog.cellsOf 2=1:=by kernel_rfl
 have c31:Tryz.prog.cellsOf 31=1:=by kernel_rfl
 have c47:Tryz.prog.cellsOf 47=6:=by kernel_rfl
 rw[c47] at hl
 match cs,hl,xs,hlen with
 |[v0,v1,v2,v3,v4,v5],_,[y0,y1,y2,y3,y4,y5],_=>
  have f0:=hf 0 _ rfl
  have f1:=hf 1 _ rfl
  have f2:=hf 2 _ rfl
  have f3:=hf 3 _ rfl
  have f4:=hf 4 _ rfl
  have f5:=hf 5 _ rfl
  simp[c3,c9,c2,c31] at f0 f1 f2 f3 f4 f5
  obtain⟨k,r0,o0,p0⟩:=p6 (W:=W) (enc:=enc) Tryz.underlying3 _ _ _ f0
  obtain⟨nm,r1,o1,p1⟩:=MN (W:=W) (enc:=enc) Tryz.underlying9 _ _ _ f1
  obtain⟨nu,r2,o2,p2⟩:=p6 (W:=W) (enc:=enc) Tryz.underlying2 _ _ _ f2
  obtain⟨⟨kn,ks⟩,r3,o3,p3⟩:=vO (W:=W) (enc:=enc) Tryz.underlying31 c3 (by decide) (λ_=>rfl) (λn m a _ h=>h) (p6 Tryz.underlying3) _ _ _ f3
  obtain⟨fr,r4,o4,p4⟩:=p6 (W:=W) (enc:=enc) Tryz.underlying3 _ _ _ f4
  obtain⟨to,r5,o5,p5⟩:=p6 (W:=W) (enc:=enc) Tryz.underlying3 _ _ _ f5
  refine⟨⟨k,nm,nu,kn,ks,fr,to⟩,?_,?_,?_⟩
  ·exact cO.append r0 (cO.append r1 (cO.append r2 (cO.append r3 (cO.append r4 r5))))
  ·intro v hv
   simp only[List.mem_cons,List.not_mem_nil,or_false] at hv
   rcases hv with rfl|rfl|rfl|rfl|rfl|rfl
   ·exact o0 _ (by simp)
   ·exact o1 _ (by simp)
   ·exact o2 _ (by simp)
   ·exact o3 _ (by simp)
   ·exact o4 _ (by simp)
   ·exact o5 _ (by simp)
  ·have b1:=s4 (d:=y1.1) (l:=[y0,y1,y2,y3,y4,y5].map (·.1)) (by simp)
   have b3:=s4 (d:=y3.1) (l:=[y0,y1,y2,y3,y4,y5].map (·.1)) (by simp)
   exact⟨Nat.le_trans p3.1 b3,Nat.lt_of_lt_of_le p1 b1,p2⟩
set_option maxRecDepth 100000 in
theorem Fi (d:DataW H) {fuel:Nat} {cs:List Value} {ps:List MemPlace} (hx:DataW.trod enc Tryz.prog W 0 (λ_=>true) true fuel 24 cs=some (d,ps)):∃(b:Bool) (ns:List Nd),cO (G0 W) [yI (ns.map Um) none b] cs/\(∀v∈cs,v.oneCell'=true)/\ns.length<=Rows.uptoBulk d/\∀x∈ns,Tl (Rows.uptoBulk d) x:=by
 obtain⟨xs,n,rfl,he,hl,hlen,hf⟩:=DataW.trod_struct Tryz.underlying24 hx
 have c22:Tryz.prog.cellsOf 22=1:=by kernel_rfl
 have c24:Tryz.prog.cellsOf 24=1:=by kernel_rfl
 have c47:Tryz.prog.cellsOf 47=6:=by kernel_rfl
 rw[c24] at hl
 match cs,hl,xs,hlen with
 |[v0],_,[y0],_=>
  have f0:=hf 0 _ rfl
  simp[c22] at f0
  obtain⟨⟨b,ns⟩,r0,o0,p0⟩:=vO (W:=W) (enc:=enc) Tryz.underlying22 c47 (by decide) (λ_=>rfl) (λn m a hnm h=>⟨Nat.le_trans h.1 hnm,Nat.lt_of_lt_of_le h.2.1 hnm,h.2.2⟩) Fh _ _ _ f0
  simp only[Prod.mk.injEq] at he
  have b0:=s4 (d:=y0.1) (l:=[y0].map (·.1)) (by simp)
  rw[<-he.1] at b0
  exact⟨b,ns,r0,o0,Nat.le_trans p0.1 b0,λx hx=>by
   have h:=p0.2 x hx
   exact⟨Nat.le_trans h.1 b0,Nat.lt_of_lt_of_le h.2.1 b0,h.2.2⟩⟩
end opn
theorem Md {G':ab} {W W':World} (he:Ext (G0 W) G' W W') (may:MemPlace->Prop):W.keptBut W' may:=by
 refine⟨he.os,he.output,λi hi=>?_⟩
 rw[GQ he i hi]
 exact(World.keptBut_refl W may).2.2 i hi
theorem Gl {G':ab} {W W':World} (he:Ext (G0 W) G' W W'):Go.RowKit.Below W.heap.size W W':=⟨he.os,he.tape,he.output,he.size,λk hk=>GQ he k hk⟩
set_option maxRecDepth 100000 in
theorem Mj (v:Value) (b:Bool) (ns:List Nd) (W:World) (hm:∃m,W.cell? ⟨0,0,none⟩=some (.int .i64 m)) (hv:RV (G0 W) (Eb b ns) v) (hb:ns.length<=1000000000) (hkl1:∀x∈ns,x.kids.length<=17592186044415) (hnl1:∀x∈ns,x.name.length<4294967281) (hnum:∀x∈ns, -9223372036854775808<=x.num/\x.num<=9223372036854775807):
 Calls Tryz.prog 3 #[v] W λe W'=>e=.returned (.bool true)/\∃G',Ext (G0 W) G' W W':=by
 have hbd:lD Tryz.prog 3=true:=by kernel_rfl
 refine callsIn_wide.1 (bA.C3 (n:=1) (F:=Fence.wide) hbd (E5 b ns hb hkl1 hnl1 hnum) ⟨λ_=>trivial,rfl,rfl⟩ (RO W hm) (vargs:=#[v]) (.cons hv (.nil _)) ?_ ?_)
 ·rintro G' w' h' y v hv hy hr he
  cases hv
  cases hy
  exact⟨rfl,G',he⟩
 ·rintro G' w' h' y v hv
  cases hv
set_option maxRecDepth 100000 in
theorem lifted (os:Os) (started:os.Started) (H:Type) (enc:TypeId×Value->H) (F:Stop.Interp):
 ReturnsInHanded {} Tryz.checked os 3 .any ((Rows.OpenSpec.upto Rows.checkTreesSpec).preRow enc Tryz.prog Tryz.f3 Rows.checkTreesUptoRow.domain false Rows.checkTreesUptoRow.laid) (((Rows.OpenSpec.upto Rows.checkTreesSpec).at F).post enc Tryz.prog Tryz.f3 false true false false):=by
 refine returnsInHanded_of_row (C:=Tryz.checked) (s:=Rows.OpenSpec.upto Rows.checkTreesSpec) own started (by kernel_rfl) Tryz.func3
  (witness_row_at (enc:=enc) (C:=Tryz.checked) false (World.holding Tryz.prog os ⟨#[],#[],[]⟩) #[.agg #[.slice none 0 0]] rfl (by kernel_rfl) (by kernel_rfl) (by kernel_rfl)
    (OpenSpec.preRow_of_cond 8 (x:=([.agg [.nil]],[],[])) (by kernel_rfl) (by kernel_rfl) (λk hk=>by cases hk;kernel_rfl) (by kernel_rfl) (laidMet_of_run' 8 (by kernel_rfl) (by kernel_rfl)))) ?_
 intro W base args ds gs before hval hW _ hcond _ _ hsh _
 have hW':=hW
 obtain⟨p,q,hA0,hV,rfl,hfz,hnd⟩:=hW
 have hA:DataW.TrodAll enc Tryz.prog W 0 (λ_=>true) true Tryz.f3.params.toList args.toList ds p:=hA0
 rw[Tryz.params3] at hA hval
 obtain⟨v0,d0,rfl,rfl,h0⟩:=trodAll_one hA
 obtain⟨rfl,rfl⟩:=trodVars_none hV
 have hbulk:Rows.uptoBulkAll [d0]<=1048576:=by
  have:=hcond _ rfl
  exact of_decide_eq_true (by simpa[Rows.uptoSmall] using this)
 have hbulk2:Rows.uptoBulk d0<=1048576:=by
  rw[Rows.uptoBulkAll,Rows.uptoBulkAll] at hbulk
  omega
 obtain⟨fuel,h0'⟩:=h0
 obtain⟨b,ns,hrv,hone,hlen,hns⟩:=Fi d0 h0'
 obtain⟨cs,rfl,hcs⟩:∃cs:Array Value,v0=.agg cs/\cs.size=Tryz.prog.cellsOf 24:=by
  have h:Value.okWide Tryz.prog W .any base 24 v0:=hval 0 24 v0 rfl rfl
  unfold Value.okWide at h
  rw[Tryz.underlying24] at h
  obtain⟨cs,h1,h2,_⟩:=h
  exact⟨cs,h1,h2⟩
 have hm:∃m,W.cell? ⟨0,0,none⟩=some (.int .i64 m):=Go.Proofs.cell_of_shapedOpen_int (P:=Tryz.prog) (t:=3) (zero:=#[.int .i64 0]) hsh (of_decide_eq_true (by kernel_rfl)) (by kernel_rfl) rfl (by kernel_rfl) (by kernel_rfl) Tryz.underlying3
 have hlt:∀x∈p,x.block<W.heap.size:=λx hx=>by simpa using hW'.lt x (by simpa using hx)
 have h0k:DataW.Trod enc Tryz.prog W 0 (λ_=>true) true 24 (.agg cs) d0 p:=⟨fuel,h0'⟩
 have hrt:RV (G0 W) (Eb b ns) (.agg cs):=RV.fW.2 ⟨cs,rfl,hrv,hone⟩
 refine(Mj (.agg cs) b ns W hm hrt (by omega) (λx hx=>by have:=(hns x hx).1;omega) (λx hx=>by have:=(hns x hx).2.1;omega) (λx hx=>(hns x hx).2.2)).mono λe W' ⟨he,G',hext⟩=>?_
 subst he
 simp only[List.append_nil] at hW'
 exact⟨_,rfl,_,_,_,[],p,[],hW',trodAll_mk1 (shut_bool Tryz.underlying4 true),trodAll_mk1 (Go.RowKit.Below.trod Tryz.laidOut (by kernel_rfl) (of_decide_eq_true (by kernel_rfl)) h0k (Gl hext) hlt),rfl,Md hext _,λh=>by cases h⟩
set_option maxRecDepth 1000000 in
set_option maxHeartbeats 20000000 in
theorem closed:joinedFacts Tryz.prog 3 Tryz.f3 Rows.checkTreesSpec Rows.checkTreesUptoRow=true:=by
 unfold joinedFacts
 repeat'(refine(Bool.and_eq_true_iff).2 ⟨?_,?_⟩)
 all_goals as_aux_lemma=>kernel_rfl
set_option maxRecDepth 1000000 in
theorem checkTrees_holds:Rows.CheckTreesUptoSaid:=
 OpenClaim.holds_of_cond 3 Tryz.f3 rfl rfl rfl rfl rfl rfl rfl ⟨rfl,rfl,rfl,rfl,rfl⟩ rfl rfl rfl rfl rfl (by kernel_rfl) Tryz.func3 closed
  (of_decide_eq_true (by kernel_rfl)) (by unfold Func.isWrapper;first|(rw[if_pos (by decide+kernel)];kernel_rfl)|(rw[if_neg (by decide+kernel)];exact⟨rfl,rfl⟩))
  (λos started H enc _ F=>by rw[OpenClaim.pre_eq_preRow];exact lifted os started H enc F)
end
end Go.Proofs.YtdjkoddnnogejaaGreat
