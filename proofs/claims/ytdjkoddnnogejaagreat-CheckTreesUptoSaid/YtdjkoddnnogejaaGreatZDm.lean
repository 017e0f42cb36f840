/- Part of the proof of CheckTrees: plain laws and steps of its walks, for all arguments. -/
import Derived.Test.YtdjkoddnnogejaaGreatZFb
import Derived.Test.YtdjkoddnnogejaaGreatZCk
set_option linter.unusedSimpArgs false
set_option linter.unusedVariables false
set_option linter.unusedSectionVars false
namespace Go.Proofs.YtdjkoddnnogejaaGreat
section
set_option maxRecDepth 100000
set_option maxHeartbeats 4000000
open Go.Vv Go.Ee
variable{K:aR->SH->Prop}
abbrev E1 (it:aw):EV:=.agg (ry it)
abbrev Td (it:aw):SH:=⟨[(0,.cells (ry it))],1⟩
abbrev On {α:Type} (f:α->Bool) (l:List α):Type:=So l.length λi=>(l.drop i.toNat).find? f=l.find? f
theorem La (it:aw) (b1:it.ss.length<=1048576) (b2:it.es.length<=1048576) (s:ah)
 (hS:∀x,aM it.ss s=some x->W (K (.ret (.bR [.f (.p (.vs (x.fs.map nZ) none x.nl)),.f (.p (.bool false)),.f (.p (.bool true))])) H0))
 (hE:∀x,aM it.ss s=none->aM it.es s=some x->W (K (.ret (.bR [.f (.p (.vs (x.fs.map nZ) none x.nl)),.f (.p (.bool true)),.f (.p (.bool true))])) H0))
 (hN:aM it.ss s=none->aM it.es s=none->W (K (.ret (.bR [.f (.p (.vs [] none true)),.f (.p (.bool false)),.f (.p (.bool false))])) H0)):SC Tryz.prog 237 [E1 it,.s s] H0 K:=by
 refine aX [] [] [] Tryz.func237 rfl (by kernel_rfl) ?_
 repeat' first
  |((with_reducible refine W.of ?_);conv=>whnf)
  |with_reducible first
   |refine W.fin (K:=K) (hS x ?_) rfl rfl
   |refine W.fin (K:=K) (hE y ?_ ?_) rfl rfl
   |refine W.fin (K:=K) (hN ?_ ?_) rfl rfl
  |((with_reducible refine bT [] [] [7] [] (λa:On (λx=>x.name==s) it.ss=>[.i a.1]) (λ_=>Td it) (λa=>it.ss.length-a.1.toNat) ⟨0,by omega,by omega,rfl⟩ (by kernel_rfl) ?_ ?_);(focus((with_reducible refine W.of ?_);(conv=>whnf);exact⟨rfl,rfl⟩));rintro⟨i,i0,i1,hi⟩;dsimp only)
  |((with_reducible refine bT [] [] [8] [] (λa:On (λx=>x.name==s) it.es=>[.i a.1]) (λ_=>Td it) (λa=>it.es.length-a.1.toNat) ⟨0,by omega,by omega,rfl⟩ (by kernel_rfl) ?_ ?_);(focus((with_reducible refine W.of ?_);(conv=>whnf);exact⟨rfl,rfl⟩));rintro⟨j,j0,j1,hj⟩;dsimp only)
  |with_reducible first
   |refine on (iT x) (bE hx) ?_
   |refine on (iT y) (bE hy) ?_
   |refine aj (l:=it.es) (show j.toNat<_ by omega) (λy hy=>?_)
   |refine aj (l:=it.ss) (by omega) (λx hx=>?_)
  |((with_reducible refine bt ?_ ?_);focus(simp[]<;>omega))
  |((with_reducible refine bb (λh=>?_) (λh=>?_))<;>(try simp at h))
 all_goals(try clear hS hE hN)
 all_goals first
  |(show it.ss.find? _=some x;rw[<-hi,bX i0 hx,if_pos (by simp[*])];done)
  |exact⟨⟨⟨i+1,by omega,by omega,by rw[<-hi,bX i0 hx,if_neg (by simp[*])]⟩,ao i0 (by omega),rfl,rfl⟩,rfl⟩
  |(show it.ss.find? _=none;rw[<-hi,fa (by omega)];done)
  |(show it.es.find? _=some y;rw[<-hj,bX j0 hy,if_pos (by simp[*])];done)
  |exact⟨⟨⟨j+1,by omega,by omega,by rw[<-hj,bX j0 hy,if_neg (by simp[*])]⟩,ao j0 (by omega),rfl,rfl⟩,rfl⟩
  |(show it.es.find? _=none;rw[<-hj,fa (by omega)];done)
theorem U0 (it:aw) (b3:it.fns.length<=1048576) (s:ah) (hs:∀(i:Int) x,0<=i->it.fns[i.toNat]?=some x->findF it.fns s=some x->W (K (.ret (.bR [.f (.p (.int .i64 i)),.f (.p (.bool true))])) H0))
 (hn:findF it.fns s=none->W (K (.ret (.bR [.f (.p (.int .i64 0)),.f (.p (.bool false))])) H0)):SC Tryz.prog 310 [E1 it,.s s] H0 K:=by
 refine aX [] [] [] Tryz.func310 rfl (by kernel_rfl) ?_
 repeat' first
  |((with_reducible refine W.of ?_);conv=>whnf)
  |with_reducible first
   |refine W.fin (K:=K) (hs i x i0 hx ?_) rfl rfl
   |refine W.fin (K:=K) (hn ?_) rfl rfl
  |((with_reducible refine bT [] [] [6] [] (λa:On (λx=>x.name==s) it.fns=>[.i a.1]) (λ_=>Td it) (λa=>it.fns.length-a.1.toNat) ⟨0,by omega,by omega,rfl⟩ (by kernel_rfl) ?_ ?_);(focus((with_reducible refine W.of ?_);(conv=>whnf);exact⟨rfl,rfl⟩));rintro⟨i,i0,i1,hi⟩;dsimp only)
  |with_reducible refine aj (l:=it.fns) (by omega) (λx hx=>?_)
  |((with_reducible refine bt ?_ ?_);focus(simp[]<;>omega))
  |((with_reducible refine bb (λh=>?_) (λh=>?_))<;>(try simp at h))
 all_goals(try clear hs hn)
 all_goals first
  |(show it.fns.find? _=some x;rw[<-hi,bX i0 hx,if_pos (by simp[*])];done)
  |exact⟨⟨⟨i+1,by omega,by omega,by rw[<-hi,bX i0 hx,if_neg (by simp[*])]⟩,ao i0 (by omega),rfl,rfl⟩,rfl⟩
  |(show it.fns.find? _=none;rw[<-hi,fa (by omega)];done)
theorem wj (it:aw) (b1:it.ss.length<=1048576) (s:ah) (hs:∀x,aM it.ss s=some x->W (K (.ret (.bR [.agg [.p (.str x.name),.p (.vs (x.fs.map nZ) none x.nl)],.f (.p (.bool true))])) H0)) (hn:aM it.ss s=none->W (K (.ret (.bR [.agg [.p (.str []),.p (.vs [] none true)],.f (.p (.bool false))])) H0)):SC Tryz.prog 311 [E1 it,.s s] H0 K:=by
 refine aX [] [] [] Tryz.func311 rfl (by kernel_rfl) ?_
 repeat' first
  |((with_reducible refine W.of ?_);conv=>whnf)
  |with_reducible first
   |refine W.fin (K:=K) (hs x ?_) rfl rfl
   |refine W.fin (K:=K) (hn ?_) rfl rfl
  |((with_reducible refine bT [] [] [6] [] (λa:On (λx=>x.name==s) it.ss=>[.i a.1]) (λ_=>⟨[(1,.cells [.p (.str []),.p (.vs [] none true)]),(0,.cells (ry it))],2⟩) (λa=>it.ss.length-a.1.toNat) ⟨0,by omega,by omega,rfl⟩ (by kernel_rfl) ?_ ?_);(focus((with_reducible refine W.of ?_);(conv=>whnf);exact⟨rfl,rfl⟩));rintro⟨i,i0,i1,hi⟩;dsimp only)
  |with_reducible first
   |refine on (iT x) (bE hx) ?_
   |refine aj (l:=it.ss) (by omega) (λx hx=>?_)
  |((with_reducible refine bt ?_ ?_);focus(simp[]<;>omega))
  |((with_reducible refine bb (λh=>?_) (λh=>?_))<;>(try simp at h))
 all_goals(try clear hs hn)
 all_goals first
  |(show it.ss.find? _=some x;rw[<-hi,bX i0 hx,if_pos (by simp[*])];done)
  |exact⟨⟨⟨i+1,by omega,by omega,by rw[<-hi,bX i0 hx,if_neg (by simp[*])]⟩,ao i0 (by omega),rfl,rfl⟩,rfl⟩
  |(show it.ss.find? _=none;rw[<-hi,fa (by omega)];done)
abbrev W3 (it:aw) (x:ah) (fs:List Fd) (n:Bool):SH:=⟨[(1,.cells [.p (.str x),.p (.vs (fs.map nZ) none n)]),(0,.cells (ry it))],2⟩
theorem AS (it:aw) (b1:it.ss.length<=1048576) (b2:∀x∈it.ss,x.fs.length<=1048576) (s fl:ah) (hs:∀(i:Int) f,dG it s fl=some f->W (K (.ret (.bR [.f (.p (.int .i64 i)),.f (.p (.str f.ty)),.f (.p (.bool true))])) H0)) (hn:dG it s fl=none->W (K (.ret (.bR [.f (.p (.int .i64 0)),.f (.p (.str [])),.f (.p (.bool false))])) H0)):SC Tryz.prog 312 [E1 it,.s s,.s fl] H0 K:=by
 refine aX [(6,[(0,[]),(1,[]),(2,[]),(3,[]),(4,[]),(5,[]),(6,[]),(7,[6,2]),(8,[]),(9,[])])] [] [] Tryz.func312 rfl (by kernel_rfl) ?_
 repeat' first
  |((with_reducible refine W.of ?_);conv=>whnf)
  |with_reducible first
   |refine W.fin (K:=K) (hs i f ?_) rfl rfl
   |refine W.fin (K:=K) (hn ?_) rfl rfl
   |refine W.and (by kernel_rfl) ?_
   |refine wj it b1 s (λx hx=>?_) (λhx=>?_)
  |((with_reducible refine bT [(6,[(0,[]),(1,[]),(2,[]),(3,[]),(4,[]),(5,[]),(6,[]),(7,[6,2]),(8,[]),(9,[])])] [] [11] [] (λa:On (λy=>y.name==fl) x.fs=>[.i a.1]) (λ_=>W3 it x.name x.fs x.nl) (λa=>x.fs.length-a.1.toNat) ⟨0,by omega,by omega,rfl⟩ (by kernel_rfl) ?_ ?_);(focus((with_reducible refine W.of ?_);(conv=>whnf);exact⟨rfl,rfl⟩));rintro⟨i,i0,i1,hi⟩;dsimp only;(have hxl:=b2 x (bD hx).1))
  |((with_reducible refine bT [(6,[(0,[]),(1,[]),(2,[]),(3,[]),(4,[]),(5,[]),(6,[]),(7,[6,2]),(8,[]),(9,[])])] [] [11] [] (λa:So 0 λ_=>True=>[.i a.1]) (λ_=>W3 it [] [] true) (λa=>0-a.1.toNat) ⟨0,by omega,by omega,trivial⟩ (by kernel_rfl) ?_ ?_);(focus((with_reducible refine W.of ?_);(conv=>whnf);exact⟨rfl,rfl⟩));rintro⟨i,i0,i1,hi⟩;dsimp only)
  |with_reducible first
   |refine on (nZ f) (bE hf) ?_
   |refine aj (l:=x.fs) (by omega) (λf hf=>?_)
  |((with_reducible refine bt ?_ ?_);focus(simp[]<;>omega))
  |((with_reducible refine bf ?_ ?_);focus(simp[]<;>omega))
  |with_reducible refine SC.call ?_
  |((with_reducible refine bb (λh=>?_) (λh=>?_))<;>(try simp at h))
 all_goals(try clear hs hn)
 all_goals first
  |(rw[dG,hx,Option.bind_some,gV,<-hi,bX i0 hf,if_pos (by simp[*])];done)
  |exact⟨⟨⟨i+1,by omega,by omega,by rw[<-hi,bX i0 hf,if_neg (by simp[*])]⟩,ao i0 (by omega),rfl,rfl⟩,rfl⟩
  |(rw[dG,hx,Option.bind_some,gV,<-hi,fa (by omega)];done)
  |(rw[dG,hx];rfl)
abbrev XO (it:aw) (s:ah) (i:Int):Type:=So 1048576 λk=>∀e,it.es[i.toNat]?=some e->(e.fs.drop k.toNat).find? (λv=>e.name++[58,58]++v.name==s)=e.fs.find? (λv=>e.name++[58,58]++v.name==s)
theorem gU (it:aw) (s:ah) (fl:Fl it) (hs:∀(i k:Int) e v,0<=i->0<=k->it.es[i.toNat]?=some e->e.fs[k.toNat]?=some v->eu it s=some (e.name,v.ty)->W (K (.ret (.bR [.f (.p (.int .i64 i)),.f (.p (.int .i64 k)),.f (.p (.bool true))])) H0)) (hn:eu it s=none->W (K (.ret (.bR [.f (.p (.int .i64 0)),.f (.p (.int .i64 0)),.f (.p (.bool false))])) H0)):SC Tryz.prog 314 [E1 it,.s s] H0 K:=by
 have n2:=fl.n2
 refine aX [] [] [] Tryz.func314 rfl (by kernel_rfl) ?_
 repeat' first
  |((with_reducible refine W.of ?_);conv=>whnf)
  |with_reducible first
   |refine W.fin (K:=K) (hs _ _ e v ‹_› ‹_› he hv ?_) rfl rfl
   |refine W.fin (K:=K) (hn ?_) rfl rfl
   |refine W.and (by kernel_rfl) ?_
  |((with_reducible refine bT [] [] [7] [] (λa:So it.es.length λi=>ix s (it.es.drop i.toNat)=eu it s=>[.i a.1]) (λ_=>Td it) (λa=>it.es.length-a.1.toNat) ⟨0,by omega,by omega,rfl⟩ (by kernel_rfl) ?_ ?_);(focus((with_reducible refine W.of ?_);(conv=>whnf);exact⟨rfl,rfl⟩));rintro⟨i,hi0,hi,hf⟩;dsimp only)
  |with_reducible first
   |refine on (iT e) (bE he) ?_
   |refine aj (l:=e.fs) (by omega) (λv hv=>?_)
  |((with_reducible refine aj (l:=it.es) (by omega) (λe he=>?_));(obtain⟨_,e1,e2,e3⟩:=fl.ef e (List.mem_of_getElem? he)))
  |((with_reducible refine bT [] [] [8] [] (λa:XO it s i=>[.i a.1]) (λ_=>Td it) (λa=>1048576-a.1.toNat) ⟨0,by omega,by omega,λ_ _=>rfl⟩ (by kernel_rfl) ?_ ?_);(focus((with_reducible refine W.of ?_);(conv=>whnf);exact⟨rfl,rfl⟩));rintro⟨k,hk0,hk,hg⟩;dsimp only)
  |((with_reducible refine bt ?_ ?_);focus(simp[]<;>omega))
  |((have hE3:=e3 v (List.mem_of_getElem? hv));with_reducible refine bt ?_ ?_;(focus(simp;omega)))
  |((with_reducible refine bb (λh=>?_) (λh=>?_))<;>(try simp at h))
 all_goals(try clear hs hn)
 all_goals first
  |(rw[<-hf,jZ hi0 he,<-hg e he,bX hk0 hv,if_pos (by simp[*])];done)
  |exact⟨⟨⟨k+1,by omega,by omega,λe' he'=>by obtain rfl:=Option.some.inj (he.symm.trans he');rw[<-hg e he,bX hk0 hv,if_neg (by simp[h])]⟩,(by dsimp only;omega),rfl,rfl⟩,rfl⟩
  |(have hg2:=hg e he;rw[fa (by omega)] at hg2;exact⟨⟨⟨i+1,by omega,by omega,by rw[<-hf,jZ hi0 he,<-hg2]⟩,ao hi0 (by omega),rfl,rfl⟩,rfl⟩)
  |(rw[<-hf,List.drop_of_length_le (by omega)];rfl)
end
section
set_option maxRecDepth 100000
set_option maxHeartbeats 4000000
open Go.Vv Go.Ee
variable{K:aR->SH->Prop}
def PA (it:aw) (s:ah) (fs:List Fd) (nl en ok:Bool):Prop:=
 (∃x,aM it.ss s=some x/\fs=x.fs/\nl=x.nl/\en=false/\ok=true)\/(aM it.ss s=none/\∃x,aM it.es s=some x/\fs=x.fs/\nl=x.nl/\en=true/\ok=true)\/(aM it.ss s=none/\aM it.es s=none/\fs=[]/\nl=true/\en=false/\ok=false)
theorem AU (it:aw) (iZ:A1 it) (s:ah) (hK:∀fs nl en ok,PA it s fs nl en ok->W (K (.ret (.bR [.f (.p (.vs (fs.map nZ) none nl)),.f (.p (.bool en)),.f (.p (.bool ok))])) H0)):SC Tryz.prog 237 [E1 it,.s s] H0 K:=
 La it iZ.ss iZ.es s (λx h=>hK x.fs x.nl false true (.inl ⟨x,h,rfl,rfl,rfl,rfl⟩)) (λx h1 h=>hK x.fs x.nl true true (.inr (.inl ⟨h1,x,h,rfl,rfl,rfl,rfl⟩))) (λh1 h2=>hK [] true false false (.inr (.inr ⟨h1,h2,rfl,rfl,rfl,rfl⟩)))
theorem PA.ed {it:aw} {s:ah} {fs:List Fd} {nl en ok:Bool} (h:PA it s fs nl en ok):cY it s=fs.map Fd.ty:=by
 unfold cY
 rcases h with⟨x,h1,rfl,_⟩|⟨h1,x,h2,rfl,_⟩|⟨h1,h2,rfl,_⟩
 ·rw[h1]
 ·rw[h1,h2]
 ·rw[h1,h2];rfl
theorem PA.len {it:aw} (iZ:A1 it) {s:ah} {fs:List Fd} {nl en ok:Bool} (h:PA it s fs nl en ok):fs.length<=1048576:=by
 rcases h with⟨x,h1,rfl,_⟩|⟨h1,x,h2,rfl,_⟩|⟨h1,h2,rfl,_⟩
 ·exact iZ.sf x (bD h1).1
 ·exact iZ.ef x (bD h2).1
 ·simp
theorem PA.no {it:aw} {s:ah} {fs:List Fd} {nl en ok:Bool} (h:PA it s fs nl en ok) (e:ok=false):cY it s=[]:=by
 rw[h.ed]
 rcases h with⟨x,h1,rfl,_,_,e2⟩|⟨h1,x,h2,rfl,_,_,e2⟩|⟨h1,h2,rfl,_⟩
 ·rw[e] at e2;cases e2
 ·rw[e] at e2;cases e2
 ·rfl
theorem PA.mem {it:aw} {s:ah} {fs:List Fd} {nl en ok:Bool} (h:PA it s fs nl en ok) (e:ok=true):s∈aY it:=by
 rcases h with⟨x,h1,rfl,_,_,e2⟩|⟨h1,x,h2,rfl,_,_,e2⟩|⟨h1,h2,rfl,_,_,e2⟩
 ·exact jR h1
 ·exact jQ h2
 ·rw[e] at e2;cases e2
theorem PA.TC {it:aw} {s:ah} {fs:List Fd} {nl en ok:Bool} (h:PA it s fs nl en ok):eM it s=(en&&fs.isEmpty||wF it s):=by
 unfold eM
 rcases h with⟨x,h1,rfl,_,rfl,e2⟩|⟨h1,x,h2,rfl,_,rfl,e2⟩|⟨h1,h2,rfl,_,rfl,e2⟩
 ·rw[h1];rfl
 ·rw[h1,h2];rfl
 ·rw[h1,h2];rfl
theorem TQ (l:List ah) (s:ah) (hl:l.length<=1048576) (hK:W (K (.ret (.b (l.contains s))) ⟨[(0,.arr 1 (l.map bL) true)],1⟩)):SC Tryz.prog 238 [.f (.ref 0 l.length 1 none),.s s] ⟨[(0,.arr 1 (l.map bL) true)],1⟩ K:=by
 refine aX [] [] [] Tryz.func238 rfl (by kernel_rfl) ?_
 repeat' first
  |((with_reducible refine W.of ?_);conv=>whnf)
  |with_reducible refine W.fin (K:=K) hK ?_ rfl
  |((with_reducible refine bT [] [] [5] [] (λa:So l.length λi=>(l.drop i.toNat).contains s=l.contains s=>[.i a.1]) (λ_=>⟨[(0,.arr 1 (l.map bL) true)],1⟩) (λa=>l.length-a.1.toNat) ⟨0,by omega,by omega,rfl⟩ (by kernel_rfl) ?_ ?_);(focus((with_reducible refine W.of ?_);(conv=>whnf);exact⟨rfl,rfl⟩));rintro⟨i,i0,i1,hi⟩;dsimp only)
  |with_reducible refine aj (l:=l) (by omega) (λx hx=>?_)
  |((with_reducible refine bt ?_ ?_);focus(simp[]<;>omega))
  |((with_reducible refine bb (λh=>?_) (λh=>?_))<;>(try simp at h))
 ·rw[<-hi,Bc i0 hx ‹_›]
 ·exact⟨⟨⟨i+1,by omega,by omega,by rw[<-hi,GA i0 hx ‹_›]⟩,ao i0 (by omega),rfl,rfl⟩,rfl⟩
 ·rw[<-hi,Bb ‹_›]
abbrev yK (it:aw) (seen todo:List ah):Nat:=dq (cY it) (aY it) seen todo
structure Xu where
 seen:List ah
 todo:List ah
 c:Option Nat
 n:Bool
abbrev U6 (it:aw) (name:ah):Type:={q:Xu//dD (cY it) name q.seen q.todo/\yK it q.seen q.todo+q.seen.length<=1000000}
structure XA where
 j:Int
 l:List ah
 c:Option Nat
 n:Bool
abbrev WK (name:ah) (td:List ah) (fs:List Fd):Type:={q:XA//0<=q.j/\q.j<=fs.length/\name∉(fs.take q.j.toNat).map Fd.ty/\q.l=td++(fs.take q.j.toNat).map Fd.ty}
def VM (name:ah) (td:List ah) (fs:List Fd) (c:Option Nat) (n:Bool):WK name td fs:=⟨⟨0,td,c,n⟩,by simp,by simp,by simp,by simp⟩
abbrev XU (it:aw) (seen:List ah):SH:=⟨[(2,.arr 1 (seen.map bL) true),(0,.cells (ry it))],3⟩
abbrev XY (it:aw) (seen:List ah):SH:=⟨[(3,.arr 1 (seen.map bL) true),(0,.cells (ry it))],4⟩
theorem wO (l:List ah):fits 1 (l.map bL)=true:=pG (λ_=>rfl) l
theorem LU (x:ah) (l:List ah):fits 1 (bL x::l.map bL)=true:=wO (x::l)
theorem G8 {l:List (List PV)} {k:List (List PV)->Prop} (h:W (k l)):Fold ([]++l) k:=fold_eq _ (List.nil_append _) h
theorem LW {l:List ah} {x:ah} {k:List (List PV)->Prop} (h:W (k ((l++[x]).map bL))):Fold (l.map bL++[[PV.str x]]) k:=fold_eq _ (by rw[List.map_append];rfl) h
def VA {it:aw} {name:ah} (h:yK it [] [name]<=1000000):U6 it name:=⟨⟨[],[name],some 1,false⟩,dD.start,h⟩
theorem D5 {it:aw} {seen td:List ah} {x:ah} (h:yK it seen (x::td)+seen.length<=1000000):td.length+1+seen.length<=1000000:=by unfold yK dq at h;simp at h;omega
theorem P3 {it:aw} {name:ah} (h:Reach (cY it) name name) (hn0:([]:ah)∉aY it) (hne:name≠[]):eM it name=true:=by
 unfold eM;rw[qE ((JW hn0 hne).1 h)];simp
theorem OI {name:ah} {fs:List Fd} {y:Fd} {j:Int} (j0:0<=j) (hy:fs[j.toNat]?=some y) (hj:name∉(fs.take j.toNat).map Fd.ty) (h:¬y.ty=name):name∉(fs.take (j+1).toNat).map Fd.ty:=by
 rw[show(j+1).toNat=j.toNat+1 by omega,List.take_add_one,hy,List.map_append,List.mem_append]
 rintro(h2|h2)
 ·exact hj h2
 ·simp at h2;exact h h2.symm
theorem OH {td l:List ah} {fs:List Fd} {y:Fd} {j:Int} (j0:0<=j) (hy:fs[j.toNat]?=some y) (hl:l=td++(fs.take j.toNat).map Fd.ty):l++[y.ty]=td++(fs.take (j+1).toNat).map Fd.ty:=by
 rw[show(j+1).toNat=j.toNat+1 by omega,List.take_add_one,hy,List.map_append,hl,List.append_assoc];rfl
theorem OJ {fs:List Fd} {j:Int} (h:(fs.length:Int)<=j):fs.take j.toNat=fs:=List.take_of_length_le (by omega)
theorem Qn {name:ah} {fs:List Fd} {j:Int} (h:(fs.length:Int)<=j) (hj:name∉(fs.take j.toNat).map Fd.ty):name∉fs.map Fd.ty:=by rwa [OJ h] at hj
theorem Df {it:aw} {name x:ah} {seen td:List ah} {c:Option Nat} {n:Bool} (hS:dD (cY it) name seen (x::td)) (hM:yK it seen (x::td)+seen.length<=1000000) (h:x∈seen\/cY it x=[]):∃a:U6 it name,yK it a.1.seen a.1.todo<yK it seen (x::td)/\a.1=⟨seen,td,c,n⟩:=by
 have hlt:yK it seen td<yK it seen (x::td):=by unfold yK dq;simp
 exact⟨⟨⟨seen,td,c,n⟩,hS.skip h,by dsimp only;omega⟩,hlt,rfl⟩
theorem LK {it:aw} {name x:ah} {seen td l:List ah} {fs:List Fd} {c:Option Nat} {n:Bool} (hS:dD (cY it) name seen (x::td)) (hM:yK it seen (x::td)+seen.length<=1000000) (hx:x∈aY it) (hns:¬x∈seen) (hed:cY it x=fs.map Fd.ty) (hno:name∉fs.map Fd.ty) (hl:l=td++fs.map Fd.ty):∃a:U6 it name,yK it a.1.seen a.1.todo<yK it seen (x::td)/\a.1=⟨seen++[x],l,c,n⟩:=by
 have hlt:=xN (E:=cY it) (U:=aY it) (seen:=seen) (todo:=td) (x:=x) hx (by simpa using hns)
 rw[hed,<-hl] at hlt
 refine⟨⟨⟨seen++[x],l,c,n⟩,?_,?_⟩,hlt,rfl⟩
 ·have:=hS.take (by rw[hed];exact hno)
  rwa [hed,<-hl] at this
 ·dsimp only;rw[List.length_append];simp only[List.length_cons,List.length_nil];unfold yK at hM⊢;omega
theorem CG (it:aw) (iZ:A1 it) (hn0:([]:ah)∉aY it) (name:ah) (hne:name≠[]) (hsm:yK it [] [name]<=1000000) (hK:KB K (eM it name)):SC Tryz.prog 171 [E1 it,.s name] H0 K:=by
 refine aX [(17,[(0,[]),(1,[]),(3,[]),(4,[]),(5,[]),(6,[]),(7,[]),(8,[]),(2,[7]),(9,[]),(10,[])])] [(14,[(9,none)])] [] Tryz.func171 rfl (by kernel_rfl) ?_
 repeat' first
  |((with_reducible refine W.of ?_);conv=>whnf)
  |with_reducible first
   |refine W.fin (K:=K) hK ?_ rfl
   |refine W.and (by kernel_rfl) ?_
  |((with_reducible refine AU it iZ _ (λfs nl en ok hP=>?_));(have hfl:=hP.len iZ);(have hed:=hP.ed))
  |((with_reducible refine SL.nil 8 1 ?_);(with_reducible refine W.of ?_);(conv=>whnf);(with_reducible refine bT [(17,[(0,[]),(1,[]),(3,[]),(4,[]),(5,[]),(6,[]),(7,[]),(8,[]),(2,[7]),(9,[]),(10,[])])] [(14,[(9,none)])] [8,9] [1] (λa:U6 it name=>[.f (.ref 2 a.1.seen.length 1 none),.f (.p (.vs (a.1.todo.map bL) a.1.c a.1.n))]) (λa=>XU it a.1.seen) (λa=>yK it a.1.seen a.1.todo) (VA hsm) (by kernel_rfl) ?_ ?_);(focus((with_reducible refine W.of ?_);(conv=>whnf);exact⟨rfl,rfl⟩));rintro⟨⟨seen,todo,c,n⟩,hS,hM⟩;dsimp only;(dsimp only at hS hM;rcases todo with _|⟨x,td⟩;rotate_left;have hsl:=D5 hM;rotate_left))
  |with_reducible first
   |refine on (bL x) rfl ?_
   |refine bt (LU x td) ?_
   |refine bt (wO (x::td)) ?_
   |refine bt (wO l) ?_
   |refine TQ seen x (by omega) ?_
   |refine G8 ?_
   |refine LW ?_
   |refine fj ?_
   |refine OV ?_
  |((with_reducible refine bT [(17,[(0,[]),(1,[]),(3,[]),(4,[]),(5,[]),(6,[]),(7,[]),(8,[]),(2,[7]),(9,[]),(10,[])])] [(14,[(9,none)])] [9,14] [] (λa:WK name td fs=>[.f (.p (.vs (a.1.l.map bL) a.1.c a.1.n)),.i a.1.j]) (λ_=>XY it (seen++[x])) (λa=>fs.length-a.1.j.toNat) (VM name td fs (Option.map (λx=>x-Int.toNat 1) c) (n5 (List.map bL (x::td)) n)) (by kernel_rfl) ?_ ?_);(focus((with_reducible refine W.of ?_);(conv=>whnf);exact⟨rfl,rfl⟩));rintro⟨⟨j,l,c1,n1⟩,j0,j1,hj,hl⟩;dsimp only;(dsimp only at j0 j1 hj hl;have hll:l.length<=2500000:=by rw[hl,List.length_append,List.length_map,List.length_take];have:=D5 hM;omega))
  |with_reducible first
   |refine on (nZ y) (bE hy) ?_
   |refine aj (l:=fs) (by omega) (λy hy=>?_)
  |((with_reducible refine bt ?_ ?_);focus(simp[hC]<;>omega))
  |with_reducible refine SC.call ?_
  |((with_reducible refine bb (λh=>?_) (λh=>?_))<;>(try simp at h))
 all_goals(try clear hK)
 all_goals first
  |(have e:=‹y.ty=name›;rw[P3 (hS.hit (by rw[hed,<-e];exact List.mem_map_of_mem (List.mem_of_getElem? hy))) hn0 hne];done)
  |(have e:=‹¬y.ty=name›;have e2:=‹l=[]›;subst e2;exact⟨⟨⟨⟨j+1,[y.ty],none,true⟩,by dsimp only;omega,by dsimp only;omega,OI j0 hy hj e,OH j0 hy hl⟩,ao j0 (by omega),rfl,rfl⟩,rfl⟩)
  |(have e:=‹¬y.ty=name›;exact⟨⟨⟨⟨j+1,l++[y.ty],none,true⟩,by dsimp only;omega,by dsimp only;omega,OI j0 hy hj e,OH j0 hy hl⟩,ao j0 (by omega),rfl,rfl⟩,rfl⟩)
  |(have e:=‹ok=false›;have ee:=Df hS hM (.inr (hP.no e)) (c:=Option.map (λx=>x-Int.toNat 1) c) (n:=n5 (List.map bL (x::td)) n);obtain⟨a,a1,a2⟩:=ee;exact⟨⟨a,a1,by rw[a2];rfl,by rw[a2]⟩,rfl⟩)
  |(have e:=‹x∈seen›;have ee:=Df hS hM (.inl e) (c:=Option.map (λx=>x-Int.toNat 1) c) (n:=n5 (List.map bL (x::td)) n);obtain⟨a,a1,a2⟩:=ee;exact⟨⟨a,a1,by rw[a2];rfl,by rw[a2]⟩,rfl⟩)
  |(have e:=‹(fs.length:Int)<=j›;have ee:=LK (c:=c1) (n:=n1) hS hM (hP.mem ‹ok=true›) ‹¬x∈seen› hed (Qn e hj) (l:=l) (by rw[hl,OJ e]);obtain⟨a,a1,a2⟩:=ee;exact⟨⟨a,a1,by rw[a2],by rw[a2]⟩,rfl⟩)
  |(rw[hP.TC];simp[*];done)
  |(rw[hP.TC,tc (λhr=>hS.done ((JW hn0 hne).2 hr))];simp[*];done)
end
section
set_option maxRecDepth 100000
set_option maxHeartbeats 4000000
open Go.Vv Go.Ee
def S6 (it:aw) (s:ah) (p w:Int):Prop:=0<=p/\p<=1025/\0<=w/\w<=65/\yN it s p.toNat w.toNat
theorem Cj {it:aw} {t:ah} {ts:List ah} {p q n w m:Int} (ht:t≠[]) (h:S6 it t p q) (n0:0<=n) (n1:n<=1024) (w0:0<=w) (m0:0<=m):jO it (t::ts) (n.toNat,w.toNat,m.toNat)=if 1024<n+p then none else jO it ts ((n+p).toNat,(w+q).toNat,(max m q).toNat):=by
 obtain⟨p0,p1,q0,q1,h1,h2,h3⟩:=h
 rw[jO,if_neg ht]
 dsimp only
 by_cases hp:(iL it t).1<=1024
 ·obtain⟨e1,e2⟩:=h1 hp
  rw[<-e1,<-e2]
  by_cases hb:1024<n+p
  ·rw[if_pos hb,if_pos (by omega)]
  ·rw[if_neg hb,if_neg (by omega),show(n+p).toNat=n.toNat+p.toNat by omega,show(w+q).toNat=w.toNat+q.toNat by omega,show(max m q).toNat=max m.toNat q.toNat by omega]
 ·have e:=h2 (by omega)
  rw[if_pos (by omega),if_pos (by omega)]
theorem Sv {it:aw} (hac:gD it) {s:ah} {fs:List Fd} {nl en ok:Bool} (hP:PA it s fs nl en ok) (ho:ok=true) (hfe:∀x∈it.ss,∀f∈x.fs,f.ty≠[]) {n w m:Nat} (hr:jO it (fs.map Fd.ty) (1,0,0)=some (n,w,m)):yN it s n (if 64<(if en=true then 1+m else w) then 65 else(if en=true then 1+m else w)):=by
 rcases hP with⟨x,h1,rfl,_,rfl,e2⟩|⟨h1,x,h2,rfl,_,rfl,e2⟩|⟨h1,h2,rfl,_,_,e2⟩
 ·exact NV hac h1 (hfe _ (bD h1).1) hr
 ·exact NU hac h1 h2 hr
 ·rw[ho] at e2;cases e2
theorem N1 {it:aw} (hac:gD it) {s:ah} {fs:List Fd} {nl en ok:Bool} (hP:PA it s fs nl en ok) (ho:ok=true) (hfe:∀x∈it.ss,∀f∈x.fs,f.ty≠[]) (hr:jO it (fs.map Fd.ty) (1,0,0)=none):yN it s 1025 0:=by
 rcases hP with⟨x,h1,rfl,_,rfl,e2⟩|⟨h1,x,h2,rfl,_,rfl,e2⟩|⟨h1,h2,rfl,_,_,e2⟩
 ·exact Cf hac h1 (hfe _ (bD h1).1) hr
 ·exact Ce hac h1 h2 hr
 ·rw[ho] at e2;cases e2
theorem KC {it:aw} {s:ah} {fs:List Fd} {nl en ok:Bool} (hP:PA it s fs nl en ok) (ho:ok=false):yN it s 1 (if s=[40,41] then 0 else 1):=by
 rcases hP with⟨x,h1,rfl,_,rfl,e2⟩|⟨h1,x,h2,rfl,_,rfl,e2⟩|⟨h1,h2,rfl,_,_,e2⟩
 ·rw[ho] at e2;cases e2
 ·rw[ho] at e2;cases e2
 ·unfold yN
  rw[Pc h1 h2]
  split<;>simp
theorem Xj {it:aw} (hac:gD it) {s:ah} {fs:List Fd} {nl en ok:Bool} (hP:PA it s fs nl en ok) (ho:ok=true) {j:Nat} {y:Fd} (hy:fs[j]?=some y) (hne:y.ty≠[]) {r:Nat} (hr:jy it s<r+1):jy it y.ty<r:=by
 have:=mW hac (hP.mem ho) (qD (by rw[hP.ed];exact List.mem_map_of_mem (List.mem_of_getElem? hy)) hne)
 omega
theorem sO {fs:List Fd} {j:Int} {y:Fd} (j0:0<=j) (hy:fs[j.toNat]?=some y):(fs.drop j.toNat).map Fd.ty=y.ty::(fs.drop (j+1).toNat).map Fd.ty:=by rw[drop_cons j0 hy];rfl
theorem KE {it:aw} {fs:List Fd} {j:Int} {y:Fd} (j0:0<=j) (hy:fs[j.toNat]?=some y) (h:y.ty=[]) (a:Nat×Nat×Nat):jO it ((fs.drop j.toNat).map Fd.ty) a=jO it ((fs.drop (j+1).toNat).map Fd.ty) a:=by rw[sO j0 hy,jO,if_pos h]
theorem N3 {it:aw} {fs:List Fd} {j:Int} (h:(fs.length:Int)<=j) (a:Nat×Nat×Nat):jO it ((fs.drop j.toNat).map Fd.ty) a=some a:=by rw[List.drop_of_length_le (by omega)];rfl
theorem Sw {it:aw} (hac:gD it) {s:ah} {fs:List Fd} {nl en ok:Bool} (hP:PA it s fs nl en ok) (ho:ok=true) (hfe:∀x∈it.ss,∀f∈x.fs,f.ty≠[]) {j n w m r:Int} (n0:0<=n) (n1:n<=1024) (w0:0<=w) (m0:0<=m) (h:(fs.length:Int)<=j) (hF:jO it ((fs.drop j.toNat).map Fd.ty) (n.toNat,w.toNat,m.toNat)=jO it (fs.map Fd.ty) (1,0,0))
 (hr:r=if 64<(if en=true then 1+m else w) then 65 else(if en=true then 1+m else w)):S6 it s n r:=by
 rw[N3 h] at hF
 have:=Sv hac hP ho hfe hF.symm
 cases en with
 |true=>
  simp only[if_true] at this hr
  subst hr
  refine⟨n0,by omega,by split<;>omega,by split<;>omega,?_⟩
  rwa [show(if 64<1+m then(65:Int) else 1+m).toNat=if 64<1+m.toNat then 65 else 1+m.toNat by split<;>split<;>omega]
 |false=>
  simp only[Bool.false_eq_true,if_false] at this hr
  subst hr
  refine⟨n0,by omega,by split<;>omega,by split<;>omega,?_⟩
  rwa [show(if 64<w then(65:Int) else w).toNat=if 64<w.toNat then 65 else w.toNat by split<;>split<;>omega]
theorem N2 {it:aw} (hu0:aE∉aY it) {s:ah} {fs:List Fd} {nl en ok:Bool} (hP:PA it s fs nl en ok) (h:s=[40,41]):S6 it s 1 0:=by
 have ho:ok=false:=by
  cases ok with
  |false=>rfl
  |true=>exact absurd (by have:=hP.mem rfl;rw[h] at this;exact this) hu0
 have:=KC hP ho
 rw[if_pos h] at this
 exact⟨by omega,by omega,by omega,by omega,this⟩
theorem Sx {it:aw} {s:ah} {fs:List Fd} {nl en ok:Bool} (hP:PA it s fs nl en ok) (ho:ok=false) (h:¬s=[40,41]):S6 it s 1 1:=by
 have:=KC hP ho
 rw[if_neg h] at this
 exact⟨by omega,by omega,by omega,by omega,this⟩
structure XL where
 j:Int
 n:Int
 w:Int
 m:Int
abbrev WS (it:aw) (fs:List Fd):Type:={q:XL//0<=q.j/\q.j<=fs.length/\0<=q.n/\q.n<=1024/\0<=q.w/\q.w<=65*q.j/\0<=q.m/\q.m<=65/\jO it ((fs.drop q.j.toNat).map Fd.ty) (q.n.toNat,q.w.toNat,q.m.toNat)=jO it (fs.map Fd.ty) (1,0,0)}
def Wp (it:aw) (fs:List Fd):WS it fs:=⟨⟨0,1,0,0⟩,Int.le_refl 0,Int.natCast_nonneg _,(by decide:(0:Int)<=1),(by decide:(1:Int)<=1024),Int.le_refl 0,(by decide:(0:Int)<=65*0),Int.le_refl 0,(by decide:(0:Int)<=65),rfl⟩
abbrev Vt (it:aw) (r:Nat):Prop:=∀(s:ah) {K:aR->SH->Prop},s≠[]->jy it s<r->(∀p w,S6 it s p w->W (K (.ret (.bR [.f (.p (.int .i64 p)),.f (.p (.int .i64 w))])) H0))->SC Tryz.prog 172 [E1 it,.s s] H0 K
theorem Oj (it:aw) (iZ:A1 it) (hac:gD it) (hu0:aE∉aY it) (hfe:∀x∈it.ss,∀f∈x.fs,f.ty≠[]):∀r,Vt it r
 |0,s,K,hs,hr,hK=>by omega
 |r+1,s,K,hs,hr,hK=>by
  refine aX [] [] [] Tryz.func172 rfl (by kernel_rfl) ?_
  repeat' first
   |((with_reducible refine W.of ?_);conv=>whnf)
   |with_reducible first
    |refine W.fin (K:=K) (hK _ _ ?_) rfl rfl
    |refine W.and (by kernel_rfl) ?_
    |refine AU it iZ _ (λfs nl en ok hP=>?_)
   |((with_reducible refine bT [] [] [9,10,11,12] [] (λa:WS it fs=>[.i a.1.n,.i a.1.w,.i a.1.m,.i a.1.j]) (λ_=>Td it) (λa=>fs.length-a.1.j.toNat) (Wp it fs) (by kernel_rfl) ?_ ?_);(focus((with_reducible refine W.of ?_);(conv=>whnf);exact⟨rfl,rfl⟩));rintro⟨⟨j,n,w,m⟩,j0,j1,n0,n1,w0,w1,m0,m1,hF⟩;dsimp only;(dsimp only at j0 j1 n0 n1 w0 w1 m0 m1 hF;have hfl:=hP.len iZ))
   |with_reducible first
    |refine on (nZ y) (bE hy) ?_
    |refine aj (l:=fs) (by omega) (λy hy=>?_)
   |((with_reducible refine Oj it iZ hac hu0 hfe r y.ty ‹_› (Xj hac hP ‹_› hy ‹_› hr) (λp q hz=>?_));(obtain⟨p0,p1,q0,q1,hzr⟩:=id hz))
   |((with_reducible refine bt ?_ ?_);focus(simp[hs]<;>omega))
   |((with_reducible refine bf ?_ ?_);focus(simp[hs]<;>omega))
   |with_reducible refine SC.call ?_
   |((with_reducible refine bb (λh=>?_) (λh=>?_))<;>(try simp at h))
  all_goals(try clear hK)
  all_goals first
   |exact N2 hu0 hP ‹_›
   |exact Sx hP ‹_› ‹_›
   |(have e:=‹y.ty=[]›;exact⟨⟨⟨⟨j+1,n,w,m⟩,by dsimp only;omega,by dsimp only;omega,n0,n1,w0,by dsimp only;omega,m0,m1,by dsimp only;rw[<-hF,KE j0 hy e]⟩,ao j0 (by omega),rfl,rfl⟩,rfl⟩)
   |(have e:=‹(1024:Int)<n+p›;exact⟨by omega,by omega,by omega,by omega,N1 hac hP ‹_› hfe (by rw[<-hF,sO j0 hy,Cj ‹_› hz n0 n1 w0 m0,if_pos e])⟩)
   |(have e:=‹m<q›;have e2:=‹n+p<=(1024:Int)›;exact⟨⟨⟨⟨j+1,n+p,w+q,q⟩,by dsimp only;omega,by dsimp only;omega,by dsimp only;omega,e2,by dsimp only;omega,by dsimp only;omega,q0,q1,by dsimp only;rw[<-hF,sO j0 hy,Cj ‹_› hz n0 n1 w0 m0,if_neg (by omega),show max m q=q by omega]⟩,ao j0 (by omega),rfl,rfl⟩,rfl⟩)
   |(have e:=‹q<=m›;have e2:=‹n+p<=(1024:Int)›;exact⟨⟨⟨⟨j+1,n+p,w+q,m⟩,by dsimp only;omega,by dsimp only;omega,by dsimp only;omega,e2,by dsimp only;omega,by dsimp only;omega,m0,m1,by dsimp only;rw[<-hF,sO j0 hy,Cj ‹_› hz n0 n1 w0 m0,if_neg (by omega),show max m q=m by omega]⟩,ao j0 (by omega),rfl,rfl⟩,rfl⟩)
   |exact Sw hac hP ‹_› hfe n0 n1 w0 m0 ‹_› hF (by rw[‹en=_›];simp only[if_true,Bool.false_eq_true,if_false];split<;>omega)
end
section
set_option maxRecDepth 100000
set_option maxHeartbeats 4000000
open Go.Vv Go.Ee
variable{K:aR->SH->Prop}
theorem P1 {ns:List Nd} {it:aw} {n:Int} (h:au ns n=true):aW ns it n=false:=by
 have hk:=Hz h
 unfold aW;rw[h,hk];rfl
theorem TM {ns:List Nd} {it:aw} {n:Int} (h:au ns n=true):cn ns it n=false:=by unfold cn;rw[h];rfl
theorem Hm {ns:List Nd} {it:aw} {n p w:Int} (h:au ns n=false) (hz:S6 it (nd ns n).name p w):cn ns it n=(decide (1024<p)||decide (64<w)):=by
 obtain⟨p0,p1,w0,w1,hr⟩:=hz
 have:=hr.TN
 unfold cn
 rw[h,Bool.eq_iff_iff]
 simp only[Bool.not_false,Bool.true_and,Bool.or_eq_true,decide_eq_true_eq]
 omega
theorem Pu {ns:List Nd} {it:aw} (hacy:(∀n∈ak ns,(nd ns n).kind=3\/(nd ns n).kind=4->¬Reach (bB it) (nd ns n).name (nd ns n).name)->gD it) {i:Int} (h:((ak ns).length:Int)<=i) (hi:((ak ns).drop i.toNat).find? (aW ns it)=(ak ns).find? (aW ns it)):gD it:=by
 refine hacy λn hn hk hr=>?_
 have hno:(ak ns).find? (aW ns it)=none:=by rw[<-hi,fa h]
 have:=List.find?_eq_none.1 hno n hn
 apply this
 have hf:au ns n=false:=by unfold au;rcases hk with h|h<;>rw[h]<;>rfl
 simp[aW,hf,hr]
theorem Wi {ns:List Nd} {it:aw} {l:List Int} {i n:Int} (i0:0<=i) (hn:l[i.toNat]?=some n) (hi:(l.drop i.toNat).find? (aW ns it)=l.find? (aW ns it)) (h:aW ns it n=true):cq ns it l=some (n,143):=by
 unfold cq;rw[<-hi,bX i0 hn,if_pos h]
theorem UP {ns:List Nd} {it:aw} {l:List Int} {i j n:Int} (h0:(l.length:Int)<=i) (hi:(l.drop i.toNat).find? (aW ns it)=l.find? (aW ns it)) (j0:0<=j) (hn:l[j.toNat]?=some n) (hj:(l.drop j.toNat).find? (cn ns it)=l.find? (cn ns it)) (h:cn ns it n=true):cq ns it l=some (n,2):=by
 unfold cq;rw[<-hi,fa h0,<-hj,bX j0 hn,if_pos h];rfl
theorem Wj {ns:List Nd} {it:aw} {l:List Int} {i j:Int} (h0:(l.length:Int)<=i) (hi:(l.drop i.toNat).find? (aW ns it)=l.find? (aW ns it)) (h1:(l.length:Int)<=j) (hj:(l.drop j.toNat).find? (cn ns it)=l.find? (cn ns it)):cq ns it l=none:=by
 unfold cq;rw[<-hi,fa h0,<-hj,fa h1];rfl
abbrev Xi (ns:List Nd) (nb:Bool) (it:aw):SH:=⟨[(2,.cells dz),(1,.cells (ry it)),(0,.cells [.p (.vs (ns.map aH) none nb)])],3⟩
theorem AX (ns:List Nd) (nb:Bool) (g:Good ns) (it:aw) (iZ:A1 it) (hn0:([]:ah)∉aY it) (hu0:aE∉aY it) (hfe:∀x∈it.ss,∀f∈x.fs,f.ty≠[]) (hsm:∀s,yK it [] [s]<=1000000) (hend:∀x∈ak ns,au ns x=false->eM it (nd ns x).name=aW ns it x)
 (hacy:(∀n∈ak ns,(nd ns n).kind=3\/(nd ns n).kind=4->¬Reach (bB it) (nd ns n).name (nd ns n).name)->gD it) (hK:W (K (.ret (.agg (dF (uY ns (cq ns it (ak ns)))))) H0)):SC Tryz.prog 106 [qh ns nb,E1 it] H0 K:=by
 have hlen:=g.len
 have hrl:(ak ns).length<=1048576:=g.kids _ (cB (by omega) (by omega))
 have hnm:∀n∈ak ns,(nd ns n).name≠[]:=λn hn=>by
  obtain⟨h0,h1,h2⟩:=g.roots n hn
  exact pW (g.nameOf h0 (by omega) (by rcases h2 with h|h|h<;>simp[h]))
 refine aX [] [] [] Tryz.func106 rfl (by kernel_rfl) ?_
 repeat' first
  |((with_reducible refine W.of ?_);conv=>whnf)
  |with_reducible first
   |refine W.fin (K:=K) hK ?_ rfl
   |refine W.and (by kernel_rfl) ?_
   |refine nQ ns nb hlen.1 (by omega) ?_
  |((with_reducible refine bT [] [] [6] [] (λa:On (aW ns it) (ak ns)=>[.i a.1]) (λ_=>Xi ns nb it) (λa=>(ak ns).length-a.1.toNat) ⟨0,by omega,by omega,rfl⟩ (by kernel_rfl) ?_ ?_);(focus((with_reducible refine W.of ?_);(conv=>whnf);exact⟨rfl,rfl⟩));rintro⟨i,i0,i1,hi⟩;dsimp only)
  |((with_reducible refine bT [] [] [7] [] (λa:On (cn ns it) (ak ns)=>[.i a.1]) (λ_=>Xi ns nb it) (λa=>(ak ns).length-a.1.toNat) ⟨0,by omega,by omega,rfl⟩ (by kernel_rfl) ?_ ?_);(focus((with_reducible refine W.of ?_);(conv=>whnf);exact⟨rfl,rfl⟩));rintro⟨j,j0,j1,hj⟩;dsimp only;(have hac:=Pu hacy ‹_› hi))
  |with_reducible refine on (aB n) (bE hn) ?_
  |((with_reducible refine aj (l:=ak ns) (by omega) (λn hn=>?_));(obtain⟨h0,h1,hk⟩:=g.roots n (List.mem_of_getElem? hn));(have hne:=hnm n (List.mem_of_getElem? hn)))
  |with_reducible first
   |refine aq h0 (by omega) ?_
   |refine tz ns nb n h0 (by omega) ?_
   |refine mz ns nb n _ h0 (by omega) ?_
   |refine CG it iZ hn0 _ hne (hsm _) ?_
  |((with_reducible refine Oj it iZ hac hu0 hfe _ _ hne (Nat.lt_succ_self _) (λp w hz=>?_));(obtain⟨p0,p1,w0,w1,hzr⟩:=id hz))
  |((with_reducible refine bt ?_ ?_);focus(simp[]<;>omega))
  |with_reducible refine SC.call ?_
  |((with_reducible refine bb (λh=>?_) (λh=>?_))<;>(try simp at h))
 all_goals(try clear hK)
 all_goals first
  |(rw[Wj ‹_› hi ‹_› hj];rfl)
  |(have e:=‹eM it (nd ns n).name=true›;rw[Wi i0 hn hi (by rw[<-hend n (List.mem_of_getElem? hn) ‹_›,e])];rfl)
  |(have e:=‹eM it (nd ns n).name=false›;exact⟨⟨⟨i+1,by omega,by omega,by rw[<-hi,bX i0 hn,if_neg (by rw[<-hend n (List.mem_of_getElem? hn) ‹_›,e];simp)]⟩,ao i0 (by omega),rfl,rfl⟩,rfl⟩)
  |(have e:=‹(1024:Int)<p›;rw[UP ‹_› hi j0 hn hj (by rw[Hm ‹_› hz];simp[e])];rfl)
  |(have e:=‹(64:Int)<w›;rw[UP ‹_› hi j0 hn hj (by rw[Hm ‹_› hz];simp[e])];rfl)
  |(have e:=‹w<=(64:Int)›;have e2:=‹p<=(1024:Int)›;exact⟨⟨⟨j+1,by omega,by omega,by rw[<-hj,bX j0 hn,if_neg (by rw[Hm ‹_› hz];simp[e,e2])]⟩,ao j0 (by omega),rfl,rfl⟩,rfl⟩)
  |(have e:=‹au ns n=true›;exact⟨⟨⟨j+1,by omega,by omega,by rw[<-hj,bX j0 hn,if_neg (by rw[TM e];simp)]⟩,ao j0 (by omega),rfl,rfl⟩,rfl⟩)
  |(have e:=‹au ns n=true›;exact⟨⟨⟨i+1,by omega,by omega,by rw[<-hi,bX i0 hn,if_neg (by rw[P1 e];simp)]⟩,ao i0 (by omega),rfl,rfl⟩,rfl⟩)
end
section
set_option maxRecDepth 100000
set_option maxHeartbeats 4000000
open Go.Vv Go.Ee
open Fo (aC eL gF cj cy)
attribute [local irreducible] bC aP bZ nd ax typeAt
abbrev Oo (C:Cx) (E:Rec) (n:Int):Prop:=∀k,0<=k->k<n->aG (nd C.ns k).kind=true->dS C 174 [.i k] (E k) EV.s (BS k) k
theorem Ow {n:Int} {s:ah} (h:BS n s) (hn:n.toNat<=20000):s.length<2^62:=by simp only[BS] at h;omega
theorem Hw {a n:Int} {s:ah} (h:BS a s) (hn:a<n):BS n ((aC s).getD []):=by
 simp only[BS] at*
 cases hi:aC s with
 |none=>simp
 |some t=>have:=Fo.bH hi;simp only[Option.getD_some];omega
section
variable(C:Cx) (E:Rec) (g:Good C.ns) (n:Int) (h0:0<=n) (h1:n<(C.ns.length:Int)) (hE:Oo C E n)
include g h0 h1 hE
theorem RM (hkd:(nd C.ns n).kind=38):dS C 289 [.i n] (yS C.ns E n) EV.s (BS n) n:=by
 obtain⟨a,b,hkk,a0,a1,b0,b1,ae,be⟩:=g.vG h0 h1 (.inr hkd)
 have he0:ax C.ns n 0=a:=by simp[ax,hkk]
 have he1:ax C.ns n 1=b:=by simp[ax,hkk]
 have hEa:=hE a a0 a1 ae
 have hEb:=hE b b0 b1 be
 have a2:a<(C.ns.length:Int):=by omega
 have b2:b<(C.ns.length:Int):=by omega
 have hs13:=g.Sl h0 h1 hkd
 obtain⟨c,hc⟩:∃c,(nd C.ns n).name[Int.toNat 0]?=some c:=by
  simp only[rK,List.mem_cons,List.not_mem_nil,or_false] at hs13
  rcases hs13 with h|h|h|h|h|h|h|h|h|h|h|h|h<;>rw[h]<;>exact⟨_,rfl⟩
 have hcc:(nd C.ns n).name=[38,38]\/(nd C.ns n).name=[124,124]\/(nd C.ns n).name=[61,61]\/(nd C.ns n).name=[33,61]\/((c.toNat:Int)=60\/(c.toNat:Int)=62)/\¬((nd C.ns n).name=[43]\/(nd C.ns n).name=[45]\/(nd C.ns n).name=[42]\/(nd C.ns n).name=[47]\/(nd C.ns n).name=[37])\/¬(c.toNat:Int)=60/\¬(c.toNat:Int)=62/\((nd C.ns n).name=[43]\/(nd C.ns n).name=[45]\/(nd C.ns n).name=[42]\/(nd C.ns n).name=[47]\/(nd C.ns n).name=[37]):=by
  simp only[rK,List.mem_cons,List.not_mem_nil,or_false] at hs13
  rcases hs13 with h|h|h|h|h|h|h|h|h|h|h|h|h<;>rw[h] at hc⊢<;>cases hc<;>decide
 intro ty va lo sc lp ex K w l0 l1 hok hbad
 refine aX [(2,[(0,[]),(1,[]),(2,[]),(3,[]),(4,[]),(5,[]),(6,[]),(7,[]),(8,[7,5]),(9,[])])] [] [3,4] Tryz.func289 rfl (by kernel_rfl) ?_
 repeat' first
  |((with_reducible refine W.of ?_);conv=>whnf)
  |with_reducible first
   |refine W.fin (K:=K) (hok _ _ _ _ _ _ ?_ ‹_› ?_) rfl rfl
   |refine W.fin (K:=K) (hbad _ _ _ _ _ _ _ _ _ ?_ ?_ ?_ ?_ ?_ ?_) rfl rfl
   |refine bt (decide_eq_true ‹_›) ?_
   |refine bf (qv ‹_›) ?_
   |refine aq ‹_› ‹_› ?_
   |refine W.and (by kernel_rfl) ?_
   |refine fn [] [] Tryz.func51 rfl (by kernel_rfl) ?_
   |refine fn [] [] Tryz.func173 rfl (by kernel_rfl) ?_
  |((with_reducible refine on (aB a) ?_ ?_);focus(simp[hkk];done))
  |((with_reducible refine on (aB b) ?_ ?_);focus(simp[hkk];done))
  |with_reducible first
   |refine on c hc ?_
   |refine eP C E a a0 a2 a hEa _ _ _ _ _ _ _ ‹_› (by omega) (by omega) (λv ty va lo sc ex hF w hs=>?_) (λv de df dt ty va lo sc ex hF hB he ht hv hs=>?_)
   |refine dM C E a a0 a2 a hEa _ _ _ _ _ _ _ _ ‹_› (by omega) (by omega) (λv ty va lo sc ex hF w hs=>?_) (λv de df dt ty va lo sc ex hF hB he ht hv hs=>?_)
   |refine dM C E b b0 b2 b hEb _ _ _ _ _ _ _ _ ‹_› (by omega) (by omega) (λv ty va lo sc ex hF w hs=>?_) (λv de df dt ty va lo sc ex hF hB he ht hv hs=>?_)
   |refine nN C _ _ _ _ _ _ _ _ _ _ _ _ (by first|assumption|decide) ?_
   |refine SC.call ?_
  |((with_reducible refine bb (λh=>?_) (λh=>?_))<;>(try simp at h))
 all_goals(clear hok hbad hE hEa hEb hs13)
 all_goals(clear hc)
 all_goals first|assumption|exact Wf.tl ‹_›|exact Wf.vl ‹_›|exact trivial|omega|(simp_all[yS,bg,aI,BS,aN.then,ai];done)|(simp_all[yS,bg,aI,BS,aN.then,ai];omega)|(simp only[BS,bg,aI,aE,aF,List.length_cons,List.length_nil,List.length_append] at*;omega)|skip
 all_goals(rcases hcc with h9|h9|h9|h9|h9|h9<;>simp_all[yS,bg,aI,aN.then];done)
theorem NB (hO:HO C E n) (hkd:(nd C.ns n).kind=45):dS C 291 [.i n] (ik C.ns E n) EV.s (BS n) n:=by
 have hn20:=g.len.2
 rcases g.xb h0 h1 hkd with⟨a,b,hkk,a0,a1,b0,b1,ae,be⟩|⟨a,b,c,hkk,a0,a1,b0,b1,c0,c1,ae,be,ce⟩
 ·have he0:ax C.ns n 0=a:=by simp[ax,hkk]
  have he1:ax C.ns n 1=b:=by simp[ax,hkk]
  have hEa:=hE a a0 a1 ae
  have hEb:=hE b b0 b1 be
  have a2:a<(C.ns.length:Int):=by omega
  have b2:b<(C.ns.length:Int):=by omega
  intro ty va lo sc lp ex K w l0 l1 hok hbad
  refine aX [] [] [3,4] Tryz.func291 rfl (by kernel_rfl) ?_
  repeat' first
   |((with_reducible refine W.of ?_);conv=>whnf)
   |with_reducible first
    |refine W.fin (K:=K) (hok _ _ _ _ _ _ ?_ ‹_› ?_) rfl rfl
    |refine W.fin (K:=K) (hbad _ _ _ _ _ _ _ _ _ ?_ ?_ ?_ ?_ ?_ ?_) rfl rfl
    |refine bt (decide_eq_true ‹_›) ?_
    |refine aq ‹_› ‹_› ?_
   |((with_reducible refine on (aB a) ?_ ?_);focus(simp[hkk];done))
   |((with_reducible refine on (aB b) ?_ ?_);focus(simp[hkk];done))
   |((with_reducible refine bt ?_ ?_);focus(simp[hkk]<;>omega))
   |with_reducible first
    |refine dM C E a a0 a2 a hEa _ _ _ _ _ _ _ _ ‹_› (by omega) (by omega) (λv ty va lo sc ex hF w hs=>?_) (λv de df dt ty va lo sc ex hF hB he ht hv hs=>?_)
    |refine qW C E b b0 b2 b hEb _ _ _ _ _ _ _ _ ‹_› (by omega) (by omega) (λv ty va lo sc ex hF w hs=>?_) (λv de df dt ty va lo sc ex hF hB he ht hv hs=>?_)
    |refine qb C _ _ _ _ _ _ _ _ _ _ _ (by first|assumption|decide) ?_
    |refine qX C _ _ _ _ _ _ _ _ _ _ _ _ (by first|assumption|decide) ?_
    |refine SC.call ?_
   |((with_reducible refine bb (λh=>?_) (λh=>?_))<;>(try simp at h))
  all_goals(clear hok hbad hE hEa hEb hO)
  all_goals first|assumption|exact Wf.tl ‹_›|exact Wf.vl ‹_›|exact trivial|omega|(simp_all[ik,bg,aI,aE,aF,BS,aN.then,ai];done)|(simp_all[ik,bg,aI,aE,aF,BS,aN.then,ai];omega)|(simp only[BS,bg,aI,aE,aF,List.length_cons,List.length_nil,List.length_append] at*;omega)|skip
 ·have he0:ax C.ns n 0=a:=by simp[ax,hkk]
  have he1:ax C.ns n 1=b:=by simp[ax,hkk]
  have he2:ax C.ns n 2=c:=by simp[ax,hkk]
  have hEa:=hE a a0 a1 ae
  have hEb:=hE b b0 b1 be
  have hEc:=hE c c0 c1 ce
  have a2:a<(C.ns.length:Int):=by omega
  have b2:b<(C.ns.length:Int):=by omega
  have c2:c<(C.ns.length:Int):=by omega
  intro ty va lo sc lp ex K w l0 l1 hok hbad
  refine aX [] [] [3,4] Tryz.func291 rfl (by kernel_rfl) ?_
  repeat' first
   |((with_reducible refine W.of ?_);conv=>whnf)
   |with_reducible first
    |refine W.fin (K:=K) (hok _ _ _ _ _ _ ?_ ‹_› ?_) rfl rfl
    |refine W.fin (K:=K) (hbad _ _ _ _ _ _ _ _ _ ?_ ?_ ?_ ?_ ?_ ?_) rfl rfl
    |refine bt (decide_eq_true ‹_›) ?_
    |refine aq ‹_› ‹_› ?_
   |((with_reducible refine on (aB a) ?_ ?_);focus(simp[hkk];done))
   |((with_reducible refine on (aB b) ?_ ?_);focus(simp[hkk];done))
   |((with_reducible refine on (aB c) ?_ ?_);focus(simp[hkk];done))
   |((with_reducible refine bf ?_ ?_);focus(simp[hkk]<;>omega))
   |with_reducible refine dM C E a a0 a2 a hEa _ _ _ _ _ _ _ _ ‹_› (by omega) (by omega) (λv ty va lo sc ex hF w hs=>?_) (λv de df dt ty va lo sc ex hF hB he ht hv hs=>?_)
   |((with_reducible refine hEb _ _ _ _ _ _ _ ‹_› (by omega) (by omega) (λv ty va lo sc ex hF w hs=>?_) (λv de df dt ty va lo sc ex hF hB he ht hv hs=>?_));(have T:=(hO b b0 b1 be _ _ _ ‹_› hF).bound (by omega)))
   |with_reducible first
    |refine hEc _ _ _ _ _ _ _ ‹_› (by omega) (by omega) (λv ty va lo sc ex hF w hs=>?_) (λv de df dt ty va lo sc ex hF hB he ht hv hs=>?_)
    |refine qW C E c c0 c2 c hEc _ _ _ _ _ _ _ _ ‹_› (by omega) (by omega) (λv ty va lo sc ex hF w hs=>?_) (λv de df dt ty va lo sc ex hF hB he ht hv hs=>?_)
    |refine qb C _ _ _ _ _ _ _ _ _ _ _ (by first|assumption|decide) ?_
    |refine qX C _ _ _ _ _ _ _ _ _ _ _ _ (by first|assumption|decide) ?_
    |refine SC.call ?_
   |((with_reducible refine bb (λh=>?_) (λh=>?_))<;>(try simp at h))
  all_goals(clear hok hbad hE hEa hEb hEc hO)
  all_goals first|assumption|exact Wf.tl ‹_›|exact Wf.vl ‹_›|exact trivial|omega|(simp_all[ik,bg,aI,aE,aF,BS,aN.then,ai];done)|(simp_all[ik,bg,aI,aE,aF,BS,aN.then,ai];omega)|(simp only[BS,bg,aI,aE,aF,List.length_cons,List.length_nil,List.length_append] at*;omega)|skip
theorem NO (hO:HO C E n) (hkd:(nd C.ns n).kind=42):dS C 294 [.i n] (rL C.ns E n) EV.s (BS n) n:=by
 have hn20:=g.len.2
 obtain⟨a,hkk,a0,a1,ae⟩:=g.ej h0 h1 (by omega)
 have he0:ax C.ns n 0=a:=by simp[ax,hkk]
 have a2:a<(C.ns.length:Int):=by omega
 have hEa:=hE a a0 a1 ae
 intro ty va lo sc lp ex K w l0 l1 hok hbad
 refine aX [] [] [3,4] Tryz.func294 rfl (by kernel_rfl) ?_
 repeat' first
  |((with_reducible refine W.of ?_);conv=>whnf)
  |with_reducible first
   |refine W.fin (K:=K) (hok _ _ _ _ _ _ ?_ ‹_› ?_) rfl rfl
   |refine W.fin (K:=K) (hbad _ _ _ _ _ _ _ _ _ ?_ ?_ ?_ ?_ ?_ ?_) rfl rfl
   |refine bt (decide_eq_true ‹_›) ?_
   |refine bf (qv ‹_›) ?_
   |refine aq ‹_› ‹_› ?_
   |refine W.and (by kernel_rfl) ?_
   |refine fn [] [] Tryz.func51 rfl (by kernel_rfl) ?_
   |refine fn [] [] Tryz.func173 rfl (by kernel_rfl) ?_
  |((with_reducible refine on (aB a) ?_ ?_);focus(simp[hkk];done))
  |((with_reducible refine bt ?_ ?_);focus(simp[hkd]<;>omega))
  |((with_reducible refine bf ?_ ?_);focus(simp[hkd]<;>omega))
  |((with_reducible refine DS C E a a0 a2 a hEa hn20 (hO a a0 a1 ae) _ _ _ _ _ _ _ ‹_› (by omega) (by omega) (λv ty va lo sc ex hF w hs=>?_) (λv de df dt ty va lo sc ex hF hB he ht hv hs=>?_));(have T:=(pj (hO a a0 a1 ae) ‹_› hF).1.bound (by omega);have hB:BS a v:=by simp only[BS];omega))
  |with_reducible first
   |refine mX _ (Ow hB (by omega)) ?_
   |refine SC.call ?_
  |((with_reducible refine bb (λh=>?_) (λh=>?_))<;>(try simp at h))
 all_goals(clear hok hbad hE hEa hO)
 all_goals(have hi:=Hw hB (show a<n by omega))
 all_goals first|assumption|exact Wf.tl ‹_›|exact Wf.vl ‹_›|exact trivial|omega|(simp_all[rL,aN.then,ai];done)|(simp_all[rL,aN.then,ai];omega)|(simp only[BS,bg,aI,aE,aF,List.length_cons,List.length_nil,List.length_append] at*;omega)|skip
 all_goals(cases hj:aC v<;>simp_all[rL,aN.then,ai])
theorem RT (hO:HO C E n) (fl:Fl C.it) (io:fg C.it) (hkd:(nd C.ns n).kind=41):dS C 294 [.i n] (EZ C.ns C.it E n) EV.s (BS n) n:=by
 have hn20:=g.len.2
 obtain⟨a,hkk,a0,a1,ae⟩:=g.ej h0 h1 (by omega)
 have he0:ax C.ns n 0=a:=by simp[ax,hkk]
 have a2:a<(C.ns.length:Int):=by omega
 have hEa:=hE a a0 a1 ae
 intro ty va lo sc lp ex K w l0 l1 hok hbad
 refine aX [] [] [3,4] Tryz.func294 rfl (by kernel_rfl) ?_
 repeat' first
  |((with_reducible refine W.of ?_);conv=>whnf)
  |with_reducible first
   |refine W.fin (K:=K) (hok _ _ _ _ _ _ ?_ ‹_› ?_) rfl rfl
   |refine W.fin (K:=K) (hbad _ _ _ _ _ _ _ _ _ ?_ ?_ ?_ ?_ ?_ ?_) rfl rfl
   |refine bt (decide_eq_true ‹_›) ?_
   |refine bf (qv ‹_›) ?_
   |refine aq ‹_› ‹_› ?_
   |refine W.and (by kernel_rfl) ?_
   |refine fn [] [] Tryz.func51 rfl (by kernel_rfl) ?_
   |refine fn [] [] Tryz.func173 rfl (by kernel_rfl) ?_
  |((with_reducible refine on (aB a) ?_ ?_);focus(simp[hkk];done))
  |((with_reducible refine bt ?_ ?_);focus(simp[hkd]<;>omega))
  |((with_reducible refine bf ?_ ?_);focus(simp[hkd]<;>omega))
  |((with_reducible refine DS C E a a0 a2 a hEa hn20 (hO a a0 a1 ae) _ _ _ _ _ _ _ ‹_› (by omega) (by omega) (λv ty va lo sc ex hF w hs=>?_) (λv de df dt ty va lo sc ex hF hB he ht hv hs=>?_));(have T:=(pj (hO a a0 a1 ae) ‹_› hF).1.bound (by omega);have hB:BS a v:=by simp only[BS];omega))
  |with_reducible refine Fu _ (Ow hB (by omega)) ?_
  |((with_reducible refine AS C.it fl.n1 (λx hx=>(fl.sf x hx).2) _ _ (λj y hf=>?_) (λhf=>?_));(have hfl:=LV io hf);rotate_left;(have hfl:=True.intro);rotate_right)
  |with_reducible refine SC.call ?_
 all_goals(clear hok hbad hE hEa hO)
 all_goals first|assumption|exact Wf.tl ‹_›|exact Wf.vl ‹_›|exact trivial|omega|(simp_all[EZ,sB,BS,aN.then,ai];done)|(simp_all[EZ,sB,BS,aN.then,ai];omega)|(simp only[BS,bg,aI,aE,aF,List.length_cons,List.length_nil,List.length_append] at*;omega)|skip
theorem Fq (hO:HO C E n) (hkd:(nd C.ns n).kind=43):dS C 294 [.i n] (ln C.ns E n) EV.s (BS n) n:=by
 have hn20:=g.len.2
 obtain⟨a,hkk,a0,a1,ae⟩:=g.ej h0 h1 (by omega)
 have he0:ax C.ns n 0=a:=by simp[ax,hkk]
 have a2:a<(C.ns.length:Int):=by omega
 have hEa:=hE a a0 a1 ae
 intro ty va lo sc lp ex K w l0 l1 hok hbad
 refine aX [] [] [3,4] Tryz.func294 rfl (by kernel_rfl) ?_
 repeat' first
  |((with_reducible refine W.of ?_);conv=>whnf)
  |with_reducible first
   |refine W.fin (K:=K) (hok _ _ _ _ _ _ ?_ ‹_› ?_) rfl rfl
   |refine W.fin (K:=K) (hbad _ _ _ _ _ _ _ _ _ ?_ ?_ ?_ ?_ ?_ ?_) rfl rfl
   |refine bt (decide_eq_true ‹_›) ?_
   |refine bf (qv ‹_›) ?_
   |refine aq ‹_› ‹_› ?_
   |refine W.and (by kernel_rfl) ?_
   |refine fn [] [] Tryz.func51 rfl (by kernel_rfl) ?_
   |refine fn [] [] Tryz.func173 rfl (by kernel_rfl) ?_
  |((with_reducible refine on (aB a) ?_ ?_);focus(simp[hkk];done))
  |((with_reducible refine bt ?_ ?_);focus(simp[hkd]<;>omega))
  |((with_reducible refine bf ?_ ?_);focus(simp[hkd]<;>omega))
  |((with_reducible refine eP C E a a0 a2 a hEa _ _ _ _ _ _ _ ‹_› (by omega) (by omega) (λv ty va lo sc ex hF w hs=>?_) (λv de df dt ty va lo sc ex hF hB he ht hv hs=>?_));(have T:=bq (hO a a0 a1 ae) ‹_› hF;have hra:=T.ty.JZ;have Tb:=T.bound (by omega);have hB:BS a v:=by simp only[BS];omega))
  |with_reducible first
   |refine tY _ _ _ a0 a2 ?_
   |refine jA _ ?_
   |refine fn [] [] Tryz.func132 rfl (by kernel_rfl) ?_
   |refine tW C g _ _ _ _ _ _ _ _ _ ‹_› a a0 a2 ae T.pl ‹_› ?_
   |refine SC.call ?_
  |((with_reducible refine bb (λh=>?_) (λh=>?_))<;>(try simp at h))
 all_goals(clear hok hbad hE hEa hO;try clear T)
 all_goals first|assumption|exact Wf.tl ‹_›|exact Wf.vl ‹_›|exact trivial|omega|(simp_all[ln,BS,cj,cy,aN.then,ai];done)|(simp_all[ln,BS,cj,cy,aN.then,ai];omega)|(simp only[BS,bg,aI,aE,aF,List.length_cons,List.length_nil,List.length_append] at*;omega)|skip
theorem Sa (hO:HO C E n) (hkd:(nd C.ns n).kind=44):dS C 294 [.i n] (Fc C.ns E n) EV.s (BS n) n:=by
 have hn20:=g.len.2
 obtain⟨a,hkk,a0,a1,ae⟩:=g.ej h0 h1 (by omega)
 have he0:ax C.ns n 0=a:=by simp[ax,hkk]
 have a2:a<(C.ns.length:Int):=by omega
 have hEa:=hE a a0 a1 ae
 intro ty va lo sc lp ex K w l0 l1 hok hbad
 refine aX [] [] [3,4] Tryz.func294 rfl (by kernel_rfl) ?_
 repeat' first
  |((with_reducible refine W.of ?_);conv=>whnf)
  |with_reducible first
   |refine W.fin (K:=K) (hok _ _ _ _ _ _ ?_ ‹_› ?_) rfl rfl
   |refine W.fin (K:=K) (hbad _ _ _ _ _ _ _ _ _ ?_ ?_ ?_ ?_ ?_ ?_) rfl rfl
   |refine bt (decide_eq_true ‹_›) ?_
   |refine bf (qv ‹_›) ?_
   |refine aq ‹_› ‹_› ?_
   |refine W.and (by kernel_rfl) ?_
   |refine fn [] [] Tryz.func51 rfl (by kernel_rfl) ?_
   |refine fn [] [] Tryz.func173 rfl (by kernel_rfl) ?_
  |((with_reducible refine on (aB a) ?_ ?_);focus(simp[hkk];done))
  |((with_reducible refine bt ?_ ?_);focus(simp[hkd]<;>omega))
  |((with_reducible refine bf ?_ ?_);focus(simp[hkd]<;>omega))
  |((with_reducible refine eP C E a a0 a2 a hEa _ _ _ _ _ _ _ ‹_› (by omega) (by omega) (λv ty va lo sc ex hF w hs=>?_) (λv de df dt ty va lo sc ex hF hB he ht hv hs=>?_));(have T:=bq (hO a a0 a1 ae) ‹_› hF;have hra:=T.ty.JZ;have Tb:=T.bound (by omega);have hB:BS a v:=by simp only[BS];omega))
  |with_reducible first
   |refine jA _ ?_
   |refine fn [] [] Tryz.func132 rfl (by kernel_rfl) ?_
   |refine SC.call ?_
  |((with_reducible refine bb (λh=>?_) (λh=>?_))<;>(try simp at h))
 all_goals(clear hok hbad hE hEa hO;try clear T)
 all_goals first|assumption|exact Wf.tl ‹_›|exact Wf.vl ‹_›|exact trivial|omega|(simp_all[Fc,BS,eL,gF,aN.then,ai];done)|(simp_all[Fc,BS,eL,gF,aN.then,ai];omega)|(simp only[BS,bg,aI,aE,aF,List.length_cons,List.length_nil,List.length_append] at*;omega)|skip
end
end
end Go.Proofs.YtdjkoddnnogejaaGreat
