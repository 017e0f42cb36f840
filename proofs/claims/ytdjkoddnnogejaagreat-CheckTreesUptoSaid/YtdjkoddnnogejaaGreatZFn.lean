/- Part of the proof of CheckTrees: plain laws and steps of its walks, for all arguments. -/
import Derived.Test.YtdjkoddnnogejaaGreatZDm
set_option linter.unusedSimpArgs false
set_option linter.unusedVariables false
set_option linter.unusedSectionVars false
namespace Go.Proofs.YtdjkoddnnogejaaGreat
section
set_option maxRecDepth 100000
set_option maxHeartbeats 4000000
open Go.Vv Go.Ee
variable{K:aR->SH->Prop}
theorem QL:lQ Tryz.prog 132=some [.string,.string]:=by kernel_rfl
theorem QK:lQ Tryz.prog 107=some [.string,.string,.bool]:=by kernel_rfl
theorem OS:lQ Tryz.prog 37=some [.int .i64,.int .i64,.int .i64]:=by kernel_rfl
theorem MP (l:List Int) (c d:Option Nat) (a b:Bool) (hl:l.length<=4611686018427387904) (hK:KB K true):SC Tryz.prog 44 [.f (.p (.vs (l.map aB) c a)),.f (.p (.vs (l.map aB) d b))] H0 K:=by
 refine aX [] [] [] Tryz.func44 rfl (by kernel_rfl) ?_
 repeat' first
  |((with_reducible refine W.of ?_);conv=>whnf)
  |with_reducible first
   |refine W.fin (K:=K) hK ?_ rfl
   |refine W.and (by kernel_rfl) ?_
  |((with_reducible refine bT [] [] [13] [] (λa:So l.length λ_=>True=>[.i a.1]) (λ_=>H0) (λa=>l.length-a.1.toNat) ⟨0,by omega,by omega,trivial⟩ (by kernel_rfl) ?_ ?_);(focus((with_reducible refine W.of ?_);(conv=>whnf);exact⟨rfl,rfl⟩));rintro⟨i,i0,i1,_⟩;dsimp only)
  |with_reducible first
   |refine on (aB x) (bE hx) ?_
   |refine aj (l:=l) (by omega) (λx hx=>?_)
  |((with_reducible refine bt ?_ ?_);focus(simp[]<;>omega))
  |((with_reducible refine bf ?_ ?_);focus(simp[]<;>omega))
  |((with_reducible refine bb (λh=>?_) (λh=>?_))<;>(try simp at h))
 all_goals first
  |rfl
  |exact⟨⟨⟨i+1,by omega,by omega,trivial⟩,ao i0 (by omega),rfl,rfl⟩,rfl⟩
theorem Nx (ns:List Nd) (a b:Bool) (hl:ns.length<=4611686018427387904) (hkl:∀x∈ns,x.kids.length<=4611686018427387904) (hK:KB K true):SC Tryz.prog 52 [qh ns a,qh ns b] H0 K:=by
 refine aX [] [] [] Tryz.func52 rfl (by kernel_rfl) ?_
 repeat' first
  |((with_reducible refine W.of ?_);conv=>whnf)
  |with_reducible first
   |refine W.fin (K:=K) hK ?_ rfl
   |refine W.and (by kernel_rfl) ?_
  |((with_reducible refine bT [] [] [18] [] (λa:So ns.length λ_=>True=>[.i a.1]) (λ_=>⟨[(1,.cells [.p (.vs (ns.map aH) none b)]),(0,.cells [.p (.vs (ns.map aH) none a)])],2⟩) (λa=>ns.length-a.1.toNat) ⟨0,by omega,by omega,trivial⟩ (by kernel_rfl) ?_ ?_);(focus((with_reducible refine W.of ?_);(conv=>whnf);exact⟨rfl,rfl⟩));rintro⟨i,i0,i1,_⟩;dsimp only)
  |with_reducible first
   |refine on (aH x) (bE hx) ?_
   |refine aj (l:=ns) (by omega) (λx hx=>?_)
   |refine MP _ _ _ _ _ (hkl x (List.mem_of_getElem? hx)) ?_
  |((with_reducible refine bt ?_ ?_);focus(simp[]<;>omega))
  |((with_reducible refine bf ?_ ?_);focus(simp[]<;>omega))
  |with_reducible refine SC.call ?_
  |((with_reducible refine bb (λh=>?_) (λh=>?_))<;>(try simp at h))
 all_goals first
  |rfl
  |exact⟨⟨⟨i+1,by omega,by omega,trivial⟩,ao i0 (by omega),rfl,rfl⟩,rfl⟩
theorem KM (ns:List Nd) (a b:Bool) (hl:ns.length<=4611686018427387904) (hkl:∀x∈ns,x.kids.length<=4611686018427387904) (hK:KB K true):SC Tryz.prog 62 [qh ns a,qh ns b] H0 K:=by
 refine aX [] [] [] Tryz.func62 rfl (by kernel_rfl) ?_
 repeat' first
  |((with_reducible refine W.of ?_);conv=>whnf)
  |with_reducible first
   |refine W.fin (K:=K) hK ?_ rfl
   |refine W.and (by kernel_rfl) ?_
  |((with_reducible refine bT [] [] [19] [] (λa:So ns.length λ_=>True=>[.i a.1]) (λ_=>⟨[(1,.cells [.p (.vs (ns.map aH) none b)]),(0,.cells [.p (.vs (ns.map aH) none a)])],2⟩) (λa=>ns.length-a.1.toNat) ⟨0,by omega,by omega,trivial⟩ (by kernel_rfl) ?_ ?_);(focus((with_reducible refine W.of ?_);(conv=>whnf);exact⟨rfl,rfl⟩));rintro⟨i,i0,i1,_⟩;dsimp only)
  |with_reducible first
   |refine on (aH x) (bE hx) ?_
   |refine on (aB y) (bE hy) ?_
  |((with_reducible refine aj (l:=ns) (by omega) (λx hx=>?_));have hxl:=hkl x (List.mem_of_getElem? hx))
  |((with_reducible refine bT [] [] [60] [] (λa:So x.kids.length λ_=>True=>[.i a.1]) (λ_=>⟨[(3,b8 x),(2,b8 x),(1,.cells [.p (.vs (ns.map aH) none b)]),(0,.cells [.p (.vs (ns.map aH) none a)])],4⟩) (λa=>x.kids.length-a.1.toNat) ⟨0,by omega,by omega,trivial⟩ (by kernel_rfl) ?_ ?_);(focus((with_reducible refine W.of ?_);(conv=>whnf);exact⟨rfl,rfl⟩));rintro⟨j,j0,j1,_⟩;dsimp only)
  |with_reducible refine aj (l:=x.kids) (by omega) (λy hy=>?_)
  |((with_reducible refine bt ?_ ?_);focus(simp[]<;>omega))
  |((with_reducible refine bf ?_ ?_);focus(simp[]<;>omega))
  |with_reducible refine SC.call ?_
  |((with_reducible refine bb (λh=>?_) (λh=>?_))<;>(try simp at h))
 all_goals first
  |rfl
  |exact⟨⟨⟨j+1,by omega,by omega,trivial⟩,ao j0 (by omega),rfl,rfl⟩,rfl⟩
  |exact⟨⟨⟨i+1,by omega,by omega,trivial⟩,ao i0 (by omega),rfl,rfl⟩,rfl⟩
theorem RB (l:List Fd) (c d:Option Nat) (a b:Bool) (hl:l.length<=1048576) (hK:KB K true):SC Tryz.prog 127 [.f (.p (.vs (l.map nZ) c a)),.f (.p (.vs (l.map nZ) d b))] H0 K:=by
 refine aX [] [] [] Tryz.func127 rfl (by kernel_rfl) ?_
 repeat' first
  |((with_reducible refine W.of ?_);conv=>whnf)
  |with_reducible first
   |refine W.fin (K:=K) hK ?_ rfl
   |refine W.and (by kernel_rfl) ?_
  |((with_reducible refine bT [] [] [5] [] (λa:So l.length λ_=>True=>[.i a.1]) (λ_=>H0) (λa=>l.length-a.1.toNat) ⟨0,by omega,by omega,trivial⟩ (by kernel_rfl) ?_ ?_);(focus((with_reducible refine W.of ?_);(conv=>whnf);exact⟨rfl,rfl⟩));rintro⟨i,i0,i1,_⟩;dsimp only)
  |with_reducible first
   |refine on (nZ x) (bE hx) ?_
   |refine aj (l:=l) (by omega) (λx hx=>?_)
   |refine QJ QL ?_
  |((with_reducible refine bt ?_ ?_);focus(simp[]<;>omega))
  |((with_reducible refine bf ?_ ?_);focus(simp[]<;>omega))
  |((with_reducible refine bb (λh=>?_) (λh=>?_))<;>(try simp at h))
 all_goals first
  |rfl
  |exact⟨⟨⟨i+1,by omega,by omega,trivial⟩,ao i0 (by omega),rfl,rfl⟩,rfl⟩
end
section
set_option maxRecDepth 100000
set_option maxHeartbeats 4000000
open Go.Vv Go.Ee
variable{K:aR->SH->Prop}
theorem E2 (it:aw) (fw:Pq it) (hK:KB K true):SC Tryz.prog 63 [E1 it,E1 it] H0 K:=by
 obtain⟨b1,b2,b3,hs,he,hf,hm⟩:=fw
 refine aX [(16,[(0,[]),(1,[]),(2,[]),(3,[]),(4,[]),(5,[]),(6,[]),(7,[]),(8,[]),(9,[]),(10,[]),(11,[]),(12,[9,6]),(13,[])])] [] [] Tryz.func63 rfl (by kernel_rfl) ?_
 repeat' first
  |((with_reducible refine W.of ?_);conv=>whnf)
  |with_reducible first
   |refine W.fin (K:=K) hK ?_ rfl
   |refine W.and (by kernel_rfl) ?_
   |refine on (iT x) (bE hx) ?_
   |refine on (iT y) (bE hy) ?_
   |refine on (sC f) (bE hff) ?_
   |refine on (uP z) (bE hz) ?_
  |((with_reducible refine bT [(16,[(0,[]),(1,[]),(2,[]),(3,[]),(4,[]),(5,[]),(6,[]),(7,[]),(8,[]),(9,[]),(10,[]),(11,[]),(12,[9,6]),(13,[])])] [] [5] [] (λa:So it.ss.length λ_=>True=>[.i a.1]) (λ_=>⟨[(1,.cells (ry it)),(0,.cells (ry it))],2⟩) (λa=>it.ss.length-a.1.toNat) ⟨0,by omega,by omega,trivial⟩ (by kernel_rfl) ?_ ?_);(focus((with_reducible refine W.of ?_);(conv=>whnf);exact⟨rfl,rfl⟩));rintro⟨i,i0,i1,_⟩;dsimp only)
  |((with_reducible refine bT [(16,[(0,[]),(1,[]),(2,[]),(3,[]),(4,[]),(5,[]),(6,[]),(7,[]),(8,[]),(9,[]),(10,[]),(11,[]),(12,[9,6]),(13,[])])] [] [6] [] (λa:So it.es.length λ_=>True=>[.i a.1]) (λ_=>⟨[(1,.cells (ry it)),(0,.cells (ry it))],2⟩) (λa=>it.es.length-a.1.toNat) ⟨0,by omega,by omega,trivial⟩ (by kernel_rfl) ?_ ?_);(focus((with_reducible refine W.of ?_);(conv=>whnf);exact⟨rfl,rfl⟩));rintro⟨j,j0,j1,_⟩;dsimp only)
  |((with_reducible refine bT [(16,[(0,[]),(1,[]),(2,[]),(3,[]),(4,[]),(5,[]),(6,[]),(7,[]),(8,[]),(9,[]),(10,[]),(11,[]),(12,[9,6]),(13,[])])] [] [7] [] (λa:So it.fns.length λ_=>True=>[.i a.1]) (λ_=>⟨[(1,.cells (ry it)),(0,.cells (ry it))],2⟩) (λa=>it.fns.length-a.1.toNat) ⟨0,by omega,by omega,trivial⟩ (by kernel_rfl) ?_ ?_);(focus((with_reducible refine W.of ?_);(conv=>whnf);exact⟨rfl,rfl⟩));rintro⟨k,k0,k1,_⟩;dsimp only)
  |((with_reducible refine aj (l:=it.ss) (by omega) (λx hx=>?_));have hxl:=hs x (List.mem_of_getElem? hx))
  |((with_reducible refine aj (l:=it.es) (by omega) (λy hy=>?_));have hyl:=he y (List.mem_of_getElem? hy))
  |((with_reducible refine aj (l:=it.fns) (by omega) (λf hff=>?_));have hfl:=hf f (List.mem_of_getElem? hff);have hml:=hm f (List.mem_of_getElem? hff))
  |with_reducible refine RB _ _ _ _ _ ‹_› ?_
  |((with_reducible refine bT [(16,[(0,[]),(1,[]),(2,[]),(3,[]),(4,[]),(5,[]),(6,[]),(7,[]),(8,[]),(9,[]),(10,[]),(11,[]),(12,[9,6]),(13,[])])] [] [10] [] (λa:So f.ms.length λ_=>True=>[.i a.1]) (λ_=>⟨[(3,Ta f),(2,Ta f),(1,.cells (ry it)),(0,.cells (ry it))],4⟩) (λa=>f.ms.length-a.1.toNat) ⟨0,by omega,by omega,trivial⟩ (by kernel_rfl) ?_ ?_);(focus((with_reducible refine W.of ?_);(conv=>whnf);exact⟨rfl,rfl⟩));rintro⟨m,m0,m1,_⟩;dsimp only)
  |with_reducible refine aj (l:=f.ms) (by omega) (λz hz=>?_)
  |((with_reducible refine bt ?_ ?_);focus(simp[]<;>omega))
  |((with_reducible refine bf ?_ ?_);focus(simp[]<;>omega))
  |with_reducible refine SC.call ?_
  |((with_reducible refine bb (λh=>?_) (λh=>?_))<;>(try simp at h))
 all_goals first
  |rfl
  |exact⟨⟨⟨m+1,by omega,by omega,trivial⟩,ao m0 (by omega),rfl,rfl⟩,rfl⟩
  |exact⟨⟨⟨k+1,by omega,by omega,trivial⟩,ao k0 (by omega),rfl,rfl⟩,rfl⟩
  |exact⟨⟨⟨j+1,by omega,by omega,trivial⟩,ao j0 (by omega),rfl,rfl⟩,rfl⟩
  |exact⟨⟨⟨i+1,by omega,by omega,trivial⟩,ao i0 (by omega),rfl,rfl⟩,rfl⟩
abbrev F4 (a:Bool) (ns:List Nd) (it:aw) (ta:Bool) (ts:List ah) (va:Bool) (vr:List Int) (la:Bool) (outs:List (List Lc)):List FC:=[.p (.vs (ns.map aH) none a),.p (.vs (it.ss.map iT) none it.sn),.p (.vs (it.es.map iT) none it.en),.p (.vs (it.fns.map sC) none it.yG),.p (.vs (ts.map bL) none ta),.p (.vs (vr.map aB) none va),.p (.vs (outs.map xw) none la)]
section
variable(a b ta tb va vb la lb:Bool) (ns:List Nd) (it:aw) (ts:List ah) (vr:List Int) (outs:List (List Lc)) (hl:ns.length<=4611686018427387904) (hkl:∀x∈ns,x.kids.length<=4611686018427387904) (fw:Pq it) (htl:ts.length<=1048576) (hvl:vr.length<=1048576) (hol:outs.length<=1048576) (hll:∀l∈outs,l.length<=1048576)
include hl hkl fw htl hvl hol hll
theorem FK (hK:KB K true):SC Tryz.prog 25 [.agg (F4 a ns it ta ts va vr la outs),.agg (F4 b ns it tb ts vb vr lb outs)] H0 K:=by
 refine aX [] [] [] Tryz.func25 rfl (by kernel_rfl) ?_
 repeat' first
  |((with_reducible refine W.of ?_);conv=>whnf)
  |with_reducible first
   |refine W.fin (K:=K) hK ?_ rfl
   |refine W.and (by kernel_rfl) ?_
   |refine KM ns a b hl hkl ?_
   |refine E2 it fw ?_
   |refine on (bL x) (bE hx) ?_
   |refine on (aB y) (bE hy) ?_
   |refine on (xw l) (bE hlo) ?_
   |refine on (vK z) (bE hz) ?_
  |((with_reducible refine bT [] [] [5] [] (λa:So ts.length λ_=>True=>[.i a.1]) (λ_=>⟨[(1,.cells (F4 b ns it tb ts vb vr lb outs)),(0,.cells (F4 a ns it ta ts va vr la outs))],2⟩) (λa=>ts.length-a.1.toNat) ⟨0,by omega,by omega,trivial⟩ (by kernel_rfl) ?_ ?_);(focus((with_reducible refine W.of ?_);(conv=>whnf);exact⟨rfl,rfl⟩));rintro⟨i,i0,i1,_⟩;dsimp only)
  |((with_reducible refine bT [] [] [6] [] (λa:So vr.length λ_=>True=>[.i a.1]) (λ_=>⟨[(1,.cells (F4 b ns it tb ts vb vr lb outs)),(0,.cells (F4 a ns it ta ts va vr la outs))],2⟩) (λa=>vr.length-a.1.toNat) ⟨0,by omega,by omega,trivial⟩ (by kernel_rfl) ?_ ?_);(focus((with_reducible refine W.of ?_);(conv=>whnf);exact⟨rfl,rfl⟩));rintro⟨j,j0,j1,_⟩;dsimp only)
  |((with_reducible refine bT [] [] [7] [] (λa:So outs.length λ_=>True=>[.i a.1]) (λ_=>⟨[(1,.cells (F4 b ns it tb ts vb vr lb outs)),(0,.cells (F4 a ns it ta ts va vr la outs))],2⟩) (λa=>outs.length-a.1.toNat) ⟨0,by omega,by omega,trivial⟩ (by kernel_rfl) ?_ ?_);(focus((with_reducible refine W.of ?_);(conv=>whnf);exact⟨rfl,rfl⟩));rintro⟨k,k0,k1,_⟩;dsimp only)
  |with_reducible first
   |refine aj (l:=ts) (by omega) (λx hx=>?_)
   |refine aj (l:=vr) (by omega) (λy hy=>?_)
  |((with_reducible refine aj (l:=outs) (by omega) (λl hlo=>?_));have hlm:=hll l (List.mem_of_getElem? hlo))
  |((with_reducible refine bT [] [] [8] [] (λa:So l.length λ_=>True=>[.i a.1]) (λ_=>⟨[(1,.cells (F4 b ns it tb ts vb vr lb outs)),(0,.cells (F4 a ns it ta ts va vr la outs))],2⟩) (λa=>l.length-a.1.toNat) ⟨0,by omega,by omega,trivial⟩ (by kernel_rfl) ?_ ?_);(focus((with_reducible refine W.of ?_);(conv=>whnf);exact⟨rfl,rfl⟩));rintro⟨m,m0,m1,_⟩;dsimp only)
  |with_reducible first
   |refine aj (l:=l) (by omega) (λz hz=>?_)
   |refine QJ QK ?_
  |((with_reducible refine bt ?_ ?_);focus(simp[]<;>omega))
  |((with_reducible refine bf ?_ ?_);focus(simp[]<;>omega))
  |with_reducible refine SC.call ?_
  |((with_reducible refine bb (λh=>?_) (λh=>?_))<;>(try simp at h))
 all_goals first
  |rfl
  |exact⟨⟨⟨m+1,by omega,by omega,trivial⟩,ao m0 (by omega),rfl,rfl⟩,rfl⟩
  |exact⟨⟨⟨k+1,by omega,by omega,trivial⟩,ao k0 (by omega),rfl,rfl⟩,rfl⟩
  |exact⟨⟨⟨j+1,by omega,by omega,trivial⟩,ao j0 (by omega),rfl,rfl⟩,rfl⟩
  |exact⟨⟨⟨i+1,by omega,by omega,trivial⟩,ao i0 (by omega),rfl,rfl⟩,rfl⟩
theorem As (hK:KB K true):SC Tryz.prog 15 [.agg (F4 a ns it ta ts va vr la outs),.agg (F4 b ns it tb ts vb vr lb outs)] H0 K:=by
 refine aX [] [] [] Tryz.func15 rfl (by kernel_rfl) ?_
 repeat' first
  |((with_reducible refine W.of ?_);conv=>whnf)
  |with_reducible first
   |refine W.fin (K:=K) hK ?_ rfl
   |refine Nx ns a b hl hkl ?_
   |refine FK a b ta tb va vb la lb ns it ts vr outs hl hkl fw htl hvl hol hll ?_
   |refine SC.call ?_
 all_goals rfl
end
end
end Go.Proofs.YtdjkoddnnogejaaGreat
