/- What the program tells of the inside of a type. -/
import Derived.Test.YtlbmfiglfefaiaaGreatTa
namespace Go.Proofs.YtlbmfiglfefaiaaGreat
open Go.Vv

attribute [local simp] VX.then VX.inBlock vops vwant Region.wanted vstep vplain vop vread ev put Fr.at_set vframe vframeFrom ofZero ofValue vcallee vyieldee vlen Tryz.underlying9 vbinOp vintOp vyield vslice vsliceStr bound vstrOp VBody vresult vresults vresult1 vunOp vextract VEnd.on vindex vminmax

theorem velem35 : velem Tryz.prog 35 = some 9 := by kernel_rfl
theorem vzero9 : vzero Tryz.prog 9 = some (.str []) := by kernel_rfl
theorem vsz9 : vsz Tryz.prog 9 = 1 := by kernel_rfl
theorem vagg9 : vagg Tryz.prog 9 = some false := by kernel_rfl

attribute [local simp] velem35 vzero9 vsz9 vagg9 vbuildSlice vfill rows VV.cells VV.isTup over vindexAddr vload vpart Tryz.underlying35

theorem wrap_inc (n : Nat) (h : n < 1000) : IntKind.i64.wrap ((n : Int) + 1) = ((n + 1 : Nat) : Int) := wrap_small .i64 (n + 1) (by show n + 1 < 9223372036854775808; omega)
theorem wrap_1 : IntKind.i64.wrap 1 = 1 := wrap_inc 0 (by omega)
theorem wrap_2 : IntKind.i64.wrap 2 = 2 := wrap_inc 1 (by omega)

theorem tMut_eq : [38, 109, 117, 116, 32] = tMut := rfl
theorem tAmp_eq : [38] = tAmp := rfl

set_option maxRecDepth 10000 in
theorem innerA_calls (s : List UInt8) (hs' : s.length ≤ big) (h : VHeap) : VCalls Tryz.prog 7 [.str s] h fun r h' => r = .ret (innerV (innerA s)) ∧ h' = h := by
  refine vcalls_of_body (by kernel_rfl) (v_body Tryz.func7 rfl fun Q hret _ => ?_)
  refine w_seqK fun K hK => w_ops ?_
  simp
  refine hK _ _ ?_
  clear hK K
  refine w_seqK fun K hK => w_seqK fun K2 hK2 => w_ops ?_
  simp
  refine hK2 _ _ ?_
  clear hK2 K2
  refine w_block (w_loop 3 (w_roundK fun L hL => ?_))
  -- the first round
  refine w_seqK fun K2 hK2 => w_ops ?_
  simp
  refine hK2 _ _ ?_
  clear hK2 K2
  refine w_seqK fun K2 hK2 => w_cond true (by simp) (fun _ => w_skip ?_) (fun e => by cases e)
  simp
  refine hK2 _ _ ?_
  clear hK2 K2
  refine w_seqK fun K2 hK2 => w_block (w_seqK fun K3 hK3 => w_ops ?_)
  simp
  refine hK3 _ _ ?_
  clear hK3 K3
  refine w_seqK fun K3 hK3 => w_ops ?_
  simp
  refine c_step (cutPrefix_calls s tMut h) ?_
  simp
  refine hK3 _ _ ?_
  clear hK3 K3
  refine w_seqK fun K3 hK3 => w_ops ?_
  simp
  refine hK3 _ _ ?_
  clear hK3 K3
  refine w_cond (hp s tMut) (by simp) (fun h1 => w_seqK fun K3 hK3 => w_ops ?_) (fun h1 => w_skip ?_)
  · simp
    refine hK3 _ _ (w_ret ?_)
    exact hret _ _ _ rfl ⟨by simp [innerA, h1, innerV, show tMut.length = 5 from rfl], rfl⟩
  simp
  refine hK2 _ _ ?_
  clear hK2 K2
  refine w_ops ?_
  simp [wrap_1]
  refine hL _ _ ?_
  clear hL L
  refine w_roundK fun L hL => ?_
  -- the second round
  refine w_seqK fun K2 hK2 => w_ops ?_
  simp
  refine hK2 _ _ ?_
  clear hK2 K2
  refine w_seqK fun K2 hK2 => w_cond true (by simp) (fun _ => w_skip ?_) (fun e => by cases e)
  simp
  refine hK2 _ _ ?_
  clear hK2 K2
  refine w_seqK fun K2 hK2 => w_block (w_seqK fun K3 hK3 => w_ops ?_)
  simp
  refine hK3 _ _ ?_
  clear hK3 K3
  refine w_seqK fun K3 hK3 => w_ops ?_
  simp
  refine c_step (cutPrefix_calls s tAmp h) ?_
  simp
  refine hK3 _ _ ?_
  clear hK3 K3
  refine w_seqK fun K3 hK3 => w_ops ?_
  simp
  refine hK3 _ _ ?_
  clear hK3 K3
  refine w_cond (hp s tAmp) (by simp) (fun h2 => w_seqK fun K3 hK3 => w_ops ?_) (fun h2 => w_skip ?_)
  · simp
    refine hK3 _ _ (w_ret ?_)
    exact hret _ _ _ rfl ⟨by simp [innerA, h1, h2, innerV, show tAmp.length = 1 from rfl], rfl⟩
  simp
  refine hK2 _ _ ?_
  clear hK2 K2
  refine w_ops ?_
  simp [wrap_2]
  refine hL _ _ ?_
  clear hL L
  refine w_roundK fun L hL => ?_
  -- out of the loop
  refine w_seqK fun K2 hK2 => w_ops ?_
  simp
  refine hK2 _ _ ?_
  clear hK2 K2
  refine w_seqK fun K2 hK2 => w_cond false (by simp) (fun e => by cases e) (fun _ => w_exit ?_)
  simp
  refine hK _ _ ?_
  clear hL L hK2 K2 hK K
  -- a Box
  refine w_seqK fun K hK => w_seqK fun K2 hK2 => w_ops ?_
  simp
  refine c_step (cutPrefix_calls s tBox h) ?_
  simp
  refine hK2 _ _ ?_
  clear hK2 K2
  refine w_seqK fun K2 hK2 => w_ops ?_
  simp
  refine hK2 _ _ ?_
  clear hK2 K2
  cases h3 : hp s tBox with
  | false =>
    refine w_cond false (by simp) (fun e => by cases e) (fun _ => w_skip ?_)
    simp
    refine hK _ _ ?_
    clear hK K
    refine w_seqK fun K hK => w_ops ?_
    simp
    refine hK _ _ (w_ret ?_)
    exact hret _ _ _ rfl ⟨by simp [innerA, h1, h2, h3, innerV], rfl⟩
  | true =>
    have h4l : tBox.length = 4 := rfl
    have h5l : tEnd.length = 1 := rfl
    refine w_cond true (by simp) (fun _ => w_seqK fun K2 hK2 => w_ops ?_) (fun e => by cases e)
    simp [h4l]
    refine c_step (cutSuffix_calls (s.drop 4) tEnd (by simp; omega) h) ?_
    simp [h5l]
    refine hK2 _ _ ?_
    clear hK2 K2
    refine w_seqK fun K2 hK2 => w_ops ?_
    simp
    refine hK2 _ _ ?_
    clear hK2 K2
    refine w_cond (hs (s.drop 4) tEnd) (by simp) (fun h4 => w_seqK fun K2 hK2 => w_ops ?_) (fun h4 => w_skip ?_)
    · simp
      refine hK2 _ _ (w_ret ?_)
      exact hret _ _ _ rfl ⟨by simp [innerA, h1, h2, h3, h4, innerV], rfl⟩
    · simp
      refine hK _ _ ?_
      clear hK K
      refine w_seqK fun K hK => w_ops ?_
      simp
      refine hK _ _ (w_ret ?_)
      exact hret _ _ _ rfl ⟨by simp [innerA, h1, h2, h3, h4, innerV], rfl⟩

end Go.Proofs.YtlbmfiglfefaiaaGreat
