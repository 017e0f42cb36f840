/- What the reference tells of the inside of a type. -/
import Derived.Test.YtlbmfiglfefaiaaGreatTa
namespace Go.Proofs.YtlbmfiglfefaiaaGreat
open Go.Vv

attribute [local simp] VX.then VX.inBlock vops vwant Region.wanted vstep vplain vop vread ev put Fr.at_set vframe vframeFrom ofZero ofValue vcallee vyieldee vlen Tryz.underlying9 vbinOp vintOp vyield vslice vsliceStr bound vstrOp VBody vresult vresults vresult1 vunOp vextract VEnd.on vindex vminmax

theorem gt_eq (b : UInt8) : ((b.toNat : Int) == 62) = (b == 62) := by
  by_cases e : b = 62
  · rw [e]; rfl
  · have e2 : ¬ ((b.toNat : Int) = 62) := fun e3 => e (UInt8.toNat_inj.1 (by show _ = 62; omega))
    have e4 : ((b.toNat : Int) == 62) = false := by simpa using e2
    have e5 : (b == 62) = false := by simpa using e
    rw [e4, e5]

set_option maxRecDepth 10000 in
theorem innerB_calls (s : List UInt8) (hs' : s.length ≤ big) (h : VHeap) : VCalls Tryz.prog 8 [.str s] h fun r h' => r = .ret (innerV (innerB s)) ∧ h' = h := by
  refine vcalls_of_body (by kernel_rfl) (v_body Tryz.func8 rfl fun Q hret _ => ?_)
  refine w_seqK fun K hK => w_ops ?_
  simp
  refine hK _ _ ?_
  clear hK K
  refine w_seqK fun K hK => w_block (w_seqK fun K2 hK2 => w_ops ?_)
  simp
  refine c_step (starts_calls s tMut h) ?_
  simp
  refine hK2 _ _ ?_
  clear hK2 K2
  refine w_cond (hp s tMut) (by simp) (fun h1 => w_seqK fun K2 hK2 => w_ops ?_) (fun h1 => w_seqK fun K2 hK2 => w_ops ?_)
  · have hle : (5 : Int) ≤ s.length := by simp [hp, tMut] at h1; omega
    simp [hle]
    refine hK2 _ _ (w_ret ?_)
    exact hret _ _ _ rfl ⟨by simp [innerB, h1, innerV], rfl⟩
  simp
  refine c_step (starts_calls s tAmp h) ?_
  simp
  refine hK2 _ _ ?_
  clear hK2 K2
  refine w_cond (hp s tAmp) (by simp) (fun h2 => w_seqK fun K2 hK2 => w_ops ?_) (fun h2 => w_seqK fun K2 hK2 => w_ops ?_)
  · have hle : (1 : Int) ≤ s.length := by simp [hp, tAmp] at h2; omega
    simp [hle]
    refine hK2 _ _ (w_ret ?_)
    exact hret _ _ _ rfl ⟨by simp [innerB, h1, h2, innerV], rfl⟩
  simp
  refine c_step (starts_calls s tBox h) ?_
  cases h3 : hp s tBox with
  | false =>
    simp
    refine hK2 _ _ ?_
    clear hK2 K2
    refine w_cond false (by simp) (fun h4 => by cases h4) (fun h4 => w_skip ?_)
    simp
    refine hK _ _ ?_
    clear hK K
    refine w_seqK fun K hK => w_ops ?_
    simp
    refine hK _ _ (w_ret ?_)
    exact hret _ _ _ rfl ⟨by simp [innerB, h1, h2, h3, innerV], rfl⟩
  | true =>
    have hle : 4 ≤ s.length := by simp [hp, tBox] at h3; exact h3.1
    have hw : IntKind.i64.wrap ((s.length : Int) - 1) = ((s.length - 1 : Nat) : Int) := wrap_sub (a := s.length) (b := 1) (by omega) hs'
    have hlt : s.length - 1 < s.length := by omega
    have hget : s[s.length - 1]? = some (s[s.length - 1]) := List.getElem?_eq_getElem hlt
    have hg : lastGt s = (s[s.length - 1] == 62) := by simp [lastGt, hget]
    generalize s[s.length - 1] = b at *
    have hb := gt_eq b
    simp [hw, hget, hb]
    refine hK2 _ _ ?_
    clear hK2 K2
    refine w_cond (b == 62) (by simp) (fun h4 => w_seqK fun K2 hK2 => w_ops ?_) (fun h4 => w_skip ?_)
    · have hle2 : (4 : Int) ≤ ((s.length - 1 : Nat) : Int) := by
        have h5 : 5 ≤ s.length := by
          rcases Nat.lt_or_ge s.length 5 with h5 | h5
          · exfalso
            have h7 : s = tBox := by simp [hp] at h3; have := h3.2; rwa [List.take_of_length_le (by simp [tBox]; omega)] at this
            subst h7
            simp [tBox] at hget
            subst hget
            simp at h4
          · exact h5
        omega
      have hle3 : ((s.length - 1 : Nat) : Int) ≤ s.length := by omega
      simp [hw, hle2, hle3]
      refine hK2 _ _ (w_ret ?_)
      exact hret _ _ _ rfl ⟨by simp [innerB, h1, h2, h3, hg, h4, innerV], rfl⟩
    · simp
      refine hK _ _ ?_
      clear hK K
      refine w_seqK fun K hK => w_ops ?_
      simp
      refine hK _ _ (w_ret ?_)
      exact hret _ _ _ rfl ⟨by simp [innerB, h1, h2, h3, hg, h4, innerV], rfl⟩

end Go.Proofs.YtlbmfiglfefaiaaGreat
