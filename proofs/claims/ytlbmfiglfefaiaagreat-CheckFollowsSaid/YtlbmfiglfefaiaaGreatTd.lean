/- Both ways to follow a type tell the same; the law. -/
import Derived.Test.YtlbmfiglfefaiaaGreatTb
import Derived.Test.YtlbmfiglfefaiaaGreatTc
import Derived.Test.YtlbmfiglfefaiaaGreatSb
import Derived.Test.YtlbmfiglfefaiaaGreatVw
namespace Go.Proofs.YtlbmfiglfefaiaaGreat
open Go.Vv

attribute [local simp] VX.then VX.inBlock vops vwant Region.wanted vstep vplain vop vread ev put Fr.at_set vframe vframeFrom ofZero ofValue vcallee vyieldee vlen Tryz.underlying9 vbinOp vintOp vyield vslice vsliceStr bound vstrOp VBody vresult vresults vresult1 vunOp vextract VEnd.on vindex vminmax

/-! ## The plain law -/

theorem hs_gt (s : List UInt8) (h : hp s tBox = true) : hs (s.drop 4) tEnd = lastGt s := by
  have hle : 4 ≤ s.length := by simp [hp, tBox] at h; exact h.1
  have htk : s.take 4 = tBox := by simp [hp, tBox] at h; simpa [tBox] using h.2
  rcases Nat.lt_or_ge s.length 5 with h5 | h5
  · have h7 : s = tBox := by rwa [List.take_of_length_le (by omega)] at htk
    subst h7
    rfl
  · have hlt : s.length - 1 < s.length := by omega
    have hget : s[s.length - 1]? = some (s[s.length - 1]) := List.getElem?_eq_getElem hlt
    have e1 : (s.drop 4).drop (s.length - 4 - 1) = [s[s.length - 1]] := by
      rw [List.drop_drop, show 4 + (s.length - 4 - 1) = s.length - 1 by omega]
      rw [List.drop_eq_getElem_cons hlt, List.drop_of_length_le (by omega)]
    have hl : 1 ≤ s.length - 4 := by omega
    unfold hs lastGt
    rw [hget]
    simp only [tEnd, List.length_cons, List.length_nil, List.length_drop, Nat.zero_add]
    rw [e1]
    have hl2 : decide (1 ≤ s.length - 4) = true := by simpa using hl
    rw [hl2]
    simp

theorem inner_eq (s : List UInt8) : innerA s = innerB s := by
  unfold innerA innerB
  split
  · rfl
  · split
    · rfl
    · by_cases h : hp s tBox = true
      · rw [if_pos h, hs_gt s h]
        by_cases h2 : lastGt s = true
        · rw [if_pos h2, if_pos ⟨h, h2⟩]
          rw [List.drop_take]
          simp only [List.length_drop]
          rw [show s.length - 4 - 1 = s.length - 1 - 4 by omega]
        · rw [if_neg h2, if_neg (fun e => h2 e.2)]
      · rw [if_neg h, if_neg (fun e => h e.1)]

theorem inner_short {s t : List UInt8} (h : innerA s = some t) : t.length < s.length := by
  unfold innerA at h
  split at h
  · rename_i h1; cases h; simp [hp, tMut] at h1 ⊢; omega
  · split at h
    · rename_i h1; cases h; simp [hp, tAmp] at h1 ⊢; omega
    · split at h
      · rename_i h1
        split at h
        · cases h; simp [hp, tBox] at h1 ⊢; omega
        · cases h
      · cases h

def followN : Nat → List UInt8 → List UInt8
  | 0, s => s
  | n + 1, s => match innerA s with | some t => followN n t | none => s

/-! ## Following -/

def bodyOf (fn : Func) : Code := match fn.body with
  | some (.seq _ (.block _ (.loop c))) => c
  | _ => .skip

set_option maxRecDepth 10000 in
theorem followA_loop (h : VHeap) : ∀ (n : Nat) (s : List UInt8) (fr : Fr) (Q : VX → Fr → VHeap → Prop), s.length ≤ n → s.length ≤ big → fr.at 0 = .str s →
    (∀ fr', fr'.at 2 = .str (followN n s) → Q .ret fr' h) → vloop (vwp Tryz.prog ⟨14, []⟩ (bodyOf Tryz.f4)) Q (n + 1) fr h := by
  intro n
  induction n with
  | zero =>
    intro s fr Q hn hbig hfr hQ
    have hnil : s = [] := List.eq_nil_of_length_eq_zero (Nat.le_zero.1 hn)
    have hno : innerA s = none := by subst hnil; rfl
    simp only [bodyOf, Tryz.f4]
    refine w_roundK fun L hL => w_block (w_seqK fun K hK => w_ops ?_)
    simp [hfr]
    refine c_step (innerA_calls s hbig h) ?_
    simp [hno, innerV]
    refine hK _ _ ?_
    clear hK K
    refine w_seqK fun K hK => w_seqK fun K2 hK2 => w_ops ?_
    simp
    refine hK2 _ _ ?_
    clear hK2 K2
    refine w_cond true (by simp) (fun _ => w_seqK fun K2 hK2 => w_ops ?_) (fun e => by cases e)
    simp [hfr]
    refine hK2 _ _ (w_ret ?_)
    simp
    exact hQ _ (by simp [followN])
  | succ n ih =>
    intro s fr Q hn hbig hfr hQ
    have hIH := ih
    simp only [bodyOf, Tryz.f4] at hIH ⊢
    refine w_roundK fun L hL => w_block (w_seqK fun K hK => w_ops ?_)
    simp [hfr]
    refine c_step (innerA_calls s hbig h) ?_
    cases hin : innerA s with
    | none =>
      simp [innerV]
      refine hK _ _ ?_
      clear hK K
      refine w_seqK fun K hK => w_seqK fun K2 hK2 => w_ops ?_
      simp
      refine hK2 _ _ ?_
      clear hK2 K2
      refine w_cond true (by simp) (fun _ => w_seqK fun K2 hK2 => w_ops ?_) (fun e => by cases e)
      simp [hfr]
      refine hK2 _ _ (w_ret ?_)
      simp
      exact hQ _ (by simp [followN, hin])
    | some t =>
      have hsh := inner_short hin
      simp [innerV]
      refine hK _ _ ?_
      clear hK K
      refine w_seqK fun K hK => w_seqK fun K2 hK2 => w_ops ?_
      simp
      refine hK2 _ _ ?_
      clear hK2 K2
      refine w_cond false (by simp) (fun e => by cases e) (fun _ => w_skip ?_)
      simp
      refine hK _ _ ?_
      clear hK K
      refine w_ops ?_
      simp
      refine hL _ _ ?_
      refine hIH t _ Q (by omega) (by omega) (by simp) fun fr' h2 => hQ fr' ?_
      simp only [followN, hin]
      exact h2

set_option maxRecDepth 10000 in
theorem followA_calls (s : List UInt8) (hbig : s.length ≤ big) (h : VHeap) : VCalls Tryz.prog 4 [.str s] h fun r h' => r = .ret (.str (followN s.length s)) ∧ h' = h := by
  refine vcalls_of_body (by kernel_rfl) (v_body Tryz.func4 rfl fun Q hret _ => ?_)
  refine w_seqK fun K hK => w_ops ?_
  simp
  refine hK _ _ (w_block (w_loop (s.length + 1) (followA_loop h s.length s _ _ (Nat.le_refl _) hbig (by simp) fun fr' h2 => ?_)))
  simp
  refine hret _ _ (.str (followN s.length s)) ?_ ⟨rfl, rfl⟩
  simp [Tryz.f4, h2]

end Go.Proofs.YtlbmfiglfefaiaaGreat
