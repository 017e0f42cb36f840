/- The reference follows a type likewise; the law. -/
import Derived.Test.YtlbmfiglfefaiaaGreatTd
namespace Go.Proofs.YtlbmfiglfefaiaaGreat
open Go.Vv

attribute [local simp] VX.then VX.inBlock vops vwant Region.wanted vstep vplain vop vread ev put Fr.at_set vframe vframeFrom ofZero ofValue vcallee vyieldee vlen Tryz.underlying9 vbinOp vintOp vyield vslice vsliceStr bound vstrOp VBody vresult vresults vresult1 vunOp vextract VEnd.on vindex vminmax

set_option maxRecDepth 100000 in
theorem innerC_calls (s : List UInt8) (hs' : s.length ≤ big) (h : VHeap) : VCalls Tryz.prog 8 [.str s] h fun r h' => r = .ret (innerV (innerA s)) ∧ h' = h := by
  refine (innerB_calls s hs' h).mono fun r h' hh => ?_
  rw [inner_eq]
  exact hh

set_option maxRecDepth 10000 in
theorem followB_loop (h : VHeap) : ∀ (n : Nat) (s : List UInt8) (fr : Fr) (Q : VX → Fr → VHeap → Prop), s.length ≤ n → s.length ≤ big → fr.at 0 = .str s →
    (∀ fr', fr'.at 2 = .str (followN n s) → Q .ret fr' h) → vloop (vwp Tryz.prog ⟨14, []⟩ (bodyOf Tryz.f5)) Q (n + 1) fr h := by
  intro n
  induction n with
  | zero =>
    intro s fr Q hn hbig hfr hQ
    have hnil : s = [] := List.eq_nil_of_length_eq_zero (Nat.le_zero.1 hn)
    have hno : innerA s = none := by subst hnil; rfl
    simp only [bodyOf, Tryz.f5]
    refine w_roundK fun L hL => w_block (w_seqK fun K hK => w_ops ?_)
    simp [hfr]
    refine c_step (innerC_calls s hbig h) ?_
    simp [hno, innerV]
    refine hK _ _ ?_
    clear hK K
    refine w_seqK fun K hK => w_seqK fun K2 hK2 => w_ops ?_
    simp
    refine hK2 _ _ ?_
    clear hK2 K2
    refine w_cond true (by simp) (fun _ => w_seqK fun K2 hK2 => w_ops ?_) (fun e => by cases e)
    simp [hfr]
    refine hK2 _ _ (w_ret ?_)
    simp
    exact hQ _ (by simp [followN])
  | succ n ih =>
    intro s fr Q hn hbig hfr hQ
    have hIH := ih
    simp only [bodyOf, Tryz.f5] at hIH ⊢
    refine w_roundK fun L hL => w_block (w_seqK fun K hK => w_ops ?_)
    simp [hfr]
    refine c_step (innerC_calls s hbig h) ?_
    cases hin : innerA s with
    | none =>
      simp [innerV]
      refine hK _ _ ?_
      clear hK K
      refine w_seqK fun K hK => w_seqK fun K2 hK2 => w_ops ?_
      simp
      refine hK2 _ _ ?_
      clear hK2 K2
      refine w_cond true (by simp) (fun _ => w_seqK fun K2 hK2 => w_ops ?_) (fun e => by cases e)
      simp [hfr]
      refine hK2 _ _ (w_ret ?_)
      simp
      exact hQ _ (by simp [followN, hin])
    | some t =>
      have hsh := inner_short hin
      simp [innerV]
      refine hK _ _ ?_
      clear hK K
      refine w_seqK fun K hK => w_seqK fun K2 hK2 => w_ops ?_
      simp
      refine hK2 _ _ ?_
      clear hK2 K2
      refine w_cond false (by simp) (fun e => by cases e) (fun _ => w_skip ?_)
      simp
      refine hK _ _ ?_
      clear hK K
      refine w_ops ?_
      simp
      refine hL _ _ ?_
      refine hIH t _ Q (by omega) (by omega) (by simp) fun fr' h2 => hQ fr' ?_
      simp only [followN, hin]
      exact h2

set_option maxRecDepth 10000 in
theorem followB_calls (s : List UInt8) (hbig : s.length ≤ big) (h : VHeap) : VCalls Tryz.prog 5 [.str s] h fun r h' => r = .ret (.str (followN s.length s)) ∧ h' = h := by
  refine vcalls_of_body (by kernel_rfl) (v_body Tryz.func5 rfl fun Q hret _ => ?_)
  refine w_seqK fun K hK => w_ops ?_
  simp
  refine hK _ _ (w_block (w_loop (s.length + 1) (followB_loop h s.length s _ _ (Nat.le_refl _) hbig (by simp) fun fr' h2 => ?_)))
  simp
  refine hret _ _ (.str (followN s.length s)) ?_ ⟨rfl, rfl⟩
  simp [Tryz.f5, h2]


/-- The law's own instance: '&Box<S>'. -/
theorem follow_box : followN 7 [38, 66, 111, 120, 60, 83, 62] = [83] := by decide

set_option maxRecDepth 100000 in
theorem speaks_any (h : VHeap) : VCalls Tryz.prog 6 [] h fun r h' => r = .ret (.bool true) ∧ h' = h := VCalls.closed (v := .bool true) (args := []) (by rfl) (by rfl) speaks_calls h

set_option maxRecDepth 10000 in
theorem law_calls (s : List UInt8) (hbig : s.length ≤ big) (h : VHeap) : VCalls Tryz.prog 3 [.str s] h fun r h' => r = .ret (.bool true) ∧ h' = h := by
  refine vcalls_of_body (by kernel_rfl) (v_body Tryz.func3 rfl fun Q hret _ => ?_)
  refine w_seqK fun K hK => w_ops ?_
  simp
  refine hK _ _ ?_
  clear hK K
  refine w_seqK fun K hK => w_ops ?_
  simp
  refine c_step (followA_calls s hbig h) ?_
  simp
  refine c_step (followB_calls s hbig h) ?_
  simp
  refine c_step (followA_calls [38, 66, 111, 120, 60, 83, 62] (by decide) h) ?_
  simp [follow_box]
  refine c_step (speaks_any h) ?_
  simp
  refine hK _ _ (w_ret ?_)
  exact hret _ _ _ rfl ⟨by simp, rfl⟩

end Go.Proofs.YtlbmfiglfefaiaaGreat
