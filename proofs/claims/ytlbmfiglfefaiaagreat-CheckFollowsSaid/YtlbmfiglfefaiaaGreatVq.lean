/- Regions whose operations come in an order that is drawn: a plan is enough (the end of the proof). -/
import Derived.Test.YtlbmfiglfefaiaaGreatVp
namespace Go.Vv

variable {P : Program} {G : Ghost} {w : World} {F : Fence} {n : Nat}
variable {ops : Array Oper} {N : Fm} {G0 : Ghost} {w0 : World} {a0 : Act} {listed : Array Bool} {done : List Nat} {ids : List (Nat × Nat)} {fr : Fr} {h : VHeap} {a : Act} {b : Array Nat}

/-- An operation that changes the heap comes, in the plan and in the world. -/
theorem DInv.effect (hi : DInv P ops N G0 w0 a0 listed done ids fr h G a w) (hm : chkMask ops b = true) (hs : Slots ops b) {i : Nat} (hin : i < ops.size) (hnd : i ∉ done)
    (hc : chkOper N (opAt ops i) = true) (hwl : ∀ k ∈ waits (opAt ops i), listed.getD k false = true) {v : VV} {y : Value} {h' : VHeap} {G' : Ghost} {w' : World}
    (hrel : Rel G' h' w') (hext : Ext G G' w w') (hy : RV G' v y)
    (hst : ∀ p ∈ done, listed.getD p false = false → (readsHeap (opAt ops p).op || isNew (opAt ops p).op) = true → vstable P ops ids h (put fr (opAt ops i).dst v) h' p) :
    DInv P ops N G0 w0 a0 (listed.setIfInBounds i true) (i :: done) ids (put fr (opAt ops i).dst v) h' G' (a.put (opAt ops i).dst y) w' := by
  have hli : i < listed.size := by rw [hi.lsz]; exact hin
  have hback : ∀ p, (listed.setIfInBounds i true).getD p false = false → p ≠ i ∧ listed.getD p false = false := by
    intro p hp
    have h1 : ¬ (p = i ∨ listed.getD p false = true) := fun e => by rw [(getD_set_true hli).2 e] at hp; cases hp
    simp only [not_or, Bool.not_eq_true] at h1
    exact h1
  have hw : ∀ k ∈ waits (opAt ops i), k ∈ done := fun k hk => hi.ldone k (hwl k hk)
  have hfree : ∀ p ∈ done, listed.getD p false = false → ∀ d, (opAt ops i).dst = some d → d ∉ slotsRead ops (opAt ops p) ∧ (opAt ops p).dst ≠ some d := fun p hp hpl d hd =>
    hi.slot_free hm hs hin hnd hd hp hpl hw (fun _ => hwl)
  have hkeep : ∀ p ∈ done, listed.getD p false = false → ∀ d, (opAt ops p).dst = some d → Fr.at (put fr (opAt ops i).dst v) d = fr.at d := by
    intro p hp hpl d hd
    rw [put_at, if_neg (fun e => (hfree p hp hpl d e).2 hd)]
  have hnum : h.next ≤ h'.next := by rw [← hi.rel.num, ← hrel.num]; exact hext.num
  refine ⟨hrel, hi.ext.trans hext.toExt0, hi.young.trans hext.toYoung, hi.same.trans (.put a y hc), by rw [put_size]; exact hi.size, ?_, by simp [hi.lsz], ?_, ?_, ?_, ?_, ?_, ?_, ?_, ?_, hi.inj, ?_⟩
  · intro t ht
    by_cases hd : (opAt ops i).dst = some t
    · have hlt : t < a.tmps.size := by rw [hi.size]; simp [chkOper, hd] at hc; exact hc.1.1
      rw [put_at, if_pos hd, hd, put_tmps_same a y t hlt]
      exact hy
    · rw [put_tmps a _ y t hd, put_at, if_neg hd]
      refine (hi.slots t fun p hp hpd => ?_).mono hext.le
      rcases (getD_set_true hli).1 (ht p (List.mem_cons_of_mem _ hp) hpd) with rfl | e
      · exact absurd hpd hd
      · exact e
  · intro p hpl
    rcases (getD_set_true hli).1 hpl with rfl | e
    · simp
    · exact List.mem_cons_of_mem _ (hi.ldone p e)
  · intro p hp he
    rcases List.mem_cons.1 hp with rfl | hp
    · exact (getD_set_true hli).2 (.inl rfl)
    · exact (getD_set_true hli).2 (.inr (hi.eff p hp he))
  · intro j hj k hk
    rcases (getD_set_true hli).1 hj with rfl | e
    · exact (getD_set_true hli).2 (.inr (hwl k hk))
    · exact (getD_set_true hli).2 (.inr (hi.lclosed j e k hk))
  · intro j hj k hk
    rcases List.mem_cons.1 hj with rfl | hj
    · exact List.mem_cons_of_mem _ (hw k hk)
    · exact List.mem_cons_of_mem _ (hi.dclosed j hj k hk)
  · intro j hj
    rcases List.mem_cons.1 hj with rfl | hj
    · exact hin
    · exact hi.dlt j hj
  · intro p hp hpl hwant hn
    obtain ⟨hne, hpl⟩ := hback p hpl
    have hp : p ∈ done := (List.mem_cons.1 hp).resolve_left hne
    have hf := fun d hd => (hfree p hp hpl d hd).1
    have hv := hst p hp hpl (by simp [hn])
    unfold vstable at hv
    rw [if_pos hwant, if_pos hn] at hv
    rw [want_puts hf] at hwant
    obtain ⟨f, x, j, h1, h2, h3, h4, h5, h6, h7⟩ := hi.pnew p hp hpl hwant hn
    rw [h2] at hv
    refine ⟨f, x, j, by rw [← vnew_congr (ev_puts hf)]; exact h1, h2, by rw [hv]; exact h3, h4, by omega, ?_, fun d hd => by rw [hkeep p hp hpl d hd]; exact h7 d hd⟩
    exact hext.young j (by rw [hi.rel.num]; exact h5) h6
  · intro p hp hpl hwant hn
    obtain ⟨hne, hpl⟩ := hback p hpl
    have hp : p ∈ done := (List.mem_cons.1 hp).resolve_left hne
    have hf := fun d hd => (hfree p hp hpl d hd).1
    cases hrd : readsHeap (opAt ops p).op with
    | false =>
      rw [want_puts hf] at hwant
      obtain ⟨v', h1, h2⟩ := hi.pread p hp hpl hwant hn
      exact ⟨v', by rw [← vread_congr h' (ev_puts hf), vread_other fr h' h hrd]; exact h1, fun d hd => by rw [hkeep p hp hpl d hd]; exact h2 d hd⟩
    | true =>
      have hv := hst p hp hpl (by simp [hrd])
      unfold vstable at hv
      rw [if_pos hwant, if_neg (by simp [hn])] at hv
      split at hv
      · rename_i v' hv'
        refine ⟨v', hv', fun d hd => ?_⟩
        rw [hd] at hv
        exact hv.symm
      · exact hv.elim
  · intro p hp hpl hwant d hd
    obtain ⟨hne, hpl⟩ := hback p hpl
    have hp : p ∈ done := (List.mem_cons.1 hp).resolve_left hne
    have hf := fun d hd => (hfree p hp hpl d hd).1
    rw [want_puts hf] at hwant
    rw [hkeep p hp hpl d hd]
    exact hi.pnot p hp hpl hwant d hd
  · intro p j hp
    have := hi.idone p j hp
    exact ⟨List.mem_cons_of_mem _ this.1, by omega⟩

/-- What may yet come is as it was, the heap being the same. -/
theorem DInv.stable_same (hi : DInv P ops N G0 w0 a0 listed done ids fr h G a w) {dst : Option Tmp} {v : VV}
    (hfree : ∀ p ∈ done, listed.getD p false = false → ∀ d, dst = some d → d ∉ slotsRead ops (opAt ops p) ∧ (opAt ops p).dst ≠ some d) :
    ∀ p ∈ done, listed.getD p false = false → vstable P ops ids h (put fr dst v) h p := by
  intro p hp hpl
  have hf := fun d hd => (hfree p hp hpl d hd).1
  unfold vstable
  rw [want_puts hf]
  split
  · rename_i hwant
    split
    · rename_i hn
      obtain ⟨f, x, j, h1, h2, _⟩ := hi.pnew p hp hpl hwant hn
      rw [h2]
    · rename_i hn
      obtain ⟨v', h1, h2⟩ := hi.pread p hp hpl hwant (by simpa using hn)
      rw [← vread_congr h (ev_puts hf), h1]
      cases hd : (opAt ops p).dst with
      | none => trivial
      | some d =>
        simp only
        rw [put_at, if_neg (fun e => (hfree p hp hpl d e).2 hd), h2 d hd]
  · trivial

/-- A plan whose next operation changes the heap. -/
def Plan.ripe (ops : Array Oper) : Plan → Prop
  | [] => True
  | (i, _) :: _ => isMov (opAt ops i).op = false

structure OkCons (ops : Array Oper) (b : Array Nat) (done : List Nat) (i : Nat) (pend : List Nat) (rest : Plan) : Prop where
  lt : i < ops.size
  notDone : i ∉ done
  waits : ∀ k ∈ waits (opAt ops i), k ∈ done
  eager : isMov (opAt ops i).op = false → ∀ j, j < ops.size → j ∉ done → isMov (opAt ops j).op = true → ¬ ∀ k ∈ Vv.waits (opAt ops j), k ∈ done
  pend : isMov (opAt ops i).op = false → ∀ p ∈ done, isMov (opAt ops p).op = true → (readsHeap (opAt ops p).op || isNew (opAt ops p).op) = true → p ∈ pend ∨ hasBit b i p = true
  rest : okPlan ops b (i :: done) rest = true

theorem okPlan_cons {i : Nat} {pend : List Nat} {rest : Plan} (hk : okPlan ops b done ((i, pend) :: rest) = true) : OkCons ops b done i pend rest := by
  simp only [okPlan, Bool.and_eq_true, decide_eq_true_eq, Bool.not_eq_true', Bool.or_eq_true, List.all_eq_true] at hk
  obtain ⟨⟨⟨⟨h1, h2⟩, h3⟩, h4⟩, h5⟩ := hk
  refine ⟨h1, fun e => ?_, fun k hk => List.contains_iff_mem.1 (h3 k hk), fun he j hj hjd hjm hall => ?_, fun he p hp hpm hpr => ?_, h5⟩
  · rw [List.contains_iff_mem.2 e] at h2; cases h2
  · rcases h4 with h4 | h4
    · rw [he] at h4; cases h4
    · have := h4.1 j (List.mem_range.2 hj)
      rcases this with (h6 | h6) | h6
      · exact hjd (List.contains_iff_mem.1 h6)
      · rw [hjm] at h6; cases h6
      · have hall' : (Vv.waits (opAt ops j)).all (fun k => done.contains k) = true := List.all_eq_true.2 fun k hk => List.contains_iff_mem.2 (hall k hk)
        have h7 : (Vv.waits (opAt ops j)).all done.contains = false := h6
        rw [show (Vv.waits (opAt ops j)).all done.contains = (Vv.waits (opAt ops j)).all (fun k => done.contains k) from rfl, hall'] at h7
        cases h7
  · rcases h4 with h4 | h4
    · rw [he] at h4; cases h4
    · have := h4.2 p hp
      rcases this with ((h6 | h6) | h6) | h6
      · rw [hpm] at h6; cases h6
      · rw [hpr] at h6; cases h6
      · exact .inl (List.contains_iff_mem.1 h6)
      · exact .inr h6

theorem DInv.ripen (hm : chkMask ops b = true) (hs : Slots ops b) {Q : VX → Fr → VHeap → Prop} : ∀ (plan : Plan) (done : List Nat) (ids : List (Nat × Nat)) (fr : Fr) (h : VHeap) (G : Ghost),
    DInv P ops N G0 w0 a0 listed done ids fr h G a w → okPlan ops b done plan = true → vdr P ops Q plan ids fr h →
    ∃ plan' done' ids' fr' h' G', DInv P ops N G0 w0 a0 listed done' ids' fr' h' G' a w ∧ okPlan ops b done' plan' = true ∧ vdr P ops Q plan' ids' fr' h' ∧ Plan.ripe ops plan' := by
  intro plan
  induction plan with
  | nil => intro done ids fr h G hi hk hv; exact ⟨[], done, ids, fr, h, G, hi, hk, hv, trivial⟩
  | cons e rest ih =>
    obtain ⟨i, pend⟩ := e
    intro done ids fr h G hi hk hv
    cases hmov : isMov (opAt ops i).op with
    | false => exact ⟨_, done, ids, fr, h, G, hi, hk, hv, hmov⟩
    | true =>
      have ho := okPlan_cons hk
      have hidn : ids.lookup i = none := by
        cases hc : ids.lookup i with
        | none => rfl
        | some j => exact absurd (hi.idone i j hc).1 ho.notDone
      unfold vdr at hv
      cases hwant : vwant ops fr (opAt ops i) with
      | false =>
        rw [if_neg (by simp [hwant])] at hv
        refine ih _ _ _ _ G (hi.mov hm hs ho.lt ho.notDone ho.waits hmov (v := .undef) hi.rel (.refl G w) rfl (fun _ _ h => h) (Nat.le_refl _) (fun _ _ => rfl) (fun j hj => by rw [hidn] at hj; cases hj)
          (fun e => by rw [hwant] at e; cases e) (fun e => by rw [hwant] at e; cases e) (fun _ => rfl)) ho.rest hv
      | true =>
        rw [if_pos hwant, if_pos hmov] at hv
        cases hn : isNew (opAt ops i).op with
        | true =>
          rw [if_pos hn] at hv
          split at hv
          · rename_i f x hnew
            refine ih _ _ _ _ G.more (hi.mov hm hs ho.lt ho.notDone ho.waits hmov (hi.rel.push x) (.more G w) rfl ?_ (by rw [VHeap.next_push]; omega) ?_ ?_ ?_ ?_ ?_) ho.rest hv
            · intro o y hy
              rw [VHeap.get_push_ne _ _ (fun e => by subst e; rw [hi.rel.fresh _ (Nat.le_refl _)] at hy; cases hy)]
              exact hy
            · intro p hp
              simp [List.lookup]
              have : (p == i) = false := by simpa using hp
              simp [this]
            · intro j hj
              simp [List.lookup] at hj
              subst hj
              exact ⟨Nat.le_refl _, by rw [VHeap.next_push]; omega⟩
            · intro _ _
              exact ⟨f, x, h.next, hnew, by simp [List.lookup], VHeap.get_push_same .., rfl⟩
            · intro _ e; rw [hn] at e; cases e
            · intro e; rw [hwant] at e; cases e
          · exact hv.elim
        | false =>
          rw [if_neg (by simp [hn])] at hv
          split at hv
          · rename_i v hread
            refine ih _ _ _ _ G (hi.mov hm hs ho.lt ho.notDone ho.waits hmov (v := v) hi.rel (.refl G w) rfl (fun _ _ h => h) (Nat.le_refl _) (fun _ _ => rfl) (fun j hj => by rw [hidn] at hj; cases hj)
              (fun _ e => by rw [hn] at e; cases e) (fun _ _ => hread) (fun e => by rw [hwant] at e; cases e)) ho.rest hv
          · exact hv.elim

theorem mem_ready {i : Nat} (h : i ∈ Region.ready .any ops listed) : i < ops.size ∧ listed.getD i true = false ∧ ∀ k ∈ waits (opAt ops i), listed.getD k false = true := by
  simp only [Region.ready, List.mem_filter, List.mem_range, Bool.and_eq_true, Bool.not_eq_true'] at h
  obtain ⟨h1, h2, h3⟩ := h
  rw [opAt_get h1] at h3
  simp only [Option.map_some, Option.getD_some] at h3
  refine ⟨h1, h2, fun k hk => ?_⟩
  unfold waits at hk
  obtain ⟨e, he, rfl⟩ := List.mem_map.1 hk
  obtain ⟨he1, he2⟩ := List.mem_filter.1 he
  rw [← Array.all_toList] at h3
  have := List.all_eq_true.1 h3 e he1
  simp only [Bool.or_eq_true, Bool.not_eq_true'] at this
  rcases this with h4 | h4
  · rw [he2] at h4; cases h4
  · exact h4

theorem ready_of {i : Nat} (h1 : i < ops.size) (h2 : listed.getD i true = false) (h3 : ∀ k ∈ waits (opAt ops i), listed.getD k false = true) : i ∈ Region.ready .any ops listed := by
  simp only [Region.ready, List.mem_filter, List.mem_range, Bool.and_eq_true, Bool.not_eq_true']
  refine ⟨h1, h2, ?_⟩
  rw [opAt_get h1]
  simp only [Option.map_some, Option.getD_some]
  rw [← Array.all_toList]
  refine List.all_eq_true.2 fun e he => ?_
  simp only [Bool.or_eq_true, Bool.not_eq_true']
  cases hb : Region.binds .any e with
  | false => exact .inl rfl
  | true => exact .inr (h3 e.on (List.mem_map.2 ⟨e, List.mem_filter.2 ⟨he, hb⟩, rfl⟩))

theorem getD_defaults {l : Array Bool} {i : Nat} (hi : i < l.size) : l.getD i true = l.getD i false := by simp [hi]

def unlisted (n : Nat) (listed : Array Bool) : Nat := (List.range n).countP fun i => !listed.getD i false

theorem unlisted_set {n : Nat} {l : Array Bool} {i : Nat} (hi : i < n) (hl : i < l.size) (hn : l.getD i false = false) : unlisted n (l.setIfInBounds i true) + 1 = unlisted n l := by
  unfold unlisted
  have key : ∀ (r : List Nat), r.Nodup → (r.countP fun j => !(l.setIfInBounds i true).getD j false) + (if i ∈ r then 1 else 0) = r.countP fun j => !l.getD j false := by
    intro r
    induction r with
    | nil => intro _; simp
    | cons j r ih =>
      intro hnd
      have h1 := ih (List.nodup_cons.1 hnd).2
      have h2 := (List.nodup_cons.1 hnd).1
      rw [List.countP_cons, List.countP_cons]
      by_cases hj : j = i
      · subst hj
        have e1 : (l.setIfInBounds j true).getD j false = true := (getD_set_true hl).2 (.inl rfl)
        rw [if_neg h2] at h1
        simp only [e1, hn, List.mem_cons, true_or, if_true]
        simp at h1 ⊢
        omega
      · have e1 : (l.setIfInBounds i true).getD j false = l.getD j false := by
          cases hc : l.getD j false with
          | true => exact (getD_set_true hl).2 (.inr hc)
          | false =>
            cases hc2 : (l.setIfInBounds i true).getD j false with
            | false => rfl
            | true => rcases (getD_set_true hl).1 hc2 with e | e
                      · exact absurd e hj
                      · rw [hc] at e; cases e
        have e2 : (i ∈ j :: r) = (i ∈ r) := by rw [List.mem_cons]; exact propext ⟨fun e => e.resolve_left (fun e => hj e.symm), .inr⟩
        simp only [e1, e2]
        omega
  have := key (List.range n) List.nodup_range
  rw [if_pos (List.mem_range.2 hi)] at this
  exact this

theorem DInv.ends (hi : DInv P ops N G0 w0 a0 listed done ids fr h G a w) {Q : VX → Fr → VHeap → Prop} {plan : Plan} (hk : okPlan ops b done plan = true) (hv : vdr P ops Q plan ids fr h)
    (hall : ∀ j, j < ops.size → listed.getD j false = true) : VPost G0 w0 N a0 Q .normal a w := by
  cases plan with
  | cons e rest =>
    obtain ⟨i, pend⟩ := e
    have ho := okPlan_cons hk
    exact absurd (hi.ldone i (hall i ho.lt)) ho.notDone
  | nil =>
    exact ⟨hi.same, .normal, fr, h, G, hv, trivial, fun _ => ⟨hi.size, fun t => hi.slots t fun p hp _ => hall p (hi.dlt p hp)⟩, hi.rel, .mk' hi.ext hi.young⟩

theorem DInv.main (hF : FreeF F) (hm : chkMask ops b = true) (hs : Slots ops b) (hops : ∀ (j : Nat) (o : Oper), ops[j]? = some o → chkOper N o = true) {Q : VX → Fr → VHeap → Prop} :
    ∀ (fuel : Nat) (listed : Array Bool) (plan : Plan) (done : List Nat) (ids : List (Nat × Nat)) (fr : Fr) (h : VHeap) (G : Ghost) (a : Act) (w : World),
    DInv P ops N G0 w0 a0 listed done ids fr h G a w → okPlan ops b done plan = true → vdr P ops Q plan ids fr h → Plan.ripe ops plan → unlisted ops.size listed ≤ fuel →
    wpAnyIn F n P .any ops (VPost G0 w0 N a0 Q) fuel listed a w := by
  intro fuel
  induction fuel with
  | zero =>
    intro listed plan done ids fr h G a w hi hk hv hripe hu
    have hall : ∀ j, j < ops.size → listed.getD j false = true := by
      intro j hj
      cases hc : listed.getD j false with
      | true => rfl
      | false =>
        have : unlisted ops.size listed = 0 := by omega
        unfold unlisted at this
        have := List.countP_eq_zero.1 this j (List.mem_range.2 hj)
        simp [hc] at this
    refine ⟨?_, hi.ends hk hv hall⟩
    refine List.eq_nil_iff_forall_not_mem.2 fun j hj => ?_
    obtain ⟨h1, h2, _⟩ := mem_ready hj
    rw [getD_defaults (by rw [hi.lsz]; exact h1), hall j h1] at h2
    cases h2
  | succ fuel ih =>
    intro listed plan done ids fr h G a w hi hk hv hripe hu
    refine ⟨fun hnone => hi.ends hk hv ?_, fun i hir => ?_⟩
    · have key : ∀ n j, j < n → j < ops.size → listed.getD j false = true := by
        intro n
        induction n with
        | zero => intro j h; omega
        | succ n ihn =>
          intro j hjn hj
          cases hc : listed.getD j false with
          | true => rfl
          | false =>
            have : j ∈ Region.ready .any ops listed := ready_of hj (by rw [getD_defaults (by rw [hi.lsz]; exact hj)]; exact hc) (fun k hk => by
              have := waits_lt hm hj k hk
              exact ihn k (by omega) (by omega))
            rw [hnone] at this
            cases this
      exact fun j hj => key (j + 1) j (Nat.lt_succ_self j) hj
    · obtain ⟨hin, hnl', hwl⟩ := mem_ready hir
      have hli : i < listed.size := by rw [hi.lsz]; exact hin
      have hnl : listed.getD i false = false := by rw [← getD_defaults hli]; exact hnl'
      have hu' : unlisted ops.size (listed.setIfInBounds i true) ≤ fuel := by have := unlisted_set hin hli hnl; omega
      have hc := hops i _ (opAt_get hin)
      have hlook := hi.look hm hs hin hnl hwl
      have hwant : Region.wanted (opAt ops i) (yielded ops a.tmps) = vwant ops fr (opAt ops i) := want_sound hops hi.size hlook
      have hopd := operands_sound (a := a) hc hlook
      unfold wpOpIn
      rw [opAt_get hin]
      simp only [hwant]
      by_cases hd : i ∈ done
      · -- it is of the plan already
        cases hmov : isMov (opAt ops i).op with
        | false => have := hi.eff i hd hmov; rw [hnl] at this; cases this
        | true =>
        cases hwa : vwant ops fr (opAt ops i) with
        | false =>
          rw [if_neg (by simp)]
          refine ⟨fun f _ => hF.fn f, ?_⟩
          refine ih _ plan done ids fr h G _ w (hi.come hs hin hd hc hwl hi.rel (.refl G w) hi.young (fun _ _ _ _ e => e) fun d hdd => ?_) hk hv hripe hu'
          rw [hi.pnot i hd hnl hwa d hdd]
          exact .undef G
        | true =>
          rw [if_pos rfl]
          have hnd : ∀ c, (opAt ops i).op ≠ .defer c := fun c e => by rw [e] at hmov; cases hmov
          cases hn : isNew (opAt ops i).op with
          | false =>
            obtain ⟨v, h1, h2⟩ := hi.pread i hd hnl hwa hn
            obtain ⟨y, w', G', h3, h4, h5, h6, h7, _⟩ := vread_sound hi.rel hopd h1
            unfold Oper.wpIn
            refine ⟨fun f _ => hF.fn f, ?_⟩
            rw [Oper.semAt_eq _ _ _ hnd, h3]
            refine ih _ plan done ids fr h G' _ w' (hi.come hs hin hd hc hwl h5 h6.toExt0 (hi.young.trans h6.toYoung) (fun _ _ _ _ e => by rw [h7]; exact e) fun d hdd => ?_) hk hv hripe hu'
            rw [h2 d hdd]; exact h4
          | true =>
            obtain ⟨f, x, j, h1, h2, h3, h4, h5, h6, h7⟩ := hi.pnew i hd hnl hwa hn
            obtain ⟨y, B, k, h8, h9⟩ := vnew_sound (w := w) hopd h1
            have hle := Ghost.le_bear (G := G) (o := j) (w.heap.size, 0, k) h6
            obtain ⟨h10, h11⟩ := h9 (G.bear j (w.heap.size, 0, k)) j (w.alloc B) hle (heap_alloc_new w B) (by simp [Ghost.bear])
            obtain ⟨h12, h13⟩ := hi.rel.bear h3 h5 h6 B k h11
            unfold Oper.wpIn
            refine ⟨fun f _ => hF.fn f, ?_⟩
            rw [Oper.semAt_eq _ _ _ hnd, h8]
            refine ih _ plan done ids fr h _ _ _ (hi.come hs hin hd hc hwl h12 h13 ⟨hi.young.num, fun o ho hφ => ?_⟩ (fun p q hpi hq hφ => ?_) fun d hdd => ?_) hk hv hripe hu'
            · have : o ≠ j := by omega
              simp [Ghost.bear, this, hi.young.young o ho hφ]
            · have : q ≠ j := fun e => hpi (hi.inj p i j (e ▸ hq) h2)
              simp [Ghost.bear, this, hφ]
            · rw [h7 d hdd]; exact h10
      · -- the plan's next
        cases plan with
        | nil =>
          simp only [okPlan, List.all_eq_true] at hk
          exact absurd (List.contains_iff_mem.1 (hk i (List.mem_range.2 hin))) hd
        | cons e rest =>
          obtain ⟨j, pend⟩ := e
          have ho := okPlan_cons hk
          have hje : isMov (opAt ops j).op = false := hripe
          have hwd : ∀ k ∈ waits (opAt ops i), k ∈ done := fun k hk => hi.ldone k (hwl k hk)
          have hie : isMov (opAt ops i).op = false := by
            cases hc2 : isMov (opAt ops i).op with
            | false => rfl
            | true => exact absurd hwd (ho.eager hje i hin hd hc2)
          have hij : i = j := by
            apply Decidable.byContradiction
            intro hne
            rcases hs.effects i j hin ho.lt hne hie hje with h1 | h1
            · have := mask_closed hm (fun q => q = j ∨ q ∈ done) (fun q hq k hk2 => by
                rcases hq with rfl | hq
                · exact .inr (ho.waits k hk2)
                · exact .inr (hi.dclosed q hq k hk2)) (j + 1) j (Nat.lt_succ_self j) ho.lt i hin h1 (.inl rfl)
              rcases this with e | e
              · exact hne e
              · exact hd e
            · have := mask_closed hm (fun q => q = i ∨ listed.getD q false = true) (fun q hq k hk2 => by
                rcases hq with rfl | hq
                · exact .inr (hwl k hk2)
                · exact .inr (hi.lclosed q hq k hk2)) (i + 1) i (Nat.lt_succ_self i) hin j ho.lt h1 (.inl rfl)
              rcases this with e | e
              · exact hne e.symm
              · exact ho.notDone (hi.ldone j e)
          subst hij
          have hfree : ∀ p ∈ done, listed.getD p false = false → ∀ d, (opAt ops i).dst = some d → d ∉ slotsRead ops (opAt ops p) ∧ (opAt ops p).dst ≠ some d := fun p hp hpl d hdd =>
            hi.slot_free hm hs hin hd hdd hp hpl hwd (fun _ => hwl)
          unfold vdr at hv
          cases hwa : vwant ops fr (opAt ops i) with
          | false =>
            rw [if_neg (by simp)]
            rw [if_neg (by simp [hwa])] at hv
            have hi' := hi.effect hm hs hin hd hc hwl hi.rel (.refl G w) (.undef G) (fun p hp hpl _ => hi.stable_same hfree p hp hpl)
            obtain ⟨plan', done', ids', fr', h', G', g1, g2, g3, g4⟩ := hi'.ripen hm hs rest _ _ _ _ _ ho.rest hv
            exact ⟨fun f _ => hF.fn f, ih _ plan' done' ids' fr' h' G' _ w g1 g2 g3 g4 hu'⟩
          | true =>
            rw [if_pos rfl]
            rw [if_pos hwa, if_neg (by simp [hje])] at hv
            refine wp_mono2 ?_ ?_ (vstep_sound0 hF hi.rel hopd hv)
            · rintro a' w' ⟨y, v, h', G', rfl, hy, ⟨hst, hv'⟩, hr', he⟩
              have hi' := hi.effect hm hs hin hd hc hwl hr' he hy (fun p hp hpl hpr => by
                have hpm : isMov (opAt ops p).op = true := by
                  cases hc2 : isMov (opAt ops p).op with
                  | true => rfl
                  | false => have := hi.eff p hp hc2; rw [hpl] at this; cases this
                rcases ho.pend hie p hp hpm hpr with h1 | h1
                · exact vstables_mem hst p h1
                · have := mask_closed hm (fun q => q = i ∨ listed.getD q false = true) (fun q hq k hk2 => by
                    rcases hq with rfl | hq
                    · exact .inr (hwl k hk2)
                    · exact .inr (hi.lclosed q hq k hk2)) (i + 1) i (Nat.lt_succ_self i) hin p (hi.dlt p hp) h1 (.inl rfl)
                  rcases this with e | e
                  · exact absurd (e ▸ hp) hd
                  · rw [hpl] at e; cases e)
              obtain ⟨plan', done', ids', fr', h2, G2, g1, g2, g3, g4⟩ := hi'.ripen hm hs rest _ _ _ _ _ ho.rest hv'
              exact ih _ plan' done' ids' fr' h2 G2 _ w' g1 g2 g3 g4 hu'
            · rintro e a' w' ⟨rfl, v, y, h', G', rfl, hy, hQ, hr', he⟩
              exact ⟨hi.same, .panic v, fr, h', G', hQ, ⟨y, rfl, hy⟩, (fun e => by cases e), hr', .mk' (hi.ext.trans he.toExt0) (hi.young.trans he.toYoung)⟩

/-- A region whose order is drawn does what its plan says. -/
theorem vdraw_of_plan (hmix : P.follows .mixedOrders = true) (hops : ∀ (j : Nat) (o : Oper), ops[j]? = some o → chkOper N o = true) {plan : Plan} (hc : chkDraw ops plan = true)
    {Q : VX → Fr → VHeap → Prop} (hv : vdr P ops Q plan [] fr h) : VDraw P N ops Q fr h := by
  intro F n hF G w a t hr hf
  simp only [chkDraw, Bool.and_eq_true] at hc
  obtain ⟨⟨hm, hsl⟩, hk⟩ := hc
  have hs := slots_of_chk hsl
  have hsch : Region.schedule (P.follows .mixedOrders) ops t = Region.linearise .any ops t := by rw [hmix]; rfl
  rw [hsch]
  unfold Region.linearise
  refine wpAnyIn_sound _ _ _ _ _ ?_
  have hno : ∀ p, (Array.replicate ops.size false).getD p false = false := by
    intro p
    simp only [Array.getD_eq_getD_getElem?, Array.getElem?_replicate]
    split <;> rfl
  have hi : DInv P ops N G w a (Array.replicate ops.size false) [] [] fr h G a w := by
    refine ⟨hr, .refl G w, .refl G, .refl N a, hf.1, fun t _ => hf.2 t, by simp, ?_, ?_, ?_, ?_, ?_, ?_, ?_, ?_, ?_, ?_⟩
    · intro p hp; rw [hno] at hp; cases hp
    · intro p hp; cases hp
    · intro p hp; rw [hno] at hp; cases hp
    · intro p hp; cases hp
    · intro p hp; cases hp
    · intro p hp; cases hp
    · intro p hp; cases hp
    · intro p hp; cases hp
    · intro p q i hp; cases hp
    · intro p i hp; cases hp
  obtain ⟨plan', done', ids', fr', h', G', g1, g2, g3, g4⟩ := hi.ripen hm hs plan _ _ _ _ _ hk hv
  refine DInv.main hF hm hs hops _ _ plan' done' ids' fr' h' G' a w g1 g2 g3 g4 ?_
  unfold unlisted
  exact Nat.le_trans List.countP_le_length (by simp)

end Go.Vv
