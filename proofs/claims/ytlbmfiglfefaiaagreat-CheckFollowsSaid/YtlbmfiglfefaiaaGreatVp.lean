/- Regions whose operations come in an order that is drawn: a plan is enough. -/
import Derived.Test.YtlbmfiglfefaiaaGreatVo
import Derived.OrdersIn
namespace Go.Vv

variable {P : Program} {G : Ghost} {w : World}

/-- An operation that may yet come is as it was behind another that has come. -/
def vstable (P : Program) (ops : Array Oper) (ids : List (Nat × Nat)) (h : VHeap) (fr' : Fr) (h' : VHeap) (p : Nat) : Prop :=
  if vwant ops fr' (opAt ops p) = true then
    if isNew (opAt ops p).op = true then
      match ids.lookup p with
      | some i => h'.get i = h.get i
      | none => False
    else
      match vread P (opAt ops p).op fr' h' with
      | some v => match (opAt ops p).dst with
        | some d => v = fr'.at d
        | none => True
      | none => False
  else True

def vstables (P : Program) (ops : Array Oper) (ids : List (Nat × Nat)) (h : VHeap) (fr' : Fr) (h' : VHeap) : List Nat → Prop
  | [] => True
  | p :: l => vstable P ops ids h fr' h' p ∧ vstables P ops ids h fr' h' l

theorem vstables_mem {ops : Array Oper} {ids : List (Nat × Nat)} {h h' : VHeap} {fr' : Fr} : ∀ {l : List Nat}, vstables P ops ids h fr' h' l → ∀ p ∈ l, vstable P ops ids h fr' h' p := by
  intro l
  induction l with
  | nil => intro _ p hp; simp at hp
  | cons q l ih =>
    intro hv p hp
    rcases List.mem_cons.1 hp with rfl | hp
    · exact hv.1
    · exact ih hv.2 p hp

/-- A region by its plan. -/
def vdr (P : Program) (ops : Array Oper) (Q : VX → Fr → VHeap → Prop) : Plan → List (Nat × Nat) → Fr → VHeap → Prop
  | [], _, fr, h => Q .normal fr h
  | (i, pend) :: rest, ids, fr, h =>
    if vwant ops fr (opAt ops i) = true then
      if isMov (opAt ops i).op = true then
        if isNew (opAt ops i).op = true then
          match vnew P (opAt ops i).op fr with
          | some (f, x) => vdr P ops Q rest ((i, h.next) :: ids) (put fr (opAt ops i).dst (f h.next)) (h.push x)
          | none => False
        else
          match vread P (opAt ops i).op fr h with
          | some v => vdr P ops Q rest ids (put fr (opAt ops i).dst v) h
          | none => False
      else vstep P (opAt ops i) fr h (fun fr' h' => vstables P ops ids h fr' h' pend ∧ vdr P ops Q rest ids fr' h') Q
    else vdr P ops Q rest ids (put fr (opAt ops i).dst .undef) h

/-! ## Masks and slots -/

theorem mask_closed {ops : Array Oper} {b : Array Nat} (hm : chkMask ops b = true) (S : Nat → Prop) (hS : ∀ j, S j → ∀ k ∈ waits (opAt ops j), S k) :
    ∀ (n j : Nat), j < n → j < ops.size → ∀ i, i < ops.size → hasBit b j i = true → S j → S i := by
  intro n
  induction n with
  | zero => intro j h; omega
  | succ n ih =>
    intro j hjn hj i hi hb hSj
    simp only [chkMask, List.all_eq_true, Bool.and_eq_true, List.mem_range, decide_eq_true_eq, Bool.or_eq_true, Bool.not_eq_true', List.contains_iff_mem, List.any_eq_true] at hm
    obtain ⟨h1, h2⟩ := hm j hj
    rcases h2 i hi with (h3 | h3) | ⟨k, hk, hkb⟩
    · rw [h3] at hb; cases hb
    · exact hS j hSj i h3
    · have hkj := h1 k hk
      exact ih k (by omega) (by omega) i hi hkb (hS j hSj k hk)

theorem waits_lt {ops : Array Oper} {b : Array Nat} (hm : chkMask ops b = true) {j : Nat} (hj : j < ops.size) : ∀ k ∈ waits (opAt ops j), k < j := by
  simp only [chkMask, List.all_eq_true, Bool.and_eq_true, List.mem_range, decide_eq_true_eq] at hm
  exact (hm j hj).1

structure Slots (ops : Array Oper) (b : Array Nat) : Prop where
  look : ∀ i j d, i < ops.size → j < ops.size → (opAt ops i).dst = some d → d ∈ slotsRead ops (opAt ops j) →
    (i = j ∧ isMov (opAt ops i).op = false) ∨ (i ≠ j ∧ (hasBit b j i = true ∨ (isMov (opAt ops i).op = false ∧ hasBit b i j = true)))
  apart : ∀ i j d, i < ops.size → j < ops.size → i ≠ j → (opAt ops i).dst = some d → (opAt ops j).dst ≠ some d
  effects : ∀ i j, i < ops.size → j < ops.size → i ≠ j → isMov (opAt ops i).op = false → isMov (opAt ops j).op = false → hasBit b j i = true ∨ hasBit b i j = true

theorem slots_of_chk {ops : Array Oper} {b : Array Nat} (hc : chkSlots ops b = true) : Slots ops b := by
  simp only [chkSlots, List.all_eq_true, List.mem_range, Bool.and_eq_true] at hc
  refine ⟨fun i j d hi hj hd hr => ?_, fun i j d hi hj hne hd => ?_, fun i j hi hj hne h1 h2 => ?_⟩
  · have h := (hc i hi j hj).1
    rw [hd] at h
    simp only [Bool.and_eq_true, Bool.or_eq_true, Bool.not_eq_true', beq_iff_eq, bne_iff_ne, ne_eq] at h
    have hr' : (slotsRead ops (opAt ops j)).contains d = true := List.contains_iff_mem.2 hr
    rcases h.1 with (h3 | h3) | h3
    · rw [hr'] at h3; cases h3
    · exact .inl h3
    · exact .inr h3
  · have h := (hc i hi j hj).1
    rw [hd] at h
    simp only [Bool.and_eq_true, Bool.or_eq_true, beq_iff_eq, bne_iff_ne, ne_eq] at h
    exact h.2.resolve_left hne
  · have h := (hc i hi j hj).2
    simp only [Bool.or_eq_true, beq_iff_eq] at h
    rcases h with (((h | h) | h) | h) | h
    · exact absurd h hne
    · rw [h1] at h; cases h
    · rw [h2] at h; cases h
    · exact .inl h
    · exact .inr h

theorem opAt_get {ops : Array Oper} {i : Nat} (hi : i < ops.size) : ops[i]? = some (opAt ops i) := by
  simp [opAt, hi]

theorem mem_opTmps {op : Op} {t : Tmp} (h : Operand.tmp t ∈ op.operands) : t ∈ opTmps op := by
  unfold opTmps
  exact List.mem_filterMap.2 ⟨.tmp t, Array.mem_toList_iff.2 h, rfl⟩

/-- What an operation looks at stands as the interpreter has it: then its operands do. -/
theorem operands_sound {ops : Array Oper} {o : Oper} {N : Fm} (hc : chkOper N o = true) {fr : Fr} {a : Act} (hs : ∀ t ∈ slotsRead ops o, RV G (fr.at t) (a.tmps.getD t Go.undef)) :
    ∀ x ∈ o.op.operands, RV G (ev fr x) (a.eval x) := by
  intro x hx
  cases x with
  | tmp t => exact hs t (List.mem_append.2 (.inl (mem_opTmps hx)))
  | const v =>
    simp only [chkOper, Bool.and_eq_true, List.all_eq_true] at hc
    exact ofZero_sound G (hc.2 _ (Array.mem_toList_iff.2 hx))
  | global g => exact .gptr g
  | func f => exact .fn rfl rfl (fun j h => absurd h (Nat.not_lt_zero _)) (fun j h => absurd h (Nat.not_lt_zero _))

theorem want_sound {ops : Array Oper} {o : Oper} {N : Fm} (hops : ∀ (j : Nat) (o : Oper), ops[j]? = some o → chkOper N o = true) {fr : Fr} {a : Act} (hN : a.tmps.size = N.n)
    (hs : ∀ t ∈ slotsRead ops o, RV G (fr.at t) (a.tmps.getD t Go.undef)) : Region.wanted o (yielded ops a.tmps) = vwant ops fr o := by
  unfold vwant Region.wanted
  cases hg : o.guard with
  | none => rfl
  | some g =>
    obtain ⟨j, want⟩ := g
    simp only
    congr 1
    unfold yielded vyield
    cases ho : ops[j]? with
    | none => rfl
    | some oj =>
      simp only [Option.bind_some]
      cases hd : oj.dst with
      | none => rfl
      | some d =>
        have hlt : d < N.n := by have := hops j oj ho; simp [chkOper, hd] at this; exact this.1.1
        have hlt' : d < a.tmps.size := by rw [hN]; exact hlt
        have h2 := hs d (List.mem_append.2 (.inr (by simp [hg, ho, hd])))
        have e : a.tmps.getD d Go.undef = a.tmps[d] := by simp [hlt']
        rw [e] at h2
        simp only [Option.bind_some, Array.getElem?_eq_getElem hlt']
        generalize a.tmps[d] = x at h2
        generalize fr.at d = v at h2
        cases h2 <;> rfl

theorem ev_put {ops : Array Oper} {o : Oper} {fr : Fr} {d : Tmp} {v : VV} (hd : d ∉ slotsRead ops o) : ∀ x ∈ o.op.operands, ev fr x = ev (Tr.set fr d v) x := by
  intro x hx
  cases x with
  | tmp t =>
    have : t ≠ d := fun e => hd (by subst e; exact List.mem_append.2 (.inl (mem_opTmps hx)))
    show fr.at t = Fr.at (Tr.set fr d v) t
    rw [Fr.at_set, if_neg this]
  | _ => rfl

theorem want_put {ops : Array Oper} {o : Oper} {fr : Fr} {d : Tmp} {v : VV} (hd : d ∉ slotsRead ops o) : vwant ops (Tr.set fr d v) o = vwant ops fr o := by
  unfold vwant Region.wanted
  cases hg : o.guard with
  | none => rfl
  | some g =>
    obtain ⟨j, want⟩ := g
    simp only
    congr 1
    unfold vyield
    cases ho : (ops[j]?).bind (·.dst) with
    | none => rfl
    | some d' =>
      have : d' ≠ d := fun e => hd (by subst e; exact List.mem_append.2 (.inr (by simp [hg, ho])))
      simp only [Fr.at_set, if_neg this]

/-! ## What holds between -/

structure DInv (P : Program) (ops : Array Oper) (N : Fm) (G0 : Ghost) (w0 : World) (a0 : Act) (listed : Array Bool) (done : List Nat) (ids : List (Nat × Nat)) (fr : Fr) (h : VHeap) (G : Ghost) (a : Act) (w : World) : Prop where
  rel : Rel G h w
  ext : Ext0 G0 G w0 w
  young : Young G0 G
  same : Same N a0 a
  size : a.tmps.size = N.n
  slots : ∀ t, (∀ p ∈ done, (opAt ops p).dst = some t → listed.getD p false = true) → RV G (fr.at t) (a.tmps.getD t Go.undef)
  lsz : listed.size = ops.size
  ldone : ∀ p, listed.getD p false = true → p ∈ done
  eff : ∀ p ∈ done, isMov (opAt ops p).op = false → listed.getD p false = true
  lclosed : ∀ j, listed.getD j false = true → ∀ k ∈ waits (opAt ops j), listed.getD k false = true
  dclosed : ∀ j ∈ done, ∀ k ∈ waits (opAt ops j), k ∈ done
  dlt : ∀ j ∈ done, j < ops.size
  pnew : ∀ p ∈ done, listed.getD p false = false → vwant ops fr (opAt ops p) = true → isNew (opAt ops p).op = true →
    ∃ f x i, vnew P (opAt ops p).op fr = some (f, x) ∧ ids.lookup p = some i ∧ h.get i = some x ∧ G0.n ≤ i ∧ i < h.next ∧ G.φ i = none ∧ ∀ d, (opAt ops p).dst = some d → fr.at d = f i
  pread : ∀ p ∈ done, listed.getD p false = false → vwant ops fr (opAt ops p) = true → isNew (opAt ops p).op = false →
    ∃ v, vread P (opAt ops p).op fr h = some v ∧ ∀ d, (opAt ops p).dst = some d → fr.at d = v
  pnot : ∀ p ∈ done, listed.getD p false = false → vwant ops fr (opAt ops p) = false → ∀ d, (opAt ops p).dst = some d → fr.at d = .undef
  inj : ∀ p q i, ids.lookup p = some i → ids.lookup q = some i → p = q
  idone : ∀ p i, ids.lookup p = some i → p ∈ done ∧ i < h.next

section
variable {ops : Array Oper} {N : Fm} {G0 : Ghost} {w0 : World} {a0 : Act} {listed : Array Bool} {done : List Nat} {ids : List (Nat × Nat)} {fr : Fr} {h : VHeap} {a : Act} {b : Array Nat}

/-- A step of the plan that changes nothing in the world: what it writes is not looked at by what may yet come. -/
theorem DInv.slot_free (hi : DInv P ops N G0 w0 a0 listed done ids fr h G a w) (hm : chkMask ops b = true) (hs : Slots ops b) {i : Nat} (hin : i < ops.size) (hnd : i ∉ done)
    {d : Tmp} (hd : (opAt ops i).dst = some d) {p : Nat} (hp : p ∈ done) (hpl : listed.getD p false = false) (hw : ∀ k ∈ waits (opAt ops i), k ∈ done)
    (hwl : isMov (opAt ops i).op = false → ∀ k ∈ waits (opAt ops i), listed.getD k false = true) : d ∉ slotsRead ops (opAt ops p) ∧ (opAt ops p).dst ≠ some d := by
  have hpn := hi.dlt p hp
  have hne : i ≠ p := fun e => hnd (e ▸ hp)
  refine ⟨fun hr => ?_, hs.apart i p d hin hpn hne hd⟩
  rcases hs.look i p d hin hpn hd hr with ⟨e, _⟩ | ⟨_, h1 | ⟨h1, h2⟩⟩
  · exact hne e
  · exact hnd (mask_closed hm (· ∈ done) hi.dclosed (p + 1) p (Nat.lt_succ_self p) hpn i hin h1 hp)
  · -- the step waits for what may yet come: then that has come
    have := mask_closed hm (fun j => j = i ∨ listed.getD j false = true) (fun j hj k hk => by
      rcases hj with rfl | hj
      · exact .inr (hwl h1 k hk)
      · exact .inr (hi.lclosed j hj k hk)) (i + 1) i (Nat.lt_succ_self i) hin p hpn h2 (.inl rfl)
    rcases this with e | e
    · exact hne e.symm
    · rw [hpl] at e; cases e

theorem put_at (fr : Fr) (dst : Option Tmp) (v : VV) (t : Nat) : Fr.at (put fr dst v) t = if dst = some t then v else fr.at t := by
  cases dst with
  | none => simp [put]
  | some d =>
    simp only [put, Fr.at_set, Option.some.injEq]
    by_cases h : t = d
    · simp [h]
    · rw [if_neg h, if_neg (fun e => h e.symm)]

theorem ev_puts {o : Oper} {dst : Option Tmp} {v : VV} (hd : ∀ d, dst = some d → d ∉ slotsRead ops o) : ∀ x ∈ o.op.operands, ev fr x = ev (put fr dst v) x := by
  cases dst with
  | none => intro x _; rfl
  | some d => exact ev_put (hd d rfl)

theorem want_puts {o : Oper} {dst : Option Tmp} {v : VV} (hd : ∀ d, dst = some d → d ∉ slotsRead ops o) : vwant ops (put fr dst v) o = vwant ops fr o := by
  cases dst with
  | none => rfl
  | some d => exact want_put (hd d rfl)

/-- The plan goes on by an operation that changes nothing: nothing comes in the world. -/
theorem DInv.mov (hi : DInv P ops N G0 w0 a0 listed done ids fr h G a w) (hm : chkMask ops b = true) (hs : Slots ops b) {i : Nat} (hin : i < ops.size) (hnd : i ∉ done)
    (hw : ∀ k ∈ waits (opAt ops i), k ∈ done) (hmov : isMov (opAt ops i).op = true) {v : VV} {ids' : List (Nat × Nat)} {h' : VHeap} {G' : Ghost}
    (hrel : Rel G' h' w) (hext : Ext G G' w w) (hφ : G'.φ = G.φ) (hsub : h.Sub h') (hnext : h.next ≤ h'.next)
    (hids : ∀ p, p ≠ i → ids'.lookup p = ids.lookup p) (hidi : ∀ j, ids'.lookup i = some j → h.next ≤ j ∧ j < h'.next)
    (hnew : vwant ops fr (opAt ops i) = true → isNew (opAt ops i).op = true → ∃ f x j, vnew P (opAt ops i).op fr = some (f, x) ∧ ids'.lookup i = some j ∧ h'.get j = some x ∧ v = f j)
    (hread : vwant ops fr (opAt ops i) = true → isNew (opAt ops i).op = false → vread P (opAt ops i).op fr h = some v)
    (hnot : vwant ops fr (opAt ops i) = false → v = .undef) : DInv P ops N G0 w0 a0 listed (i :: done) ids' (put fr (opAt ops i).dst v) h' G' a w := by
  have hnl : listed.getD i false = false := by
    cases hl : listed.getD i false with
    | false => rfl
    | true => exact absurd (hi.ldone i hl) hnd
  have hself : ∀ d, (opAt ops i).dst = some d → d ∉ slotsRead ops (opAt ops i) := by
    intro d hd hr
    rcases hs.look i i d hin hin hd hr with ⟨_, h1⟩ | ⟨h1, _⟩
    · rw [hmov] at h1; cases h1
    · exact h1 rfl
  have hfree : ∀ p ∈ done, listed.getD p false = false → ∀ d, (opAt ops i).dst = some d → d ∉ slotsRead ops (opAt ops p) ∧ (opAt ops p).dst ≠ some d := fun p hp hpl d hd =>
    hi.slot_free hm hs hin hnd hd hp hpl hw (fun e => by rw [hmov] at e; cases e)
  have hkeep : ∀ p ∈ done, listed.getD p false = false → ∀ d, (opAt ops p).dst = some d → Fr.at (put fr (opAt ops i).dst v) d = fr.at d := by
    intro p hp hpl d hd
    rw [put_at, if_neg (fun e => (hfree p hp hpl d e).2 hd)]
  have hown : ∀ d, (opAt ops i).dst = some d → Fr.at (put fr (opAt ops i).dst v) d = v := fun d hd => by rw [put_at, if_pos hd]
  have hne : ∀ p ∈ done, p ≠ i := fun p hp e => hnd (e ▸ hp)
  refine ⟨hrel, hi.ext.trans hext.toExt0, hi.young.trans hext.toYoung, hi.same, hi.size, ?_, hi.lsz, fun p hp => List.mem_cons_of_mem _ (hi.ldone p hp), ?_, hi.lclosed, ?_, ?_, ?_, ?_, ?_, ?_, ?_⟩
  · intro t ht
    have hnt : (opAt ops i).dst ≠ some t := fun e => by
      have := ht i (by simp) e
      rw [hnl] at this; cases this
    rw [put_at, if_neg hnt]
    exact (hi.slots t fun p hp hd => ht p (List.mem_cons_of_mem _ hp) hd).mono hext.le
  · intro p hp he
    rcases List.mem_cons.1 hp with rfl | hp
    · rw [hmov] at he; cases he
    · exact hi.eff p hp he
  · intro j hj k hk
    rcases List.mem_cons.1 hj with rfl | hj
    · exact List.mem_cons_of_mem _ (hw k hk)
    · exact List.mem_cons_of_mem _ (hi.dclosed j hj k hk)
  · intro j hj
    rcases List.mem_cons.1 hj with rfl | hj
    · exact hin
    · exact hi.dlt j hj
  · intro p hp hpl hwant hn
    rcases List.mem_cons.1 hp with rfl | hp
    · rw [want_puts hself] at hwant
      obtain ⟨f, x, j, h1, h2, h3, h4⟩ := hnew hwant hn
      refine ⟨f, x, j, by rw [← vnew_congr (ev_puts hself)]; exact h1, h2, h3, ?_, (hidi j h2).2, ?_, fun d hd => by rw [hown d hd, h4]⟩
      · have := hi.rel.num; have := hi.young.num; have := (hidi j h2).1; omega
      · rw [hφ]
        cases hc : G.φ j with
        | none => rfl
        | some m => have := hi.rel.dom _ _ hc; have := (hidi j h2).1; omega
    · have hf := fun d hd => (hfree p hp hpl d hd).1
      rw [want_puts hf] at hwant
      obtain ⟨f, x, j, h1, h2, h3, h4, h5, h6, h7⟩ := hi.pnew p hp hpl hwant hn
      exact ⟨f, x, j, by rw [← vnew_congr (ev_puts hf)]; exact h1, by rw [hids p (hne p hp)]; exact h2, hsub _ _ h3, h4, by omega, by rw [hφ]; exact h6, fun d hd => by rw [hkeep p hp hpl d hd]; exact h7 d hd⟩
  · intro p hp hpl hwant hn
    rcases List.mem_cons.1 hp with rfl | hp
    · rw [want_puts hself] at hwant
      have h1 := hread hwant hn
      exact ⟨v, vread_sub hsub (by rw [← vread_congr h (ev_puts hself)]; exact h1), hown⟩
    · have hf := fun d hd => (hfree p hp hpl d hd).1
      rw [want_puts hf] at hwant
      obtain ⟨v', h1, h2⟩ := hi.pread p hp hpl hwant hn
      exact ⟨v', vread_sub hsub (by rw [← vread_congr h (ev_puts hf)]; exact h1), fun d hd => by rw [hkeep p hp hpl d hd]; exact h2 d hd⟩
  · intro p hp hpl hwant d hd
    rcases List.mem_cons.1 hp with rfl | hp
    · rw [want_puts hself] at hwant
      rw [hown d hd, hnot hwant]
    · have hf := fun d hd => (hfree p hp hpl d hd).1
      rw [want_puts hf] at hwant
      rw [hkeep p hp hpl d hd]
      exact hi.pnot p hp hpl hwant d hd
  · intro p q j hp hq
    by_cases hpi : p = i
    · subst hpi
      by_cases hqi : q = p
      · exact hqi.symm
      · rw [hids q hqi] at hq
        have h1 := (hidi j hp).1
        have h2 := (hi.idone q j hq).2
        omega
    · rw [hids p hpi] at hp
      by_cases hqi : q = i
      · subst hqi
        have h1 := (hidi j hq).1
        have h2 := (hi.idone p j hp).2
        omega
      · rw [hids q hqi] at hq
        exact hi.inj p q j hp hq
  · intro p j hp
    by_cases hpi : p = i
    · subst hpi
      exact ⟨by simp, (hidi j hp).2⟩
    · rw [hids p hpi] at hp
      have := hi.idone p j hp
      exact ⟨List.mem_cons_of_mem _ this.1, by omega⟩

theorem getD_set_true {l : Array Bool} {i p : Nat} (hi : i < l.size) : (l.setIfInBounds i true).getD p false = true ↔ p = i ∨ l.getD p false = true := by
  simp only [Array.getD_eq_getD_getElem?, Array.getElem?_setIfInBounds]
  by_cases h : i = p
  · subst h; simp [hi]
  · rw [if_neg h]
    constructor
    · intro h2; exact .inr h2
    · rintro (rfl | h2)
      · exact absurd rfl h
      · exact h2

/-- What an operation looks at that may come now stands as the interpreter has it. -/
theorem DInv.look (hi : DInv P ops N G0 w0 a0 listed done ids fr h G a w) (hm : chkMask ops b = true) (hs : Slots ops b) {i : Nat} (hin : i < ops.size) (hnl : listed.getD i false = false)
    (hwl : ∀ k ∈ waits (opAt ops i), listed.getD k false = true) : ∀ t ∈ slotsRead ops (opAt ops i), RV G (fr.at t) (a.tmps.getD t Go.undef) := by
  intro t ht
  refine hi.slots t fun p hp hd => ?_
  have hpn := hi.dlt p hp
  rcases hs.look p i t hpn hin hd ht with ⟨e, h1⟩ | ⟨hne, h1 | ⟨h1, _⟩⟩
  · exact hi.eff p hp h1
  · have := mask_closed hm (fun j => j = i ∨ listed.getD j false = true) (fun j hj k hk => by
      rcases hj with rfl | hj
      · exact .inr (hwl k hk)
      · exact .inr (hi.lclosed j hj k hk)) (i + 1) i (Nat.lt_succ_self i) hin p hpn h1 (.inl rfl)
    rcases this with e | e
    · exact absurd e hne
    · exact e
  · exact hi.eff p hp h1

theorem put_tmps (a : Act) (dst : Option Tmp) (y : Value) (t : Nat) (ht : dst ≠ some t) : (a.put dst y).tmps.getD t Go.undef = a.tmps.getD t Go.undef := by
  cases dst with
  | none => rfl
  | some d =>
    have : d ≠ t := fun e => ht (by rw [e])
    simp only [Act.put, Array.getD_eq_getD_getElem?, Array.getElem?_setIfInBounds, if_neg this]

theorem put_tmps_same (a : Act) (y : Value) (t : Nat) (ht : t < a.tmps.size) : (a.put (some t) y).tmps.getD t Go.undef = y := by
  simp [Act.put, ht]

theorem put_size (a : Act) (dst : Option Tmp) (y : Value) : (a.put dst y).tmps.size = a.tmps.size := by cases dst <;> simp [Act.put]
theorem put_defers (a : Act) (dst : Option Tmp) (y : Value) : (a.put dst y).defers = a.defers := by cases dst <;> rfl

/-- An operation of the plan comes. -/
theorem DInv.come (hi : DInv P ops N G0 w0 a0 listed done ids fr h G a w) (hs : Slots ops b) {i : Nat} (hin : i < ops.size) (hp : i ∈ done) (hc : chkOper N (opAt ops i) = true)
    (hwl : ∀ k ∈ waits (opAt ops i), listed.getD k false = true) {y : Value} {G' : Ghost} {w' : World} (hrel : Rel G' h w') (hext : Ext0 G G' w w') (hyoung : Young G0 G')
    (hφ : ∀ p j, p ≠ i → ids.lookup p = some j → G.φ j = none → G'.φ j = none) (hy : ∀ d, (opAt ops i).dst = some d → RV G' (fr.at d) y) :
    DInv P ops N G0 w0 a0 (listed.setIfInBounds i true) done ids fr h G' (a.put (opAt ops i).dst y) w' := by
  have hli : i < listed.size := by rw [hi.lsz]; exact hin
  have hback : ∀ p, (listed.setIfInBounds i true).getD p false = false → p ≠ i ∧ listed.getD p false = false := by
    intro p hp
    have h1 : ¬ (p = i ∨ listed.getD p false = true) := fun e => by rw [(getD_set_true hli).2 e] at hp; cases hp
    simp only [not_or, Bool.not_eq_true] at h1
    exact h1
  refine ⟨hrel, hi.ext.trans hext, hyoung, hi.same.trans (.put a y hc), by rw [put_size]; exact hi.size, ?_, by simp [hi.lsz], ?_, ?_, ?_, hi.dclosed, hi.dlt, ?_, ?_, ?_, hi.inj, hi.idone⟩
  · intro t ht
    by_cases hd : (opAt ops i).dst = some t
    · have hlt : t < a.tmps.size := by rw [hi.size]; simp [chkOper, hd] at hc; exact hc.1.1
      have h1 := hy t hd
      rw [hd, put_tmps_same a y t hlt]
      exact h1
    · rw [put_tmps a _ y t hd]
      refine (hi.slots t fun p hp hpd => ?_).mono hext.le
      rcases (getD_set_true hli).1 (ht p hp hpd) with rfl | e
      · exact absurd hpd hd
      · exact e
  · intro p hpl
    rcases (getD_set_true hli).1 hpl with rfl | e
    · exact hp
    · exact hi.ldone p e
  · intro p hpd he
    exact (getD_set_true hli).2 (.inr (hi.eff p hpd he))
  · intro j hj k hk
    rcases (getD_set_true hli).1 hj with rfl | e
    · exact (getD_set_true hli).2 (.inr (hwl k hk))
    · exact (getD_set_true hli).2 (.inr (hi.lclosed j e k hk))
  · intro p hpd hpl hwant hn
    obtain ⟨hne, hpl⟩ := hback p hpl
    obtain ⟨f, x, j, h1, h2, h3, h4, h5, h6, h7⟩ := hi.pnew p hpd hpl hwant hn
    exact ⟨f, x, j, h1, h2, h3, h4, h5, hφ p j hne h2 h6, h7⟩
  · intro p hpd hpl
    exact hi.pread p hpd (hback p hpl).2
  · intro p hpd hpl
    exact hi.pnot p hpd (hback p hpl).2
end

end Go.Vv
