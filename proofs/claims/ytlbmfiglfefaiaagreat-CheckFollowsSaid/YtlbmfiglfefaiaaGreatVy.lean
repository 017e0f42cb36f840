/- The abstract interpreter's ranges over functions: a round, run on its record. -/
import Derived.Test.YtlbmfiglfefaiaaGreatVm
import Derived.RangeFuncRecord
namespace Go.Vv

variable {P : Program} {G : Ghost} {w : World} {F : Fence} {n : Nat}

/-- The slots set to a round's arguments. -/
def vputs : List (Tmp × VV) → Fr → Fr
  | [], fr => fr
  | (t, v) :: l, fr => vputs l (Tr.set fr t v)

theorem vputs_sound {N : Fm} : ∀ (l : List (Tmp × VV)) (l' : List (Tmp × Value)) (fr : Fr) (tmps : Array Value), l.map (·.1) = l'.map (·.1) → RVs G (l.map (·.2)) (l'.map (·.2)) → (∀ t ∈ l.map (·.1), t < N.n) →
    FrR G N fr tmps → FrR G N (vputs l fr) (l'.foldl (fun tmps (t, a) => tmps.setIfInBounds t a) tmps) := by
  intro l
  induction l with
  | nil =>
    intro l' fr tmps h1 _ _ hf
    cases l' with
    | nil => exact hf
    | cons => simp at h1
  | cons p l ih =>
    intro l' fr tmps h1 h2 h3 hf
    obtain ⟨t, v⟩ := p
    cases l' with
    | nil => simp at h1
    | cons q l' =>
      obtain ⟨t', x⟩ := q
      simp only [List.map_cons, List.cons.injEq] at h1
      obtain ⟨rfl, h1⟩ := h1
      have hx : RV G v x := by simpa using h2.2 0 (by simp) (by simp)
      have hrest : RVs G (l.map (·.2)) (l'.map (·.2)) := by simpa using h2.drop 1
      exact ih l' _ _ h1 hrest (fun u hu => h3 u (by simp at hu ⊢; exact .inr hu)) (hf.set hx (h3 t (by simp)))

/-! ## The record's turns -/

def vbegin (o : Nat) (h : VHeap) : Option VHeap :=
  match h.get o with
  | some (.loop L) => match L.st with
    | .ready => some (h.set o (.loop { L with st := .busy }))
    | _ => none
  | _ => none

def vendRound (o : Nat) (jump : Option Code) (h : VHeap) : Option VHeap :=
  match h.get o with
  | some (.loop L) => some (h.set o (.loop { L with st := if jump.isNone then .ready else .done, pend := jump }))
  | _ => none

def vendLoop (o : Nat) (h : VHeap) : Option (Option Code × VHeap) :=
  match h.get o with
  | some (.loop L) => match L.st with
    | .busy => none
    | _ => some (L.pend, h.set o (.loop { L with st := .exhausted }))
  | _ => none

theorem Rel.loop {h : VHeap} (hr : Rel G h w) {o b base k : Nat} (hφ : G.φ o = some (b, base, k)) {L : VLoop} (hL : h.get o = some (.loop L)) : ObjAt G w b base k (.loop L) := by
  obtain ⟨x, hx, hat⟩ := hr.obj o b base k hφ
  rw [hL] at hx
  cases hx
  exact hat

theorem Rel.putLoop {h : VHeap} (hr : Rel G h w) {o b base k : Nat} (hφ : G.φ o = some (b, base, k)) {L : VLoop} {r : Loop} (hb : b < w.heap.size)
    (h1 : r.state = L.st) (h2 : r.pending = L.pend) (h3 : r.params = L.ps) (h4 : r.assign = L.assign) (h5 : r.body = L.body) (h6 : r.tmps.size = L.n) (h7 : ∀ t, RV G (Fr.at L.fr t) (r.tmps.getD t Go.undef)) :
    Rel G (h.set o (.loop L)) (w.putObj b (.loop r)) ∧ Ext G G w (w.putObj b (.loop r)) :=
  hr.rewrite hφ ⟨r, World.putObj_heap_same hb, h1, h2, h3, h4, h5, h6, h7⟩ (fun _ hb' => World.putObj_heap_other hb') World.putObj_size rfl rfl rfl

theorem vbegin_sound {h h' : VHeap} (hr : Rel G h w) {o b base k : Nat} (hφ : G.φ o = some (b, base, k)) (hv : vbegin o h = some h') :
    ∃ w', (Instr.beginRound b).run P w = .ok () w' ∧ Rel G h' w' ∧ Ext G G w w' := by
  unfold vbegin at hv
  split at hv
  · rename_i L hL
    split at hv
    · rename_i hst
      cases hv
      obtain ⟨r, hb, h1, h2, h3, h4, h5, h6, h7⟩ := hr.loop hφ hL
      have hlt : b < w.heap.size := (Array.getElem?_eq_some_iff.1 hb).1
      exact ⟨_, run_beginRound hb (h1.trans hst), hr.putLoop hφ hlt rfl h2 h3 h4 h5 h6 h7⟩
    · cases hv
  · cases hv

theorem vendRound_sound {h h' : VHeap} (hr : Rel G h w) {o b base k : Nat} (hφ : G.φ o = some (b, base, k)) {j : Option Code} (hv : vendRound o j h = some h') :
    ∃ w', (Instr.endRound b j).run P w = .ok (.bool j.isNone) w' ∧ Rel G h' w' ∧ Ext G G w w' := by
  unfold vendRound at hv
  split at hv
  · rename_i L hL
    cases hv
    obtain ⟨r, hb, h1, h2, h3, h4, h5, h6, h7⟩ := hr.loop hφ hL
    have hlt : b < w.heap.size := (Array.getElem?_eq_some_iff.1 hb).1
    exact ⟨_, run_endRound j hb, hr.putLoop hφ hlt rfl rfl h3 h4 h5 h6 h7⟩
  · cases hv

theorem vendLoop_sound {h h' : VHeap} (hr : Rel G h w) {o b base k : Nat} (hφ : G.φ o = some (b, base, k)) {j : Option Code} (hv : vendLoop o h = some (j, h')) :
    ∃ w', (Instr.endLoop b).run P w = .ok j w' ∧ Rel G h' w' ∧ Ext G G w w' := by
  unfold vendLoop at hv
  split at hv
  · rename_i L hL
    obtain ⟨r, hb, h1, h2, h3, h4, h5, h6, h7⟩ := hr.loop hφ hL
    have hlt : b < w.heap.size := (Array.getElem?_eq_some_iff.1 hb).1
    split at hv
    · cases hv
    · rename_i hst
      cases hv
      have hne : r.state ≠ .busy := fun e => hst (h1.symm.trans e)
      refine ⟨w.putObj b (.loop { r with state := .exhausted }), ?_, hr.putLoop hφ hlt rfl h2 h3 h4 h5 h6 h7⟩
      rw [run_endLoop hb hne, h2]
  · cases hv

/-- The jump that a round leaves. -/
def vjump : VX → Option (Option Code)
  | .normal => some none
  | .ret => some (some .ret)
  | .exit id => some (some (.exit id))
  | .panic _ => none

/-- One round. -/
def vround (P : Program) (o : Nat) (args : List VV) (h : VHeap) (R : VV → VHeap → Prop) : Prop :=
  match h.get o with
  | some (.loop L) =>
    (decide (args.length = L.ps.size) && L.ps.toList.all (fun t => decide (t < L.n)) && chkCode ⟨L.n, []⟩ L.assign && chkCode ⟨L.n, []⟩ L.body) = true ∧
    vwp P ⟨L.n, []⟩ L.assign (VX.then (fun fr1 h1 => match vbegin o h1 with
      | some h2 => vwp P ⟨L.n, []⟩ L.body (fun x _ h3 => match vjump x with
        | some j => match vendRound o j h3 with
          | some h4 => R (.bool j.isNone) h4
          | none => False
        | none => False) fr1 h2
      | none => False) (fun _ _ _ => False)) (vputs (L.ps.toList.zip args) L.fr) h
  | _ => False

theorem FreeF.inRound (hF : FreeF F) (l : Nat) : FreeF (F.inRound l) := ⟨hF.fn, hF.depth, by rw [← hF.wide]; rfl⟩

theorem Ext.alive {G G' : Ghost} {w w' : World} {h' : VHeap} (he : Ext G G' w w') (hr : Rel G' h' w') {o : Nat} {m : Nat × Nat × Nat} (hφ : G.φ o = some m) {L : VObj} (hL : h'.get o = some L) (hd : L ≠ .dead) : G'.φ o = some m := by
  rcases he.le.φ o m hφ with h | h
  · exact h
  · have := (hr.dead o h).2
    rw [hL] at this
    exact absurd (Option.some.inj this) hd

theorem vyields_of_round {o : Nat} {args : List VV} {h : VHeap} {R : VV → VHeap → Prop} (hv : vround P o args h R) : VYields P o args h R := by
  unfold vround at hv
  split at hv
  · rename_i L hL
    refine ⟨⟨L, hL⟩, fun F n hF G w vargs b base k hr hφ ha op a K Q hK => ?_⟩
    obtain ⟨hc, hv⟩ := hv
    simp only [Bool.and_eq_true, decide_eq_true_eq, List.all_eq_true] at hc
    obtain ⟨⟨⟨hc1, hc2⟩, hc3⟩, hc4⟩ := hc
    obtain ⟨r, hb, h1, h2, h3, h4, h5, h6, h7⟩ := hr.loop hφ hL
    have hlen : args.length = vargs.size := by simpa using ha.1
    have hsz : vargs.size = r.params.size := by rw [h3]; omega
    rw [run_yield hb hsz, Oper.uponIn_round]
    refine ⟨fun e => by simp [hF.depth] at e, ?_⟩
    have hfr : FrR G ⟨L.n, []⟩ L.fr r.tmps := ⟨h6, h7⟩
    have hfr2 : FrR G ⟨L.n, []⟩ (vputs (L.ps.toList.zip args) L.fr) ((r.params.zip vargs).foldl (fun tmps (t, a) => tmps.setIfInBounds t a) r.tmps) := by
      rw [← Array.foldl_toList, Array.toList_zip]
      have e1 : (L.ps.toList.zip args).map (·.1) = L.ps.toList := by
        rw [List.map_fst_zip]; simp; omega
      have e2 : (L.ps.toList.zip args).map (·.2) = args := by
        rw [List.map_snd_zip]; simp; omega
      have e3 : (r.params.toList.zip vargs.toList).map (·.1) = r.params.toList := by
        rw [List.map_fst_zip]; simp; omega
      have e4 : (r.params.toList.zip vargs.toList).map (·.2) = vargs.toList := by
        rw [List.map_snd_zip]; simp; omega
      refine vputs_sound _ _ _ _ ?_ ?_ ?_ hfr
      · rw [e1, e3, h3]
      · rw [e2, e4]; exact ha
      · rw [e1]; exact hc2
    refine roundIn_of_wpIn (F := F) (hF.fn _) ?_
    rw [h4, h5]
    refine wpIn_mono (vwp_sound (hF.inRound b) L.assign hc3 _ G w _ h { tmps := _, defers := [] } hr hfr2 hv) ?_
    intro e a1 w1 hp
    have hq := hp.next (R := fun a₁ w₁ => ∃ w₂, (Instr.beginRound b).run P w₁ = .ok () w₂ ∧ L.body.wpIn (F.inRound b) (n - 1) P (roundPost P b fun
      | .returned v, w'' => K (a.put op.dst v)  w''
      | .panicked chain, w'' => Q (.panic chain) a w''
      | .outgrown, _ => LetsOut Q) a₁ w₂) ?_
    · cases e with
      | normal => exact hq
      | exit i => obtain ⟨_, x, fr, h', G2, hx, hxr, _⟩ := hq; exact hx.elim
      | goto i => obtain ⟨_, x, fr, h', G2, hx, hxr, _⟩ := hq; exact hx.elim
      | ret => obtain ⟨_, x, fr, h', G2, hx, hxr, _⟩ := hq; exact hx.elim
      | panic i => obtain ⟨_, x, fr, h', G2, hx, hxr, _⟩ := hq; exact hx.elim
      | outgrown => obtain ⟨_, x, fr, h', G2, hx, hxr, _⟩ := hq; exact hx.elim
    · rintro ⟨hd, fr1, hh1, G1, hK1, hf1, hr1, he1⟩
      split at hK1
      · rename_i hh2 hbeg
        obtain ⟨L1, hL1⟩ : ∃ L1, hh1.get o = some (.loop L1) := by
          unfold vbegin at hbeg
          split at hbeg
          · exact ⟨_, by assumption⟩
          · cases hbeg
        have hφ1 := he1.alive hr1 hφ hL1 (fun e => by cases e)
        obtain ⟨w2, hrun2, hr2, he2⟩ := vbegin_sound (P := P) hr1 hφ1 hbeg
        refine ⟨w2, hrun2, wpIn_mono (vwp_sound (hF.inRound b) L.body hc4 _ G1 w2 _ hh2 a1 hr2 (hf1.mono he2.le) hK1) ?_⟩
        rintro e2 a2 w3 ⟨_, x, fr2, hh3, G3, hx, hxr, _, hr3, he3⟩
        split at hx
        · rename_i j hj
          split at hx
          · rename_i hh4 hend
            obtain ⟨L3, hL3⟩ : ∃ L3, hh3.get o = some (.loop L3) := by
              unfold vendRound at hend
              split at hend
              · exact ⟨_, by assumption⟩
              · cases hend
            have hφ3 := he3.alive hr3 hφ1 hL3 (fun e => by cases e)
            obtain ⟨w4, hrun4, hr4, he4⟩ := vendRound_sound (P := P) hr3 hφ3 hend
            have hfin := hK G3 w4 hh4 _ _ hx (.bool _) hr4 (((he1.trans he2).trans he3).trans he4)
            cases x with
            | normal => cases e2 <;> simp only [XR] at hxr; cases hj; exact ⟨_, w4, hrun4, hfin⟩
            | ret => cases e2 <;> simp only [XR] at hxr; cases hj; exact ⟨_, w4, hrun4, hfin⟩
            | exit i => cases e2 <;> simp only [XR] at hxr; subst hxr; cases hj; exact ⟨_, w4, hrun4, hfin⟩
            | panic v => cases hj
          · exact hx.elim
        · exact hx.elim
      · exact hK1.elim
  · exact hv.elim

end Go.Vv
