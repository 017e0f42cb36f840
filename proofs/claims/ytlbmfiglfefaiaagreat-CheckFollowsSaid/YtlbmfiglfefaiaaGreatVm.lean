/- The abstract interpreter's functions. -/
import Derived.Test.YtlbmfiglfefaiaaGreatVl
namespace Go.Vv

variable {P : Program} {G : Ghost} {w : World}

/-- A function's slots at its start. -/
def vframeFrom : Nat → List VV → Fr → Fr
  | _, [], fr => fr
  | i, v :: l, fr => vframeFrom (i + 1) l (Tr.set fr i v)

def vframe (args : List VV) : Fr := vframeFrom 0 args .nil

theorem vframeFrom_at : ∀ (l : List VV) (i : Nat) (fr : Fr) (t : Nat), (vframeFrom i l fr).at t = if i ≤ t ∧ t < i + l.length then l.getD (t - i) .undef else fr.at t := by
  intro l
  induction l with
  | nil => intro i fr t; simp [vframeFrom]; omega
  | cons v l ih =>
    intro i fr t
    simp only [vframeFrom, ih, Fr.at_set, List.length_cons]
    by_cases h1 : i + 1 ≤ t ∧ t < i + 1 + l.length
    · rw [if_pos h1, if_pos (by omega)]
      rw [show t - i = (t - (i + 1)) + 1 by omega]
      simp
    · rw [if_neg h1]
      by_cases h2 : t = i
      · subst h2; simp
      · rw [if_neg h2, if_neg (by omega)]

theorem Fr.at_nil (t : Nat) : Fr.at Tr.nil t = VV.undef := rfl

theorem vframe_sound {args : List VV} {vargs : Array Value} (ha : RVs G args vargs.toList) {n : Nat} (hn : args.length ≤ n) :
    FrR G ⟨n, []⟩ (vframe args) (vargs ++ Array.replicate (n - vargs.size) Go.undef) := by
  have hl : args.length = vargs.size := by simpa using ha.1
  refine ⟨by simp; omega, fun t => ?_⟩
  rw [vframe, vframeFrom_at]
  by_cases ht : t < args.length
  · have ht' : t < vargs.size := by omega
    rw [if_pos (by omega)]
    have e : (vargs ++ Array.replicate (n - vargs.size) Go.undef).getD t Go.undef = vargs[t] := by
      simp [Array.getD_eq_getD_getElem?, Array.getElem?_append_left ht', ht']
    rw [e]
    have := ha.2 t ht (by simpa using ht')
    simpa [ht] using this
  · rw [if_neg (by omega), Fr.at_nil]
    have e : (vargs ++ Array.replicate (n - vargs.size) Go.undef).getD t Go.undef = Go.undef := by
      have : ¬ t < vargs.size := by omega
      simp only [Array.getD_eq_getD_getElem?]
      rw [Array.getElem?_append_right (by omega)]
      simp only [Array.getElem?_replicate]
      split <;> rfl
    rw [e]
    exact .undef G

/-- One result. -/
def vresult1 (P : Program) (fr : Fr) (h : VHeap) : ResultVar → Option VV
  | .tmp t => some (fr.at t)
  | .cell a t => vload P t (fr.at a) h

def vresults (P : Program) (fr : Fr) (h : VHeap) : List ResultVar → Option (List VV)
  | [] => some []
  | r :: rs => match vresult1 P fr h r, vresults P fr h rs with
    | some v, some vs => some (v :: vs)
    | _, _ => none

def vresult (P : Program) (rs : List ResultVar) (fr : Fr) (h : VHeap) : Option VV :=
  match vresults P fr h rs with
  | some [v] => some v
  | some vs => some (.tup vs)
  | none => none

theorem vload_ptr {t : TypeId} {p v : VV} {h : VHeap} {x : Value} (hp : RV G p x) (hv : vload P t p h = some v) : ∃ a, x = .pointer (some a) := by
  unfold vload at hv
  cases p <;> simp only [reduceCtorEq] at hv
  · cases hp <;> exact ⟨_, rfl⟩
  · cases hp; exact ⟨_, rfl⟩

/-- One result in the model. -/
def res1 (tmps : Array Value) : ResultVar → Sem Value
  | .tmp t => pure (tmps.getD t Go.undef)
  | .cell a t => do loadVar t (← asAddr (tmps.getD a Go.undef))

theorem results_eq (fn : Func) (tmps : Array Value) : results fn tmps = (do let vs ← fn.results.mapM (res1 tmps); pure (if h : vs.size = 1 then vs[0] else .tuple vs)) := by
  unfold results
  congr 1

/-- The slot of a result. -/
def rslot : ResultVar → Tmp
  | .tmp t => t
  | .cell a _ => a

theorem vresult1_sound {h : VHeap} (hr : Rel G h w) {fr : Fr} {tmps : Array Value} {r : ResultVar} (hf : RV G (fr.at (rslot r)) (tmps.getD (rslot r) Go.undef)) {v : VV} (hv : vresult1 P fr h r = some v) :
    ∃ x, (res1 tmps r).run P w = .ok x w ∧ RV G v x := by
  cases r with
  | tmp t => simp [vresult1] at hv; subst hv; exact ⟨_, rfl, hf⟩
  | cell a t =>
    simp only [vresult1] at hv
    have hp : RV G (fr.at a) (tmps.getD a Go.undef) := hf
    obtain ⟨ad, ha⟩ := vload_ptr hp hv
    obtain ⟨x, h1, h2⟩ := vload_sound (P := P) hr hp hv
    refine ⟨x, ?_, h2⟩
    rw [ha] at h1
    simp only [res1, ha]
    simpa [Instr.loadAt, Instr.sureAddr, asAddr] using h1

theorem vresults_sound {h : VHeap} (hr : Rel G h w) {fr : Fr} {tmps : Array Value} : ∀ (rs : List ResultVar) (vs : List VV), (∀ r ∈ rs, RV G (fr.at (rslot r)) (tmps.getD (rslot r) Go.undef)) → vresults P fr h rs = some vs →
    ∃ xs, (rs.mapM (res1 tmps)).run P w = .ok xs w ∧ RVs G vs xs := by
  intro rs
  induction rs with
  | nil => intro vs _ hv; simp [vresults] at hv; subst hv; exact ⟨[], by simp, .nil G⟩
  | cons r rs ih =>
    intro vs hf hv
    simp only [vresults] at hv
    split at hv
    · rename_i v vs' h1 h2
      cases hv
      obtain ⟨x, hx1, hx2⟩ := vresult1_sound (P := P) hr (hf r (by simp)) h1
      obtain ⟨xs, hxs1, hxs2⟩ := ih vs' (fun r hr => hf r (by simp [hr])) h2
      refine ⟨x :: xs, ?_, .cons hx2 hxs2⟩
      rw [List.mapM_cons, Sem.run_bind]
      simp only [hx1, Result.andThen_ok, Sem.run_bind, hxs1, Sem.run_pure]
    · cases hv

theorem vresult_soundK {h : VHeap} (hr : Rel G h w) {fr : Fr} {tmps : Array Value} {fn : Func} (hf : ∀ r ∈ fn.results.toList, RV G (fr.at (rslot r)) (tmps.getD (rslot r) Go.undef)) {v : VV} (hv : vresult P fn.results.toList fr h = some v) :
    ∃ x, (results fn tmps).run P w = .ok x w ∧ RV G v x := by
  unfold vresult at hv
  cases hvs : vresults P fr h fn.results.toList with
  | none => simp [hvs] at hv
  | some vs =>
    obtain ⟨xs, h1, h2⟩ := vresults_sound (P := P) hr _ _ hf hvs
    have hrun : (results fn tmps).run P w = .ok (if h : xs.toArray.size = 1 then xs.toArray[0] else .tuple xs.toArray) w := by
      rw [results_eq, Array.mapM_eq_mapM_toList]
      simp [h1]
    refine ⟨_, hrun, ?_⟩
    rw [hvs] at hv
    cases vs with
    | nil =>
      cases hv
      have : xs = [] := List.eq_nil_of_length_eq_zero h2.1.symm
      subst this
      exact RV.tup_iff.2 ⟨_, rfl, .nil G⟩
    | cons u us =>
      cases us with
      | nil =>
        cases hv
        cases xs with
        | nil => have := h2.1; simp at this
        | cons x xs' =>
          have hx : xs' = [] := List.eq_nil_of_length_eq_zero (by have := h2.1; simpa using this.symm)
          subst hx
          have := h2.2 0 (by simp) (by simp)
          simpa using this
      | cons u2 us =>
        cases hv
        have hne : ¬ xs.toArray.size = 1 := by have := h2.1; simp at this ⊢; omega
        rw [dif_neg hne]
        exact RV.tup_iff.2 ⟨_, rfl, by simpa using h2⟩

theorem vresult_sound {h : VHeap} (hr : Rel G h w) {N : Fm} {fr : Fr} {tmps : Array Value} (hf : FrR G N fr tmps) {fn : Func} {v : VV} (hv : vresult P fn.results.toList fr h = some v) :
    ∃ x, (results fn tmps).run P w = .ok x w ∧ RV G v x := vresult_soundK hr (fun _ _ => hf.2 _) hv

/-- What must hold behind a function's body. -/
def VBody (P : Program) (rs : List ResultVar) (R : VEnd → VHeap → Prop) : VX → Fr → VHeap → Prop
  | .normal, fr, h | .ret, fr, h => match vresult P rs fr h with | some v => R (.ret v) h | none => False
  | .panic v, _, h => R (.panic v) h
  | .exit _, _, _ => False

/-- Has a function a plain body? -/
def chkFunc (P : Program) (f : FuncId) (n : Nat) : Bool :=
  match P.funcs[f]? with
  | some fn => match fn.body with
    | some c => !(fn.name == "runtime.NumGoroutine") && chkCode ⟨fn.ntmps, []⟩ c && decide (n ≤ fn.ntmps)
    | none => false
  | none => false

/-- What a function's body does. -/
def vbody (P : Program) (f : FuncId) (args : List VV) (h : VHeap) (R : VEnd → VHeap → Prop) : Prop :=
  match P.funcs[f]? with
  | some fn => match fn.body with
    | some c => vwp P ⟨fn.ntmps, []⟩ c (VBody P fn.results.toList R) (vframe args) h
    | none => False
  | none => False

theorem vcalls_of_body {f : FuncId} {args : List VV} {h : VHeap} {R : VEnd → VHeap → Prop} (hc : chkFunc P f args.length = true) (hv : vbody P f args h R) : VCalls P f args h R := by
  intro F n hF G w vargs hr ha o a K Q hK hQ
  unfold chkFunc at hc
  unfold vbody at hv
  cases hf : P.funcs[f]? with
  | none => simp [hf] at hc
  | some fn =>
    cases hb : fn.body with
    | none => simp [hf, hb] at hc
    | some c =>
      simp only [hf, hb, Bool.and_eq_true, Bool.not_eq_true', decide_eq_true_eq] at hc hv
      obtain ⟨⟨h1, h2⟩, h3⟩ := hc
      rw [MuLone.run_callFunc_enter hf h1 hb]
      refine ⟨fun e => by simp [hF.depth] at e, CallsIn.mono (R := fun e w' => ∃ r h' G', R r h' ∧ EndR G' r e ∧ Rel G' h' w' ∧ Ext G G' w w') ?_ ?_⟩
      · have hP : FreeF F.plain := hF.plain
        refine (callsIn_of_wp (F := F.plain) hf hb (hF.fn f) ?_ rfl : CallsIn F.plain (n - 1) P f vargs w _)
        have hfr := vframe_sound ha h3
        refine wpIn_mono (vwp_sound hP c h2 _ G w _ h { tmps := vargs ++ Array.replicate (fn.ntmps - vargs.size) Go.undef, defers := [] } hr hfr hv) ?_
        rintro e a' w' ⟨hd, x, fr', h', G', hx, hxr, hf', hr', he⟩
        cases x with
        | normal =>
          cases e <;> simp only [XR] at hxr
          simp only [VBody] at hx
          split at hx
          · rename_i v hres
            obtain ⟨y, hy1, hy2⟩ := vresult_sound (P := P) hr' (hf' rfl) hres
            exact ⟨hd.1, y, hy1, .ret v, h', G', hx, hy2, hr', he⟩
          · exact hx.elim
        | ret =>
          cases e <;> simp only [XR] at hxr
          simp only [VBody] at hx
          split at hx
          · rename_i v hres
            obtain ⟨y, hy1, hy2⟩ := vresult_sound (P := P) hr' (hf' rfl) hres
            exact ⟨hd.1, y, hy1, .ret v, h', G', hx, hy2, hr', he⟩
          · exact hx.elim
        | panic v =>
          cases e <;> simp only [XR] at hxr
          exact ⟨hd.1, .panic v, h', G', hx, hxr, hr', he⟩
        | exit i => exact hx.elim
      · rintro e w' ⟨r, h', G', hR, he, hr', hext⟩
        cases r with
        | ret v => cases e <;> simp only [EndR] at he; exact hK G' w' h' _ v hR he hr' hext
        | panic v =>
          cases e <;> simp only [EndR] at he
          obtain ⟨y, rfl, hy⟩ := he
          exact hQ G' w' h' y v hR hy hr' hext

end Go.Vv
