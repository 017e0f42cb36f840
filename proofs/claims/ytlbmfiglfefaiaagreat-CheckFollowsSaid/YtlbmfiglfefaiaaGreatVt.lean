/- A deferred closure that recovers. -/
import Derived.Test.YtlbmfiglfefaiaaGreatVy
import Derived.RecoverIn
namespace Go.Vv

variable {P : Program} {G : Ghost} {w : World} {F : Fence} {n : Nat}

theorem put_def (a : Act) (d : Option Tmp) (x : Value) : (a.put d x).defers = a.defers := by cases d <;> rfl

/-- A frame on its way out: with a panic, or with none. -/
def PanR (G : Ghost) : Option VV → FrameMode → Prop
  | none, u => u = .returning
  | some v, u => ∃ y, u = .panicking [{ v := y, recovered := false }] ∧ RV G v y

/-- What a deferred call does that ends by returning: with what panic (if with any) its frame below goes on. -/
def VDef (P : Program) (f : FuncId) (args : List VV) (pan : Option VV) (h : VHeap) (R : Option VV → VHeap → Prop) : Prop :=
  (∃ fn c, P.funcs[f]? = some fn ∧ fn.name ≠ "runtime.NumGoroutine" ∧ fn.body = some c) ∧
  ∀ (F : Fence) (n : Nat), FreeF F → F.round = none → ∀ (G : Ghost) (w : World) (vargs : Array Value) (u : FrameMode), Rel G h w → RVs G args vargs.toList → PanR G pan u →
    CallsDIn F n P f vargs u w fun e u' w' => ∃ y pan' h' G', e = .returned y ∧ PanR G' pan' (settle u') ∧ R pan' h' ∧ Rel G' h' w' ∧ Ext G G' w w'

/-- A deferred call of a plain function: the panic stays. -/
theorem vdef_of_body {f : FuncId} {args : List VV} {pan : Option VV} {h : VHeap} {R : Option VV → VHeap → Prop} (hc : chkFunc P f args.length = true)
    (hv : vbody P f args h fun r h' => match r with | .ret _ => R pan h' | .panic _ => False) : VDef P f args pan h R := by
  unfold chkFunc at hc
  unfold vbody at hv
  cases hf : P.funcs[f]? with
  | none => simp [hf] at hc
  | some fn =>
    cases hb : fn.body with
    | none => simp [hf, hb] at hc
    | some c =>
      simp only [hf, hb, Bool.and_eq_true, Bool.not_eq_true', decide_eq_true_eq] at hc hv
      obtain ⟨⟨h1, h2⟩, h3⟩ := hc
      refine ⟨⟨fn, c, hf, by simpa using h1, hb⟩, fun F n hF hro G w vargs u hr ha hu => ?_⟩
      have hset : settle u = u := by
        cases pan with
        | none => have hu' : u = .returning := hu; rw [hu']; rfl
        | some v => obtain ⟨y, hu', _⟩ := hu; rw [hu']; rfl
      have hpan : ∀ G', G.Le G' → PanR G' pan u := by
        intro G' hle
        cases pan with
        | none => exact hu
        | some v => obtain ⟨y, hu', hy⟩ := hu; exact ⟨y, hu', hy.mono hle⟩
      refine (callsDIn_of_wp hf hb (hF.fn f) (R := fun e w' => ∃ y h' G', e = .returned y ∧ R pan h' ∧ Rel G' h' w' ∧ Ext G G' w w') ?_ hro).mono ?_
      · have hfr := vframe_sound ha h3
        refine wpIn_mono (vwp_sound hF c h2 _ G w _ h { tmps := vargs ++ Array.replicate (fn.ntmps - vargs.size) Go.undef, defers := [] } hr hfr hv) ?_
        rintro e a' w' ⟨hd, x, fr', h', G', hx, hxr, hf', hr', he⟩
        cases x with
        | normal =>
          cases e <;> simp only [XR] at hxr
          simp only [VBody] at hx
          split at hx
          · rename_i v hres
            obtain ⟨y, hy1, hy2⟩ := vresult_sound (P := P) hr' (hf' rfl) hres
            exact ⟨hd.1, y, hy1, y, h', G', rfl, hx, hr', he⟩
          · exact hx.elim
        | ret =>
          cases e <;> simp only [XR] at hxr
          simp only [VBody] at hx
          split at hx
          · rename_i v hres
            obtain ⟨y, hy1, hy2⟩ := vresult_sound (P := P) hr' (hf' rfl) hres
            exact ⟨hd.1, y, hy1, y, h', G', rfl, hx, hr', he⟩
          · exact hx.elim
        | panic v => exact hx.elim
        | exit i => exact hx.elim
      · rintro e u' w' ⟨rfl, y, h', G', rfl, hR, hr', he⟩
        exact ⟨y, pan, h', G', rfl, by rw [hset]; exact hpan G' he.le, hR, hr', he⟩

def isRecover (o : Oper) : Bool :=
  match o.op with
  | .call { callee := .builtin .recover, .. } => o.guard.isNone
  | _ => false

/-- A closure's shape: it recovers, keeps what it recovered, and goes on. -/
def recShape (c : Code) : Option (Oper × Oper × Code) :=
  match c with
  | .seq (.region _ ⟨[o0, o1]⟩ false) rest => some (o0, o1, rest)
  | _ => none

def vrecBody (P : Program) (fn : Func) (o0 o1 : Oper) (rest : Code) (args : List VV) (pan : Option VV) (h : VHeap) (R : Option VV → VHeap → Prop) : Prop :=
  (!(fn.name == "runtime.NumGoroutine") && isRecover o0 && o1.guard.isNone && chkOper ⟨fn.ntmps, []⟩ o0 && chkOper ⟨fn.ntmps, []⟩ o1 && chkCode ⟨fn.ntmps, []⟩ rest && decide (args.length ≤ fn.ntmps)) = true ∧
  vplain P o1 (put (vframe args) o0.dst (pan.getD .nili)) h fun fr h1 =>
    vwp P ⟨fn.ntmps, []⟩ rest (fun x fr2 h2 => (match x with | .normal | .ret => (vresult P fn.results.toList fr2 h2).isSome = true | _ => False) ∧ R none h2) fr h1

theorem vrec_of_body {f : FuncId} {fn : Func} {c : Code} (hf : P.funcs[f]? = some fn) (hb : fn.body = some c) {o0 o1 : Oper} {rest : Code} (hs : recShape c = some (o0, o1, rest))
    {args : List VV} {pan : Option VV} {h : VHeap} {R : Option VV → VHeap → Prop} (hv : vrecBody P fn o0 o1 rest args pan h R) : VDef P f args pan h R := by
  unfold recShape at hs
  split at hs
  · rename_i id o0' o1' rest'
    cases hs
    obtain ⟨hc, hv⟩ := hv
    simp only [Bool.and_eq_true, decide_eq_true_eq] at hc
    obtain ⟨⟨⟨⟨⟨⟨hc0, hc1⟩, hc2⟩, hc3⟩, hc4⟩, hc5⟩, hc6⟩ := hc
    refine ⟨⟨fn, _, hf, by simpa using hc0, hb⟩, fun F n hF hro G w vargs u hr ha hu => ?_⟩
    refine callsDIn_of_wpSIn hf hb (hF.fn f) fun c₀ cs hcu => ?_
    refine wpSIn_seq (wpSIn_region ?_)
    have hfr : FrR G ⟨fn.ntmps, []⟩ (vframe args) (vargs ++ Array.replicate (fn.ntmps - vargs.size) Go.undef) := vframe_sound ha hc6
    -- the recovered value, and the frame behind
    obtain ⟨rv, u', cs1, hrec, hcs, hrv, hset⟩ : ∃ rv u' cs1, (recoverD (c₀ :: cs) = some (rv, cs1) ∨ recoverD (c₀ :: cs) = none ∧ rv = .nilIface ∧ cs1 = c₀ :: cs) ∧ cs1 = { c₀ with mode := u' } :: cs ∧
        RV G (pan.getD .nili) rv ∧ settle u' = .returning := by
      cases pan with
      | none =>
        have hu' : u = .returning := hu
        have hm : c₀.mode = .returning := hcu.trans hu'
        exact ⟨.nilIface, .returning, c₀ :: cs, .inr ⟨by simp only [recoverD, hm], rfl, rfl⟩, by rw [← hm], .nili, rfl⟩
      | some v =>
        obtain ⟨y, hu', hy⟩ := hu
        have hm : c₀.mode = .panicking [{ v := y, recovered := false }] := hcu.trans hu'
        exact ⟨y, .panicking [{ v := y, recovered := true }], { c₀ with mode := .panicking [{ v := y, recovered := true }] } :: cs, .inl (by simp only [recoverD, hm]), rfl, hy, rfl⟩
    have hex : ∀ ρ w, (execOp ρ o0).run P w = .ok .recover w := by
      intro ρ w
      unfold isRecover at hc1
      split at hc1
      · rename_i as ts hop
        unfold execOp
        simp [hop, resolve, invoke, builtin]
      · cases hc1
    have hg0 : o0.guard = none := by
      unfold isRecover at hc1
      split at hc1
      · simpa using hc1
      · cases hc1
    have hg1 : o1.guard = none := by simpa using hc2
    have hput := hfr.put (a := { tmps := vargs ++ Array.replicate (fn.ntmps - vargs.size) Go.undef, defers := [] }) hrv hc3
    have hplain := vplain_sound (n := n) hF hr (evs_sound hput.1 hc4) hv (fun _ _ _ => False)
    obtain ⟨_, hplain⟩ := hplain
    show wpOpsSIn F n P #[o0, o1] _ [0, 1] _ _ _
    unfold wpOpsSIn
    simp only [List.getElem?_toArray, List.getElem?_cons_zero]
    refine ⟨fun g _ => hF.fn g, ?_⟩
    rw [if_pos (by simp [Region.wanted, hg0]), hex]
    simp only
    have key : wpOpsSIn F n P #[o0, o1] (Exit.thenS (rest.wpSIn F n P (bodyPostS P fn c₀ cs fun e u' w' => ∃ y pan' h' G', e = .returned y ∧ PanR G' pan' (settle u') ∧ R pan' h' ∧ Rel G' h' w' ∧ Ext G G' w w'))
        (bodyPostS P fn c₀ cs fun e u' w' => ∃ y pan' h' G', e = .returned y ∧ PanR G' pan' (settle u') ∧ R pan' h' ∧ Rel G' h' w' ∧ Ext G G' w w')) [1]
        (({ tmps := vargs ++ Array.replicate (fn.ntmps - vargs.size) Go.undef, defers := [] } : Act).put o0.dst rv) cs1 w := by
      unfold wpOpsSIn
      simp only [List.getElem?_toArray, List.getElem?_cons_succ, List.getElem?_cons_zero]
      refine ⟨fun g _ => hF.fn g, ?_⟩
      rw [if_pos (by simp [Region.wanted, hg1])]
      rw [hro, Oper.semAt_none] at hplain
      -- what is behind both operations
      have hrest : ∀ a' w', VNext0 G w o1 (({ tmps := vargs ++ Array.replicate (fn.ntmps - vargs.size) Go.undef, defers := [] } : Act).put o0.dst rv) (put (vframe args) o0.dst (pan.getD .nili))
          (fun fr h1 => vwp P ⟨fn.ntmps, []⟩ rest (fun x fr2 h2 => (match x with | .normal | .ret => (vresult P fn.results.toList fr2 h2).isSome = true | _ => False) ∧ R none h2) fr h1) a' w' →
          rest.wpSIn F n P (bodyPostS P fn c₀ cs fun e u' w' => ∃ y pan' h' G', e = .returned y ∧ PanR G' pan' (settle u') ∧ R pan' h' ∧ Rel G' h' w' ∧ Ext G G' w w') a' cs1 w' := by
        rintro a' w' ⟨y, v, h', G', rfl, hy, hK, hr', he⟩
        have hput2 := (hput.1.mono he.le).put hy hc4
        refine wpSIn_of_wpIn hro (wpIn_mono (vwp_sound hF rest hc5 _ G' w' _ h' _ hr' hput2.1 hK) ?_)
        rintro e a2 w2 ⟨hsame, x, fr2, h2, G2, ⟨hx, hR⟩, hxr, hf2, hr2, he2⟩
        have hdef : a2.defers = [] := by rw [hsame.1, put_def, put_def]
        cases x with
        | normal =>
          cases e <;> simp only [XR] at hxr
          obtain ⟨rvv, hres⟩ := Option.isSome_iff_exists.1 hx
          obtain ⟨z, hz1, hz2⟩ := vresult_sound (P := P) hr2 (hf2 rfl) hres
          exact ⟨hdef, u', hcs, z, hz1, z, none, h2, G2, rfl, hset, hR, hr2, he.trans he2⟩
        | ret =>
          cases e <;> simp only [XR] at hxr
          obtain ⟨rvv, hres⟩ := Option.isSome_iff_exists.1 hx
          obtain ⟨z, hz1, hz2⟩ := vresult_sound (P := P) hr2 (hf2 rfl) hres
          exact ⟨hdef, u', hcs, z, hz1, z, none, h2, G2, rfl, hset, hR, hr2, he.trans he2⟩
        | exit i => exact hx.elim
        | panic v => exact hx.elim
      have hval : ∃ x w', ((execOp (({ tmps := vargs ++ Array.replicate (fn.ntmps - vargs.size) Go.undef, defers := [] } : Act).put o0.dst rv).eval o1).run P w = .ok (.value x) w' ∨
          (execOp (({ tmps := vargs ++ Array.replicate (fn.ntmps - vargs.size) Go.undef, defers := [] } : Act).put o0.dst rv).eval o1).run P w = .ok .skip w' ∧ x = Go.undef) := by
        unfold vplain at hv
        split at hv
        · rename_i v h' hop
          obtain ⟨y, w', _, h1, _⟩ := vop_sound hr (evs_sound hput.1 hc4) hop
          exact ⟨y, w', h1⟩
        · exact hv.elim
      obtain ⟨x, w', hx | ⟨hx, rfl⟩⟩ := hval
      · rw [hx] at hplain ⊢
        exact hrest _ _ hplain
      · rw [hx] at hplain ⊢
        exact hrest _ _ hplain
    rcases hrec with hrec | ⟨hrec, rfl, rfl⟩
    · rw [hrec]; exact key
    · rw [hrec]; exact key
  · cases hs

end Go.Vv
