/- The abstract interpreter's control: what a piece of code does, as a condition on what must hold behind it; and that the model does so. -/
import Derived.Test.YtlbmfiglfefaiaaGreatVj
import Derived.Tactics
import Derived.TacticsIn
import Derived.OrdersIn
import Derived.Conc.MuLone
namespace Go.Vv

variable {P : Program} {G : Ghost} {w : World}

/-- A fence that lets everything in. -/
structure FreeF (F : Fence) : Prop where
  fn : ∀ f, F.fn f
  depth : F.depth = none
  wide : F.plain = Fence.wide

variable {F : Fence} {n : Nat}

theorem FreeF.plain (hF : FreeF F) : FreeF F.plain := ⟨hF.fn, hF.depth, hF.wide⟩
theorem FreeF.top : FreeF Fence.wide := ⟨fun _ => trivial, rfl, rfl⟩

theorem callsIn_free (hF : FreeF F) {f : FuncId} {args : Array Value} {w : World} {R : Ending → World → Prop} (h : Calls P f args w R) : CallsIn F n P f args w R := by
  have h1 : CallsIn F.plain n P f args w R := by rw [hF.wide]; exact callsIn_wide.2 h
  exact h1

inductive VX where
  | normal
  | exit (id : Nat)
  | ret
  | panic (v : VV)

def VX.isPanic : VX → Bool
  | .panic _ => true
  | _ => false

inductive VEnd where
  | ret (v : VV)
  | panic (v : VV)

def EndR (G : Ghost) : VEnd → Ending → Prop
  | .ret v, .returned y => RV G v y
  | .panic v, .panicked chain => ∃ y, chain = [{ v := y, recovered := false }] ∧ RV G v y
  | _, _ => False

/-- What a call does: for the model's call of the function by whatever operation. -/
def VCalls (P : Program) (f : FuncId) (args : List VV) (h : VHeap) (R : VEnd → VHeap → Prop) : Prop :=
  ∀ (F : Fence) (n : Nat), FreeF F → ∀ (G : Ghost) (w : World) (vargs : Array Value), Rel G h w → RVs G args vargs.toList →
    ∀ (o : Oper) (a : Act) (K : Act → World → Prop) (Q : Exit → Act → World → Prop),
      (∀ G' w' h' y v, R (.ret v) h' → RV G' v y → Rel G' h' w' → Ext G G' w w' → K (a.put o.dst y) w') →
      (∀ G' w' h' y v, R (.panic v) h' → RV G' v y → Rel G' h' w' → Ext G G' w w' → Q (.panic [{ v := y, recovered := false }]) a w') →
      o.uponIn F n P a K Q ((callFunc f vargs).run P w)

theorem VCalls.mono {f : FuncId} {args : List VV} {h : VHeap} {R R' : VEnd → VHeap → Prop} (hc : VCalls P f args h R) (hR : ∀ r h', R r h' → R' r h') : VCalls P f args h R' :=
  fun F n hF G w vargs hr ha o a K Q hK hQ => hc F n hF G w vargs hr ha o a K Q (fun G' w' h' y v hv => hK G' w' h' y v (hR _ _ hv)) (fun G' w' h' y v hv => hQ G' w' h' y v (hR _ _ hv))

/-- A frame's slots: how many, and those that are kept. -/
structure Fm where
  n : Nat
  keep : List Tmp := []

/-- The model's slots against the interpreter's. -/
def FrR (G : Ghost) (N : Fm) (fr : Fr) (tmps : Array Value) : Prop := tmps.size = N.n ∧ ∀ t, RV G (fr.at t) (tmps.getD t Go.undef)

theorem FrR.mono {G G' : Ghost} (hle : G.Le G') {N : Fm} {fr : Fr} {tmps : Array Value} (h : FrR G N fr tmps) : FrR G' N fr tmps := ⟨h.1, fun t => (h.2 t).mono hle⟩

theorem FrR.set {N : Fm} {fr : Fr} {tmps : Array Value} (h : FrR G N fr tmps) {v : VV} {x : Value} (hx : RV G v x) {d : Nat} (hd : d < N.n) :
    FrR G N (Tr.set fr d v) (tmps.setIfInBounds d x) := by
  refine ⟨by simp [h.1], fun t => ?_⟩
  rw [Fr.at_set]
  by_cases ht : t = d
  · subst ht
    have : t < tmps.size := by rw [h.1]; exact hd
    simp [this, hx]
  · have e : (tmps.setIfInBounds d x).getD t Go.undef = tmps.getD t Go.undef := by
      simp only [Array.getD_eq_getD_getElem?, Array.getElem?_setIfInBounds]
      rw [if_neg (fun e => ht e.symm)]
    rw [if_neg ht, e]
    exact h.2 t

/-- A slot that an operation writes, and its constants. -/
def chkOper (N : Fm) (o : Oper) : Bool :=
  (match o.dst with | some d => decide (d < N.n) && !N.keep.contains d | none => true) && o.op.operands.toList.all (fun x => match x with | .const v => constOK v | _ => true)

/-- What no operation touches. -/
def Same (N : Fm) (a a' : Act) : Prop := a'.defers = a.defers ∧ ∀ t ∈ N.keep, a'.tmps.getD t Go.undef = a.tmps.getD t Go.undef

theorem Same.refl (N : Fm) (a : Act) : Same N a a := ⟨rfl, fun _ _ => rfl⟩
theorem Same.trans {N : Fm} {a a1 a2 : Act} (h : Same N a a1) (h' : Same N a1 a2) : Same N a a2 := ⟨h'.1.trans h.1, fun t ht => (h'.2 t ht).trans (h.2 t ht)⟩

theorem Same.put {N : Fm} (a : Act) (x : Value) {o : Oper} (hc : chkOper N o = true) : Same N a (a.put o.dst x) := by
  cases hd : o.dst with
  | none => exact .refl N a
  | some d =>
    simp [chkOper, hd] at hc
    refine ⟨rfl, fun t ht => ?_⟩
    have : d ≠ t := fun e => hc.1.2 (e ▸ ht)
    simp only [Act.put, Array.getD_eq_getD_getElem?, Array.getElem?_setIfInBounds, if_neg this]

theorem FrR.put {N : Fm} {fr : Fr} {a : Act} (h : FrR G N fr a.tmps) {v : VV} {x : Value} (hx : RV G v x) {o : Oper} (hc : chkOper N o = true) :
    FrR G N (put fr o.dst v) (a.put o.dst x).tmps ∧ Same N a (a.put o.dst x) := by
  refine ⟨?_, .put a x hc⟩
  cases hd : o.dst with
  | none => exact h
  | some d =>
    simp [chkOper, hd] at hc
    exact h.set hx hc.1.1

theorem ev_sound {N : Fm} {fr : Fr} {a : Act} (h : FrR G N fr a.tmps) {x : Operand} (hx : ∀ v, x = .const v → constOK v = true) : RV G (ev fr x) (a.eval x) := by
  cases x with
  | tmp t => exact h.2 t
  | const v => exact ofZero_sound G (hx v rfl)
  | global g => exact .gptr g
  | func f => exact .fn rfl rfl (fun j h => absurd h (Nat.not_lt_zero _)) (fun j h => absurd h (Nat.not_lt_zero _))

theorem evs_sound {N : Fm} {fr : Fr} {a : Act} (h : FrR G N fr a.tmps) {o : Oper} (hc : chkOper N o = true) : ∀ x ∈ o.op.operands, RV G (ev fr x) (a.eval x) := by
  intro x hx
  refine ev_sound h fun v hv => ?_
  subst hv
  simp only [chkOper, Bool.and_eq_true, List.all_eq_true] at hc
  exact hc.2 _ (Array.mem_toList_iff.2 hx)

/-- The function that a call calls, and its arguments. -/
def vcallee (fr : Fr) (c : Call) : Option (FuncId × List VV) :=
  match c.callee with
  | .value f => match ev fr f with
    | .fn (.func id) first captured => some (id, first ++ c.args.toList.map (ev fr) ++ captured)
    | _ => none
  | _ => none

/-- The loop whose round a call is, and its arguments. -/
def vyieldee (fr : Fr) (c : Call) : Option (Nat × List VV) :=
  match c.callee with
  | .value f => match ev fr f with
    | .yld o => some (o, c.args.toList.map (ev fr))
    | _ => none
  | _ => none

/-- What a round does: for the model's call of 'yield' by whatever operation. -/
def VYields (P : Program) (o : Nat) (args : List VV) (h : VHeap) (R : VV → VHeap → Prop) : Prop :=
  (∃ L, h.get o = some (.loop L)) ∧
  ∀ (F : Fence) (n : Nat), FreeF F → ∀ (G : Ghost) (w : World) (vargs : Array Value) (b base k : Nat), Rel G h w → G.φ o = some (b, base, k) → RVs G args vargs.toList →
    ∀ (op : Oper) (a : Act) (K : Act → World → Prop) (Q : Exit → Act → World → Prop),
      (∀ G' w' h' y v, R v h' → RV G' v y → Rel G' h' w' → Ext G G' w w' → K (a.put op.dst y) w') →
      op.uponIn F n P a K Q ((Instr.yield b vargs).run P w)

theorem VYields.mono {o : Nat} {args : List VV} {h : VHeap} {R R' : VV → VHeap → Prop} (hc : VYields P o args h R) (hR : ∀ r h', R r h' → R' r h') : VYields P o args h R' :=
  ⟨hc.1, fun F n hF G w vargs b base k hr hφ ha op a K Q hK => hc.2 F n hF G w vargs b base k hr hφ ha op a K Q (fun G' w' h' y v hv => hK G' w' h' y v (hR _ _ hv))⟩

def VV.isIface : VV → Bool
  | .iface .. => true
  | _ => false

def vplain (P : Program) (o : Oper) (fr : Fr) (h : VHeap) (K : Fr → VHeap → Prop) : Prop :=
  match vop P o.op fr h with
  | some (v, h') => K (put fr o.dst v) h'
  | none => False

def VEnd.on (r : VEnd) (K : VV → Prop) (Q : VV → Prop) : Prop :=
  match r with
  | .ret v => K v
  | .panic v => Q v

/-- One operation. -/
def vstep (P : Program) (o : Oper) (fr : Fr) (h : VHeap) (K : Fr → VHeap → Prop) (Q : VX → Fr → VHeap → Prop) : Prop :=
  match o.op with
  | .panic x => (ev fr x).isIface = true ∧ Q (.panic (ev fr x)) fr h
  | .call c =>
    match vcallee fr c with
    | some (f, args) => VCalls P f args h fun r h' => r.on (fun v => K (put fr o.dst v) h') (fun v => Q (.panic v) fr h')
    | none => match vyieldee fr c with
      | some (l, args) => VYields P l args h fun v h' => K (put fr o.dst v) h'
      | none => vplain P o fr h K
  | _ => vplain P o fr h K

def XR (G : Ghost) : VX → Exit → Prop
  | .normal, .normal => True
  | .exit i, .exit j => i = j
  | .ret, .ret => True
  | .panic v, .panic chain => ∃ y, chain = [{ v := y, recovered := false }] ∧ RV G v y
  | _, _ => False

/-- What holds behind a piece of code. -/
def VPost (G : Ghost) (w : World) (N : Fm) (a : Act) (Q : VX → Fr → VHeap → Prop) : Exit → Act → World → Prop := fun e a' w' =>
  Same N a a' ∧ ∃ x fr' h' G', Q x fr' h' ∧ XR G' x e ∧ (x.isPanic = false → FrR G' N fr' a'.tmps) ∧ Rel G' h' w' ∧ Ext G G' w w'

def VNext (G : Ghost) (w : World) (N : Fm) (a : Act) (K : Fr → VHeap → Prop) : Act → World → Prop := fun a' w' =>
  Same N a a' ∧ ∃ fr' h' G', K fr' h' ∧ FrR G' N fr' a'.tmps ∧ Rel G' h' w' ∧ Ext G G' w w'

/-- What holds behind one operation. -/
def VNext0 (G : Ghost) (w : World) (o : Oper) (a : Act) (fr : Fr) (K : Fr → VHeap → Prop) : Act → World → Prop := fun a' w' =>
  ∃ y v h' G', a' = a.put o.dst y ∧ RV G' v y ∧ K (put fr o.dst v) h' ∧ Rel G' h' w' ∧ Ext G G' w w'

def VPan0 (G : Ghost) (w : World) (a : Act) (fr : Fr) (Q : VX → Fr → VHeap → Prop) : Exit → Act → World → Prop := fun e a' w' =>
  a' = a ∧ ∃ v y h' G', e = .panic [{ v := y, recovered := false }] ∧ RV G' v y ∧ Q (.panic v) fr h' ∧ Rel G' h' w' ∧ Ext G G' w w'

theorem wp_mono2 {o : Oper} {a : Act} {K K' : Act → World → Prop} {Q Q' : Exit → Act → World → Prop} (hK : ∀ a w, K a w → K' a w) (hQ : ∀ e a w, Q e a w → Q' e a w)
    (h : o.wpIn F n P a w K Q) : o.wpIn F n P a w K' Q' := by
  unfold Oper.wpIn at h ⊢
  refine ⟨h.1, ?_⟩
  replace h := h.2
  generalize (o.semAt F.round a.eval).run P w = r at h ⊢
  cases r with
  | ok x w3 =>
    cases x <;> simp only [Oper.uponIn] at h ⊢ <;>
      first
        | exact hK _ _ h
        | exact ⟨h.1, CallsIn.mono h.2 (fun e w'' he2 => by
            cases e with
            | returned v => exact hK _ _ he2
            | panicked c => exact hQ _ _ _ he2
            | outgrown => obtain ⟨a3, w4, h4⟩ := he2; exact ⟨a3, w4, hQ _ _ _ h4⟩)⟩
        | exact ⟨h.1, RowsIn.mono h.2 (fun _ _ he2 => hK _ _ he2)⟩
        | exact ⟨h.1, RoundIn.mono h.2 (fun e w'' he2 => by
            cases e with
            | returned v => exact hK _ _ he2
            | panicked c => exact hQ _ _ _ he2
            | outgrown => obtain ⟨a3, w4, h4⟩ := he2; exact ⟨a3, w4, hQ _ _ _ h4⟩)⟩
  | halt x w3 => cases x <;> simp only [Oper.uponIn] at h ⊢ <;> first | exact h | exact hQ _ _ _ h

theorem vop_nodefer {op : Op} {fr : Fr} {h : VHeap} {r : VV × VHeap} (hv : vop P op fr h = some r) : ∀ c, op ≠ .defer c := by
  rintro c rfl
  simp [vop, vread, vnew, vwrite] at hv

theorem vplain_sound (hF : FreeF F) {h : VHeap} (hr : Rel G h w) {o : Oper} {fr : Fr} {a : Act} (hops : ∀ x ∈ o.op.operands, RV G (ev fr x) (a.eval x)) {K : Fr → VHeap → Prop} (hv : vplain P o fr h K)
    (Q : Exit → Act → World → Prop) : o.wpIn F n P a w (VNext0 G w o a fr K) Q := by
  unfold vplain at hv
  split at hv
  · rename_i v h' hop
    obtain ⟨y, w', G', h1, h2, h3, h4⟩ := vop_sound hr hops hop
    unfold Oper.wpIn
    refine ⟨fun f _ => hF.fn f, ?_⟩
    rw [Oper.semAt_eq _ _ _ (vop_nodefer hop)]
    rcases h1 with h1 | ⟨h1, rfl⟩
    · rw [h1]
      exact ⟨y, v, h', G', rfl, h2, hv, h3, h4⟩
    · rw [h1]
      exact ⟨_, v, h', G', rfl, h2, hv, h3, h4⟩
  · exact hv.elim

theorem vstep_sound0 (hF : FreeF F) {h : VHeap} (hr : Rel G h w) {o : Oper} {fr : Fr} {a : Act} (hops : ∀ x ∈ o.op.operands, RV G (ev fr x) (a.eval x)) {K : Fr → VHeap → Prop} {Q : VX → Fr → VHeap → Prop}
    (hv : vstep P o fr h K Q) : o.wpIn F n P a w (VNext0 G w o a fr K) (VPan0 G w a fr Q) := by
  unfold vstep at hv
  split at hv
  · rename_i x hop
    obtain ⟨h1, h2⟩ := hv
    have hx := hops x (by rw [hop]; simp [Op.operands])
    cases hi : ev fr x with
    | iface t v =>
      rw [hi] at hx h2
      generalize hval : a.eval x = xv at hx
      cases hx with
      | iface hy =>
        rename_i y
        unfold Oper.wpIn
        refine ⟨fun f _ => hF.fn f, ?_⟩
        rw [Oper.semAt_eq _ _ _ (fun c e => by rw [hop] at e; cases e)]
        unfold execOp
        simp only [hop, hval, Sem.run_bind, Instr.panic, run_goPanic, Result.andThen]
        exact ⟨rfl, _, _, h, G, rfl, .iface hy, h2, hr, .refl G w⟩
    | _ => rw [hi] at h1; simp [VV.isIface] at h1
  · rename_i c hop
    split at hv
    · rename_i f args hcal
      unfold vcallee at hcal
      split at hcal
      · rename_i fo hcl
        split at hcal
        · rename_i id first captured hfo
          cases hcal
          rw [hop] at hops
          have hfv := hops fo (by simp [Op.operands, Call.operands, hcl])
          rw [hfo] at hfv
          generalize hval : a.eval fo = fv at hfv
          cases hfv with
          | fn e1 e2 e3 e4 =>
            rename_i av cv
            have hargs : RVs G (first ++ c.args.toList.map (ev fr) ++ captured) ((av ++ c.args.map a.eval) ++ cv).toList := by
              simp only [Array.toList_append]
              refine RVs.append (RVs.append ⟨by simpa using e1, fun j h1 h2 => ?_⟩ ?_) ⟨by simpa using e2, fun j h1 h2 => ?_⟩
              · simpa using e3 j h1 (by simpa using h2)
              · exact RVs.map_ev (fun x hx => hops x (by simp [Op.operands, Call.operands, hx]))
              · simpa using e4 j h1 (by simpa using h2)
            have hrun : (execOp a.eval o).run P w = (callFunc f ((av ++ c.args.map a.eval) ++ cv)).run P w := by
              unfold execOp
              simp [hop, resolve, hcl, hval, Deferred.ofValue, invoke]
            unfold Oper.wpIn
            refine ⟨fun f _ => hF.fn f, ?_⟩
            rw [Oper.semAt_eq _ _ _ (fun c e => by rw [hop] at e; cases e), hrun]
            refine hv F n hF G w _ hr hargs o a _ _ ?_ ?_
            · rintro G' w' h' y v hon hy hr' he
              exact ⟨y, v, h', G', rfl, hy, hon, hr', he⟩
            · rintro G' w' h' y v hon hy hr' he
              exact ⟨rfl, v, y, h', G', rfl, hy, hon, hr', he⟩
        · cases hcal
      · cases hcal
    · split at hv
      · rename_i l args hcal
        unfold vyieldee at hcal
        split at hcal
        · rename_i fo hcl
          split at hcal
          · rename_i l' hfo
            cases hcal
            rw [hop] at hops
            have hfv := hops fo (by simp [Op.operands, Call.operands, hcl])
            rw [hfo] at hfv
            generalize hval : a.eval fo = fv at hfv
            have hargs : RVs G (c.args.toList.map (ev fr)) ((#[] ++ c.args.map a.eval)).toList := by
              simpa using RVs.map_ev (fun x hx => hops x (by simp [Op.operands, Call.operands, hx]))
            cases hfv with
            | yldD hD =>
              obtain ⟨⟨L, hL⟩, _⟩ := hv
              have := (hr.dead _ hD).2
              rw [hL] at this; cases this
            | yld hφ =>
              rename_i b base k
              have hrun : (execOp a.eval o).run P w = (Instr.yield b (#[] ++ c.args.map a.eval)).run P w := by
                unfold execOp
                simp [hop, resolve, hcl, hval, Deferred.ofValue, invoke]
              unfold Oper.wpIn
              refine ⟨fun f _ => hF.fn f, ?_⟩
              rw [Oper.semAt_eq _ _ _ (fun c e => by rw [hop] at e; cases e), hrun]
              refine hv.2 F n hF G w _ b base k hr hφ hargs o a _ _ ?_
              rintro G' w' h' y v hon hy hr' he
              exact ⟨y, v, h', G', rfl, hy, hon, hr', he⟩
          · cases hcal
        · cases hcal
      · exact vplain_sound hF hr hops hv _
  · exact vplain_sound hF hr hops hv _

theorem vstep_sound (hF : FreeF F) {h : VHeap} (hr : Rel G h w) {N : Fm} {o : Oper} {fr : Fr} {a : Act} (hf : FrR G N fr a.tmps) (hc : chkOper N o = true) {K : Fr → VHeap → Prop} {Q : VX → Fr → VHeap → Prop}
    (hv : vstep P o fr h K Q) : o.wpIn F n P a w (VNext G w N a K) (VPost G w N a Q) := by
  refine wp_mono2 ?_ ?_ (vstep_sound0 hF hr (evs_sound hf hc) hv)
  · rintro a' w' ⟨y, v, h', G', rfl, hy, hK, hr', he⟩
    have hp := (hf.mono he.le).put hy hc
    exact ⟨hp.2, _, h', G', hK, hp.1, hr', he⟩
  · rintro e a' w' ⟨rfl, v, y, h', G', rfl, hy, hQ, hr', he⟩
    exact ⟨.refl N _, _, fr, h', G', hQ, ⟨y, rfl, hy⟩, fun _ => hf.mono he.le, hr', he⟩

end Go.Vv
