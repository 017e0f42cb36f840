/- Functions with deferred calls, and with ranges over functions: a body's spine, and the way out. -/
import Derived.Test.YtlbmfiglfefaiaaGreatVt
namespace Go.Vv

variable {P : Program} {G : Ghost} {w : World} {F : Fence} {n : Nat}

/-! ## What is deferred -/

inductive DItem where
  | call (f : FuncId) (args : List VV)
  | mark

def DR (G : Ghost) (w : World) (B : Nat) : List DItem → List Deferred → Prop
  | [], [] => True
  | .call f args :: ds, d :: l => (∃ cap, d.target = .fn (.func f) cap ∧ RVs G args (d.args ++ cap).toList) ∧ DR G w B ds l
  | .mark :: ds, d :: l => (∃ r, d.target = .collected r ∧ B ≤ r ∧ w.heap[r]? = some (.deferred (some [])) ∧ (∀ o m, G.φ o = some m → m.1 ≠ r) ∧ (∀ i, G.I r i = none) ∧ (∀ d2 ∈ l, d2.target ≠ .collected r)) ∧ DR G w B ds l
  | _, _ => False

theorem DR.ext {G' : Ghost} {w' : World} {B : Nat} (he : Ext G G' w w') : ∀ {ds : List DItem} {l : List Deferred}, DR G w B ds l → DR G' w' B ds l
  | [], [], _ => trivial
  | .call _ _ :: _, _ :: _, ⟨⟨cap, h1, h2⟩, h3⟩ => ⟨⟨cap, h1, h2.mono he.le⟩, h3.ext he⟩
  | .mark :: _, _ :: _, ⟨⟨r, h1, h2, h3, h4, h5, h6⟩, h7⟩ => by
    have hlt : r < w.heap.size := (Array.getElem?_eq_some_iff.1 h3).1
    refine ⟨⟨r, h1, h2, by rw [he.old r hlt h4 h5]; exact h3, fun o m hm => ?_, fun i => ?_, h6⟩, h7.ext he⟩
    · rcases he.own o m hm with ⟨o', m', h8, h9⟩ | h8
      · exact h9 ▸ h4 o' m' h8
      · omega
    · cases hc : G'.I r i with
      | none => rfl
      | some v =>
        rcases he.ownI r i v hc with ⟨i', v', h8⟩ | h8
        · rw [h5 i'] at h8; cases h8
        · omega
  | [], _ :: _, h => h.elim
  | .call .. :: _, [], h => h.elim
  | .mark :: _, [], h => h.elim

theorem DR.lt {B : Nat} : ∀ {ds : List DItem} {l : List Deferred}, DR G w B ds l → ∀ d ∈ l, ∀ r, d.target = .collected r → r < w.heap.size
  | [], [], _, d, hd, _, _ => by simp at hd
  | .call _ _ :: _, _ :: _, ⟨⟨cap, h1, _⟩, h3⟩, d, hd, r, hr => by
    rcases List.mem_cons.1 hd with rfl | hd
    · rw [h1] at hr; cases hr
    · exact h3.lt d hd r hr
  | .mark :: _, _ :: _, ⟨⟨r', h1, _, h3, _⟩, h7⟩, d, hd, r, hr => by
    rcases List.mem_cons.1 hd with rfl | hd
    · rw [h1] at hr; cases hr; exact (Array.getElem?_eq_some_iff.1 h3).1
    · exact h7.lt d hd r hr
  | [], _ :: _, h, _, _, _, _ => h.elim
  | .call .. :: _, [], h, _, _, _, _ => h.elim
  | .mark :: _, [], h, _, _, _, _ => h.elim

/-- A block that is no object's turns. -/
theorem DR.put {B r0 : Nat} {o : Obj} : ∀ {ds : List DItem} {l : List Deferred}, (∀ d ∈ l, d.target ≠ .collected r0) → DR G w B ds l → DR G (w.putObj r0 o) B ds l
  | [], [], _, _ => trivial
  | .call _ _ :: _, _ :: _, hn, ⟨h1, h3⟩ => ⟨h1, h3.put (fun d hd => hn d (by simp [hd]))⟩
  | .mark :: _, d :: _, hn, ⟨⟨r, h1, h2, h3, h4, h5, h6⟩, h7⟩ => by
    have hne : r ≠ r0 := fun e => hn d (by simp) (e ▸ h1)
    exact ⟨⟨r, h1, h2, by rw [World.putObj_heap_other hne]; exact h3, h4, h5, h6⟩, h7.put (fun d hd => hn d (by simp [hd]))⟩
  | [], _ :: _, _, h => h.elim
  | .call .. :: _, [], _, h => h.elim
  | .mark :: _, [], _, h => h.elim

theorem Rel.putJunk {h : VHeap} (hr : Rel G h w) {r : Nat} {o : Obj} (hφ : ∀ o m, G.φ o = some m → m.1 ≠ r) (hI : ∀ i, G.I r i = none) : Rel G h (w.putObj r o) where
  isub := fun b i v hv => by
    have hne : b ≠ r := fun e => by subst e; rw [hI i] at hv; cases hv
    rw [← hr.isub b i v hv]
    exact World.cell?_of_block (World.putObj_heap_other hne)
  obj := fun o' b base k hm => by
    obtain ⟨x, hx, hat⟩ := hr.obj o' b base k hm
    exact ⟨x, hx, hat.mono (.refl G) (World.putObj_heap_other (hφ o' _ hm))⟩
  inj := hr.inj
  sep := hr.sep
  dom := hr.dom
  dead := hr.dead
  num := hr.num
  fresh := hr.fresh

theorem Ext.putJunk {G0 : Ghost} {w0 : World} (he : Ext G0 G w0 w) {r : Nat} {o : Obj} (hr : w0.heap.size ≤ r) : Ext G0 G w0 (w.putObj r o) :=
  .mk' ⟨he.le, by simpa using he.size, fun b hb h1 h2 => by rw [World.putObj_heap_other (by omega)]; exact he.old b hb h1 h2, he.own, he.ownI, he.os, he.tape, he.output⟩ he.toYoung

/-- A block more that is no object's. -/
theorem Rel.junk {h : VHeap} (hr : Rel G h w) (B : Obj) : Rel G h (w.alloc B) ∧ Ext G G w (w.alloc B) := by
  refine ⟨⟨?_, ?_, hr.inj, hr.sep, hr.dom, hr.dead, hr.num, hr.fresh⟩, .mk' ⟨.refl G, by simp, fun b hb _ _ => heap_alloc_old w B b hb, fun o m h => .inl ⟨o, m, h, rfl⟩, fun _ i v h => .inl ⟨i, v, h⟩, rfl, rfl, rfl⟩ (.refl G)⟩
  · intro b i v hv
    rw [← hr.isub b i v hv]
    exact World.cell?_of_block (heap_alloc_old w B b (hr.iblock_lt hv))
  · intro o b base k hm
    obtain ⟨y, hy, hyt⟩ := hr.obj o b base k hm
    exact ⟨y, hy, hyt.mono (.refl G) (heap_alloc_old w B b (hr.block_lt hm))⟩

/-! ## The spine -/

def isDefer (o : Oper) : Option Call :=
  match o.op with
  | .defer c => some c
  | _ => none

/-- What holds behind a piece of a spine. -/
abbrev QS := VX → List DItem → Fr → VHeap → Prop

def VX.thenS (K : List DItem → Fr → VHeap → Prop) (Q : QS) : QS
  | .normal, ds, fr, h => K ds fr h
  | x, ds, fr, h => Q x ds fr h

def VX.inBlockS (id : Nat) (Q : QS) : QS
  | .exit id', ds, fr, h => if id' = id then Q .normal ds fr h else Q (.exit id') ds fr h
  | x, ds, fr, h => Q x ds fr h

def vopsS (P : Program) (ops : Array Oper) (Q : QS) : List Oper → List DItem → Fr → VHeap → Prop
  | [], ds, fr, h => Q .normal ds fr h
  | o :: rest, ds, fr, h =>
    if vwant ops fr o = true then
      match isDefer o with
      | some c => match vcallee fr c with
        | some (f, args) => vopsS P ops Q rest (.call f args :: ds) (put fr o.dst .undef) h
        | none => False
      | none => vstep P o fr h (fun fr h => vopsS P ops Q rest ds fr h) (fun x fr h => Q x ds fr h)
    else vopsS P ops Q rest ds (put fr o.dst .undef) h

/-- Has a function a body? -/
def hasBody (P : Program) (f : FuncId) : Bool :=
  match P.funcs[f]? with
  | some fn => fn.body.isSome && !(fn.name == "runtime.NumGoroutine")
  | none => false

def vjumped (Q : QS) (ds : List DItem) (fr : Fr) (h : VHeap) : Option Code → Prop
  | none => Q .normal ds fr h
  | some .ret => Q .ret ds fr h
  | some (.exit id) => Q (.exit id) ds fr h
  | some _ => False

/-- A range over a function. -/
def vrange (P : Program) (N : Fm) (fn : Nat) (g : Operand) (ps : Array Tmp) (assign body : Code) (Q : QS) (ds : List DItem) (fr : Fr) (h : VHeap) : Prop :=
  match ev fr g with
  | .fn (.func f) first cap =>
    hasBody P f = true ∧
    VCalls P f (first ++ [.yld h.next] ++ cap) (h.push (.loop { st := .ready, pend := none, fr, n := N.n, ps, assign, body, fn })) fun r h2 =>
      match r with
      | .panic v => Q (.panic v) (.mark :: ds) fr h2
      | .ret _ => match vendLoop h.next h2 with
        | some (j, h3) => vjumped Q (.mark :: ds) fr h3 j
        | none => False
  | _ => False

/-- What a spine does. -/
def vwpS (P : Program) (N : Fm) (fn : Nat) : Code → QS → List DItem → Fr → VHeap → Prop
  | .seq a b, Q => vwpS P N fn a (VX.thenS (vwpS P N fn b Q) Q)
  | .block id c, Q => vwpS P N fn c (VX.inBlockS id Q)
  | .region _ ops false, Q => vopsS P ops Q ops.toList
  | .rangeFunc g ps assign body, Q => vrange P N fn g ps assign body Q
  | c, Q => fun ds => vwp P N c (fun x fr h => Q x ds fr h)

/-- The slots that a spine writes, and its constants. -/
def chkSpine (N : Fm) : Code → Bool
  | .seq a b => chkSpine N a && chkSpine N b
  | .block _ c => chkSpine N c
  | .region _ ops _ => ops.toList.all (chkOper N)
  | .rangeFunc g _ _ _ => (match g with | .const v => constOK v | _ => true)
  | c => chkCode N c

/-- What holds behind a piece of a spine, in the model. -/
def VPostS (G : Ghost) (w : World) (B : Nat) (N : Fm) (a : Act) (Q : QS) : Exit → Act → World → Prop := fun e a' w' =>
  (∀ t ∈ N.keep, a'.tmps.getD t Go.undef = a.tmps.getD t Go.undef) ∧ ∃ x ds fr' h' G', Q x ds fr' h' ∧ XR G' x e ∧ (x.isPanic = false → FrR G' N fr' a'.tmps) ∧ DR G' w' B ds a'.defers ∧ Rel G' h' w' ∧ Ext G G' w w'

def VNextS (G : Ghost) (w : World) (B : Nat) (N : Fm) (a : Act) (K : List DItem → Fr → VHeap → Prop) : Act → World → Prop := fun a' w' =>
  (∀ t ∈ N.keep, a'.tmps.getD t Go.undef = a.tmps.getD t Go.undef) ∧ ∃ ds fr' h' G', K ds fr' h' ∧ FrR G' N fr' a'.tmps ∧ DR G' w' B ds a'.defers ∧ Rel G' h' w' ∧ Ext G G' w w'

theorem VPostS.shift {B : Nat} {N : Fm} {a0 a1 : Act} {Q : QS} {G' : Ghost} {w' : World} (hk : ∀ t ∈ N.keep, a1.tmps.getD t Go.undef = a0.tmps.getD t Go.undef) (he : Ext G G' w w')
    {e : Exit} {a : Act} {w2 : World} (h : VPostS G' w' B N a1 Q e a w2) : VPostS G w B N a0 Q e a w2 := by
  obtain ⟨h1, x, ds, fr, h', G2, h2, h3, h4, h5, h6, h7⟩ := h
  exact ⟨fun t ht => (h1 t ht).trans (hk t ht), x, ds, fr, h', G2, h2, h3, h4, h5, h6, he.trans h7⟩

theorem VPostS.of {B : Nat} {N : Fm} {a0 : Act} {Q : QS} {ds : List DItem} (hd : DR G w B ds a0.defers) {e : Exit} {a : Act} {w2 : World} (h : VPost G w N a0 (fun x fr h => Q x ds fr h) e a w2) : VPostS G w B N a0 Q e a w2 := by
  obtain ⟨h1, x, fr, h', G2, h2, h3, h4, h5, h6⟩ := h
  exact ⟨h1.2, x, ds, fr, h', G2, h2, h3, h4, by rw [h1.1]; exact hd.ext h6, h5, h6⟩

theorem VPostS.next {B : Nat} {N : Fm} {a0 : Act} {Q : QS} {K : List DItem → Fr → VHeap → Prop} {e : Exit} {a : Act} {w2 : World}
    (h : VPostS G w B N a0 (VX.thenS K Q) e a w2) {R : Act → World → Prop} (hR : VNextS G w B N a0 K a w2 → R a w2) : Exit.then R (VPostS G w B N a0 Q) e a w2 := by
  obtain ⟨h1, x, ds, fr, h', G2, h2, h3, h4, h5, h6, h7⟩ := h
  cases x with
  | normal =>
    cases e <;> simp only [XR] at h3
    exact hR ⟨h1, ds, fr, h', G2, h2, h4 rfl, h5, h6, h7⟩
  | exit i =>
    cases e <;> simp only [XR] at h3
    exact ⟨h1, .exit i, ds, fr, h', G2, h2, h3, h4, h5, h6, h7⟩
  | ret =>
    cases e <;> simp only [XR] at h3
    exact ⟨h1, .ret, ds, fr, h', G2, h2, trivial, h4, h5, h6, h7⟩
  | panic v =>
    cases e <;> simp only [XR] at h3
    exact ⟨h1, .panic v, ds, fr, h', G2, h2, h3, h4, h5, h6, h7⟩

theorem wpListIn_mono {ops : Array Oper} {Q Q' : Exit → Act → World → Prop} (hQ : ∀ e a w, Q e a w → Q' e a w) : ∀ (l : List Oper) (a : Act) (w : World), wpListIn F n P ops Q l a w → wpListIn F n P ops Q' l a w := by
  intro l
  induction l with
  | nil => intro a w h; exact hQ _ _ _ h
  | cons o l ih =>
    intro a w h
    simp only [wpListIn] at h ⊢
    split
    · rename_i hw
      rw [if_pos hw] at h
      exact wp_mono2 (fun a w => ih a w) hQ h
    · rename_i hw
      rw [if_neg hw] at h
      exact ⟨h.1, ih _ _ h.2⟩

theorem defer_sound (hF : FreeF F) (hro : F.round = none) {fr : Fr} {a : Act} {o : Oper} {c : Call} (hop : o.op = .defer c) (hops : ∀ x ∈ o.op.operands, RV G (ev fr x) (a.eval x))
    {f : FuncId} {args : List VV} (hcal : vcallee fr c = some (f, args)) {K : Act → World → Prop} {Q : Exit → Act → World → Prop}
    (hK : ∀ d cap, d.target = .fn (.func f) cap → RVs G args (d.args ++ cap).toList → K ({ a with defers := d :: a.defers }.put o.dst Go.undef) w) : o.wpIn F n P a w K Q := by
  unfold vcallee at hcal
  split at hcal
  · rename_i fo hcl
    split at hcal
    · rename_i id first captured hfo
      cases hcal
      rw [hop] at hops
      have hfv := hops fo (by simp [Op.operands, Call.operands, hcl])
      rw [hfo] at hfv
      generalize hval : a.eval fo = fv at hfv
      cases hfv with
      | fn e1 e2 e3 e4 =>
        rename_i av cv
        have hargs : RVs G (first ++ c.args.toList.map (ev fr) ++ captured) ((av ++ c.args.map a.eval) ++ cv).toList := by
          simp only [Array.toList_append]
          refine RVs.append (RVs.append ⟨by simpa using e1, fun j h1 h2 => ?_⟩ ?_) ⟨by simpa using e2, fun j h1 h2 => ?_⟩
          · simpa using e3 j h1 (by simpa using h2)
          · exact RVs.map_ev (fun x hx => hops x (by simp [Op.operands, Call.operands, hx]))
          · simpa using e4 j h1 (by simpa using h2)
        have hrun : (execOp a.eval o).run P w = .ok (.defer { target := .fn (.func f) cv, args := av ++ c.args.map a.eval }) w := by
          unfold execOp
          simp [hop, resolve, hcl, hval, Deferred.ofValue]
        unfold Oper.wpIn
        refine ⟨fun f _ => hF.fn f, ?_⟩
        rw [hro, Oper.semAt_none, hrun, Oper.uponIn_defer]
        exact hK _ cv rfl hargs
    · cases hcal
  · cases hcal

theorem isDefer_op {o : Oper} {c : Call} (h : isDefer o = some c) : o.op = .defer c := by
  unfold isDefer at h
  split at h
  · rename_i c' hop; cases h; exact hop
  · cases h

theorem vopsS_sound (hF : FreeF F) (hro : F.round = none) {B : Nat} {N : Fm} {ops : Array Oper} (hops : ∀ (j : Nat) (o : Oper), ops[j]? = some o → chkOper N o = true) {Q : QS} :
    ∀ (l : List Oper) (G : Ghost) (w : World) (ds : List DItem) (fr : Fr) (h : VHeap) (a : Act), (∀ o ∈ l, chkOper N o = true) → Rel G h w → FrR G N fr a.tmps → DR G w B ds a.defers → vopsS P ops Q l ds fr h →
      wpListIn F n P ops (VPostS G w B N a Q) l a w := by
  intro l
  induction l with
  | nil => intro G w ds fr h a _ hr hf hd hv; exact ⟨fun _ _ => rfl, .normal, ds, fr, h, G, hv, trivial, fun _ => hf, hd, hr, .refl G w⟩
  | cons o l ih =>
    intro G w ds fr h a hl hr hf hd hv
    have ho := hl o (by simp)
    have hw : Region.wanted o (yielded ops a.tmps) = vwant ops fr o := by
      unfold vwant
      congr 1
      funext j
      exact vyield_sound hf hops j
    simp only [vopsS] at hv
    simp only [wpListIn, hw]
    split
    · rename_i hwant
      rw [if_pos hwant] at hv
      split at hv
      · rename_i c hdef
        split at hv
        · rename_i f args hcal
          refine defer_sound hF hro (isDefer_op hdef) (evs_sound hf ho) hcal fun d cap ht hargs => ?_
          have hf2 : FrR G N fr ({ a with defers := d :: a.defers } : Act).tmps := hf
          have hp := hf2.put (.undef G) ho
          have hih := ih G w (.call f args :: ds) _ h ({ a with defers := d :: a.defers }.put o.dst Go.undef) (fun o ho' => hl o (by simp [ho'])) hr hp.1 (by rw [put_def]; exact ⟨⟨cap, ht, hargs⟩, hd⟩) hv
          exact wpListIn_mono (fun e a2 w2 h2 => VPostS.shift hp.2.2 (.refl G w) h2) _ _ _ hih
        · exact hv.elim
      · refine wp_mono2 (fun a' w' hn => ?_) (fun e a' w' hp => VPostS.of hd hp) (vstep_sound hF hr hf ho hv)
        obtain ⟨hs, fr', h', G', hK, hf', hr', he⟩ := hn
        have hih := ih G' w' ds fr' h' a' (fun o ho' => hl o (by simp [ho'])) hr' hf' (by rw [hs.1]; exact hd.ext he) hK
        exact wpListIn_mono (fun e a2 w2 h2 => VPostS.shift hs.2 he h2) _ _ _ hih
    · rename_i hwant
      rw [if_neg hwant] at hv
      have hp := hf.put (.undef G) ho
      have hih := ih G w ds _ h _ (fun o ho' => hl o (by simp [ho'])) hr hp.1 (by rw [put_def]; exact hd) hv
      exact ⟨fun f _ => hF.fn f, wpListIn_mono (fun e a2 w2 h2 => VPostS.shift hp.2.2 (.refl G w) h2) _ _ _ hih⟩

theorem hasBody_some {f : FuncId} (hb : hasBody P f = true) : ∃ fn c, P.funcs[f]? = some fn ∧ (fn.name == "runtime.NumGoroutine") = false ∧ fn.body = some c := by
  unfold hasBody at hb
  cases hf : P.funcs[f]? with
  | none => simp [hf] at hb
  | some fn =>
    simp only [hf, Bool.and_eq_true, Bool.not_eq_true'] at hb
    obtain ⟨c, hc⟩ := Option.isSome_iff_exists.1 hb.1
    exact ⟨fn, c, rfl, hb.2, hc⟩

def voper0 : Oper := { dst := some 0, op := .move (.const (.bool true)), type := 0, pos := "", after := #[], guard := none }

/-- The contract of a function with a body, as the contract of its frame. -/
theorem VCalls.callsIn {f : FuncId} (hb : hasBody P f = true) {args : List VV} {h : VHeap} {R : VEnd → VHeap → Prop} (hc : VCalls P f args h R) (hF : FreeF F) (hr : Rel G h w) {vargs : Array Value}
    (ha : RVs G args vargs.toList) {R' : Ending → World → Prop}
    (hret : ∀ G' w' h' y v, R (.ret v) h' → RV G' v y → Rel G' h' w' → Ext G G' w w' → R' (.returned y) w')
    (hpan : ∀ G' w' h' y v, R (.panic v) h' → RV G' v y → Rel G' h' w' → Ext G G' w w' → R' (.panicked [{ v := y, recovered := false }]) w') : CallsIn F (n - 1) P f vargs w R' := by
  obtain ⟨fn, c, hf, hn, hbody⟩ := hasBody_some hb
  have h1 := hc F n hF G w vargs hr ha voper0 { tmps := #[Go.undef], defers := [] } (fun a' w' => R' (.returned (a'.tmps.getD 0 Go.undef)) w')
    (fun e _ w' => match e with | .panic chain => R' (.panicked chain) w' | _ => False)
    (fun G' w' h' y v hv hy hr' he => hret G' w' h' y v hv hy hr' he) (fun G' w' h' y v hv hy hr' he => hpan G' w' h' y v hv hy hr' he)
  rw [MuLone.run_callFunc_enter hf hn hbody, Oper.uponIn_enter] at h1
  refine h1.2.mono fun e w' he => ?_
  cases e with
  | returned v => exact he
  | panicked chain => exact he
  | outgrown => obtain ⟨_, _, h⟩ := he; exact h.elim

theorem vrange_sound (hF : FreeF F) (hro : F.round = none) {B : Nat} {N : Fm} {fn : Nat} {g : Operand} {ps : Array Tmp} {assign body : Code} (hg : ∀ v, g = .const v → constOK v = true) {Q : QS} {ds : List DItem} {fr : Fr} {h : VHeap} {a : Act}
    (hr : Rel G h w) (hf : FrR G N fr a.tmps) (hB : B ≤ w.heap.size) (hd : DR G w B ds a.defers) (hv : vrange P N fn g ps assign body Q ds fr h) : (Code.rangeFunc g ps assign body).wpIn F n P (VPostS G w B N a Q) a w := by
  unfold vrange at hv
  split at hv
  · rename_i f first cap hgv
    obtain ⟨hb, hv⟩ := hv
    obtain ⟨fn', c, hfn, hname, hbody⟩ := hasBody_some hb
    have hgr := ev_sound hf hg
    rw [hgv] at hgr
    generalize hval : a.eval g = gv at hgr
    cases hgr with
    | fn e1 e2 e3 e4 =>
      rename_i av cv
      refine wpIn_rangeFunc fun fnid hfnid => ?_
      rw [hro]
      -- the world with the block and the record
      obtain ⟨rec, hrec⟩ : ∃ rec : Loop, rec = { state := .ready, pending := none, fn := fnid, tmps := a.tmps, params := ps, assign, body, defers := w.heap.size } := ⟨_, rfl⟩
      obtain ⟨L, hL⟩ : ∃ L : VLoop, L = { st := .ready, pend := none, fr, n := N.n, ps, assign, body, fn } := ⟨_, rfl⟩
      rw [← hL] at hv
      obtain ⟨hr1, he1⟩ := hr.junk (.deferred (some []))
      have hr2 := hr1.push (.loop L)
      have hφ0 : G.more.φ h.next = none := by
        cases hc : G.more.φ h.next with
        | none => rfl
        | some m => have := hr.dom _ _ hc; omega
      have hsz1 : (w.alloc (.deferred (some []))).heap.size = w.heap.size + 1 := by simp
      obtain ⟨G2, hG2⟩ : ∃ G2, G2 = G.more.bear h.next ((w.alloc (.deferred (some []))).heap.size, 0, 0) := ⟨_, rfl⟩
      have hle2 : G.Le G2 := by rw [hG2]; exact G.le_more.trans (Ghost.le_bear _ hφ0)
      have hat : ObjAt G2 ((w.alloc (.deferred (some []))).alloc (.loop rec)) (w.alloc (.deferred (some []))).heap.size 0 0 (.loop L) := by
        refine ⟨rec, World.alloc_heap_new _ _, ?_⟩
        rw [hrec, hL]
        exact ⟨rfl, rfl, rfl, rfl, rfl, hf.1, fun t => (hf.2 t).mono hle2⟩
      obtain ⟨hr3, he3⟩ := hr2.bear (x := .loop L) (VHeap.get_push_same h _) (by simp [VHeap.next_push]) hφ0 (.loop rec) 0 (hG2 ▸ hat)
      rw [← hG2] at hr3 he3
      obtain ⟨W, hW⟩ : ∃ W, W = (w.alloc (.deferred (some []))).alloc (.loop rec) := ⟨_, rfl⟩
      rw [← hW] at hr3 he3
      have hext : Ext G G2 w W := by
        refine .mk' (he1.toExt0.trans ((Ext.more G _).toExt0.trans he3)) ⟨by rw [hG2]; exact Nat.le_succ _, fun o ho hφ => ?_⟩
        have hnum := hr.num
        have ho' : o ≠ h.next := by omega
        rw [hG2]
        simp [Ghost.bear, ho']
        exact hφ
      have hφL : G2.φ h.next = some (w.heap.size + 1, 0, 0) := by rw [hG2, hsz1]; simp [Ghost.bear]
      have hD : W.heap[w.heap.size]? = some (.deferred (some [])) := by
        rw [hW, heap_alloc_old _ _ _ (by rw [hsz1]; omega)]
        exact World.alloc_heap_new w _
      have hdW : DR G2 W B (.mark :: ds) ({ target := .collected w.heap.size, args := #[] } :: a.defers) := by
        refine ⟨⟨w.heap.size, rfl, hB, hD, fun o m hm => ?_, fun i => ?_, fun d2 hd2 e => ?_⟩, hd.ext hext⟩
        · by_cases ho : o = h.next
          · subst ho
            rw [hφL] at hm
            cases hm
            simp
          · rw [hG2] at hm
            simp [Ghost.bear, ho] at hm
            exact Nat.ne_of_lt (hr.block_lt (show G.φ o = some m from hm))
        · cases hc : G2.I w.heap.size i with
          | none => rfl
          | some v =>
            have : G.I w.heap.size i = some v := by rw [hG2] at hc; exact hc
            have := hr.iblock_lt this
            omega
        · exact absurd (hd.lt d2 hd2 _ e) (Nat.lt_irrefl _)
      have hargs : RVs G2 (first ++ [.yld h.next] ++ cap) ((av ++ #[Value.func (.yield (w.heap.size + 1)) #[] #[]]) ++ cv).toList := by
        simp only [Array.toList_append]
        refine RVs.append (RVs.append ⟨by simpa using e1, fun j h1 h2 => ?_⟩ (.cons (.yld hφL) (.nil _))) ⟨by simpa using e2, fun j h1 h2 => ?_⟩
        · have := e3 j h1 (by simpa using h2)
          simpa using this.mono hle2
        · have := e4 j h1 (by simpa using h2)
          simpa using this.mono hle2
      refine ⟨w.heap.size + 1, [{ target := .collected w.heap.size, args := #[] }], W, { target := .fn (.func f) cv, args := av ++ #[Value.func (.yield (w.heap.size + 1)) #[] #[]] }, W, f,
        (av ++ #[Value.func (.yield (w.heap.size + 1)) #[] #[]]) ++ cv, W, ?_, ?_, fun f' _ => hF.fn f', ?_, fun e => by simp [hF.depth] at e, ?_⟩
      · rw [run_enterLoop_outer, hW, hrec]
      · have hcv : ∀ v, a.eval (.const v) = v := fun _ => rfl
        simp [resolve, hval, Deferred.ofValue, hcv]
      · simp only [invoke]
        exact MuLone.run_callFunc_enter hfn hname hbody _ _
      · refine VCalls.callsIn hb hv hF hr3 hargs ?_ ?_
        · intro G' w' h2 y v hK hy hr' he
          simp only at hK
          split at hK
          · rename_i j h3 hend
            obtain ⟨L3, hL3⟩ : ∃ L3, h2.get h.next = some (.loop L3) := by
              unfold vendLoop at hend
              split at hend
              · exact ⟨_, by assumption⟩
              · cases hend
            have hφ3 := he.alive hr' hφL hL3 (fun e => by cases e)
            obtain ⟨w4, hrun4, hr4, he4⟩ := vendLoop_sound (P := P) hr' hφ3 hend
            have hall := hext.trans (he.trans he4)
            refine ⟨j, w4, hrun4, ?_⟩
            cases j with
            | none => exact ⟨fun _ _ => rfl, .normal, _, fr, h3, G', hK, trivial, fun _ => hf.mono hall.le, (hdW.ext he).ext he4, hr4, hall⟩
            | some c =>
              cases c <;> simp only [vjumped] at hK
              · exact wpIn_exit ⟨fun _ _ => rfl, .exit _, _, fr, h3, G', hK, rfl, fun _ => hf.mono hall.le, (hdW.ext he).ext he4, hr4, hall⟩
              · exact wpIn_ret ⟨fun _ _ => rfl, .ret, _, fr, h3, G', hK, trivial, fun _ => hf.mono hall.le, (hdW.ext he).ext he4, hr4, hall⟩
          · exact hK.elim
        · intro G' w' h2 y v hK hy hr' he
          have hall := hext.trans he
          exact ⟨fun _ _ => rfl, .panic v, _, fr, h2, G', hK, ⟨y, rfl, hy⟩, (fun e => by cases e), hdW.ext he, hr', hall⟩
  · exact hv.elim

theorem vwpS_sound (hF : FreeF F) (hro : F.round = none) {B : Nat} {N : Fm} {fn : Nat} : ∀ (c : Code), chkSpine N c = true → ∀ (Q : QS) (G : Ghost) (w : World) (ds : List DItem) (fr : Fr) (h : VHeap) (a : Act),
    Rel G h w → FrR G N fr a.tmps → B ≤ w.heap.size → DR G w B ds a.defers → vwpS P N fn c Q ds fr h → c.wpIn F n P (VPostS G w B N a Q) a w := by
  intro c
  have other : ∀ c, chkCode N c = true → ∀ (Q : QS) (G : Ghost) (w : World) (ds : List DItem) (fr : Fr) (h : VHeap) (a : Act),
      Rel G h w → FrR G N fr a.tmps → DR G w B ds a.defers → vwp P N c (fun x fr h => Q x ds fr h) fr h → c.wpIn F n P (VPostS G w B N a Q) a w :=
    fun c hc Q G w ds fr h a hr hf hd hv => wpIn_mono (vwp_sound hF c hc _ G w fr h a hr hf hv) fun e a' w' hp => VPostS.of hd hp
  induction c with
  | region id ops draw =>
    intro hc Q G w ds fr h a hr hf hB hd hv
    cases draw with
    | false =>
      have hops : ∀ o ∈ ops.toList, chkOper N o = true := by simp only [chkSpine, List.all_eq_true] at hc; exact hc
      have hops' : ∀ (j : Nat) (o : Oper), ops[j]? = some o → chkOper N o = true := fun j o ho => hops o (by
        obtain ⟨hj, rfl⟩ := Array.getElem?_eq_some_iff.1 ho
        simp)
      exact wpIn_region_list (vopsS_sound hF hro hops' ops.toList G w ds fr h a hops hr hf hd hv)
    | true => exact other (.region id ops true) hc Q G w ds fr h a hr hf hd hv
  | seq x y ihx ihy =>
    intro hc Q G w ds fr h a hr hf hB hd hv
    simp only [chkSpine, Bool.and_eq_true] at hc
    refine wpIn_seq (wpIn_mono (ihx hc.1 _ G w ds fr h a hr hf hB hd hv) fun e a' w' hp => hp.next fun hn => ?_)
    obtain ⟨hk, ds', fr', h', G', hK, hf', hd', hr', he⟩ := hn
    exact wpIn_mono (ihy hc.2 Q G' w' ds' fr' h' a' hr' hf' (Nat.le_trans hB he.size) hd' hK) fun e2 a2 w2 hp2 => VPostS.shift hk he hp2
  | block id c ih =>
    intro hc Q G w ds fr h a hr hf hB hd hv
    simp only [chkSpine] at hc
    refine wpIn_block (wpIn_mono (ih hc _ G w ds fr h a hr hf hB hd hv) fun e a' w' hp => ?_)
    obtain ⟨h1, x, ds', fr', h', G2, h2, h3, h4, h5, h6, h7⟩ := hp
    cases x with
    | normal => cases e <;> simp only [XR] at h3; exact ⟨h1, .normal, ds', fr', h', G2, h2, trivial, h4, h5, h6, h7⟩
    | ret => cases e <;> simp only [XR] at h3; exact ⟨h1, .ret, ds', fr', h', G2, h2, trivial, h4, h5, h6, h7⟩
    | panic v => cases e <;> simp only [XR] at h3; exact ⟨h1, .panic v, ds', fr', h', G2, h2, h3, h4, h5, h6, h7⟩
    | exit i =>
      cases e <;> simp only [XR] at h3
      subst h3
      simp only [VX.inBlockS] at h2
      simp only [Exit.inBlock]
      split
      · rename_i hi; rw [if_pos hi] at h2; exact ⟨h1, .normal, ds', fr', h', G2, h2, trivial, h4, h5, h6, h7⟩
      · rename_i hi; rw [if_neg hi] at h2; exact ⟨h1, .exit i, ds', fr', h', G2, h2, rfl, h4, h5, h6, h7⟩
  | rangeFunc g ps assign body =>
    intro hc Q G w ds fr h a hr hf hB hd hv
    exact vrange_sound hF hro (fun v hv => by subst hv; exact hc) hr hf hB hd hv
  | skip => intro hc Q G w ds fr h a hr hf hB hd hv; exact other _ hc Q G w ds fr h a hr hf hd hv
  | label l => intro hc Q G w ds fr h a hr hf hB hd hv; exact other _ hc Q G w ds fr h a hr hf hd hv
  | exit id => intro hc Q G w ds fr h a hr hf hB hd hv; exact other _ hc Q G w ds fr h a hr hf hd hv
  | ret => intro hc Q G w ds fr h a hr hf hB hd hv; exact other _ hc Q G w ds fr h a hr hf hd hv
  | goto => intro hc Q G w ds fr h a hr hf hB hd hv; exact other _ hc Q G w ds fr h a hr hf hd hv
  | refuse => intro hc Q G w ds fr h a hr hf hB hd hv; exact other _ hc Q G w ds fr h a hr hf hd hv
  | cond c x y => intro hc Q G w ds fr h a hr hf hB hd hv; exact other _ hc Q G w ds fr h a hr hf hd hv
  | loop c => intro hc Q G w ds fr h a hr hf hB hd hv; exact other _ hc Q G w ds fr h a hr hf hd hv
  | scope c => intro hc Q G w ds fr h a hr hf hB hd hv; exact other _ hc Q G w ds fr h a hr hf hd hv

/-! ## The way out -/

def vleave (P : Program) : List DItem → Option VV → VHeap → (Option VV → VHeap → Prop) → Prop
  | [], pan, h, R => R pan h
  | .mark :: ds, pan, h, R => vleave P ds pan h R
  | .call f args :: ds, pan, h, R => VDef P f args pan h fun pan' h' => vleave P ds pan' h' R

theorem PanR.run {pan : Option VV} {u : FrameMode} (h : PanR G pan u) : u ≠ .run := by
  cases pan with
  | none => rintro rfl; cases h
  | some v => obtain ⟨y, rfl, _⟩ := h; intro e; cases e

theorem PanR.mono {G' : Ghost} (hle : G.Le G') {pan : Option VV} {u : FrameMode} (h : PanR G pan u) : PanR G' pan u := by
  cases pan with
  | none => exact h
  | some v => obtain ⟨y, rfl, hy⟩ := h; exact ⟨y, rfl, hy.mono hle⟩

theorem vleave_sound (hF : FreeF F) (hro : F.round = none) {fn : Func} {tmps : Array Value} {Rf : Ending → World → Prop} {R : Option VV → VHeap → Prop} {G0 : Ghost} {w0 : World} {G1 : Ghost}
    (hfin : ∀ G' w' pan h u, R pan h → PanR G' pan u → Rel G' h w' → Ext G0 G' w0 w' → G1.Le G' → LeavesInM F n P fn tmps Rf [] u w') :
    ∀ (ds : List DItem) (l : List Deferred) (pan : Option VV) (h : VHeap) (G : Ghost) (w : World) (u : FrameMode), Rel G h w → DR G w w0.heap.size ds l → PanR G pan u → Ext G0 G w0 w → G1.Le G → vleave P ds pan h R →
      LeavesInM F n P fn tmps Rf l u w := by
  intro ds
  induction ds with
  | nil =>
    intro l pan h G w u hr hd hu he hle hv
    cases l with
    | nil => exact hfin G w pan h u hv hu hr he hle
    | cons => exact hd.elim
  | cons d ds ih =>
    intro l pan h G w u hr hd hu he hle hv
    cases l with
    | nil => cases d <;> exact hd.elim
    | cons dd l =>
      refine ⟨hu.run, ?_⟩
      cases d with
      | mark =>
        obtain ⟨⟨r, h1, h2, h3, h4, h5, h6⟩, h7⟩ := hd
        exact .inl ⟨r, _, h1, run_takeDeferred h3, ih l pan h G _ u (hr.putJunk h4 h5) (h7.put h6) hu (he.putJunk h2) hle hv⟩
      | call f args =>
        obtain ⟨⟨cap, h1, h2⟩, h3⟩ := hd
        obtain ⟨⟨fn', c, hfn, hname, hbody⟩, hv⟩ := hv
        refine .inr ⟨fun e => by simp [hF.depth] at e, .func f, cap, f, dd.args ++ cap, h1, ?_, fun g _ => hF.fn g, ?_⟩
        · rw [h1]
          simp only [invoke]
          exact MuLone.run_callFunc_enter hfn (by simpa using hname) hbody _ _
        · refine (hv F (n - 1) hF hro G w _ u hr h2 hu).mono ?_
          rintro e u' w' ⟨y, pan', h', G', rfl, hu', hR, hr', he'⟩
          exact ih l pan' h' G' w' (settle u') hr' (h3.ext he') hu' (he.trans he') (hle.trans he'.le) hR

/-! ## Functions -/

def rcell : ResultVar → Option Tmp
  | .cell a _ => some a
  | .tmp _ => none

/-- The slots of a function's results. -/
def keepOf (fn : Func) : List Tmp := fn.results.toList.filterMap rcell

def allCells (fn : Func) : Bool := fn.results.toList.all fun r => (rcell r).isSome

/-- What a function tells on its way out. -/
def VOut (P : Program) (fn : Func) (ok : Bool) (fr : Fr) (R : VEnd → VHeap → Prop) : Option VV → VHeap → Prop
  | none, h => ok = true ∧ match vresult P fn.results.toList fr h with | some v => R (.ret v) h | none => False
  | some v, h => R (.panic v) h

def VFinS (P : Program) (fn : Func) (fr0 : Fr) (R : VEnd → VHeap → Prop) : QS
  | .normal, ds, fr, h | .ret, ds, fr, h => vleave P ds none h (VOut P fn true fr R)
  | .panic v, ds, _, h => vleave P ds (some v) h (VOut P fn (allCells fn) fr0 R)
  | .exit _, _, _, _ => False

/-- Has a function a spine? -/
def chkFuncS (P : Program) (f : FuncId) (n : Nat) : Bool :=
  match P.funcs[f]? with
  | some fn => match fn.body with
    | some (.seq r0 rest) => !(fn.name == "runtime.NumGoroutine") && chkCode ⟨fn.ntmps, []⟩ r0 && chkSpine ⟨fn.ntmps, keepOf fn⟩ rest && decide (n ≤ fn.ntmps)
    | _ => false
  | none => false

/-- What a function with a spine does. -/
def vbodyS (P : Program) (f : FuncId) (args : List VV) (h : VHeap) (R : VEnd → VHeap → Prop) : Prop :=
  match P.funcs[f]? with
  | some fn => match fn.body with
    | some (.seq r0 rest) => vwp P ⟨fn.ntmps, []⟩ r0 (VX.then (fun fr0 h0 => vwpS P ⟨fn.ntmps, keepOf fn⟩ f rest (VFinS P fn fr0 R) [] fr0 h0) (VBody P fn.results.toList R)) (vframe args) h
    | _ => False
  | none => False

theorem vcalls_of_bodyS {f : FuncId} {args : List VV} {h : VHeap} {R : VEnd → VHeap → Prop} (hc : chkFuncS P f args.length = true) (hv : vbodyS P f args h R) : VCalls P f args h R := by
  intro F n hF G w vargs hr ha o a K Q hK hQ
  unfold chkFuncS at hc
  unfold vbodyS at hv
  cases hf : P.funcs[f]? with
  | none => simp [hf] at hc
  | some fn =>
    simp only [hf] at hc hv
    split at hc
    · rename_i r0 rest hb
      simp only [hb] at hv
      simp only [Bool.and_eq_true, Bool.not_eq_true', decide_eq_true_eq] at hc
      obtain ⟨⟨⟨h1, h2⟩, h3⟩, h4⟩ := hc
      rw [MuLone.run_callFunc_enter hf h1 hb]
      refine ⟨fun e => by simp [hF.depth] at e, CallsIn.mono (R := fun e w' => ∃ r h' G', R r h' ∧ EndR G' r e ∧ Rel G' h' w' ∧ Ext G G' w w') ?_ ?_⟩
      · have hP : FreeF F.plain := hF.plain
        have hro : F.plain.round = none := rfl
        refine (callsIn_of_wp_marks (F := F.plain) hf hb (hF.fn f) ?_ rfl : CallsIn F.plain (n - 1) P f vargs w _)
        have hfr := vframe_sound ha h4
        refine wpIn_seq (wpIn_mono (vwp_sound hP r0 h2 _ G w _ h { tmps := vargs ++ Array.replicate (fn.ntmps - vargs.size) Go.undef, defers := [] } hr hfr hv) ?_)
        intro e a' w' hp
        -- the way out of the whole
        have hout : ∀ (G1 : Ghost) (w1 : World) (tmps : Array Value) (pan : Option VV) (ok : Bool) (fr : Fr) (ds : List DItem) (l : List Deferred) (h1 : VHeap) (u : FrameMode),
            (ok = true → ∀ r ∈ fn.results.toList, RV G1 (fr.at (rslot r)) (tmps.getD (rslot r) Go.undef)) → Rel G1 h1 w1 → DR G1 w1 w.heap.size ds l → PanR G1 pan u → Ext G G1 w w1 →
            vleave P ds pan h1 (VOut P fn ok fr R) → LeavesInM F.plain (n - 1) P fn tmps (fun e w' => ∃ r h' G', R r h' ∧ EndR G' r e ∧ Rel G' h' w' ∧ Ext G G' w w') l u w1 := by
          intro G1 w1 tmps pan ok fr ds l h1 u hres hr1 hd1 hu he1 hvl
          refine vleave_sound hP hro (G1 := G1) ?_ ds l pan h1 G1 w1 u hr1 hd1 hu he1 (.refl G1) hvl
          intro G' w' pan' h' u' hR hu' hr' he' hle'
          cases pan' with
          | none =>
            have hu2 : u' = .returning := hu'
            subst hu2
            obtain ⟨hok, hR⟩ := hR
            split at hR
            · rename_i v hvr
              obtain ⟨y, hy1, hy2⟩ := vresult_soundK (P := P) hr' (fun r hr => (hres hok r hr).mono hle') hvr
              exact ⟨y, hy1, .ret v, h', G', hR, hy2, hr', he'⟩
            · exact hR.elim
          | some v =>
            obtain ⟨y, rfl, hy⟩ := hu'
            exact ⟨.panic v, h', G', hR, ⟨y, rfl, hy⟩, hr', he'⟩
        have hnil : ∀ (G1 : Ghost) (w1 : World), DR G1 w1 w.heap.size [] [] := fun _ _ => trivial
        obtain ⟨hs, x, fr', h', G', hx, hxr, hf', hr', he⟩ := hp
        have hdef : a'.defers = [] := hs.1
        cases x with
        | normal =>
          cases e <;> simp only [XR] at hxr
          refine wpIn_mono (vwpS_sound hP hro (B := w.heap.size) rest h3 _ G' w' [] fr' h' a' hr' (hf' rfl) he.size (by rw [hdef]; exact hnil _ _) hx) ?_
          rintro e2 a2 w2 ⟨hk, x2, ds2, fr2, hh2, G2, hx2, hxr2, hf2, hd2, hr2, he2⟩
          cases x2 with
          | normal =>
            cases e2 <;> simp only [XR] at hxr2
            exact hout G2 w2 a2.tmps none true fr2 ds2 _ hh2 .returning (fun _ r _ => (hf2 rfl).2 _) hr2 hd2 rfl (he.trans he2) hx2
          | ret =>
            cases e2 <;> simp only [XR] at hxr2
            exact hout G2 w2 a2.tmps none true fr2 ds2 _ hh2 .returning (fun _ r _ => (hf2 rfl).2 _) hr2 hd2 rfl (he.trans he2) hx2
          | panic v =>
            cases e2 <;> simp only [XR] at hxr2
            obtain ⟨y, rfl, hy⟩ := hxr2
            refine hout G2 w2 a2.tmps (some v) (allCells fn) fr' ds2 _ hh2 _ (fun hok r hr => ?_) hr2 hd2 ⟨y, rfl, hy⟩ (he.trans he2) hx2
            have hcell := (List.all_eq_true.1 hok) r hr
            cases r with
            | tmp t => simp [rcell] at hcell
            | cell t ty =>
              have hmem : t ∈ keepOf fn := List.mem_filterMap.2 ⟨.cell t ty, hr, rfl⟩
              show RV G2 (fr'.at t) (a2.tmps.getD t Go.undef)
              rw [hk t hmem]
              exact ((hf' rfl).2 t).mono he2.le
          | exit i => exact hx2.elim
        | ret =>
          cases e <;> simp only [XR] at hxr
          simp only [VX.then, VBody] at hx
          split at hx
          · rename_i v hres
            have := hout G' w' a'.tmps none true fr' [] [] h' .returning (fun _ r _ => (hf' rfl).2 _) hr' (hnil _ _) rfl he ⟨rfl, by rw [hres]; exact hx⟩
            show LeavesInM _ _ _ _ _ _ a'.defers _ _
            rw [hdef]; exact this
          · exact hx.elim
        | panic v =>
          cases e <;> simp only [XR] at hxr
          obtain ⟨y, rfl, hy⟩ := hxr
          have := hout G' w' a'.tmps (some v) false fr' [] [] h' _ (fun e => by cases e) hr' (hnil _ _) ⟨y, rfl, hy⟩ he hx
          show LeavesInM _ _ _ _ _ _ a'.defers _ _
          rw [hdef]; exact this
        | exit i => exact hx.elim
      · rintro e w' ⟨r, h', G', hR, he, hr', hext⟩
        cases r with
        | ret v => cases e <;> simp only [EndR] at he; exact hK G' w' h' _ v hR he hr' hext
        | panic v =>
          cases e <;> simp only [EndR] at he
          obtain ⟨y, rfl, hy⟩ := he
          exact hQ G' w' h' y v hR hy hr' hext
    · cases hc

end Go.Vv
