/- The abstract interpreter's code: regions in their order, branches, loops. -/
import Derived.Test.YtlbmfiglfefaiaaGreatVk
namespace Go.Vv

variable {P : Program} {G : Ghost} {w : World} {F : Fence} {n : Nat}

def vyield (ops : Array Oper) (fr : Fr) (j : Nat) : Option Bool :=
  match (ops[j]?).bind (·.dst) with
  | some d => match fr.at d with | .bool b => some b | _ => none
  | none => none

theorem vyield_sound {N : Fm} {fr : Fr} {tmps : Array Value} (hf : FrR G N fr tmps) {ops : Array Oper} (hops : ∀ (j : Nat) (o : Oper), ops[j]? = some o → chkOper N o = true) (j : Nat) :
    yielded ops tmps j = vyield ops fr j := by
  unfold yielded vyield
  cases ho : ops[j]? with
  | none => rfl
  | some o =>
    simp only [Option.bind_some]
    cases hd : o.dst with
    | none => rfl
    | some d =>
      have hlt : d < N.n := by have := hops j o ho; simp [chkOper, hd] at this; exact this.1.1
      have hlt' : d < tmps.size := by rw [hf.1]; exact hlt
      have h2 := hf.2 d
      have e : tmps.getD d Go.undef = tmps[d] := by simp [hlt']
      rw [e] at h2
      simp only [Option.bind_some, Array.getElem?_eq_getElem hlt']
      generalize tmps[d] = x at h2
      generalize fr.at d = v at h2
      cases h2 <;> rfl

def vwant (ops : Array Oper) (fr : Fr) (o : Oper) : Bool := Region.wanted o (vyield ops fr)

/-- Operations one after the other. -/
def vops (P : Program) (ops : Array Oper) (Q : VX → Fr → VHeap → Prop) : List Oper → Fr → VHeap → Prop
  | [], fr, h => Q .normal fr h
  | o :: rest, fr, h => if vwant ops fr o = true then vstep P o fr h (vops P ops Q rest) Q else vops P ops Q rest (put fr o.dst .undef) h

theorem VPost.same {N : Fm} {a0 a1 : Act} {Q : VX → Fr → VHeap → Prop} (hs : Same N a0 a1) {e : Exit} {a : Act} {w2 : World} (h : VPost G w N a1 Q e a w2) : VPost G w N a0 Q e a w2 := by
  obtain ⟨h1, h2⟩ := h
  exact ⟨hs.trans h1, h2⟩

theorem VPost.ext {N : Fm} {a0 : Act} {Q : VX → Fr → VHeap → Prop} {G' : Ghost} {w' : World} (he : Ext G G' w w') {e : Exit} {a : Act} {w2 : World} (h : VPost G' w' N a0 Q e a w2) : VPost G w N a0 Q e a w2 := by
  obtain ⟨h1, x, fr, h', G2, h2, h3, h4, h5, h6⟩ := h
  exact ⟨h1, x, fr, h', G2, h2, h3, h4, h5, he.trans h6⟩

theorem vops_sound (hF : FreeF F) {N : Fm} {ops : Array Oper} (hops : ∀ (j : Nat) (o : Oper), ops[j]? = some o → chkOper N o = true) {Q : VX → Fr → VHeap → Prop} : ∀ (l : List Oper) (G : Ghost) (w : World) (fr : Fr) (h : VHeap) (a : Act), 
    (∀ o ∈ l, chkOper N o = true) → Rel G h w → FrR G N fr a.tmps → vops P ops Q l fr h → wpListIn F n P ops (VPost G w N a Q) l a w := by
  intro l
  induction l with
  | nil => intro G w fr h a _ hr hf hv; exact ⟨.refl N a, .normal, fr, h, G, hv, trivial, fun _ => hf, hr, .refl G w⟩
  | cons o l ih =>
    intro G w fr h a hl hr hf hv
    have ho := hl o (by simp)
    have hw : Region.wanted o (yielded ops a.tmps) = vwant ops fr o := by
      unfold vwant
      congr 1
      funext j
      exact vyield_sound hf hops j
    simp only [vops] at hv
    simp only [wpListIn, hw]
    split
    · rename_i hwant
      rw [if_pos hwant] at hv
      refine Oper.wpIn_mono (fun a' w' hn => ?_) (vstep_sound hF hr hf ho hv)
      obtain ⟨hd, fr', h', G', hK, hf', hr', he⟩ := hn
      have hih := ih G' w' fr' h' a' (fun o ho' => hl o (by simp [ho'])) hr' hf' hK
      have hm : ∀ (l : List Oper) (a2 : Act) (w2 : World), wpListIn F n P ops (VPost G' w' N a' Q) l a2 w2 → wpListIn F n P ops (VPost G w N a Q) l a2 w2 := by
        intro l
        induction l with
        | nil => intro a2 w2 h2; exact VPost.same hd (VPost.ext he h2)
        | cons o2 l ih2 =>
          intro a2 w2 h2
          simp only [wpListIn] at h2 ⊢
          split
          · rename_i hw2
            rw [if_pos hw2] at h2
            exact wp_mono2 (fun a w => ih2 a w) (fun e a w hp => VPost.same hd (VPost.ext he hp)) h2
          · rename_i hw2
            rw [if_neg hw2] at h2
            exact ⟨h2.1, ih2 _ _ h2.2⟩
      exact hm l a' w' hih
    · rename_i hwant
      rw [if_neg hwant] at hv
      have hp := hf.put (.undef G) ho
      have hih := ih G w _ h _ (fun o ho' => hl o (by simp [ho'])) hr hp.1 hv
      refine ⟨fun f _ => hF.fn f, ?_⟩
      have hm : ∀ (l : List Oper) (a2 : Act) (w2 : World), wpListIn F n P ops (VPost G w N (a.put o.dst Go.undef) Q) l a2 w2 → wpListIn F n P ops (VPost G w N a Q) l a2 w2 := by
        intro l
        induction l with
        | nil => intro a2 w2 h2; exact VPost.same hp.2 h2
        | cons o2 l ih2 =>
          intro a2 w2 h2
          simp only [wpListIn] at h2 ⊢
          split
          · rename_i hw2
            rw [if_pos hw2] at h2
            exact wp_mono2 (fun a w => ih2 a w) (fun e a w hp' => VPost.same hp.2 hp') h2
          · rename_i hw2
            rw [if_neg hw2] at h2
            exact ⟨h2.1, ih2 _ _ h2.2⟩
      exact hm l _ _ hih

/-- A region whose operations come in an order that is drawn. -/
def VDraw (P : Program) (N : Fm) (ops : Array Oper) (Q : VX → Fr → VHeap → Prop) (fr : Fr) (h : VHeap) : Prop :=
  ∀ (F : Fence) (n : Nat), FreeF F → ∀ (G : Ghost) (w : World) (a : Act) (t : Nat), Rel G h w → FrR G N fr a.tmps → wpOpsIn F n P ops (VPost G w N a Q) (Region.schedule (P.follows .mixedOrders) ops t) a w

def VX.then (K : Fr → VHeap → Prop) (Q : VX → Fr → VHeap → Prop) : VX → Fr → VHeap → Prop
  | .normal, fr, h => K fr h
  | x, fr, h => Q x fr h

def VX.inBlock (id : Nat) (Q : VX → Fr → VHeap → Prop) : VX → Fr → VHeap → Prop
  | .exit id', fr, h => if id' = id then Q .normal fr h else Q (.exit id') fr h
  | x, fr, h => Q x fr h

/-- A loop that comes to its end within a number of rounds. -/
def vloop (body : (VX → Fr → VHeap → Prop) → Fr → VHeap → Prop) (Q : VX → Fr → VHeap → Prop) : Nat → Fr → VHeap → Prop
  | 0 => fun _ _ => False
  | n + 1 => body (VX.then (vloop body Q n) Q)

/-- What a piece of code does. -/
def vwp (P : Program) (N : Fm) : Code → (VX → Fr → VHeap → Prop) → Fr → VHeap → Prop
  | .skip, Q => Q .normal
  | .label _, Q => Q .normal
  | .region _ ops false, Q => vops P ops Q ops.toList
  | .region _ ops true, Q => VDraw P N ops Q
  | .seq a b, Q => vwp P N a (VX.then (vwp P N b Q) Q)
  | .cond c a b, Q => fun fr h => match ev fr c with | .bool t => if t = true then vwp P N a Q fr h else vwp P N b Q fr h | _ => False
  | .block id c, Q => vwp P N c (VX.inBlock id Q)
  | .loop c, Q => fun fr h => ∃ n, vloop (vwp P N c) Q n fr h
  | .exit id, Q => Q (.exit id)
  | .scope _, _ => fun _ _ => False
  | .ret, Q => Q .ret
  | .rangeFunc .., _ => fun _ _ => False
  | .goto _, _ => fun _ _ => False
  | .refuse _, _ => fun _ _ => False

/-- The slots that code writes, and its constants. -/
def chkCode (N : Fm) : Code → Bool
  | .region _ ops _ => ops.toList.all (chkOper N)
  | .seq a b => chkCode N a && chkCode N b
  | .cond c a b => (match c with | .const v => constOK v | _ => true) && chkCode N a && chkCode N b
  | .block _ c => chkCode N c
  | .loop c => chkCode N c
  | .scope c => chkCode N c
  | _ => true

theorem exists_least {p : Nat → Prop} (h : ∃ m, p m) : ∃ m, p m ∧ ∀ k, p k → m ≤ k := by
  obtain ⟨m, hm⟩ := h
  induction m using Nat.strongRecOn with
  | _ m ih =>
    by_cases h2 : ∃ k, k < m ∧ p k
    · obtain ⟨k, hk, hpk⟩ := h2
      exact ih k hk hpk
    · exact ⟨m, hm, fun k hk => Nat.le_of_not_lt fun hlt => h2 ⟨k, hlt, hk⟩⟩

theorem wpIn_loop_rank {c : Code} {Q : Exit → Act → World → Prop} (I : Nat → Act → World → Prop) {a : Act} {w : World} {m : Nat} (h0 : I m a w)
    (round : ∀ m a w, I m a w → c.wpIn F n P (Exit.then (fun a' w' => ∃ m', m' < m ∧ I m' a' w') Q) a w) : (Code.loop c).wpIn F n P Q a w := by
  classical
  let μ : Act → World → Nat := fun a w => if h : ∃ m, I m a w then Classical.choose (exists_least h) else 0
  refine wpIn_loop (I := fun a w => ∃ m, I m a w) (μ := μ) ⟨m, h0⟩ ?_
  intro a w hI
  have hμ : I (μ a w) a w := by
    simp only [μ, dif_pos hI]
    exact (Classical.choose_spec (exists_least hI)).1
  refine wpIn_mono (round _ a w hμ) fun e a' w' hq => ?_
  cases e with
  | normal =>
    obtain ⟨m', hm', hI'⟩ := hq
    refine ⟨⟨m', hI'⟩, ?_⟩
    have : μ a' w' ≤ m' := by
      simp only [μ, dif_pos (⟨m', hI'⟩ : ∃ m, I m a' w')]
      exact (Classical.choose_spec (exists_least (⟨m', hI'⟩ : ∃ m, I m a' w'))).2 m' hI'
    omega
  | _ => exact hq

theorem wpOpsIn_mono {ops : Array Oper} {Q Q' : Exit → Act → World → Prop} (hQ : ∀ e a w, Q e a w → Q' e a w) : ∀ (l : List Nat) (a : Act) (w : World), wpOpsIn F n P ops Q l a w → wpOpsIn F n P ops Q' l a w := by
  intro l
  induction l with
  | nil => intro a w h; exact hQ _ _ _ h
  | cons i l ih =>
    intro a w h
    simp only [wpOpsIn] at h ⊢
    split
    · rename_i hn; simp only [hn] at h; exact ih _ _ h
    · rename_i o ho
      simp only [ho] at h
      split
      · rename_i hw
        rw [if_pos hw] at h
        exact wp_mono2 (fun a w => ih a w) hQ h
      · rename_i hw
        rw [if_neg hw] at h
        exact ⟨h.1, ih _ _ h.2⟩

theorem VPost.next {N : Fm} {a0 : Act} {Q : VX → Fr → VHeap → Prop} {K : Fr → VHeap → Prop} {e : Exit} {a : Act} {w2 : World}
    (h : VPost G w N a0 (VX.then K Q) e a w2) {R : Act → World → Prop} (hR : VNext G w N a0 K a w2 → R a w2) : Exit.then R (VPost G w N a0 Q) e a w2 := by
  obtain ⟨h1, x, fr, h', G2, h2, h3, h4, h5, h6⟩ := h
  cases x with
  | normal =>
    cases e <;> simp only [XR] at h3
    exact hR ⟨h1, fr, h', G2, h2, h4 rfl, h5, h6⟩
  | exit i =>
    cases e <;> simp only [XR] at h3
    exact ⟨h1, .exit i, fr, h', G2, h2, h3, h4, h5, h6⟩
  | ret =>
    cases e <;> simp only [XR] at h3
    exact ⟨h1, .ret, fr, h', G2, h2, trivial, h4, h5, h6⟩
  | panic v =>
    cases e <;> simp only [XR] at h3
    exact ⟨h1, .panic v, fr, h', G2, h2, h3, h4, h5, h6⟩

theorem vwp_sound (hF : FreeF F) {N : Fm} : ∀ (c : Code), chkCode N c = true → ∀ (Q : VX → Fr → VHeap → Prop) (G : Ghost) (w : World) (fr : Fr) (h : VHeap) (a : Act),
    Rel G h w → FrR G N fr a.tmps → vwp P N c Q fr h → c.wpIn F n P (VPost G w N a Q) a w := by
  intro c
  induction c with
  | skip => intro _ Q G w fr h a hr hf hv; exact wpIn_skip ⟨.refl N a, .normal, fr, h, G, hv, trivial, fun _ => hf, hr, .refl G w⟩
  | label l => intro _ Q G w fr h a hr hf hv; exact wpIn_label ⟨.refl N a, .normal, fr, h, G, hv, trivial, fun _ => hf, hr, .refl G w⟩
  | exit id => intro _ Q G w fr h a hr hf hv; exact wpIn_exit ⟨.refl N a, .exit id, fr, h, G, hv, rfl, fun _ => hf, hr, .refl G w⟩
  | ret => intro _ Q G w fr h a hr hf hv; exact wpIn_ret ⟨.refl N a, .ret, fr, h, G, hv, trivial, fun _ => hf, hr, .refl G w⟩
  | rangeFunc => intro _ Q G w fr h a hr hf hv; exact hv.elim
  | goto => intro _ Q G w fr h a hr hf hv; exact hv.elim
  | refuse => intro _ Q G w fr h a hr hf hv; exact hv.elim
  | region id ops draw =>
    intro hc Q G w fr h a hr hf hv
    have hops : ∀ o ∈ ops.toList, chkOper N o = true := by simp only [chkCode, List.all_eq_true] at hc; exact hc
    have hops' : ∀ (j : Nat) (o : Oper), ops[j]? = some o → chkOper N o = true := fun j o ho => hops o (by
      obtain ⟨hj, rfl⟩ := Array.getElem?_eq_some_iff.1 ho
      simp)
    cases draw with
    | false => exact wpIn_region_list (vops_sound hF hops' ops.toList G w fr h a hops hr hf hv)
    | true =>
      refine wpIn_region_draw fun t => ?_
      have := hv F n hF G { w with drawn := w.drawn + 1 } a t (hr.drew _) hf
      exact wpOpsIn_mono (fun e a' w' => VPost.ext (Ext.drew G w _)) _ _ _ this
  | seq x y ihx ihy =>
    intro hc Q G w fr h a hr hf hv
    simp only [chkCode, Bool.and_eq_true] at hc
    refine wpIn_seq (wpIn_mono (ihx hc.1 _ G w fr h a hr hf hv) fun e a' w' hp => hp.next fun hn => ?_)
    obtain ⟨hd, fr', h', G', hK, hf', hr', he⟩ := hn
    have := ihy hc.2 Q G' w' fr' h' a' hr' hf' hK
    exact wpIn_mono this fun e2 a2 w2 hp2 => VPost.same hd (VPost.ext he hp2)
  | cond c x y ihx ihy =>
    intro hc Q G w fr h a hr hf hv
    simp only [chkCode, Bool.and_eq_true] at hc
    simp only [vwp] at hv
    have hcv : RV G (ev fr c) (a.eval c) := ev_sound hf (fun v hv => by subst hv; exact hc.1.1)
    split at hv
    · rename_i t ht
      rw [ht] at hcv
      generalize hval : a.eval c = cv at hcv
      cases hcv
      refine wpIn_cond hval ?_
      cases t
      · exact ihy hc.2 Q G w fr h a hr hf (by simpa using hv)
      · exact ihx hc.1.2 Q G w fr h a hr hf (by simpa using hv)
    · exact hv.elim
  | block id c ih =>
    intro hc Q G w fr h a hr hf hv
    simp only [chkCode] at hc
    refine wpIn_block (wpIn_mono (ih hc _ G w fr h a hr hf hv) fun e a' w' hp => ?_)
    obtain ⟨h1, x, fr', h', G2, h2, h3, h4, h5, h6⟩ := hp
    cases x with
    | normal => cases e <;> simp only [XR] at h3; exact ⟨h1, .normal, fr', h', G2, h2, trivial, h4, h5, h6⟩
    | ret => cases e <;> simp only [XR] at h3; exact ⟨h1, .ret, fr', h', G2, h2, trivial, h4, h5, h6⟩
    | panic v => cases e <;> simp only [XR] at h3; exact ⟨h1, .panic v, fr', h', G2, h2, h3, h4, h5, h6⟩
    | exit i =>
      cases e <;> simp only [XR] at h3
      subst h3
      simp only [VX.inBlock] at h2
      simp only [Exit.inBlock]
      split
      · rename_i hi; rw [if_pos hi] at h2; exact ⟨h1, .normal, fr', h', G2, h2, trivial, h4, h5, h6⟩
      · rename_i hi; rw [if_neg hi] at h2; exact ⟨h1, .exit i, fr', h', G2, h2, rfl, h4, h5, h6⟩
  | scope => intro _ Q G w fr h a hr hf hv; exact hv.elim
  | loop c ih =>
    intro hc Q G w fr h a hr hf hv
    simp only [chkCode] at hc
    obtain ⟨m, hn⟩ := hv
    refine wpIn_loop_rank (m := m) (fun m a' w' => Same N a a' ∧ ∃ fr' h' G', vloop (vwp P N c) Q m fr' h' ∧ FrR G' N fr' a'.tmps ∧ Rel G' h' w' ∧ Ext G G' w w')
      ⟨.refl N a, fr, h, G, hn, hf, hr, .refl G w⟩ ?_
    rintro m a' w' ⟨hd, fr', h', G', hv', hf', hr', he⟩
    cases m with
    | zero => exact hv'.elim
    | succ m =>
      have := ih hc _ G' w' fr' h' a' hr' hf' hv'
      refine wpIn_mono this fun e a2 w2 hp => (VPost.same hd (VPost.ext he hp)).next fun hn => ?_
      obtain ⟨hd2, fr2, h2, G2, hK, hf2, hr2, he2⟩ := hn
      exact ⟨m, Nat.lt_succ_self m, hd2, fr2, h2, G2, hK, hf2, hr2, he2⟩

end Go.Vv
