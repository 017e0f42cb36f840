/- The abstract interpreter run on closed values. -/
import Derived.Test.YtlbmfiglfefaiaaGreatVq
import Derived.Test.YtlbmfiglfefaiaaGreatVu
namespace Go.Vv

variable {P : Program} {G : Ghost} {w : World}

/-! ## Values the same -/

def VV.sameFlat : VV → VV → Bool
  | .bool a, .bool b => a == b
  | .int j a, .int k b => j == k && a == b
  | .str a, .str b => a == b
  | .nilp, .nilp => true
  | .ptr o a, .ptr p b => o == p && a == b
  | .gptr a, .gptr b => a == b
  | .nils, .nils => true
  | .ref o f l e c, .ref o' f' l' e' c' => o == o' && f == f' && l == l' && e == e' && c == c'
  | .nilm, .nilm => true
  | .map a, .map b => a == b
  | .nilf, .nilf => true
  | .nili, .nili => true
  | _, _ => false

theorem VV.sameFlat_eq {a b : VV} (h : VV.sameFlat a b = true) : a = b := by
  cases a <;> cases b <;> simp [VV.sameFlat] at h <;> simp_all

def sameList : List VV → List VV → Bool
  | [], [] => true
  | a :: l, b :: m => a.sameFlat b && sameList l m
  | _, _ => false

theorem sameList_eq : ∀ {l m : List VV}, sameList l m = true → l = m
  | [], [], _ => rfl
  | [], _ :: _, h => by simp [sameList] at h
  | _ :: _, [], h => by simp [sameList] at h
  | a :: l, b :: m, h => by
    simp only [sameList, Bool.and_eq_true] at h
    rw [VV.sameFlat_eq h.1, sameList_eq h.2]

def sameRows : List (List VV) → List (List VV) → Bool
  | [], [] => true
  | a :: l, b :: m => sameList a b && sameRows l m
  | _, _ => false

theorem sameRows_eq : ∀ {l m : List (List VV)}, sameRows l m = true → l = m
  | [], [], _ => rfl
  | [], _ :: _, h => by simp [sameRows] at h
  | _ :: _, [], h => by simp [sameRows] at h
  | a :: l, b :: m, h => by
    simp only [sameRows, Bool.and_eq_true] at h
    rw [sameList_eq h.1, sameRows_eq h.2]

/-- Surely the same. -/
def VV.same (a b : VV) : Bool :=
  match a, b with
  | .agg l, .agg m => sameList l m
  | .iptr l a, .iptr m b => sameList l m && a == b
  | .vs l c, .vs m d => sameRows l m && c == d
  | a, b => a.sameFlat b

theorem VV.same_eq {a b : VV} (h : VV.same a b = true) : a = b := by
  unfold VV.same at h
  split at h
  · rw [sameList_eq h]
  · simp only [Bool.and_eq_true, beq_iff_eq] at h
    rw [sameList_eq h.1, h.2]
  · simp only [Bool.and_eq_true, beq_iff_eq] at h
    rw [sameRows_eq h.1, h.2]
  · exact VV.sameFlat_eq h

def sameObj : Option VObj → Option VObj → Bool
  | some (.cells l), some (.cells m) => sameList l m
  | some (.map []), some (.map []) => true
  | _, _ => false

theorem sameObj_eq {a b : Option VObj} (h : sameObj a b = true) : a = b := by
  unfold sameObj at h
  split at h
  · rw [sameList_eq h]
  · rfl
  · cases h

/-! ## Running -/

inductive X1 where
  | next (fr : Fr) (h : VHeap)
  | panic (v : VV) (h : VHeap)

def X1.on (r : X1) (K : Fr → VHeap → Prop) (Q : VV → VHeap → Prop) : Prop :=
  match r with
  | .next fr h => K fr h
  | .panic v h => Q v h

abbrev XCall := FuncId → List VV → VHeap → Option (VEnd × VHeap)
abbrev XYield := Nat → List VV → VHeap → Option (VV × VHeap)

/-- What is told of calls, and of rounds. -/
structure XEnv where
  call : XCall
  yield : XYield

def xplain (P : Program) (o : Oper) (fr : Fr) (h : VHeap) : Option X1 :=
  match vop P o.op fr h with
  | some (v, h') => some (.next (put fr o.dst v) h')
  | none => none

def xstep (P : Program) (e : XEnv) (o : Oper) (fr : Fr) (h : VHeap) : Option X1 :=
  match o.op with
  | .panic x => if (ev fr x).isIface = true then some (.panic (ev fr x) h) else none
  | .call c =>
    match vcallee fr c with
    | some (f, args) =>
      match e.call f args h with
      | some (.ret v, h') => some (.next (put fr o.dst v) h')
      | some (.panic v, h') => some (.panic v h')
      | none => none
    | none => match vyieldee fr c with
      | some (l, args) => match e.yield l args h with
        | some (v, h') => some (.next (put fr o.dst v) h')
        | none => none
      | none => xplain P o fr h
  | _ => xplain P o fr h

/-- What is told of calls is so. -/
def XSound (P : Program) (call : XCall) : Prop := ∀ f args h r h', call f args h = some (r, h') → VCalls P f args h fun r' h'' => r' = r ∧ h'' = h'
def YSound (P : Program) (y : XYield) : Prop := ∀ o args h v h', y o args h = some (v, h') → VYields P o args h fun v' h'' => v' = v ∧ h'' = h'
structure ESound (P : Program) (e : XEnv) : Prop where
  call : XSound P e.call
  yield : YSound P e.yield

theorem xplain_sound {o : Oper} {fr : Fr} {h : VHeap} {r : X1} (hx : xplain P o fr h = some r) {K : Fr → VHeap → Prop} {Q : VX → Fr → VHeap → Prop}
    (hr : r.on K fun v h' => Q (.panic v) fr h') : vplain P o fr h K := by
  unfold xplain at hx
  unfold vplain
  split at hx
  · rename_i v h' hop
    cases hx
    simp only [hop]
    exact hr
  · cases hx

theorem xstep_sound {e : XEnv} (hc : ESound P e) {o : Oper} {fr : Fr} {h : VHeap} {r : X1} (hx : xstep P e o fr h = some r) {K : Fr → VHeap → Prop} {Q : VX → Fr → VHeap → Prop}
    (hr : r.on K fun v h' => Q (.panic v) fr h') : vstep P o fr h K Q := by
  unfold xstep at hx
  unfold vstep
  split at hx
  · rename_i x hop
    simp only [hop]
    split at hx
    · rename_i hi
      cases hx
      exact ⟨hi, hr⟩
    · cases hx
  · rename_i c hop
    simp only [hop]
    split at hx
    · rename_i f args hcal
      simp only [hcal]
      split at hx
      · rename_i v h' hcall
        cases hx
        refine (hc.call f args h _ _ hcall).mono ?_
        rintro r' h'' ⟨rfl, rfl⟩
        exact hr
      · rename_i v h' hcall
        cases hx
        refine (hc.call f args h _ _ hcall).mono ?_
        rintro r' h'' ⟨rfl, rfl⟩
        exact hr
      · cases hx
    · rename_i hcal
      simp only [hcal]
      split at hx
      · rename_i l args hy
        simp only [hy]
        split at hx
        · rename_i v h' hyl
          cases hx
          refine (hc.yield l args h _ _ hyl).mono ?_
          rintro r' h'' ⟨rfl, rfl⟩
          exact hr
        · cases hx
      · rename_i hy
        simp only [hy]
        exact xplain_sound hx hr
  · rename_i hn1 hn2
    have := xplain_sound hx hr
    split
    · rename_i x hop; exact absurd hop (hn1 x)
    · rename_i c hop; exact absurd hop (hn2 c)
    · exact this

abbrev XRes := Option (VX × Fr × VHeap)

def xops (P : Program) (e : XEnv) (ops : Array Oper) : List Oper → Fr → VHeap → XRes
  | [], fr, h => some (.normal, fr, h)
  | o :: rest, fr, h =>
    if vwant ops fr o = true then
      match xstep P e o fr h with
      | some (.next fr' h') => xops P e ops rest fr' h'
      | some (.panic v h') => some (.panic v, fr, h')
      | none => none
    else xops P e ops rest (put fr o.dst .undef) h

theorem xops_sound {e : XEnv} (hc : ESound P e) {ops : Array Oper} {Q : VX → Fr → VHeap → Prop} {x : VX} {fr' : Fr} {h' : VHeap} (hq : Q x fr' h') :
    ∀ (l : List Oper) (fr : Fr) (h : VHeap), xops P e ops l fr h = some (x, fr', h') → vops P ops Q l fr h := by
  intro l
  induction l with
  | nil => intro fr h hx; cases hx; exact hq
  | cons o l ih =>
    intro fr h hx
    simp only [xops] at hx
    simp only [vops]
    split
    · rename_i hw
      rw [if_pos hw] at hx
      split at hx
      · rename_i fr2 h2 hs
        exact xstep_sound hc hs (ih _ _ hx)
      · rename_i v h2 hs
        cases hx
        exact xstep_sound hc hs hq
      · cases hx
    · rename_i hw
      rw [if_neg hw] at hx
      exact ih _ _ hx

def xstable (P : Program) (ops : Array Oper) (ids : List (Nat × Nat)) (h : VHeap) (fr' : Fr) (h' : VHeap) : List Nat → Bool
  | [] => true
  | p :: l =>
    (if vwant ops fr' (opAt ops p) = true then
      if isNew (opAt ops p).op = true then
        match ids.lookup p with
        | some i => sameObj (h'.get i) (h.get i)
        | none => false
      else
        match vread P (opAt ops p).op fr' h' with
        | some v => match (opAt ops p).dst with
          | some d => v.same (fr'.at d)
          | none => true
        | none => false
    else true) && xstable P ops ids h fr' h' l

theorem xstable_sound {ops : Array Oper} {ids : List (Nat × Nat)} {h h' : VHeap} {fr' : Fr} : ∀ {l : List Nat}, xstable P ops ids h fr' h' l = true → vstables P ops ids h fr' h' l := by
  intro l
  induction l with
  | nil => intro _; trivial
  | cons p l ih =>
    intro hx
    simp only [xstable, Bool.and_eq_true] at hx
    refine ⟨?_, ih hx.2⟩
    have h1 := hx.1
    unfold vstable
    split
    · rename_i hw
      rw [if_pos hw] at h1
      split
      · rename_i hn
        rw [if_pos hn] at h1
        split at h1
        · rename_i hl; simp only [hl]; exact sameObj_eq h1
        · cases h1
      · rename_i hn
        rw [if_neg hn] at h1
        split at h1
        · rename_i hv
          simp only [hv]
          split at h1
          · rename_i hd
            simp only [hd]
            exact VV.same_eq h1
          · rename_i hd
            simp only [hd]
        · cases h1
    · trivial

def xdr (P : Program) (e : XEnv) (ops : Array Oper) : Plan → List (Nat × Nat) → Fr → VHeap → XRes
  | [], _, fr, h => some (.normal, fr, h)
  | (i, pend) :: rest, ids, fr, h =>
    if vwant ops fr (opAt ops i) = true then
      if isMov (opAt ops i).op = true then
        if isNew (opAt ops i).op = true then
          match vnew P (opAt ops i).op fr with
          | some (f, x) => xdr P e ops rest ((i, h.next) :: ids) (put fr (opAt ops i).dst (f h.next)) (h.push x)
          | none => none
        else
          match vread P (opAt ops i).op fr h with
          | some v => xdr P e ops rest ids (put fr (opAt ops i).dst v) h
          | none => none
      else
        match xstep P e (opAt ops i) fr h with
        | some (.next fr' h') => if xstable P ops ids h fr' h' pend = true then xdr P e ops rest ids fr' h' else none
        | some (.panic v h') => some (.panic v, fr, h')
        | none => none
    else xdr P e ops rest ids (put fr (opAt ops i).dst .undef) h

theorem xdr_sound {e : XEnv} (hc : ESound P e) {ops : Array Oper} {Q : VX → Fr → VHeap → Prop} {x : VX} {fr' : Fr} {h' : VHeap} (hq : Q x fr' h') :
    ∀ (plan : Plan) (ids : List (Nat × Nat)) (fr : Fr) (h : VHeap), xdr P e ops plan ids fr h = some (x, fr', h') → vdr P ops Q plan ids fr h := by
  intro plan
  induction plan with
  | nil => intro ids fr h hx; cases hx; exact hq
  | cons ip rest ih =>
    obtain ⟨i, pend⟩ := ip
    intro ids fr h hx
    simp only [xdr] at hx
    simp only [vdr]
    split
    · rename_i hw
      rw [if_pos hw] at hx
      split
      · rename_i hm
        rw [if_pos hm] at hx
        split
        · rename_i hn
          rw [if_pos hn] at hx
          split at hx
          · rename_i hv; simp only [hv]; exact ih _ _ _ hx
          · cases hx
        · rename_i hn
          rw [if_neg hn] at hx
          split at hx
          · rename_i hv; simp only [hv]; exact ih _ _ _ hx
          · cases hx
      · rename_i hm
        rw [if_neg hm] at hx
        split at hx
        · rename_i fr2 h2 hs
          split at hx
          · rename_i hst
            exact xstep_sound hc hs ⟨xstable_sound hst, ih _ _ _ hx⟩
          · cases hx
        · rename_i v h2 hs
          cases hx
          exact xstep_sound hc hs hq
        · cases hx
    · rename_i hw
      rw [if_neg hw] at hx
      exact ih _ _ _ hx

def xloop (body : Fr → VHeap → XRes) : Nat → Fr → VHeap → XRes
  | 0, _, _ => none
  | n + 1, fr, h =>
    match body fr h with
    | some (.normal, fr', h') => xloop body n fr' h'
    | r => r

/-- Running code; a drawn region by its plan. -/
def xcode (P : Program) (e : XEnv) (T : Nat → Plan) (n : Nat) : Code → Fr → VHeap → XRes
  | .skip, fr, h => some (.normal, fr, h)
  | .label _, fr, h => some (.normal, fr, h)
  | .region _ ops false, fr, h => xops P e ops ops.toList fr h
  | .region id ops true, fr, h => xdr P e ops (T id) [] fr h
  | .seq a b, fr, h =>
    match xcode P e T n a fr h with
    | some (.normal, fr', h') => xcode P e T n b fr' h'
    | r => r
  | .cond c a b, fr, h =>
    match ev fr c with
    | .bool t => if t = true then xcode P e T n a fr h else xcode P e T n b fr h
    | _ => none
  | .block id c, fr, h =>
    match xcode P e T n c fr h with
    | some (.exit i, fr', h') => if i = id then some (.normal, fr', h') else some (.exit i, fr', h')
    | r => r
  | .loop c, fr, h => xloop (xcode P e T n c) n fr h
  | .exit id, fr, h => some (.exit id, fr, h)
  | .ret, fr, h => some (.ret, fr, h)
  | _, _, _ => none

/-- Each drawn region has its plan. -/
def chkPlans (T : Nat → Plan) : Code → Bool
  | .region id ops true => chkDraw ops (T id)
  | .seq a b => chkPlans T a && chkPlans T b
  | .cond _ a b => chkPlans T a && chkPlans T b
  | .block _ c => chkPlans T c
  | .loop c => chkPlans T c
  | .scope c => chkPlans T c
  | _ => true

theorem xcode_sound {e : XEnv} (hc : ESound P e) (hmix : P.follows .mixedOrders = true) {N : Fm} {T : Nat → Plan} {n : Nat} : ∀ (c : Code), chkCode N c = true → chkPlans T c = true →
    ∀ (Q : VX → Fr → VHeap → Prop) (fr : Fr) (h : VHeap) (x : VX) (fr' : Fr) (h' : VHeap), xcode P e T n c fr h = some (x, fr', h') → Q x fr' h' → vwp P N c Q fr h := by
  intro c
  induction c with
  | skip => intro _ _ Q fr h x fr' h' hx hq; cases hx; exact hq
  | label => intro _ _ Q fr h x fr' h' hx hq; cases hx; exact hq
  | exit => intro _ _ Q fr h x fr' h' hx hq; cases hx; exact hq
  | ret => intro _ _ Q fr h x fr' h' hx hq; cases hx; exact hq
  | rangeFunc => intro _ _ Q fr h x fr' h' hx; cases hx
  | goto => intro _ _ Q fr h x fr' h' hx; cases hx
  | refuse => intro _ _ Q fr h x fr' h' hx; cases hx
  | region id ops draw =>
    intro h1 h2 Q fr h x fr' h' hx hq
    cases draw with
    | false => exact xops_sound hc hq _ _ _ hx
    | true =>
      have hops : ∀ o ∈ ops.toList, chkOper N o = true := by simp only [chkCode, List.all_eq_true] at h1; exact h1
      exact vdraw_of_plan hmix (fun j o ho => hops o (by
        obtain ⟨hj, rfl⟩ := Array.getElem?_eq_some_iff.1 ho
        simp)) h2 (xdr_sound hc hq _ _ _ _ hx)
  | seq a b iha ihb =>
    intro h1 h2 Q fr h x fr' h' hx hq
    simp only [chkCode, Bool.and_eq_true] at h1
    simp only [chkPlans, Bool.and_eq_true] at h2
    simp only [xcode] at hx
    split at hx
    · rename_i fr2 h2' ha
      exact iha h1.1 h2.1 _ _ _ _ _ _ ha (ihb h1.2 h2.2 Q _ _ _ _ _ hx hq)
    · rename_i r hne
      refine iha h1.1 h2.1 _ _ _ _ _ _ hx ?_
      cases x with
      | normal => exact absurd hx (hne _ _)
      | _ => exact hq
  | cond c a b iha ihb =>
    intro h1 h2 Q fr h x fr' h' hx hq
    simp only [chkCode, Bool.and_eq_true] at h1
    simp only [chkPlans, Bool.and_eq_true] at h2
    simp only [xcode] at hx
    simp only [vwp]
    split at hx
    · rename_i t ht
      simp only [ht]
      split
      · rename_i htt
        rw [if_pos htt] at hx
        exact iha h1.1.2 h2.1 Q _ _ _ _ _ hx hq
      · rename_i htt
        rw [if_neg htt] at hx
        exact ihb h1.2 h2.2 Q _ _ _ _ _ hx hq
    · cases hx
  | block id c ih =>
    intro h1 h2 Q fr h x fr' h' hx hq
    simp only [chkCode] at h1
    simp only [chkPlans] at h2
    simp only [xcode] at hx
    split at hx
    · rename_i i fr2 h2' ha
      split at hx
      · rename_i hi
        cases hx
        refine ih h1 h2 _ _ _ _ _ _ ha ?_
        simp only [VX.inBlock]
        rw [if_pos hi]; exact hq
      · rename_i hi
        cases hx
        refine ih h1 h2 _ _ _ _ _ _ ha ?_
        simp only [VX.inBlock]
        rw [if_neg hi]; exact hq
    · rename_i r hne
      refine ih h1 h2 _ _ _ _ _ _ hx ?_
      cases x with
      | exit i => exact absurd hx (hne _ _ _)
      | _ => exact hq
  | scope => intro _ _ Q fr h x fr' h' hx; cases hx
  | loop c ih =>
    intro h1 h2 Q fr h x fr' h' hx hq
    simp only [chkCode] at h1
    simp only [chkPlans] at h2
    simp only [xcode] at hx
    have key : ∀ (m : Nat) (fr : Fr) (h : VHeap), xloop (xcode P e T n c) m fr h = some (x, fr', h') → vloop (vwp P N c) Q m fr h := by
      intro m
      induction m with
      | zero => intro fr h hx; cases hx
      | succ m ihm =>
        intro fr h hx
        simp only [xloop] at hx
        split at hx
        · rename_i fr2 h2' ha
          exact ih h1 h2 _ _ _ _ _ _ ha (ihm _ _ hx)
        · rename_i r hne
          refine ih h1 h2 _ _ _ _ _ _ hx ?_
          cases x with
          | normal => exact absurd hx (hne _ _)
          | _ => exact hq
    exact ⟨n, key n _ _ hx⟩

/-- Is all of a function as it must be? -/
def chkAll (P : Program) (T : FuncId → Nat → Plan) (f : FuncId) : Bool :=
  match P.funcs[f]? with
  | some fn => match fn.body with
    | some c => !(fn.name == "runtime.NumGoroutine") && chkCode ⟨fn.ntmps, []⟩ c && chkPlans (T f) c
    | none => false
  | none => false

/-- A round. -/
def xround (P : Program) (e : XEnv) (T : FuncId → Nat → Plan) (n : Nat) : XYield := fun o args h =>
  match h.get o with
  | some (.loop L) =>
    if (decide (args.length = L.ps.size) && L.ps.toList.all (fun t => decide (t < L.n)) && chkCode ⟨L.n, []⟩ L.assign && chkCode ⟨L.n, []⟩ L.body && (chkPlans (T L.fn) L.assign && chkPlans (T L.fn) L.body)) = true then
      match xcode P e (T L.fn) n L.assign (vputs (L.ps.toList.zip args) L.fr) h with
      | some (.normal, fr1, h1) => match vbegin o h1 with
        | some h2 => match xcode P e (T L.fn) n L.body fr1 h2 with
          | some (x, _, h3) => match vjump x with
            | some j => match vendRound o j h3 with
              | some h4 => some (.bool j.isNone, h4)
              | none => none
            | none => none
          | none => none
        | none => none
      | _ => none
    else none
  | _ => none

theorem xround_sound {e : XEnv} (hc : ESound P e) (hmix : P.follows .mixedOrders = true) {T : FuncId → Nat → Plan} {n : Nat} : YSound P (xround P e T n) := by
  intro o args h v h' hx
  refine vyields_of_round ?_
  unfold xround at hx
  unfold vround
  split at hx
  · rename_i L hL
    simp only [hL]
    split at hx
    · rename_i hk
      rw [Bool.and_eq_true] at hk
      obtain ⟨hk1, hk2⟩ := hk
      rw [Bool.and_eq_true] at hk2
      have hk3 := hk1
      simp only [Bool.and_eq_true] at hk3
      refine ⟨hk1, ?_⟩
      split at hx
      · rename_i fr1 h1 ha
        refine xcode_sound hc hmix L.assign hk3.1.2 hk2.1 _ _ _ _ _ _ ha ?_
        simp only [VX.then]
        split at hx
        · rename_i h2 hb
          simp only [hb]
          split at hx
          · rename_i x fr2 h3 hbody
            refine xcode_sound hc hmix L.body hk3.2 hk2.2 _ _ _ _ _ _ hbody ?_
            split at hx
            · rename_i j hj
              simp only [hj]
              split at hx
              · rename_i h4 he
                cases hx
                simp only [he]
                exact ⟨trivial, trivial⟩
              · cases hx
            · cases hx
          · cases hx
        · cases hx
      · cases hx
    · cases hx
  · cases hx

/-! ## Spines -/

abbrev XResS := Option (VX × List DItem × Fr × VHeap)

def xopsS (P : Program) (e : XEnv) (ops : Array Oper) : List Oper → List DItem → Fr → VHeap → XResS
  | [], ds, fr, h => some (.normal, ds, fr, h)
  | o :: rest, ds, fr, h =>
    if vwant ops fr o = true then
      match isDefer o with
      | some c => match vcallee fr c with
        | some (f, args) => xopsS P e ops rest (.call f args :: ds) (put fr o.dst .undef) h
        | none => none
      | none => match xstep P e o fr h with
        | some (.next fr' h') => xopsS P e ops rest ds fr' h'
        | some (.panic v h') => some (.panic v, ds, fr, h')
        | none => none
    else xopsS P e ops rest ds (put fr o.dst .undef) h

theorem xopsS_sound {e : XEnv} (hc : ESound P e) {ops : Array Oper} {Q : QS} {x : VX} {ds' : List DItem} {fr' : Fr} {h' : VHeap} (hq : Q x ds' fr' h') :
    ∀ (l : List Oper) (ds : List DItem) (fr : Fr) (h : VHeap), xopsS P e ops l ds fr h = some (x, ds', fr', h') → vopsS P ops Q l ds fr h := by
  intro l
  induction l with
  | nil => intro ds fr h hx; cases hx; exact hq
  | cons o l ih =>
    intro ds fr h hx
    simp only [xopsS] at hx
    simp only [vopsS]
    split
    · rename_i hw
      rw [if_pos hw] at hx
      split at hx
      · rename_i c hd
        simp only [hd]
        split at hx
        · rename_i f args hcal
          simp only [hcal]
          exact ih _ _ _ hx
        · cases hx
      · rename_i hd
        simp only [hd]
        split at hx
        · rename_i fr2 h2 hs
          exact xstep_sound hc hs (ih _ _ _ hx)
        · rename_i v h2 hs
          cases hx
          exact xstep_sound hc hs hq
        · cases hx
    · rename_i hw
      rw [if_neg hw] at hx
      exact ih _ _ _ hx

def xjumped (ds : List DItem) (fr : Fr) (h : VHeap) : Option Code → XResS
  | none => some (.normal, ds, fr, h)
  | some .ret => some (.ret, ds, fr, h)
  | some (.exit id) => some (.exit id, ds, fr, h)
  | some _ => none

theorem xjumped_sound {Q : QS} {ds : List DItem} {fr : Fr} {h : VHeap} {j : Option Code} {x : VX} {ds' : List DItem} {fr' : Fr} {h' : VHeap} (hx : xjumped ds fr h j = some (x, ds', fr', h')) (hq : Q x ds' fr' h') : vjumped Q ds fr h j := by
  unfold xjumped at hx
  split at hx <;> cases hx <;> exact hq

def xrange (P : Program) (e : XEnv) (N : Fm) (fn : Nat) (g : Operand) (ps : Array Tmp) (assign body : Code) (ds : List DItem) (fr : Fr) (h : VHeap) : XResS :=
  match ev fr g with
  | .fn (.func f) first cap =>
    if hasBody P f = true then
      match e.call f (first ++ [.yld h.next] ++ cap) (h.push (.loop { st := .ready, pend := none, fr, n := N.n, ps, assign, body, fn })) with
      | some (.panic v, h2) => some (.panic v, .mark :: ds, fr, h2)
      | some (.ret _, h2) => match vendLoop h.next h2 with
        | some (j, h3) => xjumped (.mark :: ds) fr h3 j
        | none => none
      | none => none
    else none
  | _ => none

theorem xrange_sound {e : XEnv} (hc : ESound P e) {N : Fm} {fn : Nat} {g : Operand} {ps : Array Tmp} {assign body : Code} {ds : List DItem} {fr : Fr} {h : VHeap} {Q : QS} {x : VX} {ds' : List DItem} {fr' : Fr} {h' : VHeap}
    (hx : xrange P e N fn g ps assign body ds fr h = some (x, ds', fr', h')) (hq : Q x ds' fr' h') : vrange P N fn g ps assign body Q ds fr h := by
  unfold xrange at hx
  unfold vrange
  split at hx
  · rename_i f first cap hg
    simp only [hg]
    split at hx
    · rename_i hb
      refine ⟨hb, ?_⟩
      split at hx
      · rename_i v h2 hcall
        cases hx
        refine (hc.call _ _ _ _ _ hcall).mono ?_
        rintro r' h'' ⟨rfl, rfl⟩
        exact hq
      · rename_i v h2 hcall
        refine (hc.call _ _ _ _ _ hcall).mono ?_
        rintro r' h'' ⟨rfl, rfl⟩
        simp only
        split at hx
        · rename_i j h3 he
          simp only [he]
          exact xjumped_sound hx hq
        · cases hx
      · cases hx
    · cases hx
  · cases hx

def xspine (P : Program) (e : XEnv) (T : Nat → Plan) (n : Nat) (N : Fm) (fn : Nat) : Code → List DItem → Fr → VHeap → XResS
  | .seq a b, ds, fr, h =>
    match xspine P e T n N fn a ds fr h with
    | some (.normal, ds', fr', h') => xspine P e T n N fn b ds' fr' h'
    | r => r
  | .block id c, ds, fr, h =>
    match xspine P e T n N fn c ds fr h with
    | some (.exit i, ds', fr', h') => if i = id then some (.normal, ds', fr', h') else some (.exit i, ds', fr', h')
    | r => r
  | .region _ ops false, ds, fr, h => xopsS P e ops ops.toList ds fr h
  | .rangeFunc g ps assign body, ds, fr, h => xrange P e N fn g ps assign body ds fr h
  | c, ds, fr, h => match xcode P e T n c fr h with
    | some (x, fr', h') => some (x, ds, fr', h')
    | none => none

theorem xspine_sound {e : XEnv} (hc : ESound P e) (hmix : P.follows .mixedOrders = true) {N : Fm} {T : Nat → Plan} {n : Nat} {fn : Nat} : ∀ (c : Code), chkSpine N c = true → chkPlans T c = true →
    ∀ (Q : QS) (ds : List DItem) (fr : Fr) (h : VHeap) (x : VX) (ds' : List DItem) (fr' : Fr) (h' : VHeap), xspine P e T n N fn c ds fr h = some (x, ds', fr', h') → Q x ds' fr' h' → vwpS P N fn c Q ds fr h := by
  intro c
  have other : ∀ c, chkCode N c = true → chkPlans T c = true → ∀ (Q : QS) (ds : List DItem) (fr : Fr) (h : VHeap) (x : VX) (ds' : List DItem) (fr' : Fr) (h' : VHeap),
      (match xcode P e T n c fr h with | some (x, fr', h') => some (x, ds, fr', h') | none => none) = some (x, ds', fr', h') → Q x ds' fr' h' → vwp P N c (fun x fr h => Q x ds fr h) fr h := by
    intro c h1 h2 Q ds fr h x ds' fr' h' hx hq
    split at hx
    · rename_i x2 fr2 h2' hcode
      cases hx
      exact xcode_sound hc hmix c h1 h2 _ _ _ _ _ _ hcode hq
    · cases hx
  induction c with
  | region id ops draw =>
    intro h1 h2 Q ds fr h x ds' fr' h' hx hq
    cases draw with
    | false => exact xopsS_sound hc hq _ _ _ _ hx
    | true => exact other (.region id ops true) h1 h2 Q ds fr h x ds' fr' h' hx hq
  | seq a b iha ihb =>
    intro h1 h2 Q ds fr h x ds' fr' h' hx hq
    simp only [chkSpine, Bool.and_eq_true] at h1
    simp only [chkPlans, Bool.and_eq_true] at h2
    simp only [xspine] at hx
    split at hx
    · rename_i ds2 fr2 h2' ha
      exact iha h1.1 h2.1 _ _ _ _ _ _ _ _ ha (ihb h1.2 h2.2 Q _ _ _ _ _ _ _ hx hq)
    · rename_i r hne
      refine iha h1.1 h2.1 _ _ _ _ _ _ _ _ hx ?_
      cases x with
      | normal => exact absurd hx (hne _ _ _)
      | _ => exact hq
  | block id c ih =>
    intro h1 h2 Q ds fr h x ds' fr' h' hx hq
    simp only [chkSpine] at h1
    simp only [chkPlans] at h2
    simp only [xspine] at hx
    split at hx
    · rename_i i ds2 fr2 h2' ha
      split at hx
      · rename_i hi
        cases hx
        refine ih h1 h2 _ _ _ _ _ _ _ _ ha ?_
        simp only [VX.inBlockS]
        rw [if_pos hi]; exact hq
      · rename_i hi
        cases hx
        refine ih h1 h2 _ _ _ _ _ _ _ _ ha ?_
        simp only [VX.inBlockS]
        rw [if_neg hi]; exact hq
    · rename_i r hne
      refine ih h1 h2 _ _ _ _ _ _ _ _ hx ?_
      cases x with
      | exit i => exact absurd hx (hne _ _ _ _)
      | _ => exact hq
  | rangeFunc g ps assign body => intro h1 h2 Q ds fr h x ds' fr' h' hx hq; exact xrange_sound hc hx hq
  | skip => intro h1 h2 Q ds fr h x ds' fr' h' hx hq; exact other _ h1 h2 Q ds fr h x ds' fr' h' hx hq
  | label l => intro h1 h2 Q ds fr h x ds' fr' h' hx hq; exact other _ h1 h2 Q ds fr h x ds' fr' h' hx hq
  | exit id => intro h1 h2 Q ds fr h x ds' fr' h' hx hq; exact other _ h1 h2 Q ds fr h x ds' fr' h' hx hq
  | ret => intro h1 h2 Q ds fr h x ds' fr' h' hx hq; exact other _ h1 h2 Q ds fr h x ds' fr' h' hx hq
  | goto => intro h1 h2 Q ds fr h x ds' fr' h' hx hq; exact other _ h1 h2 Q ds fr h x ds' fr' h' hx hq
  | refuse => intro h1 h2 Q ds fr h x ds' fr' h' hx hq; exact other _ h1 h2 Q ds fr h x ds' fr' h' hx hq
  | cond c x y => intro h1 h2 Q ds fr h x ds' fr' h' hx hq; exact other _ h1 h2 Q ds fr h x ds' fr' h' hx hq
  | loop c => intro h1 h2 Q ds fr h x ds' fr' h' hx hq; exact other _ h1 h2 Q ds fr h x ds' fr' h' hx hq
  | scope c => intro h1 h2 Q ds fr h x ds' fr' h' hx hq; exact other _ h1 h2 Q ds fr h x ds' fr' h' hx hq

/-! ## Deferred calls -/

/-- A body that has ended by itself: its result, and the heap. -/
def xended (P : Program) (rs : List ResultVar) : XRes → Option (VV × VHeap)
  | some (.normal, fr, h) | some (.ret, fr, h) => match vresult P rs fr h with | some v => some (v, h) | none => none
  | _ => none

def xdefer (P : Program) (e : XEnv) (good : FuncId → Bool) (T : FuncId → Nat → Plan) (n : Nat) (f : FuncId) (args : List VV) (pan : Option VV) (h : VHeap) : Option (Option VV × VHeap) :=
  if good f = true then
    match P.funcs[f]? with
    | some fn => match fn.body with
      | some c =>
        if args.length ≤ fn.ntmps then
          match recShape c with
          | some (o0, o1, rest) =>
            if (isRecover o0 && o1.guard.isNone) = true then
              match xplain P o1 (put (vframe args) o0.dst (pan.getD .nili)) h with
              | some (.next fr h1) => match xended P fn.results.toList (xcode P e (T f) n rest fr h1) with
                | some (_, h2) => some (none, h2)
                | none => none
              | _ => none
            else none
          | none => match xended P fn.results.toList (xcode P e (T f) n c (vframe args) h) with
            | some (_, h2) => some (pan, h2)
            | none => none
        else none
      | none => none
    | none => none
  else none

theorem xended_sound {rs : List ResultVar} {r : XRes} {v : VV} {h : VHeap} (hx : xended P rs r = some (v, h)) : ∃ x fr, r = some (x, fr, h) ∧ (x = .normal ∨ x = .ret) ∧ vresult P rs fr h = some v := by
  unfold xended at hx
  split at hx
  · split at hx
    · rename_i hv; cases hx; exact ⟨_, _, rfl, .inl rfl, hv⟩
    · cases hx
  · split at hx
    · rename_i hv; cases hx; exact ⟨_, _, rfl, .inr rfl, hv⟩
    · cases hx
  · cases hx

theorem xdefer_sound {e : XEnv} (hc : ESound P e) (hmix : P.follows .mixedOrders = true) {good : FuncId → Bool} {T : FuncId → Nat → Plan} (hgood : ∀ f, good f = true → chkAll P T f = true) {n : Nat} {f : FuncId} {args : List VV} {pan : Option VV}
    {h : VHeap} {pan' : Option VV} {h' : VHeap} (hx : xdefer P e good T n f args pan h = some (pan', h')) {R : Option VV → VHeap → Prop} (hR : R pan' h') : VDef P f args pan h R := by
  unfold xdefer at hx
  split at hx
  · rename_i hg
    have hk := hgood f hg
    unfold chkAll at hk
    split at hx
    · rename_i fn hf
      simp only [hf] at hk
      split at hx
      · rename_i c hb
        simp only [hb, Bool.and_eq_true] at hk
        obtain ⟨⟨hk1, hk2⟩, hk3⟩ := hk
        split at hx
        · rename_i hlen
          split at hx
          · rename_i o0 o1 rest hs
            split at hx
            · rename_i hrec
              split at hx
              · rename_i fr h1 hpl
                split at hx
                · rename_i v h2 hen
                  cases hx
                  refine vrec_of_body hf hb hs ?_
                  obtain ⟨x, fr2, hcode, hxx, hres⟩ := xended_sound hen
                  simp only [Bool.and_eq_true] at hrec
                  unfold recShape at hs
                  split at hs
                  · cases hs
                    simp only [chkCode, Bool.and_eq_true, List.all_cons, List.all_nil, Bool.and_true] at hk2
                    simp only [chkPlans, Bool.and_eq_true] at hk3
                    refine ⟨by simp only [Bool.and_eq_true, decide_eq_true_eq]; exact ⟨⟨⟨⟨⟨⟨hk1, hrec.1⟩, hrec.2⟩, hk2.1.1⟩, hk2.1.2⟩, hk2.2⟩, hlen⟩, ?_⟩
                    refine xplain_sound (Q := fun _ _ _ => False) hpl ?_
                    refine xcode_sound hc hmix _ hk2.2 hk3.2 _ _ _ _ _ _ hcode ?_
                    refine ⟨?_, hR⟩
                    rcases hxx with rfl | rfl
                    · simp [hres]
                    · simp [hres]
                  · cases hs
                · cases hx
              · cases hx
            · cases hx
          · split at hx
            · rename_i v h2 hen
              cases hx
              obtain ⟨x, fr2, hcode, hxx, hres⟩ := xended_sound hen
              refine vdef_of_body (by simp only [chkFunc, hf, hb, Bool.and_eq_true, decide_eq_true_eq]; exact ⟨⟨hk1, hk2⟩, hlen⟩) ?_
              unfold vbody
              simp only [hf, hb]
              refine xcode_sound hc hmix c hk2 hk3 _ _ _ _ _ _ hcode ?_
              rcases hxx with rfl | rfl
              · simp only [VBody, hres]; exact hR
              · simp only [VBody, hres]; exact hR
            · cases hx
        · cases hx
      · cases hx
    · cases hx
  · cases hx

def xleave (P : Program) (e : XEnv) (good : FuncId → Bool) (T : FuncId → Nat → Plan) (n : Nat) : List DItem → Option VV → VHeap → Option (Option VV × VHeap)
  | [], pan, h => some (pan, h)
  | .mark :: ds, pan, h => xleave P e good T n ds pan h
  | .call f args :: ds, pan, h => match xdefer P e good T n f args pan h with
    | some (pan', h') => xleave P e good T n ds pan' h'
    | none => none

theorem xleave_sound {e : XEnv} (hc : ESound P e) (hmix : P.follows .mixedOrders = true) {good : FuncId → Bool} {T : FuncId → Nat → Plan} (hgood : ∀ f, good f = true → chkAll P T f = true) {n : Nat} {R : Option VV → VHeap → Prop} {pan' : Option VV} {h' : VHeap} (hR : R pan' h') :
    ∀ (ds : List DItem) (pan : Option VV) (h : VHeap), xleave P e good T n ds pan h = some (pan', h') → vleave P ds pan h R := by
  intro ds
  induction ds with
  | nil => intro pan h hx; cases hx; exact hR
  | cons d ds ih =>
    intro pan h hx
    cases d with
    | mark => exact ih _ _ hx
    | call f args =>
      simp only [xleave] at hx
      split at hx
      · rename_i pan2 h2 hd
        exact xdefer_sound hc hmix hgood hd (ih _ _ hx)
      · cases hx

/-! ## Calls -/

/-- Is all of a function with a spine as it must be? -/
def chkAllS (P : Program) (T : FuncId → Nat → Plan) (f : FuncId) : Bool :=
  match P.funcs[f]? with
  | some fn => match fn.body with
    | some (.seq r0 rest) => !(fn.name == "runtime.NumGoroutine") && chkCode ⟨fn.ntmps, []⟩ r0 && chkSpine ⟨fn.ntmps, keepOf fn⟩ rest && (chkPlans (T f) r0 && chkPlans (T f) rest)
    | _ => false
  | none => false

/-- The functions known to be right: plainly, and with spines. -/
structure XGood where
  plain : FuncId → Bool
  spine : FuncId → Bool

structure GSound (P : Program) (T : FuncId → Nat → Plan) (g : XGood) : Prop where
  plain : ∀ f, g.plain f = true → chkAll P T f = true
  spine : ∀ f, g.spine f = true → chkAllS P T f = true

def xout (P : Program) (fn : Func) (ok : Bool) (fr : Fr) : Option (Option VV × VHeap) → Option (VEnd × VHeap)
  | some (none, h) => if ok = true then match vresult P fn.results.toList fr h with | some v => some (.ret v, h) | none => none else none
  | some (some v, h) => some (.panic v, h)
  | none => none

theorem xout_sound {fn : Func} {ok : Bool} {fr : Fr} {pan : Option VV} {h : VHeap} {r : VEnd} {h' : VHeap} (hx : xout P fn ok fr (some (pan, h)) = some (r, h')) : VOut P fn ok fr (fun r' h'' => r' = r ∧ h'' = h') pan h := by
  cases pan with
  | none =>
    simp only [xout] at hx
    split at hx
    · rename_i hok
      split at hx
      · rename_i v hv
        cases hx
        exact ⟨hok, by simp only [hv]; exact ⟨trivial, trivial⟩⟩
      · cases hx
    · cases hx
  | some v => cases hx; exact ⟨rfl, rfl⟩

/-- A function with a spine. -/
def xbodyS (P : Program) (e : XEnv) (good : FuncId → Bool) (T : FuncId → Nat → Plan) (n : Nat) (f : FuncId) (fn : Func) (r0 rest : Code) (args : List VV) (h : VHeap) : Option (VEnd × VHeap) :=
  match xcode P e (T f) n r0 (vframe args) h with
  | some (.normal, fr0, h0) => match xspine P e (T f) n ⟨fn.ntmps, keepOf fn⟩ f rest [] fr0 h0 with
    | some (.normal, ds, fr, h1) => xout P fn true fr (xleave P e good T n ds none h1)
    | some (.ret, ds, fr, h1) => xout P fn true fr (xleave P e good T n ds none h1)
    | some (.panic v, ds, _, h1) => xout P fn (allCells fn) fr0 (xleave P e good T n ds (some v) h1)
    | _ => none
  | _ => none

theorem xbodyS_sound {e : XEnv} (hc : ESound P e) (hmix : P.follows .mixedOrders = true) {good : FuncId → Bool} {T : FuncId → Nat → Plan} (hgood : ∀ f, good f = true → chkAll P T f = true) {n : Nat} {f : FuncId} {fn : Func} {r0 rest : Code}
    (hf : P.funcs[f]? = some fn) (hb : fn.body = some (.seq r0 rest)) (hk : chkAllS P T f = true) {args : List VV} (hlen : args.length ≤ fn.ntmps) {h : VHeap} {r : VEnd} {h' : VHeap} (hx : xbodyS P e good T n f fn r0 rest args h = some (r, h')) :
    VCalls P f args h fun r' h'' => r' = r ∧ h'' = h' := by
  unfold chkAllS at hk
  simp only [hf, hb, Bool.and_eq_true] at hk
  obtain ⟨⟨⟨hk1, hk2⟩, hk3⟩, hk4, hk5⟩ := hk
  refine vcalls_of_bodyS (by simp only [chkFuncS, hf, hb, Bool.and_eq_true, decide_eq_true_eq]; exact ⟨⟨⟨hk1, hk2⟩, hk3⟩, hlen⟩) ?_
  unfold vbodyS
  simp only [hf, hb]
  unfold xbodyS at hx
  have key : ∀ (ok : Bool) (fr : Fr) (ds : List DItem) (pan : Option VV) (h1 : VHeap), xout P fn ok fr (xleave P e good T n ds pan h1) = some (r, h') → vleave P ds pan h1 (VOut P fn ok fr fun r' h'' => r' = r ∧ h'' = h') := by
    intro ok fr ds pan h1 ho
    cases hl : xleave P e good T n ds pan h1 with
    | none => rw [hl] at ho; cases ho
    | some q =>
      obtain ⟨pan', h2⟩ := q
      rw [hl] at ho
      exact xleave_sound hc hmix hgood (xout_sound ho) _ _ _ hl
  split at hx
  · rename_i fr0 h0 hr0
    refine xcode_sound hc hmix r0 hk2 hk4 _ _ _ _ _ _ hr0 ?_
    simp only [VX.then]
    split at hx
    · rename_i ds fr h1 hs
      exact xspine_sound hc hmix rest hk3 hk5 _ _ _ _ _ _ _ _ hs (key _ _ _ _ _ hx)
    · rename_i ds fr h1 hs
      exact xspine_sound hc hmix rest hk3 hk5 _ _ _ _ _ _ _ _ hs (key _ _ _ _ _ hx)
    · rename_i v ds fr h1 hs
      exact xspine_sound hc hmix rest hk3 hk5 _ _ _ _ _ _ _ _ hs (key _ _ _ _ _ hx)
    · cases hx
  · cases hx

/-- Calling a function: what is known beforehand, or its body. -/
def xcallBody (P : Program) (over : XCall) (g : XGood) (T : FuncId → Nat → Plan) (n : Nat) (e : XEnv) : XCall := fun f args h =>
  match over f args h with
  | some r => some r
  | none =>
    match P.funcs[f]? with
    | some fn => match fn.body with
      | some c =>
        if args.length ≤ fn.ntmps then
          if g.plain f = true then
            match xcode P e (T f) (n + 1) c (vframe args) h with
            | some (.panic v, _, h') => some (.panic v, h')
            | some (.exit _, _, _) => none
            | some (_, fr, h') => match vresult P fn.results.toList fr h' with
              | some v => some (.ret v, h')
              | none => none
            | none => none
          else if g.spine f = true then
            match c with
            | .seq r0 rest => xbodyS P e g.plain T (n + 1) f fn r0 rest args h
            | _ => none
          else none
        else none
      | none => none
    | none => none

def xenv (P : Program) (over : XCall) (g : XGood) (T : FuncId → Nat → Plan) : Nat → XEnv
  | 0 => ⟨fun _ _ _ => none, fun _ _ _ => none⟩
  | n + 1 => ⟨xcallBody P over g T n (xenv P over g T n), xround P (xenv P over g T n) T (n + 1)⟩

def xcall (P : Program) (over : XCall) (g : XGood) (T : FuncId → Nat → Plan) (n : Nat) : XCall := (xenv P over g T n).call

theorem xcallBody_sound (hmix : P.follows .mixedOrders = true) {over : XCall} (hover : XSound P over) {g : XGood} {T : FuncId → Nat → Plan} (hg : GSound P T g) {n : Nat} {e : XEnv} (hc : ESound P e) : XSound P (xcallBody P over g T n e) := by
  intro f args h r h' hx
  simp only [xcallBody] at hx
  split at hx
  · rename_i r' ho
    cases hx
    exact hover f args h _ _ ho
  · split at hx
    · rename_i fn hf
      split at hx
      · rename_i c hb
        split at hx
        · rename_i hlen
          split at hx
          · rename_i hgp
            have hk := hg.plain f hgp
            unfold chkAll at hk
            simp only [hf, hb, Bool.and_eq_true] at hk
            refine vcalls_of_body (by simp only [chkFunc, hf, hb, Bool.and_eq_true, decide_eq_true_eq]; exact ⟨hk.1, hlen⟩) ?_
            unfold vbody
            simp only [hf, hb]
            split at hx
            · rename_i v fr2 h2 hcode
              cases hx
              exact xcode_sound hc hmix c hk.1.2 hk.2 _ _ _ _ _ _ hcode ⟨rfl, rfl⟩
            · cases hx
            · rename_i x fr2 h2 hne1 hne2 hcode
              split at hx
              · rename_i v hv
                cases hx
                refine xcode_sound hc hmix c hk.1.2 hk.2 _ _ _ _ _ _ hcode ?_
                cases x with
                | normal => simp only [VBody, hv]; exact ⟨trivial, trivial⟩
                | ret => simp only [VBody, hv]; exact ⟨trivial, trivial⟩
                | panic v' => exact (hne1 _ rfl).elim
                | exit i => exact (hne2 _ rfl).elim
              · cases hx
            · cases hx
          · split at hx
            · rename_i hgs
              split at hx
              · exact xbodyS_sound hc hmix hg.plain hf hb (hg.spine f hgs) hlen hx
              · cases hx
            · cases hx
        · cases hx
      · cases hx
    · cases hx

theorem xenv_sound (hmix : P.follows .mixedOrders = true) {over : XCall} (hover : XSound P over) {g : XGood} {T : FuncId → Nat → Plan} (hg : GSound P T g) : ∀ n, ESound P (xenv P over g T n) := by
  intro n
  induction n with
  | zero => exact ⟨(fun f args h r h' hx => by cases hx), (fun o args h v h' hx => by cases hx)⟩
  | succ n ih => exact ⟨xcallBody_sound hmix hover hg ih, xround_sound ih hmix⟩

theorem xcall_sound (hmix : P.follows .mixedOrders = true) {over : XCall} (hover : XSound P over) {g : XGood} {T : FuncId → Nat → Plan} (hg : GSound P T g) (n : Nat) : XSound P (xcall P over g T n) := (xenv_sound hmix hover hg n).call

end Go.Vv
