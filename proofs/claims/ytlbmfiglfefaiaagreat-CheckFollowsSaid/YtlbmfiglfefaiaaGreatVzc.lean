/- The executor laid out anew: calls, births, stores; code; functions. -/
import Derived.Test.YtlbmfiglfefaiaaGreatVzb
namespace Go.Vv

variable {P : Program}

/-! ## One operation -/

noncomputable def VV.fn? : VV → Option (Fn × List VV × List VV) :=
  @VV.rec (fun _ => Option (Fn × List VV × List VV)) (fun _ => Option (Fn × List VV × List VV)) (fun _ => Option (Fn × List VV × List VV)) (fun _ => none) (fun _ _ => none) (fun _ => none) none (fun _ _ => none) (fun _ _ _ => none) (fun _ => none) none
    (fun _ _ _ => none) (fun _ _ _ _ _ => none) none (fun _ => none) (fun f a b _ _ => some (f, a, b)) none (fun _ _ _ => none) none (fun _ _ => none) (fun _ _ => none) (fun _ => none) none (fun _ _ _ _ => none) none (fun _ _ _ _ => none)

theorem VV.fn?_some {x : VV} {f : Fn} {a b : List VV} (h : x.fn? = some (f, a, b)) : x = .fn f a b := by
  cases x <;> first | (cases h; rfl) | (exact absurd h (fun e => by cases e))

noncomputable def lapp {α : Type} (a b : List α) : List α := @List.rec α (fun _ => List α) b (fun x _ ih => x :: ih) a

theorem lapp_eq {α : Type} : ∀ (a b : List α), lapp a b = a ++ b := by
  intro a b
  induction a with
  | nil => rfl
  | cons x a ih => show x :: lapp a b = _; rw [ih]; rfl

noncomputable def kevs (fr : Fr) (l : List KX) : List VV := @List.rec KX (fun _ => List VV) [] (fun x _ ih => kev fr x :: ih) l

theorem kevs_eq (fr : Fr) : ∀ (l : List Operand), kevs fr (l.map kx) = l.map (ev fr) := by
  intro l
  induction l with
  | nil => rfl
  | cons x l ih => show kev fr (kx x) :: kevs fr (l.map kx) = _; rw [ih, kev_kx]; rfl

inductive KO where
  | rd (r : KR)
  | call (f : KX) (args : List KX) (o : Oper)
  | alloc (cs : List VV)
  | store1 (a v : KX) (o : Oper)
  | slow (o : Oper)

structure KOper where
  dst : Option Nat
  guard : Option (Nat × Bool)
  op : KO

noncomputable def kslow (P : Program) (e : XEnv) (o : Oper) (fr : Fr) (h : VHeap) : Option X1 := xstep P e o fr h

noncomputable def kend (dst : Option Nat) (fr : Fr) (r : VEnd) (h' : VHeap) : Option X1 :=
  @VEnd.rec (fun _ => Option X1) (fun v => some (.next (kput fr dst v) h')) (fun v => some (.panic v h')) r

/-- Other text in one cell. -/
noncomputable def lset {α : Type} (l : List α) : Nat → α → List α :=
  @List.rec α (fun _ => Nat → α → List α) (fun _ _ => []) (fun x xs ih n a => @Bool.rec (fun _ => List α) (x :: ih (Nat.pred n) a) (a :: xs) (Nat.beq n 0)) l

theorem lset_eq {α : Type} : ∀ (l : List α) (n : Nat) (a : α), lset l n a = l.set n a := by
  intro l
  induction l with
  | nil => intro n a; rfl
  | cons x l ih =>
    intro n a
    cases n with
    | zero => rfl
    | succ n => show x :: lset l n a = _; rw [ih]; rfl

/-- Is a value of one cell? (none: of several) -/
noncomputable def VV.one? : VV → Bool :=
  @VV.rec (fun _ => Bool) (fun _ => Bool) (fun _ => Bool) (fun _ => true) (fun _ _ => true) (fun _ => true) true (fun _ _ => true) (fun _ _ _ => true) (fun _ => true) true
    (fun _ _ _ => true) (fun _ _ _ _ _ => true) true (fun _ => true) (fun _ _ _ _ _ => true) true (fun _ _ _ => true) true (fun _ _ => false) (fun _ _ => false) (fun _ => true) true (fun _ _ _ _ => true) true (fun _ _ _ _ => true)

noncomputable def kstep (P : Program) (e : XEnv) (dst : Option Nat) (k : KO) : Fr → VHeap → Option X1 :=
  @KO.rec (fun _ => Fr → VHeap → Option X1)
    (fun r fr h => kopt (krd P r fr h) fun v => some (.next (kput fr dst v) h))
    (fun f args o fr h => @Option.rec (Fn × List VV × List VV) (fun _ => Option X1) (kslow P e o fr h) (fun q => @Fn.rec (fun _ => Option X1)
      (fun id => kopt (e.call id (lapp q.2.1 (lapp (kevs fr args) q.2.2)) h) fun p => kend dst fr p.1 p.2) (fun _ => kslow P e o fr h) (fun _ _ => kslow P e o fr h) (fun _ _ _ _ => kslow P e o fr h) (fun _ => kslow P e o fr h) q.1) (kev fr f).fn?)
    (fun cs fr h => some (.next (kput fr dst (.ptr h.next 0)) ⟨fsetO h.objs h.next (.cells cs), Nat.succ h.next⟩))
    (fun a v o fr h => @Option.rec KP (fun _ => Option X1) (kslow P e o fr h) (fun p => @KP.rec (fun _ => Option X1) (fun o' off => kopt (fgetO h.objs o') fun ob =>
      @VObj.rec (fun _ => Option X1) (fun c => kif (Nat.ble (Nat.succ off) (llen c 0)) (@Bool.rec (fun _ => Option X1) (kslow P e o fr h) (some (.next (kput fr dst .undef) ⟨fsetO h.objs o' (.cells (lset c off (kev fr v))), h.next⟩)) (kev fr v).one?)) (fun _ => none) none (fun _ => none) ob)
      (fun _ _ => none) p) (kev fr a).kp?)
    (fun o fr h => kslow P e o fr h) k

def compO (P : Program) (o : Oper) : KO :=
  match compR P o.op with
  | some r => .rd r
  | none => match o.op with
    | .call c => (match c.callee with
      | .value f => .call (kx f) (c.args.toList.map kx) o
      | _ => .slow o)
    | .alloc t => (match vzero P t with
      | some z => .alloc z.cells
      | none => .slow o)
    | .store t a v => if vsz P t = 1 then .store1 (kx a) (kx v) o else .slow o
    | _ => .slow o

theorem xstep_read {e : XEnv} {o : Oper} {r : KR} (hr : compR P o.op = some r) {fr : Fr} {h : VHeap} {v : VV} (hv : vread P o.op fr h = some v) : xstep P e o fr h = some (.next (put fr o.dst v) h) := by
  have hp : xplain P o fr h = some (.next (put fr o.dst v) h) := by
    unfold xplain vop
    rw [hv]
  unfold xstep
  split
  · rename_i x hop; rw [hop] at hr; simp [compR] at hr
  · rename_i c hop
    have hcv : vcallee fr c = none ∧ vyieldee fr c = none := by
      rw [hop] at hr
      unfold compR at hr
      split at hr <;> first | (rename_i heq; cases heq) | skip
      all_goals first | (constructor <;> rfl) | (cases hr)
    rw [hcv.1]
    simp only
    rw [hcv.2]
    exact hp
  · exact hp

theorem lset_over (l : List VV) (n : Nat) (a : VV) (h : n < l.length) : l.set n a = over l n [a] := by
  unfold over
  rw [List.set_eq_take_append_cons_drop, if_pos h]
  simp

theorem kstep_sound {e : XEnv} {o : Oper} {fr : Fr} {h : VHeap} {r : X1} (hx : kstep P e o.dst (compO P o) fr h = some r) : xstep P e o fr h = some r := by
  unfold compO at hx
  split at hx
  · rename_i kr hr
    have hx : kopt (krd P kr fr h) (fun v => some (.next (kput fr o.dst v) h)) = some r := hx
    obtain ⟨v, h1, h2⟩ := kopt_some hx
    rw [xstep_read hr (krd_sound hr h1), ← kput_eq]
    exact h2
  · split at hx
    · rename_i c hop
      split at hx
      · rename_i f hcl
        have hx : @Option.rec (Fn × List VV × List VV) (fun _ => Option X1) (kslow P e o fr h) (fun q => @Fn.rec (fun _ => Option X1)
          (fun id => kopt (e.call id (lapp q.2.1 (lapp (kevs fr (c.args.toList.map kx)) q.2.2)) h) fun p => kend o.dst fr p.1 p.2) (fun _ => kslow P e o fr h) (fun _ _ => kslow P e o fr h) (fun _ _ _ _ => kslow P e o fr h) (fun _ => kslow P e o fr h) q.1) (kev fr (kx f)).fn? = some r := hx
        cases hf : (kev fr (kx f)).fn? with
        | none => rw [hf] at hx; exact hx
        | some q =>
          obtain ⟨fn, first, cap⟩ := q
          rw [hf] at hx
          cases fn with
          | func id =>
            have hx : kopt (e.call id (lapp first (lapp (kevs fr (c.args.toList.map kx)) cap)) h) (fun p => kend o.dst fr p.1 p.2) = some r := hx
            obtain ⟨⟨en, h'⟩, h1, h2⟩ := kopt_some hx
            rw [kevs_eq, lapp_eq, lapp_eq] at h1
            have h3 := VV.fn?_some hf
            rw [kev_kx] at h3
            unfold xstep
            simp only [hop, vcallee, hcl, h3]
            rw [List.append_assoc, h1]
            cases en with
            | ret v =>
              have h2 : some (X1.next (kput fr o.dst v) h') = some r := h2
              rw [kput_eq] at h2
              exact h2
            | panic v => exact h2
          | method => exact hx
          | methodOf => exact hx
          | via => exact hx
          | yield => exact hx
      · exact hx
    · rename_i t hop
      split at hx
      · rename_i z hz
        have hx : some (X1.next (kput fr o.dst (.ptr h.next 0)) ⟨fsetO h.objs h.next (.cells z.cells), Nat.succ h.next⟩) = some r := hx
        rw [kput_eq, fsetO_eq] at hx
        unfold xstep xplain vop
        simp only [hop, vread, vnew, hz]
        exact hx
      · exact hx
    · rename_i t a v hop
      split at hx
      · rename_i hsz
        have hx : @Option.rec KP (fun _ => Option X1) (kslow P e o fr h) (fun p => @KP.rec (fun _ => Option X1) (fun o' off => kopt (fgetO h.objs o') fun ob =>
          @VObj.rec (fun _ => Option X1) (fun c => kif (Nat.ble (Nat.succ off) (llen c 0)) (@Bool.rec (fun _ => Option X1) (kslow P e o fr h) (some (.next (kput fr o.dst .undef) ⟨fsetO h.objs o' (.cells (lset c off (kev fr (kx v)))), h.next⟩)) (kev fr (kx v)).one?)) (fun _ => none) none (fun _ => none) ob)
          (fun _ _ => none) p) (kev fr (kx a)).kp? = some r := hx
        cases hp : (kev fr (kx a)).kp? with
        | none => rw [hp] at hx; exact hx
        | some p =>
          rw [hp] at hx
          have h3 := VV.kp?_some hp
          rw [kev_kx] at h3
          cases p with
          | iptr cs off => cases hx
          | ptr o' off =>
            obtain ⟨ob, h4, h5⟩ := kopt_some (show kopt _ _ = some r from hx)
            rw [fgetO_eq] at h4
            cases ob with
            | map => cases h5
            | dead => cases h5
            | loop => cases h5
            | cells c =>
              obtain ⟨h6, h7⟩ := kif_some (show kif _ _ = some r from h5)
              cases h8 : (kev fr (kx v)).one? with
              | false => rw [h8] at h7; exact h7
              | true =>
              rw [h8] at h7
              have h9 : some (X1.next (kput fr o.dst .undef) ⟨fsetO h.objs o' (.cells (lset c off (kev fr (kx v)))), h.next⟩) = some r := h7
              have h10 := Nat.le_of_ble_eq_true h6
              rw [llen_eq] at h10
              rw [kev_kx] at h8 h9
              rw [kput_eq, fsetO_eq, lset_eq] at h9
              have hone : (ev fr v).cells = [ev fr v] ∧ (ev fr v).isTup = false := by
                generalize ev fr v = u at h8
                cases u <;> first | exact ⟨rfl, rfl⟩ | exact absurd h8 (by intro e; cases e)
              have hget : h.get o' = some (.cells c) := h4
              have hlt : off < c.length := h10
              have hst : vstore P t (ev fr a) (ev fr v) h = some (h.set o' (.cells (over c off [ev fr v]))) := by
                have h3' : ev fr a = .ptr o' off := h3
                unfold vstore
                simp only [h3', hget, hone.1, hone.2, hsz]
                rw [if_pos ⟨rfl, by decide, by show off + 1 ≤ c.length; exact hlt, trivial⟩]
              unfold xstep xplain vop
              simp only [hop, vread, vnew, vwrite, hst, Option.map_some]
              rw [lset_over c off _ hlt] at h9
              exact h9
      · exact hx
    · exact hx

/-! ## Code -/

/-- An operation of a drawn region: whether it may be moved, and what must stand still behind it. -/
structure KD where
  i : Nat
  mov : Bool
  new : Bool
  pend : List Nat
  op : KOper

inductive KCode where
  | nop
  | ops (l : List KOper)
  | draw (orig : Array Oper) (l : List KD)
  | seq (a b : KCode)
  | cond (c : KX) (a b : KCode)
  | block (id : Nat) (c : KCode)
  | loop (c : KCode)
  | exit (id : Nat)
  | ret
  | bad

noncomputable def kwant (g : Option (Nat × Bool)) (fr : Fr) : Bool :=
  @Option.rec (Nat × Bool) (fun _ => Bool) true (fun g => @Option.rec Bool (fun _ => Bool) false (fun b => @Bool.rec (fun _ => Bool) (@Bool.rec (fun _ => Bool) true false g.2) g.2 b) (fat fr g.1).bool?) g

def compG (ops : Array Oper) (o : Oper) : Option (Option (Nat × Bool)) :=
  match o.guard with
  | none => some none
  | some (j, b) => match (ops[j]?).bind (·.dst) with
    | some d => some (some (d, b))
    | none => none

theorem kwant_eq {ops : Array Oper} {o : Oper} {g : Option (Nat × Bool)} (hg : compG ops o = some g) (fr : Fr) : kwant g fr = vwant ops fr o := by
  unfold compG at hg
  unfold vwant Region.wanted
  split at hg
  · rename_i hn
    cases hg
    simp only [hn]
    rfl
  · rename_i j b hn
    split at hg
    · rename_i d hd
      cases hg
      simp only [hn, vyield, hd]
      show @Option.rec Bool (fun _ => Bool) false _ (fat fr d).bool? = _
      rw [fat_eq]
      cases hb : (fr.at d).bool? with
      | none =>
        show false = _
        generalize fr.at d = x at hb
        cases x <;> first | rfl | (exact absurd hb (by intro e; cases e))
      | some b' =>
        rw [VV.bool?_some hb]
        cases b <;> cases b' <;> rfl
    · cases hg

def compOper (P : Program) (ops : Array Oper) (o : Oper) : Option KOper :=
  match compG ops o with
  | some g => some ⟨o.dst, g, compO P o⟩
  | none => none

def compOpers (P : Program) (ops : Array Oper) : List Oper → Option (List KOper)
  | [] => some []
  | o :: l => match compOper P ops o, compOpers P ops l with
    | some k, some ks => some (k :: ks)
    | _, _ => none

def compPlan (P : Program) (ops : Array Oper) : Plan → Option (List KD)
  | [] => some []
  | (i, pend) :: l => match compOper P ops (opAt ops i), compPlan P ops l with
    | some k, some ks => some (⟨i, isMov (opAt ops i).op, isNew (opAt ops i).op, pend, k⟩ :: ks)
    | _, _ => none

def comp (P : Program) (T : Nat → Plan) : Code → KCode
  | .skip => .nop
  | .label _ => .nop
  | .region _ ops false => match compOpers P ops ops.toList with | some l => .ops l | none => .bad
  | .region id ops true => match compPlan P ops (T id) with | some l => .draw ops l | none => .bad
  | .seq a b => .seq (comp P T a) (comp P T b)
  | .cond c a b => .cond (kx c) (comp P T a) (comp P T b)
  | .block id c => .block id (comp P T c)
  | .loop c => .loop (comp P T c)
  | .exit id => .exit id
  | .ret => .ret
  | _ => .bad

noncomputable def kops (P : Program) (e : XEnv) (l : List KOper) : Fr → VHeap → XRes :=
  @List.rec KOper (fun _ => Fr → VHeap → XRes) (fun fr h => some (.normal, fr, h))
    (fun o _ ih fr h => @Bool.rec (fun _ => XRes) (ih (kput fr o.dst .undef) h) (@Option.rec X1 (fun _ => XRes) none (fun r => @X1.rec (fun _ => XRes) (fun fr' h' => ih fr' h') (fun v h' => some (.panic v, fr, h')) r) (kstep P e o.dst o.op fr h)) (kwant o.guard fr)) l

noncomputable def kdraw (P : Program) (e : XEnv) (ops : Array Oper) (l : List KD) : List (Nat × Nat) → Fr → VHeap → XRes :=
  @List.rec KD (fun _ => List (Nat × Nat) → Fr → VHeap → XRes) (fun _ fr h => some (.normal, fr, h))
    (fun d _ ih ids fr h => @Bool.rec (fun _ => XRes) (ih ids (kput fr d.op.dst .undef) h)
      (@Bool.rec (fun _ => XRes)
        (@Option.rec X1 (fun _ => XRes) none (fun r => @X1.rec (fun _ => XRes)
          (fun fr' h' => @Bool.rec (fun _ => XRes) none (ih ids fr' h') (@List.rec Nat (fun _ => Bool) true (fun _ _ _ => xstable P ops ids h fr' h' d.pend) d.pend)) (fun v h' => some (.panic v, fr, h')) r) (kstep P e d.op.dst d.op.op fr h))
        (@Bool.rec (fun _ => XRes)
          (@KO.rec (fun _ => XRes) (fun r => kopt (krd P r fr h) fun v => ih ids (kput fr d.op.dst v) h)
            (fun _ _ o => kopt (vread P o.op fr h) fun v => ih ids (kput fr d.op.dst v) h) (fun _ => none) (fun _ _ o => kopt (vread P o.op fr h) fun v => ih ids (kput fr d.op.dst v) h) (fun o => kopt (vread P o.op fr h) fun v => ih ids (kput fr d.op.dst v) h) d.op.op)
          (kopt (vnew P (opAt ops d.i).op fr) fun p => ih ((d.i, h.next) :: ids) (kput fr d.op.dst (p.1 h.next)) (h.push p.2))
          d.new)
        d.mov)
      (kwant d.op.guard fr)) l

noncomputable def kloop (body : Fr → VHeap → XRes) (n : Nat) : Fr → VHeap → XRes :=
  @Nat.rec (fun _ => Fr → VHeap → XRes) (fun _ _ => none)
    (fun _ ih fr h => kopt (body fr h) fun r => @VX.rec (fun _ => XRes) (ih r.2.1 r.2.2) (fun id => some (.exit id, r.2.1, r.2.2)) (some (.ret, r.2.1, r.2.2)) (fun v => some (.panic v, r.2.1, r.2.2)) r.1) n

noncomputable def krun (P : Program) (e : XEnv) (n : Nat) (c : KCode) : Fr → VHeap → XRes :=
  @KCode.rec (fun _ => Fr → VHeap → XRes)
    (fun fr h => some (.normal, fr, h))
    (fun l => kops P e l)
    (fun ops l => kdraw P e ops l [])
    (fun _ _ iha ihb fr h => kopt (iha fr h) fun r => @VX.rec (fun _ => XRes) (ihb r.2.1 r.2.2) (fun id => some (.exit id, r.2.1, r.2.2)) (some (.ret, r.2.1, r.2.2)) (fun v => some (.panic v, r.2.1, r.2.2)) r.1)
    (fun c _ _ iha ihb fr h => kopt (kev fr c).bool? fun t => @Bool.rec (fun _ => XRes) (ihb fr h) (iha fr h) t)
    (fun id _ ih fr h => kopt (ih fr h) fun r => @VX.rec (fun _ => XRes) (some (.normal, r.2.1, r.2.2)) (fun id' => @Bool.rec (fun _ => XRes) (some (.exit id', r.2.1, r.2.2)) (some (.normal, r.2.1, r.2.2)) (Nat.beq id' id)) (some (.ret, r.2.1, r.2.2)) (fun v => some (.panic v, r.2.1, r.2.2)) r.1)
    (fun _ ih => kloop ih n)
    (fun id fr h => some (.exit id, fr, h))
    (fun fr h => some (.ret, fr, h))
    (fun _ _ => none) c

theorem kops_sound {e : XEnv} {ops : Array Oper} : ∀ (l : List Oper) (ks : List KOper), compOpers P ops l = some ks → ∀ (fr : Fr) (h : VHeap) (r : VX × Fr × VHeap), kops P e ks fr h = some r → xops P e ops l fr h = some r := by
  intro l
  induction l with
  | nil => intro ks hk fr h r hx; cases hk; exact hx
  | cons o l ih =>
    intro ks hk fr h r hx
    simp only [compOpers] at hk
    split at hk
    · rename_i k ks' h1 h2
      cases hk
      unfold compOper at h1
      split at h1
      · rename_i g hg
        cases h1
        have hx : @Bool.rec (fun _ => XRes) (kops P e ks' (kput fr o.dst .undef) h) (@Option.rec X1 (fun _ => XRes) none (fun r => @X1.rec (fun _ => XRes) (fun fr' h' => kops P e ks' fr' h') (fun v h' => some (.panic v, fr, h')) r) (kstep P e o.dst (compO P o) fr h)) (kwant g fr) = some r := hx
        rw [kwant_eq hg] at hx
        simp only [xops]
        cases hw : vwant ops fr o with
        | false =>
          rw [hw] at hx
          rw [if_neg (by simp), ← kput_eq]
          exact ih ks' h2 _ _ _ hx
        | true =>
          rw [hw] at hx
          rw [if_pos rfl]
          have hx : @Option.rec X1 (fun _ => XRes) none (fun r => @X1.rec (fun _ => XRes) (fun fr' h' => kops P e ks' fr' h') (fun v h' => some (.panic v, fr, h')) r) (kstep P e o.dst (compO P o) fr h) = some r := hx
          cases hs : kstep P e o.dst (compO P o) fr h with
          | none => rw [hs] at hx; cases hx
          | some r1 =>
            rw [hs] at hx
            rw [kstep_sound hs]
            cases r1 with
            | next fr' h' => exact ih ks' h2 _ _ _ hx
            | panic v h' => exact hx
      · cases h1
    · cases hk

theorem kdraw_sound {e : XEnv} {ops : Array Oper} : ∀ (l : Plan) (ks : List KD), compPlan P ops l = some ks → ∀ (ids : List (Nat × Nat)) (fr : Fr) (h : VHeap) (r : VX × Fr × VHeap), kdraw P e ops ks ids fr h = some r → xdr P e ops l ids fr h = some r := by
  intro l
  induction l with
  | nil => intro ks hk ids fr h r hx; cases hk; exact hx
  | cons ip l ih =>
    obtain ⟨i, pend⟩ := ip
    intro ks hk ids fr h r hx
    simp only [compPlan] at hk
    split at hk
    · rename_i k ks' h1 h2
      cases hk
      unfold compOper at h1
      split at h1
      · rename_i g hg
        cases h1
        generalize ho : opAt ops i = o at *
        have hx : @Bool.rec (fun _ => XRes) (kdraw P e ops ks' ids (kput fr o.dst .undef) h)
          (@Bool.rec (fun _ => XRes)
            (@Option.rec X1 (fun _ => XRes) none (fun r => @X1.rec (fun _ => XRes)
              (fun fr' h' => @Bool.rec (fun _ => XRes) none (kdraw P e ops ks' ids fr' h') (@List.rec Nat (fun _ => Bool) true (fun _ _ _ => xstable P ops ids h fr' h' pend) pend)) (fun v h' => some (.panic v, fr, h')) r) (kstep P e o.dst (compO P o) fr h))
            (@Bool.rec (fun _ => XRes)
              (@KO.rec (fun _ => XRes) (fun r => kopt (krd P r fr h) fun v => kdraw P e ops ks' ids (kput fr o.dst v) h)
                (fun _ _ o' => kopt (vread P o'.op fr h) fun v => kdraw P e ops ks' ids (kput fr o.dst v) h) (fun _ => none) (fun _ _ o' => kopt (vread P o'.op fr h) fun v => kdraw P e ops ks' ids (kput fr o.dst v) h) (fun o' => kopt (vread P o'.op fr h) fun v => kdraw P e ops ks' ids (kput fr o.dst v) h) (compO P o))
              (kopt (vnew P (opAt ops i).op fr) fun p => kdraw P e ops ks' ((i, h.next) :: ids) (kput fr o.dst (p.1 h.next)) (h.push p.2))
              (isNew o.op))
            (isMov o.op))
          (kwant g fr) = some r := hx
        rw [kwant_eq hg] at hx
        simp only [xdr]
        rw [ho]
        cases hw : vwant ops fr o with
        | false =>
          rw [hw] at hx
          rw [if_neg (by simp), ← kput_eq]
          exact ih ks' h2 _ _ _ _ hx
        | true =>
          rw [hw] at hx
          rw [if_pos rfl]
          cases hm : isMov o.op with
          | false =>
            rw [hm] at hx
            rw [if_neg (by simp)]
            have hx : @Option.rec X1 (fun _ => XRes) none (fun r => @X1.rec (fun _ => XRes)
              (fun fr' h' => @Bool.rec (fun _ => XRes) none (kdraw P e ops ks' ids fr' h') (@List.rec Nat (fun _ => Bool) true (fun _ _ _ => xstable P ops ids h fr' h' pend) pend)) (fun v h' => some (.panic v, fr, h')) r) (kstep P e o.dst (compO P o) fr h) = some r := hx
            cases hs : kstep P e o.dst (compO P o) fr h with
            | none => rw [hs] at hx; cases hx
            | some r1 =>
              rw [hs] at hx
              rw [kstep_sound hs]
              cases r1 with
              | next fr' h' =>
                have hx : @Bool.rec (fun _ => XRes) none (kdraw P e ops ks' ids fr' h') (@List.rec Nat (fun _ => Bool) true (fun _ _ _ => xstable P ops ids h fr' h' pend) pend) = some r := hx
                have hst : @List.rec Nat (fun _ => Bool) true (fun _ _ _ => xstable P ops ids h fr' h' pend) pend = xstable P ops ids h fr' h' pend := by cases pend <;> rfl
                rw [hst] at hx
                simp only
                cases hb : xstable P ops ids h fr' h' pend with
                | false => rw [hb] at hx; cases hx
                | true => rw [hb] at hx; rw [if_pos rfl]; exact ih ks' h2 _ _ _ _ hx
              | panic v h' => exact hx
          | true =>
            rw [hm] at hx
            rw [if_pos rfl]
            cases hn : isNew o.op with
            | true =>
              rw [hn] at hx
              rw [if_pos rfl]
              have hx : kopt (vnew P (opAt ops i).op fr) (fun p => kdraw P e ops ks' ((i, h.next) :: ids) (kput fr o.dst (p.1 h.next)) (h.push p.2)) = some r := hx
              rw [ho] at hx
              obtain ⟨⟨f, x⟩, h3, h4⟩ := kopt_some hx
              rw [h3]
              simp only
              rw [kput_eq] at h4
              exact ih ks' h2 _ _ _ _ h4
            | false =>
              rw [hn] at hx
              rw [if_neg (by simp)]
              have key : ∀ v, vread P o.op fr h = some v → kdraw P e ops ks' ids (kput fr o.dst v) h = some r → (match vread P o.op fr h with | some v => xdr P e ops l ids (put fr o.dst v) h | none => none) = some r := by
                intro v h3 h4
                rw [h3]
                simp only
                rw [kput_eq] at h4
                exact ih ks' h2 _ _ _ _ h4
              have hx : @KO.rec (fun _ => XRes) (fun r => kopt (krd P r fr h) fun v => kdraw P e ops ks' ids (kput fr o.dst v) h)
                (fun _ _ o' => kopt (vread P o'.op fr h) fun v => kdraw P e ops ks' ids (kput fr o.dst v) h) (fun _ => none) (fun _ _ o' => kopt (vread P o'.op fr h) fun v => kdraw P e ops ks' ids (kput fr o.dst v) h) (fun o' => kopt (vread P o'.op fr h) fun v => kdraw P e ops ks' ids (kput fr o.dst v) h) (compO P o) = some r := hx
              unfold compO at hx
              split at hx
              · rename_i kr hr
                obtain ⟨v, h3, h4⟩ := kopt_some (show kopt (krd P kr fr h) _ = some r from hx)
                exact key v (krd_sound hr h3) h4
              · have slow : kopt (vread P o.op fr h) (fun v => kdraw P e ops ks' ids (kput fr o.dst v) h) = some r → (match vread P o.op fr h with | some v => xdr P e ops l ids (put fr o.dst v) h | none => none) = some r := by
                  intro hs
                  obtain ⟨v, h3, h4⟩ := kopt_some hs
                  exact key v h3 h4
                split at hx
                · split at hx
                  · exact slow hx
                  · exact slow hx
                · split at hx
                  · cases hx
                  · exact slow hx
                · split at hx
                  · exact slow hx
                  · exact slow hx
                · exact slow hx
      · cases h1
    · cases hk

theorem krun_sound {e : XEnv} {T : Nat → Plan} {n : Nat} : ∀ (c : Code) (fr : Fr) (h : VHeap) (r : VX × Fr × VHeap), krun P e n (comp P T c) fr h = some r → xcode P e T n c fr h = some r := by
  intro c
  induction c with
  | skip => intro fr h r hx; exact hx
  | label l => intro fr h r hx; exact hx
  | exit id => intro fr h r hx; exact hx
  | ret => intro fr h r hx; exact hx
  | rangeFunc => intro fr h r hx; cases hx
  | goto => intro fr h r hx; cases hx
  | refuse => intro fr h r hx; cases hx
  | scope => intro fr h r hx; cases hx
  | region id ops draw =>
    intro fr h r hx
    cases draw with
    | false =>
      simp only [comp] at hx
      split at hx
      · rename_i l hl
        exact kops_sound _ _ hl _ _ _ hx
      · cases hx
    | true =>
      simp only [comp] at hx
      split at hx
      · rename_i l hl
        exact kdraw_sound _ _ hl _ _ _ _ hx
      · cases hx
  | seq a b iha ihb =>
    intro fr h r hx
    obtain ⟨⟨x, fr', h'⟩, h1, h2⟩ := kopt_some (show kopt (krun P e n (comp P T a) fr h) _ = some r from hx)
    simp only [xcode]
    rw [iha _ _ _ h1]
    cases x with
    | normal => exact ihb _ _ _ h2
    | exit id => exact h2
    | ret => exact h2
    | panic v => exact h2
  | cond c a b iha ihb =>
    intro fr h r hx
    obtain ⟨t, h1, h2⟩ := kopt_some (show kopt (kev fr (kx c)).bool? _ = some r from hx)
    have h3 := VV.bool?_some h1
    rw [kev_kx] at h3
    simp only [xcode, h3]
    cases t with
    | true => rw [if_pos rfl]; exact iha _ _ _ h2
    | false => rw [if_neg (by simp)]; exact ihb _ _ _ h2
  | block id c ih =>
    intro fr h r hx
    obtain ⟨⟨x, fr', h'⟩, h1, h2⟩ := kopt_some (show kopt (krun P e n (comp P T c) fr h) _ = some r from hx)
    simp only [xcode]
    rw [ih _ _ _ h1]
    cases x with
    | normal => exact h2
    | ret => exact h2
    | panic v => exact h2
    | exit i =>
      have h2 : @Bool.rec (fun _ => XRes) (some (.exit i, fr', h')) (some (.normal, fr', h')) (Nat.beq i id) = some r := h2
      simp only
      cases hb : Nat.beq i id with
      | true => rw [hb] at h2; rw [if_pos (Nat.eq_of_beq_eq_true hb)]; exact h2
      | false => rw [hb] at h2; rw [if_neg (fun e => by subst e; rw [Nat.beq_refl] at hb; cases hb)]; exact h2
  | loop c ih =>
    intro fr h r hx
    have key : ∀ (m : Nat) (fr : Fr) (h : VHeap), kloop (krun P e n (comp P T c)) m fr h = some r → xloop (xcode P e T n c) m fr h = some r := by
      intro m
      induction m with
      | zero => intro fr h hx; cases hx
      | succ m ihm =>
        intro fr h hx
        obtain ⟨⟨x, fr', h'⟩, h1, h2⟩ := kopt_some (show kopt (krun P e n (comp P T c) fr h) _ = some r from hx)
        simp only [xloop]
        rw [ih _ _ _ h1]
        cases x with
        | normal => exact ihm _ _ h2
        | exit id => exact h2
        | ret => exact h2
        | panic v => exact h2
    exact key n fr h hx

/-! ## Functions -/

/-- A body that has ended, in a call. -/
def kret (P : Program) (fn : Func) : XRes → Option (VEnd × VHeap)
  | some (.panic v, _, h') => some (.panic v, h')
  | some (.exit _, _, _) => none
  | some (_, fr, h') => match vresult P fn.results.toList fr h' with
    | some v => some (.ret v, h')
    | none => none
  | none => none

noncomputable def kcallBody (P : Program) (over : XCall) (g : XGood) (T : FuncId → Nat → Plan) (n : Nat) (e : XEnv) : XCall := fun f args h =>
  match over f args h with
  | some r => some r
  | none =>
    match P.funcs[f]? with
    | some fn => match fn.body with
      | some c =>
        if args.length ≤ fn.ntmps then
          if g.plain f = true then kret P fn (krun P e (n + 1) (comp P (T f) c) (vframe args) h)
          else if g.spine f = true then
            match c with
            | .seq r0 rest => xbodyS P e g.plain T (n + 1) f fn r0 rest args h
            | _ => none
          else none
        else none
      | none => none
    | none => none

noncomputable def kenv (P : Program) (over : XCall) (g : XGood) (T : FuncId → Nat → Plan) (n : Nat) : XEnv :=
  @Nat.rec (fun _ => XEnv) ⟨fun _ _ _ => none, fun _ _ _ => none⟩ (fun n ih => ⟨kcallBody P over g T n ih, xround P ih T (n + 1)⟩) n

noncomputable def kcall (P : Program) (over : XCall) (g : XGood) (T : FuncId → Nat → Plan) (n : Nat) : XCall := (kenv P over g T n).call

theorem kcallBody_sound {over : XCall} {g : XGood} {T : FuncId → Nat → Plan} {n : Nat} {e : XEnv} {f : FuncId} {args : List VV} {h : VHeap} {r : VEnd × VHeap} (hx : kcallBody P over g T n e f args h = some r) : xcallBody P over g T n e f args h = some r := by
  unfold kcallBody at hx
  unfold xcallBody
  split at hx
  · rename_i r' ho
    rw [ho]; exact hx
  · rename_i ho
    rw [ho]
    simp only
    split at hx
    · rename_i fn hf
      rw [hf]
      simp only
      split at hx
      · rename_i c hb
        rw [hb]
        simp only
        split at hx
        · rename_i hlen
          rw [if_pos hlen]
          split at hx
          · rename_i hg
            rw [if_pos hg]
            cases hk : krun P e (n + 1) (comp P (T f) c) (vframe args) h with
            | none => rw [hk] at hx; cases hx
            | some q =>
              obtain ⟨x, fr, h'⟩ := q
              rw [krun_sound c _ _ _ hk]
              rw [hk] at hx
              cases x with
              | normal => exact hx
              | exit id => cases hx
              | ret => exact hx
              | panic v => exact hx
          · rename_i hg
            rw [if_neg hg]
            exact hx
        · cases hx
      · cases hx
    · cases hx

theorem kenv_sound (hmix : P.follows .mixedOrders = true) {over : XCall} (hover : XSound P over) {g : XGood} {T : FuncId → Nat → Plan} (hg : GSound P T g) : ∀ n, ESound P (kenv P over g T n) := by
  intro n
  induction n with
  | zero => exact ⟨(fun f args h r h' hx => by cases hx), (fun o args h v h' hx => by cases hx)⟩
  | succ n ih => exact ⟨fun f args h r h' hx => xcallBody_sound hmix hover hg ih f args h r h' (kcallBody_sound hx), xround_sound ih hmix⟩

theorem kcall_sound (hmix : P.follows .mixedOrders = true) {over : XCall} (hover : XSound P over) {g : XGood} {T : FuncId → Nat → Plan} (hg : GSound P T g) (n : Nat) : XSound P (kcall P over g T n) := (kenv_sound hmix hover hg n).call

end Go.Vv
