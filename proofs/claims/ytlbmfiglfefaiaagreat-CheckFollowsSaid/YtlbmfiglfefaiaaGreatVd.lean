/- What the abstract interpreter tells of each plain operation is what the model's operation does: comparing, building, slicing, maps' lookups; then all reading operations together. -/
import Derived.Test.YtlbmfiglfefaiaaGreatVc
namespace Go.Vv

variable {P : Program} {G : Ghost} {w : World}

theorem veqCell_sound {t : TypeId} {u : TypeDesc} (hu : P.underlying t = some u) {a b : VV} {x y : Value} (ha : RV G a x) (hb : RV G b y) {r : Bool} (hv : veqCell u a b = some r) (d : Nat) :
    (Op.equalIn (d + 1) t x y).run P w = .ok r w := by
  cases u <;> cases a <;> cases b <;> simp only [veqCell, reduceCtorEq] at hv
  · cases ha; cases hb; cases hv; exact run_equalIn_bool' w d t _ _ hu
  · cases ha; cases hb
    split at hv
    · rename_i hkk; subst hkk; cases hv; exact run_equalIn_int w d t _ _ _ _ hu
    · cases hv
  · cases ha; cases hb; cases hv
    rw [run_equalIn_string w d t _ _ hu, bytes_toList, bytes_toList]

theorem veqCells_sound {xs ys : Array Value} (d : Nat) : ∀ (fs' : List Field) (k : Nat) (ts : List TypeDesc) (as bs : List VV) (r : Bool),
    RVs G as (xs.toList.drop k) → RVs G bs (ys.toList.drop k) → veqCells ts as bs = some r →
    fs'.mapM (fun f => match P.underlying f.type with | some .bool => some TypeDesc.bool | some (.int k) => some (.int k) | some .string => some .string | _ => none) = some ts →
    (∀ i f, fs'[i]? = some f → f.name ≠ "_" ∧ f.offset = k + i) →
    (Op.eqFields (d + 1) xs ys fs').run P w = .ok r w := by
  intro fs'
  induction fs' with
  | nil =>
    intro k ts as bs r ha hb hv hm _
    have : ts = [] := by simpa using hm.symm
    subst this
    cases as <;> cases bs <;> simp [veqCells] at hv
    subst hv; simp [Op.eqFields]
  | cons f fs' ih =>
    intro k ts as bs r ha hb hv hm hf
    simp only [List.mapM_cons] at hm
    cases ht : (match P.underlying f.type with | some .bool => some TypeDesc.bool | some (.int k) => some (.int k) | some .string => some .string | _ => none) with
    | none => simp [ht] at hm
    | some u =>
      cases hr : fs'.mapM (fun f => match P.underlying f.type with | some .bool => some TypeDesc.bool | some (.int k) => some (.int k) | some .string => some .string | _ => none) with
      | none => simp [ht, hr] at hm
      | some us =>
        have hts : ts = u :: us := by simpa [ht, hr] using hm.symm
        subst hts
        have hu : P.underlying f.type = some u := by
          cases hq : P.underlying f.type with
          | none => simp [hq] at ht
          | some q => cases q <;> simp [hq] at ht <;> subst ht <;> rfl
        cases as <;> cases bs <;> simp only [veqCells, reduceCtorEq] at hv
        rename_i a as b bs
        cases h1 : veqCell u a b with
        | none => simp [h1] at hv
        | some r1 =>
          cases h2 : veqCells us as bs with
          | none => simp [h1, h2] at hv
          | some r2 =>
            simp [h1, h2] at hv
            obtain ⟨hn, ho⟩ := hf 0 f rfl
            obtain ⟨x, hx0, hax⟩ := ha.get (j := 0) (v := a) rfl
            obtain ⟨y, hy0, hby⟩ := hb.get (j := 0) (v := b) rfl
            have hx' : xs[k]? = some x := by simpa using hx0
            have hy' : ys[k]? = some y := by simpa using hy0
            have hagg : ∀ (w : World), (isAgg f.type).run P w = .ok false w := by
              intro w
              unfold isAgg
              rw [Sem.run_bind, run_underlying hu w]
              cases u <;> cases a <;> simp [veqCell] at h1 <;> simp
            have hpx : (part f.type xs f.offset).run P w = .ok x w := by
              unfold part
              rw [Sem.run_bind, hagg]
              simp [ho, hx']
            have hpy : (part f.type ys f.offset).run P w = .ok y w := by
              unfold part
              rw [Sem.run_bind, hagg]
              simp [ho, hy']
            have heq := veqCell_sound (P := P) (w := w) hu hax hby h1 d
            have hrest := ih (k + 1) us as bs r2 (by have := ha.drop 1; simpa [List.drop_drop, Nat.add_comm] using this) (by have := hb.drop 1; simpa [List.drop_drop, Nat.add_comm] using this) h2 hr
              (fun i f' hf' => by have := hf (i + 1) f' hf'; exact ⟨this.1, by omega⟩)
            simp only [Op.eqFields, hn, ne_eq, not_false_eq_true, if_true, Sem.run_bind, hpx, hpy, heq, Result.andThen_ok]
            cases r1 with
            | false => simp at hv; subst hv; simp
            | true => simp at hv; subst hv; simpa using hrest

theorem eqGuard_plain {op : BinOp} {t : TypeId} {ox oy : Operand} {x y : Value} (h1 : ∀ xs ys, x = .agg xs → y = .agg ys → False) (h2 : x = .nilIface → y = .nilIface → False) :
    (eqGuard op t ox oy x y).run P w = .ok () w := by
  have key : (match x, y with
    | .nilIface, .nilIface => (do
      if (ox matches .const _) || (oy matches .const _) then return
      if ← Op.eqGuardIn Op.maxDepth t x y then unsupported (.noEntry "binop/eql: two nil values of an interface type with methods, neither of them the literal nil") : Sem Unit)
    | .agg _, .agg _ => (do
      if !(← program).eqGuardType (← program).depth t then return
      if ← Op.eqGuardIn Op.maxDepth t x y then unsupported (.noEntry "binop/eql: two nil values of an interface type with methods, in a part of a struct or an array") : Sem Unit)
    | _, _ => pure ()).run P w = .ok () w := by
    split
    · exact (h2 rfl rfl).elim
    · exact (h1 _ _ rfl rfl).elim
    · rfl
  cases op <;> first | exact key | rfl

theorem veqNili_sound {t : TypeId} {ms : Array (String × TypeId)} (hu : P.underlying t = some (.interface ms)) (hms : ms.isEmpty = true) {x y : Value} (ha : RV G .nili x) (hb : RV G .nili y) (d : Nat) :
    (Op.equalIn (d + 1) t x y).run P w = .ok true w ∧ ∀ op ox oy, (eqGuard op t ox oy x y).run P w = .ok () w := by
  cases ha; cases hb
  refine ⟨by simp [Op.equalIn, run_underlying hu], fun op ox oy => ?_⟩
  have hin : (Op.eqGuardIn Op.maxDepth t .nilIface .nilIface).run P w = .ok false w := by
    show (Op.eqGuardIn (9999 + 1) t .nilIface .nilIface).run P w = _
    unfold Op.eqGuardIn
    rw [Sem.run_bind, run_underlying hu]
    simp [hms]
  have key : ((do
    if (ox matches .const _) || (oy matches .const _) then return
    if ← Op.eqGuardIn Op.maxDepth t .nilIface .nilIface then unsupported (.noEntry "binop/eql: two nil values of an interface type with methods, neither of them the literal nil") : Sem Unit)).run P w = .ok () w := by
    cases ox <;> cases oy <;> simp [hin]
  cases op <;> first | exact key | rfl

theorem veqPlain_sound {t : TypeId} {u : TypeDesc} (hu : P.underlying t = some u) {a b : VV} {x y : Value} (ha : RV G a x) (hb : RV G b y) {r : Bool} (hv : veqPlain u a b = some r) (d : Nat) :
    (Op.equalIn (d + 1) t x y).run P w = .ok r w ∧ ∀ op ox oy, (eqGuard op t ox oy x y).run P w = .ok () w := by
  unfold veqPlain at hv
  split at hv <;> first | (cases hv; done) | skip
  case h_13 ms _ =>
    split at hv
    · rename_i hms
      cases hv
      exact veqNili_sound hu hms ha hb d
    · cases hv
  all_goals cases hv
  all_goals cases ha
  all_goals cases hb
  all_goals exact ⟨by simp [Op.equalIn, run_underlying hu], fun _ _ _ => eqGuard_plain (by intro _ _ h _; cases h) (by intro h h'; first | (cases h; done) | (cases h'; done))⟩

theorem veq_sound {t : TypeId} {a b : VV} {x y : Value} (ha : RV G a x) (hb : RV G b y) {r : Bool} (hv : veq P t a b = some r) :
    (Op.equal t x y).run P w = .ok r w ∧ ∀ op ox oy, (eqGuard op t ox oy x y).run P w = .ok () w := by
  unfold veq at hv
  split at hv
  case h_1 fs hu =>
    unfold veqStruct at hv
    split at hv
    case h_2 => cases hv
    rename_i as bs
    cases hk : vkinds P t with
    | none => simp [hk] at hv
    | some ts =>
      simp only [hk] at hv
      obtain ⟨xs, rfl, hx1, _⟩ := RV.agg_iff.1 ha
      obtain ⟨ys, rfl, hy1, _⟩ := RV.agg_iff.1 hb
      unfold vkinds at hk
      simp only [hu] at hk
      split at hk
      · rename_i hcond
        simp only [Bool.and_eq_true, Bool.not_eq_true', List.all_eq_true] at hcond
        obtain ⟨⟨hs, hg⟩, hall⟩ := hcond
        have hfo : P.fieldsOf t = fs := by simp [Program.fieldsOf, hu]
        refine ⟨?_, fun op ox oy => run_eqGuard_agg w op t ox oy xs ys hg⟩
        have := run_equalIn_struct (P := P) w 9999 t xs ys (by rw [hfo]; exact hu) hs
        simp only [Op.equal, Op.maxDepth]
        rw [this, hfo]
        refine veqCells_sound 9998 fs.toList 0 ts as bs r (by simpa using hx1) (by simpa using hy1) hv hk (fun i f hf => ?_)
        have hm := hall (f, i) (by
          rw [List.mem_zipIdx_iff_getElem?]; simpa using hf)
        simp at hm
        exact ⟨hm.1, by omega⟩
      · cases hk
  case h_2 u _ hu => exact veqPlain_sound hu ha hb hv 9999
  case h_3 => cases hv

theorem veq_kind {t : TypeId} {a b : VV} {x : Value} (ha : RV G a x) {r : Bool} (hv : veq P t a b = some r) :
    (match x with | .int .. | .float .. | .complex .. | .string _ => false | _ => true) = true := by
  unfold veq at hv
  split at hv
  · unfold veqStruct at hv
    split at hv
    · cases ha; rfl
    · cases hv
  · unfold veqPlain at hv
    split at hv <;> first | (cases hv; done) | (cases ha <;> rfl) | (split at hv <;> first | (cases hv; done) | (cases ha <;> rfl))
  · cases hv

theorem vbinOp_sound {op : BinOp} {t : TypeId} {a b : VV} {x y : Value} {ox oy : Operand} (ha : RV G a x) (hb : RV G b y) {v : VV} (hv : vbinOp P op t a b = some v) :
    ∃ z, ((do eqGuard op t ox oy x y; binOp op t x y : Sem Value)).run P w = .ok z w ∧ RV G v z := by
  unfold vbinOp at hv
  split at hv
  · rename_i k n k' n'
    cases ha; cases hb
    have hg : (eqGuard op t ox oy (.int k n) (.int k' n')).run P w = .ok () w := eqGuard_plain (by intro _ _ h _; cases h) (by intro h _; cases h)
    rw [Sem.run_bind, hg]
    simp only [Result.andThen_ok]
    split at hv
    · split at hv
      · rename_i h0
        cases hv
        exact ⟨_, by simp [binOp, Op.shift, Int.not_lt.2 h0], .int ..⟩
      · cases hv
    · split at hv
      · rename_i h0
        cases hv
        exact ⟨_, by simp [binOp, Op.shift, Int.not_lt.2 h0], .int ..⟩
      · cases hv
    · split at hv
      · rename_i hkk; subst hkk
        exact vintOp_sound hv t
      · cases hv
  · cases ha; cases hb
    rename_i s s'
    have hg : (eqGuard op t ox oy (.string s) (.string s')).run P w = .ok () w := eqGuard_plain (by intro _ _ h _; cases h) (by intro h _; cases h)
    rw [Sem.run_bind, hg]
    exact vstrOp_sound hv t
  · have hbin : ∀ r, veq P t a b = some r → (binOp .eql t x y).run P w = .ok (.bool r) w ∧ (binOp .neq t x y).run P w = .ok (.bool (!r)) w := by
      intro r hr
      have he := (veq_sound (P := P) (w := w) ha hb hr).1
      have hk := veq_kind ha hr
      constructor
      · cases x <;> first | (cases hk; done) | (simp [binOp, he])
      · cases x <;> first | (cases hk; done) | (simp [binOp, he])
    split at hv
    · cases hq : veq P t a b with
      | none => simp [hq] at hv
      | some r =>
        simp [hq] at hv; subst hv
        refine ⟨.bool r, ?_, .bool _⟩
        rw [Sem.run_bind, (veq_sound ha hb hq).2, Result.andThen_ok]
        exact (hbin r hq).1
    · cases hq : veq P t a b with
      | none => simp [hq] at hv
      | some r =>
        simp [hq] at hv; subst hv
        refine ⟨.bool (!r), ?_, .bool _⟩
        rw [Sem.run_bind, (veq_sound ha hb hq).2, Result.andThen_ok]
        exact (hbin r hq).2
    · cases hv

end Go.Vv
