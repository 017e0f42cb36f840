/- What the abstract interpreter tells of each plain operation is what the model's operation does: slicing, texts of bytes, maps' lookups, assertions; then all reading operations together. -/
import Derived.Test.YtlbmfiglfefaiaaGreatVf
namespace Go.Vv

variable {P : Program} {G : Ghost} {w : World}

/-- An optional bound, against the model's. -/
def RVo (G : Ghost) : Option VV → Option Value → Prop
  | none, none => True
  | some v, some x => RV G v x
  | _, _ => False

theorem bound_sound {v : Option VV} {x : Option Value} (h : RVo G v x) {most other n : Nat} (hb : bound v most other = some n) :
    (x = none ∧ n = other) ∨ ∃ k, x = some (.int k n) ∧ n ≤ most := by
  cases v with
  | none =>
    cases x with
    | none => simp [bound] at hb; exact .inl ⟨rfl, hb.symm⟩
    | some x => exact h.elim
  | some v =>
    cases x with
    | none => exact h.elim
    | some x =>
      cases v <;> simp only [bound, reduceCtorEq] at hb
      rename_i k m
      cases h
      split at hb
      · rename_i hm
        cases hb
        refine .inr ⟨k, ?_, by omega⟩
        rw [Int.toNat_of_nonneg hm.1]
      · cases hb

theorem run_bound {x : Value} {k : IntKind} {n y : Nat} (hx : x = .int k n) (hn : n ≤ y) (code : BoundsCode) : (Instr.sliceBound x y code).run P w = .ok n w := by
  subst hx
  have := run_sliceBound (P := P) w k (n : Int) y code (by omega) (by omega)
  simpa using this

theorem vbounds_sound {len c : Nat} {cap : Option Nat} {lo hi mx : Option VV} {lo' hi' mx' : Option Value} (hlo : RVo G lo lo') (hhi : RVo G hi hi') (hmx : RVo G mx mx')
    (hlen : len ≤ c) (hcap : ∀ k, cap = some k → c = k) {l h : Nat} {cr : Option Nat} (hv : vbounds len cap lo hi mx = some (l, h, cr)) :
    ∃ m, (Instr.sliceBounds true len c lo' hi' mx').run P w = .ok (l, h, m) w ∧ l ≤ h ∧ h ≤ m ∧ h ≤ len ∧ m ≤ c ∧ ∀ q, cr = some q → m - l = q := by
  unfold vbounds at hv
  cases mx with
  | none =>
    cases mx' with
    | some m => exact hmx.elim
    | none =>
      simp only at hv
      cases hb : bound hi len len with
      | none => simp [hb] at hv
      | some h' =>
        simp only [hb] at hv
        cases hl : bound lo h' 0 with
        | none => simp [hl] at hv
        | some l' =>
          simp only [hl, Option.some.injEq, Prod.mk.injEq] at hv
          obtain ⟨rfl, rfl, rfl⟩ := hv
          have hle : h' ≤ len := by rcases bound_sound hhi hb with ⟨_, rfl⟩ | ⟨_, _, h⟩ <;> omega
          have hll : l' ≤ h' := by rcases bound_sound hlo hl with ⟨_, rfl⟩ | ⟨_, _, h⟩ <;> omega
          refine ⟨c, ?_, hll, by omega, hle, Nat.le_refl _, fun q hq => ?_⟩
          · simp only [Instr.sliceBounds, Sem.run_bind, Sem.run_pure, Result.andThen_ok]
            rcases bound_sound hhi hb with ⟨rfl, rfl⟩ | ⟨k, rfl, _⟩ <;> rcases bound_sound hlo hl with ⟨rfl, rfl⟩ | ⟨k', rfl, _⟩
            · simp
            · simp [run_bound rfl hll]
            · simp [run_bound rfl (show h' ≤ c by omega)]
            · simp [run_bound rfl (show h' ≤ c by omega), run_bound rfl hll]
          · cases cap with
            | none => cases hq
            | some k => simp at hq; rw [hcap k rfl]; exact hq
  | some m =>
    cases mx' with
    | none => exact hmx.elim
    | some m' =>
      cases hi with
      | none => simp at hv
      | some hi =>
        cases hi' with
        | none => exact hhi.elim
        | some hi' =>
          simp only at hv
          cases hm : bound (some m) len 0 with
          | none => simp [hm] at hv
          | some mm =>
            simp only [hm] at hv
            cases hb : bound (some hi) mm 0 with
            | none => simp [hb] at hv
            | some h' =>
              simp only [hb] at hv
              cases hl : bound lo h' 0 with
              | none => simp [hl] at hv
              | some l' =>
                simp only [hl, Option.some.injEq, Prod.mk.injEq] at hv
                obtain ⟨rfl, rfl, rfl⟩ := hv
                rcases bound_sound hmx hm with ⟨h0, _⟩ | ⟨km, hkm, hmle⟩
                · cases h0
                rcases bound_sound hhi hb with ⟨h0, _⟩ | ⟨kh, hkh, hhle⟩
                · cases h0
                cases hkm; cases hkh
                have hll : l' ≤ h' := by rcases bound_sound hlo hl with ⟨_, rfl⟩ | ⟨_, _, h⟩ <;> omega
                refine ⟨mm, ?_, hll, hhle, by omega, by omega, fun q hq => by cases hq; rfl⟩
                simp only [Instr.sliceBounds, Sem.run_bind, Result.andThen_ok, run_bound rfl (show mm ≤ c by omega), run_bound rfl hhle]
                rcases bound_sound hlo hl with ⟨rfl, rfl⟩ | ⟨k', rfl, _⟩
                · simp
                · simp [run_bound rfl hll]

theorem run_slice_by {t e : TypeId} (hu : P.underlying t = some (.slice e)) (hz : vsz P e ≠ 0) {a : Option Addr} {len c l h m : Nat} {lo hi mx : Option Value}
    (hb : (Instr.sliceBounds true len c lo hi mx).run P w = .ok (l, h, m) w) :
    (Instr.sliceAt t (.slice a len c) lo hi mx).run P w = .ok (.slice (if m = l then a else a.map (·.add (l * vsz P e))) (h - l) (m - l)) w := by
  obtain ⟨ie, hie⟩ := vsz_info hz
  simp only [Instr.sliceAt, Sem.run_bind, run_underlying hu, Result.andThen_ok]
  simp only [Instr.slice, Sem.run_bind, run_underlying hu, Result.andThen_ok, hb, run_sizeOf_vsz hie, Sem.run_pure]

theorem vsliceOf_sound {t e : TypeId} (hu : P.underlying t = some (.slice e)) (hz : vsz P e ≠ 0) {x v : VV} {a : Value} {lo hi mx : Option VV} {lo' hi' mx' : Option Value} (hx : RV G x a)
    (hlo : RVo G lo lo') (hhi : RVo G hi hi') (hmx : RVo G mx mx') (hv : vsliceOf x (vsz P e) lo hi mx = some v) :
    ∃ y, (Instr.sliceAt t a lo' hi' mx').run P w = .ok y w ∧ RV G v y := by
  unfold vsliceOf at hv
  split at hv
  · cases hx
    simp only [Option.map_eq_some_iff] at hv
    obtain ⟨⟨l, h, cr⟩, hb, rfl⟩ := hv
    obtain ⟨m, hrun, h1, h2, h3, h4, _⟩ := vbounds_sound (P := P) (w := w) hlo hhi hmx (Nat.le_refl 0) (fun k hk => by cases hk; rfl) hb
    have : m = 0 := by omega
    subst this
    have : h = 0 := by omega
    subst this
    have : l = 0 := by omega
    subst this
    exact ⟨_, run_slice_by hu hz hrun, by simpa using RV.nils⟩
  · rename_i es cap
    split at hv
    · rename_i hfit
      cases hb : vbounds es.length cap lo hi mx with
      | none => simp [hb] at hv
      | some r =>
        obtain ⟨l, h, cr⟩ := r
        simp only [hb, Option.some.injEq] at hv
        subst hv
        cases hx with
        | vs vals h1 h2 h3 h4 h5 h6 =>
          rename_i b base n c
          obtain ⟨m, hrun, k1, k2, k3, k4, k5⟩ := vbounds_sound (P := P) (w := w) hlo hhi hmx h1 h2 hb
          refine ⟨_, run_slice_by hu hz hrun, ?_⟩
          have hlen : ((es.take h).drop l).length = h - l := by simp; omega
          have hn : 0 < es.length → n = vsz P e := by
            intro hp
            cases es with
            | nil => simp at hp
            | cons r es =>
              have := h3 0 hp
              simp [vfits] at hfit
              simp at this; omega
          have key : RV G (.vs ((es.take h).drop l) cr) (.slice (some ⟨b, base + l * n, none⟩) ((es.take h).drop l).length (m - l)) := by
            refine .vs (n := n) (fun i j => vals (l + i) j) (by rw [hlen]; omega) k5 (fun i hi => ?_) (fun i j hi hj => ?_) (fun i hi j hj => ?_) (fun i j hi hj => h6 _ _ (by omega) hj)
            · simp; exact h3 _ _
            · rw [hlen] at hi
              have := h4 (l + i) j (by omega) hj
              rw [Nat.add_mul, ← Nat.add_assoc] at this
              exact this
            · have hi' : l + i < es.length := by rw [hlen] at hi; omega
              have e1 : ((es.take h).drop l)[i] = es[l + i] := by simp
              have := h5 (l + i) hi' j (by rw [← e1]; exact hj)
              simpa using this
          rw [hlen] at key
          by_cases hml : m = l
          · have : h = l := by omega
            subst this
            rw [if_pos hml]
            have e0 : (es.take h).drop h = [] := by simp
            rw [e0] at key ⊢
            have := RV.vs (G := G) (es := []) (cap := cr) (b := b) (base := base) (n := n) (c := m - h) (fun _ _ => Go.undef) (by simp) k5 (fun i hi => absurd hi (Nat.not_lt_zero _)) (fun i j hi => absurd hi (Nat.not_lt_zero _)) (fun i hi => absurd hi (Nat.not_lt_zero _)) (fun i j hi => absurd hi (Nat.not_lt_zero _))
            simpa using this
          · rw [if_neg hml]
            have hpos : 0 < es.length ∨ es.length = 0 := by omega
            rcases hpos with hp | hp
            · rw [← hn hp]
              simpa [addr_add] using key
            · have : es = [] := List.eq_nil_of_length_eq_zero hp
              subst this
              simp at k3
              subst k3
              have : l = 0 := by omega
              subst this
              simpa [addr_add] using key
    · cases hv
  · rename_i o off len esz cap
    split at hv
    · rename_i he
      subst he
      cases hb : vbounds len cap lo hi mx with
      | none => simp [hb] at hv
      | some r =>
        obtain ⟨l, h, cr⟩ := r
        simp only [hb, Option.some.injEq] at hv
        subst hv
        cases hx with
        | ref hφ h1 h2 h3 h4 =>
          rename_i b base k c a
          obtain ⟨m, hrun, k1, k2, k3, k4, k5⟩ := vbounds_sound (P := P) (w := w) hlo hhi hmx h1 h2 hb
          refine ⟨_, run_slice_by hu hz hrun, ?_⟩
          by_cases hml : m = l
          · rw [if_pos hml]
            exact .ref hφ (by omega) k5 (.inl (by omega)) h4
          · rw [if_neg hml]
            rcases h3 with h3 | ⟨rfl, h3⟩
            · omega
            · refine .ref hφ (by omega) k5 (.inr ⟨by simp [addr_add, Nat.add_assoc], ?_⟩) (by simp [addr_add])
              have : l * vsz P e + (m - l) * vsz P e = m * vsz P e := by rw [← Nat.add_mul]; congr 1; omega
              have : m * vsz P e ≤ c * vsz P e := Nat.mul_le_mul_right _ k4
              omega
        | refD hd h1 h2 =>
          rename_i c a
          obtain ⟨m, hrun, k1, k2, k3, k4, k5⟩ := vbounds_sound (P := P) (w := w) hlo hhi hmx h1 h2 hb
          refine ⟨_, run_slice_by hu hz hrun, ?_⟩
          by_cases hml : m = l
          · rw [if_pos hml]; exact .refD hd (by omega) k5
          · rw [if_neg hml]; exact .refD hd (by omega) k5
    · cases hv
  · cases hv

theorem vsliceStr_sound {t : TypeId} (hu : P.underlying t = some .string) {s : ByteArray} {v : VV} {lo hi mx : Option VV} {lo' hi' mx' : Option Value}
    (hlo : RVo G lo lo') (hhi : RVo G hi hi') (hmx : RVo G mx mx') (hv : vsliceStr s.data.toList lo hi mx = some v) :
    ∃ y, (Instr.sliceAt t (.string s) lo' hi' mx').run P w = .ok y w ∧ RV G v y := by
  unfold vsliceStr at hv
  cases mx with
  | some m => simp at hv
  | none =>
    cases mx' with
    | some m => exact hmx.elim
    | none =>
      simp only at hv
      cases hb : bound hi s.data.toList.length s.data.toList.length with
      | none => simp only [hb, reduceCtorEq] at hv
      | some h =>
        simp only [hb] at hv
        cases hl : bound lo h 0 with
        | none => simp only [hl, reduceCtorEq] at hv
        | some l =>
          simp only [hl, Option.some.injEq] at hv
          subst hv
          rw [bytes_size] at hb
          have e : (s.extract l h).data.toList = (s.data.toList.take h).drop l := by
            simp [List.extract_eq_take_drop, List.drop_take]
          refine ⟨.string (s.extract l h), ?_, by rw [← e]; exact .str _⟩
          rw [run_sliceAt_string (P := P) w t _ _ _ _ hu]
          simp only [Instr.slice, Sem.run_bind, run_underlying hu, Result.andThen_ok, Option.isSome_none, Bool.false_eq_true, if_false, Instr.sliceBounds, Sem.run_pure]
          rcases bound_sound hhi hb with ⟨rfl, rfl⟩ | ⟨k, rfl, hle⟩ <;> rcases bound_sound hlo hl with ⟨rfl, rfl⟩ | ⟨k', rfl, hle'⟩
          · simp
          · simp [run_bound rfl hle']
          · simp [run_bound rfl hle]
          · simp [run_bound rfl hle, run_bound rfl hle']

theorem vslice_sound {t : TypeId} {x v : VV} {a : Value} {lo hi mx : Option VV} {lo' hi' mx' : Option Value} (hx : RV G x a) (hlo : RVo G lo lo') (hhi : RVo G hi hi') (hmx : RVo G mx mx')
    (hv : vslice P t x lo hi mx = some v) : ∃ y, (Instr.sliceAt t a lo' hi' mx').run P w = .ok y w ∧ RV G v y := by
  unfold vslice at hv
  split at hv
  · rename_i hu
    split at hv
    · cases hx; exact vsliceStr_sound hu hlo hhi hmx hv
    · cases hv
  · rename_i e hu
    split at hv
    · cases hv
    · rename_i hz; exact vsliceOf_sound hu hz hx hlo hhi hmx hv
  · cases hv

/-! ## Elements, lengths, texts of bytes -/

theorem run_getObj_map {b cl : Nat} {ents : Array MapEntry} (hb : w.heap[b]? = some (.map ents cl)) : (getObj b).run P w = .ok (.map ents cl) w := by
  simp [getObj, Sem.run, hb]

theorem vlen_sound {h : VHeap} (hr : Rel G h w) {t ty : TypeId} {x v : VV} {a : Value} (hx : RV G x a) (hv : vlen P t x h = some v) :
    ∃ y, (Builtin.len_ #[t] ty #[a]).run P w = .ok y w ∧ RV G v y := by
  unfold vlen at hv
  split at hv <;> first | (cases hv; done) | skip
  · rename_i hu; cases hx; cases hv
    exact ⟨_, run_len_string w t ty _ hu, by rw [bytes_size]; exact .int ..⟩
  · rename_i hu; cases hx; cases hv; exact ⟨_, by simp [Builtin.len_, run_underlying hu, goInt], .int ..⟩
  · rename_i hu; cases hx; cases hv; exact ⟨_, by simp [Builtin.len_, run_underlying hu]; rfl, .int ..⟩
  · rename_i hu; cases hv
    cases hx <;> exact ⟨_, by simp [Builtin.len_, run_underlying hu]; rfl, .int ..⟩
  · rename_i hu; cases hx; cases hv; exact ⟨_, by simp [Builtin.len_, run_underlying hu, goInt], .int ..⟩
  · rename_i o hu
    split at hv
    · rename_i es hg
      cases hv
      cases hx with
      | mapD hd => have := (hr.dead _ hd).2; rw [hg] at this; cases this
      | map hφ =>
        obtain ⟨x, hx, hat⟩ := hr.obj _ _ _ _ hφ
        rw [hg] at hx; cases hx
        obtain ⟨ents, cl, hb, hsz, _⟩ := hat
        refine ⟨.int .i64 ents.size, ?_, by rw [hsz]; exact .int ..⟩
        have hgo := run_getObj_map (P := P) hb
        simp [Builtin.len_, run_underlying hu, hgo, goInt]
    · cases hv

theorem getElem?_flatten_uniform {α : Type} {n : Nat} (hn : 0 < n) : ∀ (es : List (List α)), (∀ r ∈ es, r.length = n) → ∀ k, es.flatten[k]? = (es[k / n]?).bind (·[k % n]?) := by
  intro es
  induction es with
  | nil => intro _ k; simp
  | cons r es ih =>
    intro h k
    have hr : r.length = n := h r (by simp)
    rw [List.flatten_cons]
    by_cases hk : k < n
    · rw [List.getElem?_append_left (by omega), Nat.div_eq_of_lt hk, Nat.mod_eq_of_lt hk]
      simp
    · rw [List.getElem?_append_right (by omega), ih (fun r hr => h r (by simp [hr])), hr]
      have e1 : k / n = (k - n) / n + 1 := by
        have := Nat.div_eq_sub_div hn (by omega : n ≤ k)
        exact this
      have e2 : k % n = (k - n) % n := Nat.mod_eq_sub_mod (by omega)
      rw [e1, e2, List.getElem?_cons_succ]

theorem flatten_uniform_length {α : Type} {n : Nat} : ∀ (es : List (List α)), (∀ r ∈ es, r.length = n) → es.flatten.length = es.length * n := by
  intro es
  induction es with
  | nil => intro _; simp
  | cons r es ih =>
    intro h
    rw [List.flatten_cons, List.length_append, ih (fun r hr => h r (by simp [hr])), h r (by simp), List.length_cons, Nat.succ_mul]
    omega

theorem rows_mem {n k : Nat} {l : List VV} (h : n * k ≤ l.length) : ∀ r ∈ rows n k l, r.length = k := by
  intro r hr
  obtain ⟨i, hi, rfl⟩ := List.getElem_of_mem hr
  rw [rows_get]
  rw [rows_length] at hi
  have : (i + 1) * k ≤ n * k := Nat.mul_le_mul_right k hi
  rw [Nat.succ_mul] at this
  simp; omega

theorem rows_flatten {k : Nat} : ∀ (n : Nat) (l : List VV), n * k ≤ l.length → (rows n k l).flatten = l.take (n * k) := by
  intro n
  induction n with
  | zero => intro l _; simp [rows]
  | succ n ih =>
    intro l h
    rw [Nat.succ_mul] at h
    simp only [rows, List.flatten_cons, ih (l.drop k) (by simp; omega)]
    rw [Nat.succ_mul, Nat.add_comm, List.take_add]

/-- A slice's elements, as cells in a row. -/
theorem velems_sound {h : VHeap} (hr : Rel G h w) {x : VV} {a : Value} {e : Nat} {es : List (List VV)} (hx : RV G x a) (hv : velems x h e = some es) :
    ∃ b n c, a = .slice b n c ∧ n = es.length ∧ n ≤ c ∧ (∀ r ∈ es, r.length = e) ∧ ∃ L : List Value, RVs G es.flatten L ∧ (∀ u ∈ L, u.oneCell' = true) ∧
      (n = 0 ∨ ∃ bl o, b = some ⟨bl, o, none⟩ ∧ CellsAt w bl o L) := by
  unfold velems at hv
  split at hv <;> first | (cases hv; done) | skip
  · cases hx; cases hv
    exact ⟨none, 0, 0, rfl, rfl, Nat.le_refl _, by simp, [], .nil G, by simp, .inl rfl⟩
  · rename_i es' cap
    split at hv
    · rename_i hfit
      cases hv
      cases hx with
      | vs vals h1 h2 h3 h4 h5 h6 =>
        rename_i b base n c
        have hall : ∀ r ∈ es, r.length = n := by
          intro r hr'
          obtain ⟨i, hi, rfl⟩ := List.getElem_of_mem hr'
          exact h3 i hi
        have hne : es = [] ∨ n = e := by
          cases es with
          | nil => exact .inl rfl
          | cons r es =>
            have := hall r (by simp)
            simp [vfits] at hfit
            right; omega
        have hlenF := flatten_uniform_length es hall
        refine ⟨_, _, _, rfl, rfl, h1, ?_, (List.range (es.length * n)).map (fun k => vals (k / n) (k % n)), ?_, ?_, ?_⟩
        · rcases hne with rfl | rfl
          · simp
          · exact hall
        · refine ⟨by simp [hlenF], fun j hj hj' => ?_⟩
          have hj2 : j < es.length * n := by rw [← hlenF]; exact hj
          have hn : 0 < n := by
            rcases Nat.eq_zero_or_pos n with h0 | h0
            · subst h0; simp at hj2
            · exact h0
          have hd : j / n < es.length := (Nat.div_lt_iff_lt_mul hn).2 hj2
          have hm : j % n < n := Nat.mod_lt _ hn
          have hm' : j % n < es[j / n].length := by rw [h3 _ hd]; exact hm
          have e1 := getElem?_flatten_uniform hn es hall j
          rw [List.getElem?_eq_getElem hj, List.getElem?_eq_getElem hd] at e1
          simp only [Option.bind_some] at e1
          rw [List.getElem?_eq_getElem hm'] at e1
          rw [Option.some.inj e1]
          simpa using h5 _ hd _ hm'
        · intro u hu
          obtain ⟨k, hk, rfl⟩ := List.mem_map.1 hu
          have hk' : k < es.length * n := by simpa using hk
          have hn : 0 < n := by
            rcases Nat.eq_zero_or_pos n with h0 | h0
            · subst h0; simp at hk'
            · exact h0
          exact h6 _ _ ((Nat.div_lt_iff_lt_mul hn).2 hk') (Nat.mod_lt _ hn)
        · refine .inr ⟨b, base, rfl, fun j u hu => ?_⟩
          obtain ⟨hj, rfl⟩ := List.getElem?_eq_some_iff.1 hu
          have hk' : j < es.length * n := by simpa using hj
          have hn : 0 < n := by
            rcases Nat.eq_zero_or_pos n with h0 | h0
            · subst h0; simp at hk'
            · exact h0
          have := hr.isub _ _ _ (h4 (j / n) (j % n) ((Nat.div_lt_iff_lt_mul hn).2 hk') (Nat.mod_lt _ hn))
          have e : base + j / n * n + j % n = base + j := by
            have := Nat.div_add_mod j n
            rw [Nat.mul_comm] at this
            omega
          rw [e] at this
          simpa using this
    · cases hv
  · rename_i o off len esz cap
    split at hv
    · cases hv
    · rename_i hes
      have hes' : esz = e := Decidable.not_not.1 hes
      subst hes'
      split at hv
      · rename_i c hg
        split at hv
        · rename_i hle
          cases hv
          cases hx with
          | refD hd _ _ => have := (hr.dead _ hd).2; rw [hg] at this; cases this
          | ref hφ h1 h2 h3 h4 =>
            rename_i b base k cc a
            obtain ⟨arr, t', g1, g2, g3, L, hL, hone, hat, _⟩ := obj_cells hr hφ hg
            have hdl : len * esz ≤ (c.drop off).length := by simp; omega
            have hfl := rows_flatten len (c.drop off) hdl
            refine ⟨_, _, _, rfl, (rows_length _ _ _).symm, h1, rows_mem hdl, (L.drop off).take (len * esz), ?_, ?_, ?_⟩
            · rw [hfl]; exact (hL.drop off).take _
            · intro u hu; exact hone u (List.mem_of_mem_drop (List.mem_of_mem_take hu))
            · rcases h3 with h3 | ⟨rfl, h3⟩
              · exact .inl (by omega)
              · refine .inr ⟨_, _, rfl, fun j u hu => ?_⟩
                rw [List.getElem?_take] at hu
                split at hu
                · rw [List.getElem?_drop] at hu
                  rw [Nat.add_assoc]; exact hat _ _ hu
                · cases hu
        · cases hv
      · cases hv

end Go.Vv
