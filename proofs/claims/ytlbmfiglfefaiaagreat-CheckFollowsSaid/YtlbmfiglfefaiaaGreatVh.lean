/- What the abstract interpreter tells of each plain operation is what the model's operation does: conversions, maps' lookups, assertions; then all reading operations together. -/
import Derived.Laws.BytesString
import Derived.Test.YtlbmfiglfefaiaaGreatVg
namespace Go.Vv

variable {P : Program} {G : Ghost} {w : World}

theorem vunOp_sound {op : UnOp} {x v : VV} {a : Value} (hx : RV G x a) (hv : vunOp op x = some v) : ∃ y, (Op.unary op a).run P w = .ok y w ∧ RV G v y := by
  unfold vunOp at hv
  split at hv <;> first | (cases hv; done) | skip
  · cases hx; cases hv; exact ⟨_, by simp [Op.unary], .bool _⟩
  · cases hx; cases hv; exact ⟨_, by simp [Op.unary, Op.intArith], .int ..⟩

theorem vextract_sound {x v : VV} {a : Value} {i : Nat} (hx : RV G x a) (hv : vextract x i = some v) : ∃ y, (Instr.extract a i).run P w = .ok y w ∧ RV G v y := by
  unfold vextract at hv
  split at hv
  · obtain ⟨a, rfl, h⟩ := RV.tup_iff.1 hx
    obtain ⟨y, hy, hr⟩ := h.get hv
    have hy' : a[i]? = some y := by simpa using hy
    exact ⟨y, by simp [Instr.extract, hy'], hr⟩
  · cases hv

theorem vmakeInterface_sound {t : TypeId} {x v : VV} {a : Value} (hx : RV G x a) (hv : vmakeInterface P t x = some v) : ∃ y, (Instr.makeInterface t a).run P w = .ok y w ∧ RV G v y := by
  unfold vmakeInterface at hv
  split at hv <;> first | (cases hv; done) | skip
  rename_i d hd hu
  cases hv
  refine ⟨.iface t a, ?_, .iface hx⟩
  unfold Instr.makeInterface
  rw [Sem.run_bind, run_underlying hu]
  simp only [Result.andThen_ok]
  cases d <;> first | (exact (hd _ rfl).elim) | rfl

theorem vassert_sound {x v : VV} {a : Value} {xt asserted : TypeId} {ok : Bool} (hx : RV G x a) (hv : vassert P x asserted ok = some v) :
    ∃ y, (Instr.typeAssert a xt asserted ok).run P w = .ok y w ∧ RV G v y := by
  unfold vassert at hv
  split at hv <;> first | (cases hv; done) | skip
  · rename_i d t u hd hu
    cases hx
    rename_i xv hxv
    by_cases ht : t = asserted
    · subst ht
      simp only [if_true, Option.some.injEq] at hv
      subst hv
      refine ⟨if ok then .tuple #[xv, .bool true] else xv, ?_, ?_⟩
      · unfold Instr.typeAssert
        rw [Sem.run_bind, run_underlying hu]
        simp only [Result.andThen_ok]
        cases d <;> first | (exact (hd _ rfl).elim) | simp
      · cases ok
        · simpa using hxv
        · exact RV.tup_iff.2 ⟨_, rfl, .cons hxv (.cons (.bool true) (.nil G))⟩
    · simp only [ht, if_false] at hv
      cases ok with
      | false => simp at hv
      | true =>
        simp only [if_true, Option.map_eq_some_iff] at hv
        obtain ⟨z, hz, rfl⟩ := hv
        obtain ⟨i, zx, _, _, _, hzr, hzrun⟩ := vzero_sound (w := w) G hz
        refine ⟨.tuple #[zx, .bool false], ?_, RV.tup_iff.2 ⟨_, rfl, .cons hzr (.cons (.bool false) (.nil G))⟩⟩
        unfold Instr.typeAssert
        rw [Sem.run_bind, run_underlying hu]
        simp only [Result.andThen_ok]
        cases d <;> first | (exact (hd _ rfl).elim) | simp [ht, hzrun]
  · rename_i d hd hu
    cases hx
    cases ok with
    | false => simp at hv
    | true =>
      simp only [if_true, Option.map_eq_some_iff] at hv
      obtain ⟨z, hz, rfl⟩ := hv
      obtain ⟨i, zx, _, _, _, hzr, hzrun⟩ := vzero_sound (w := w) G hz
      refine ⟨.tuple #[zx, .bool false], ?_, RV.tup_iff.2 ⟨_, rfl, .cons hzr (.cons (.bool false) (.nil G))⟩⟩
      unfold Instr.typeAssert
      rw [Sem.run_bind, run_underlying hu]
      simp only [Result.andThen_ok]
      cases d <;> first | (exact (hd _ rfl).elim) | simp [hzrun]

theorem vminmax_sound {mx : Bool} {x y v : VV} {a b : Value} (hx : RV G x a) (hy : RV G y b) (hv : vminmax mx x y = some v) :
    ∃ z, (if mx then Builtin.max2 a b else Builtin.min2 a b).run P w = .ok z w ∧ RV G v z := by
  unfold vminmax at hv
  split at hv
  · cases hx; cases hy; cases hv
    cases mx
    · exact ⟨_, by simp [Builtin.min2]; rfl, by simpa using RV.int ..⟩
    · exact ⟨_, by simp [Builtin.max2]; rfl, by simpa using RV.int ..⟩
  · cases hv

/-! ## Maps -/

theorem vsameKey_sound {kind : TypeDesc} {k k' : VV} {x x' : Value} (hx : RV G k x) (hx' : RV G k' x') {r : Bool} (hv : vsameKey k k' = some r)
    (hkind : vkeyKind kind k = true) : Instr.sameNow kind x x' = some r := by
  unfold vsameKey at hv
  split at hv
  · cases hx; cases hx'
    split at hv
    · rename_i hj; subst hj; cases hv
      cases kind <;> simp [vkeyKind] at hkind
      simp [Instr.sameNow]
    · cases hv
  · cases hx; cases hx'; cases hv
    cases kind <;> simp [vkeyKind] at hkind
    rename_i s s'
    have : (s == s') = (s.data.toList == s'.data.toList) := by rw [beq_toListBytes, bytes_toList, bytes_toList]
    simp only [Instr.sameNow, this]
  · cases hv

theorem vfind_sound {kind : TypeDesc} {k : VV} {x : Value} (hx : RV G k x) (hkind : vkeyKind kind k = true) :
    ∀ (es : List (VV × VV)) (ents : List MapEntry) (i : Nat) (r : Option (Nat × VV)), es.length = ents.length →
      (∀ j (h : j < es.length) (h' : j < ents.length), RV G es[j].1 ents[j].key ∧ RV G es[j].2 ents[j].val) → vfind k es i = some r →
      match r with
      | none => Instr.findNow kind x ents i = some none
      | some (n, v) => i ≤ n ∧ n < i + es.length ∧ ∃ y, Instr.findNow kind x ents i = some (some (n, y)) ∧ RV G v y ∧ (es[n - i]?).map (·.2) = some v := by
  intro es
  induction es with
  | nil =>
    intro ents i r hl _ hv
    have : ents = [] := List.eq_nil_of_length_eq_zero (by simpa using hl.symm)
    subst this
    simp [vfind] at hv; subst hv
    rfl
  | cons e es ih =>
    intro ents i r hl hr hv
    cases ents with
    | nil => simp at hl
    | cons f ents =>
      have h0 := hr 0 (by simp) (by simp)
      simp at h0
      simp only [vfind] at hv
      cases hs : vsameKey k e.1 with
      | none => simp [hs] at hv
      | some b =>
        have hsn := vsameKey_sound hx h0.1 hs hkind
        cases b with
        | true =>
          simp [hs] at hv; subst hv
          refine ⟨Nat.le_refl _, by simp, f.val, by simp [Instr.findNow, hsn], h0.2, by simp⟩
        | false =>
          simp [hs] at hv
          have := ih ents (i + 1) r (by simpa using hl) (fun j hj hj' => by have := hr (j + 1) (by simpa using hj) (by simpa using hj'); simpa using this) hv
          cases r with
          | none => simpa [Instr.findNow, hsn] using this
          | some q =>
            obtain ⟨n, v⟩ := q
            obtain ⟨h1, h2, y, h3, h4, h5⟩ := this
            refine ⟨by omega, by simp; omega, y, by simp [Instr.findNow, hsn, h3], h4, ?_⟩
            have : n - i = (n - (i + 1)) + 1 := by omega
            rw [this, List.getElem?_cons_succ]; exact h5

theorem vmapElem_some {t e : TypeId} (h : vmapElem P t = some e) : ∃ kt d, P.underlying t = some (.map kt e) ∧ P.underlying kt = some d ∧ ((∃ k, d = .int k) ∨ d = .string) := by
  unfold vmapElem at h
  split at h
  · rename_i kt e' hu
    split at h
    · rename_i j hk; cases h; exact ⟨kt, _, hu, hk, .inl ⟨_, rfl⟩⟩
    · rename_i hk; cases h; exact ⟨kt, _, hu, hk, .inr rfl⟩
    · cases h
  · cases h

theorem vkeyFits_kind {t kt e : TypeId} {d : TypeDesc} {k : VV} (hu : P.underlying t = some (.map kt e)) (hk : P.underlying kt = some d) (h : vkeyFits P t k = true) :
    vkeyKind d k = true := by
  unfold vkeyFits at h
  simpa [hu, hk] using h

theorem checkKey_plain {kt : TypeId} {d : TypeDesc} (hk : P.underlying kt = some d) (hd : (∃ k, d = .int k) ∨ d = .string) (empty : Bool) (x : Value) :
    (Instr.checkKey empty 10000 kt x).run P w = .ok () w := by
  show (Instr.checkKey empty (9999 + 1) kt x).run P w = .ok () w
  unfold Instr.checkKey
  rw [Sem.run_bind, run_underlying hk]
  rcases hd with ⟨k, rfl⟩ | rfl <;> rfl

theorem ventries_sound {h : VHeap} (hr : Rel G h w) {m : VV} {a : Value} (hm : RV G m a) {es : List (VV × VV)} (hes : ventries m h = some es) :
    ∃ ents : Array MapEntry, es.length = ents.size ∧ (∀ j (h : j < es.length) (h' : j < ents.size), RV G es[j].1 ents[j].key ∧ RV G es[j].2 ents[j].val) ∧
      (a = .map none ∧ ents = #[] ∨ ∃ b cl, a = .map (some b) ∧ w.heap[b]? = some (.map ents cl)) := by
  unfold ventries at hes
  split at hes
  · cases hm; cases hes
    exact ⟨#[], rfl, fun j h => absurd h (Nat.not_lt_zero _), .inl ⟨rfl, rfl⟩⟩
  · split at hes
    · rename_i o _ es' hg
      cases hes
      cases hm with
      | mapD hd => have := (hr.dead _ hd).2; rw [hg] at this; cases this
      | map hφ =>
        obtain ⟨y, hy, hat⟩ := hr.obj _ _ _ _ hφ
        rw [hg] at hy; cases hy
        obtain ⟨ents, cl, hb, hsz, hall⟩ := hat
        exact ⟨ents, hsz.symm, hall, .inr ⟨_, cl, rfl, hb⟩⟩
    · cases hes
  · cases hes

theorem run_lookup {t kt e : TypeId} {d : TypeDesc} (hu : P.underlying t = some (.map kt e)) (hk : P.underlying kt = some d) (hd : (∃ k, d = .int k) ∨ d = .string)
    {a x zx : Value} {ents : Array MapEntry} (ha : a = .map none ∧ ents = #[] ∨ ∃ b cl, a = .map (some b) ∧ w.heap[b]? = some (.map ents cl))
    (hz : (zeroValue e).run P w = .ok zx w) {r : Option (Nat × Value)} (hf : Instr.findNow d x ents.toList 0 = some r) (ok : Bool) :
    (Instr.lookup t a x ok).run P w = (match r with | some (_, v) => .ok (if ok then .tuple #[v, .bool true] else v) w | none => .ok (if ok then .tuple #[zx, .bool false] else zx) w) := by
  have hfk : (Instr.findKey kt x ents.toList).run P w = .ok r w := by
    unfold Instr.findKey
    rw [Sem.run_bind, run_underlying hk]
    simp [hf]
  have hck := fun empty => checkKey_plain (P := P) (w := w) hk hd empty x
  unfold Instr.lookup
  rcases ha with ⟨rfl, rfl⟩ | ⟨b, cl, rfl, hb⟩
  · cases r with
    | none => simp [run_underlying hu, hck, hfk, hz]
    | some q => simp [run_underlying hu, hck, hfk]
  · have hgo := run_getObj_map (P := P) hb
    cases r with
    | none => simp [run_underlying hu, hck, hfk, hz, hgo]
    | some q => simp [run_underlying hu, hck, hfk, hgo]

theorem vlookup_sound {h : VHeap} (hr : Rel G h w) {t : TypeId} {m k v : VV} {a x : Value} {ok : Bool} (hm : RV G m a) (hx : RV G k x) (hv : vlookup P t m k ok h = some v) :
    ∃ y, (Instr.lookup t a x ok).run P w = .ok y w ∧ RV G v y := by
  unfold vlookup at hv
  split at hv
  · rename_i e he
    obtain ⟨kt, d, hu, hk, hd⟩ := vmapElem_some he
    split at hv
    · rename_i hfit
      have hkind := vkeyFits_kind hu hk hfit
      split at hv
      · rename_i es z hes hz
        obtain ⟨i, zx, _, _, _, hzr, hzrun⟩ := vzero_sound (w := w) G hz
        obtain ⟨ents, hlen, hrel, ha⟩ := ventries_sound hr hm hes
        have hfs := fun r => vfind_sound hx hkind es ents.toList 0 r (by simpa using hlen) (fun j hj hj' => by simpa using hrel j hj (by simpa using hj'))
        split at hv
        · rename_i n v' hf
          cases hv
          obtain ⟨_, _, y, h3, h4, _⟩ := hfs _ hf
          refine ⟨_, run_lookup hu hk hd ha hzrun h3 ok, ?_⟩
          cases ok
          · simpa using h4
          · exact RV.tup_iff.2 ⟨_, rfl, .cons h4 (.cons (.bool true) (.nil G))⟩
        · rename_i hf
          cases hv
          have h3 := hfs _ hf
          refine ⟨_, run_lookup hu hk hd ha hzrun h3 ok, ?_⟩
          cases ok
          · simpa using hzr
          · exact RV.tup_iff.2 ⟨_, rfl, .cons hzr (.cons (.bool false) (.nil G))⟩
        · cases hv
      · cases hv
    · cases hv
  · cases hv

/-! ## Conversions -/

theorem vbyte_sound {r : List VV} {b : UInt8} (h : vbyte r = some b) : ∃ n : Int, r = [.int .u8 n] ∧ UInt8.ofNat n.toNat = b := by
  unfold vbyte at h
  split at h
  · split at h
    · cases h; exact ⟨_, rfl, rfl⟩
    · cases h
  · cases h

theorem mapM_vbyte : ∀ (es : List (List VV)) (bs : List UInt8), es.mapM vbyte = some bs → ∃ ns : List Int, es.flatten = ns.map (VV.int .u8) ∧ ns.map (fun n => UInt8.ofNat n.toNat) = bs ∧ ns.length = es.length := by
  intro es
  induction es with
  | nil => intro bs h; simp at h; subst h; exact ⟨[], rfl, rfl, rfl⟩
  | cons r es ih =>
    intro bs h
    simp only [List.mapM_cons] at h
    cases hb : vbyte r with
    | none => simp [hb] at h
    | some b =>
      cases hr : es.mapM vbyte with
      | none => simp [hb, hr] at h
      | some bs' =>
        simp [hb, hr] at h
        subst h
        obtain ⟨n, rfl, hn⟩ := vbyte_sound hb
        obtain ⟨ns, h1, h2, h3⟩ := ih bs' hr
        exact ⟨n :: ns, by simp [h1], by simp [h2, hn], by simp [h3]⟩

theorem RVs_ints {k : IntKind} : ∀ (ns : List Int) (L : List Value), RVs G (ns.map (VV.int k)) L → L = ns.map (Value.int k) := by
  intro ns
  induction ns with
  | nil => intro L h; exact List.eq_nil_of_length_eq_zero (by simpa using h.1.symm)
  | cons n ns ih =>
    intro L h
    cases L with
    | nil => have := h.1; simp at this
    | cons x L =>
      have h0 := h.2 0 (by simp) (by simp)
      simp at h0
      cases h0
      rw [ih L (by simpa using h.drop 1)]
      rfl

theorem foldl_push (ns : List Int) : ∀ (s : ByteArray), (ns.foldl (fun r n => r.push (UInt8.ofNat n.toNat)) s).data.toList = s.data.toList ++ ns.map (fun n => UInt8.ofNat n.toNat) := by
  induction ns with
  | nil => intro s; simp
  | cons n ns ih =>
    intro s
    have hp : (s.push (UInt8.ofNat n.toNat)).data.toList = s.data.toList ++ [UInt8.ofNat n.toNat] := by simp [ByteArray.push]
    rw [List.foldl_cons, ih, hp]; simp

theorem vconvert_sound {h : VHeap} (hr : Rel G h w) {src dst : TypeId} {x v : VV} {a : Value} (hx : RV G x a) (hv : vconvert P src dst x h = some v) :
    ∃ y, (convert src dst a).run P w = .ok y w ∧ RV G v y := by
  unfold vconvert at hv
  split at hv <;> first | (cases hv; done) | skip
  · rename_i hs hd
    cases hx; cases hv
    exact ⟨_, by simp [convert, run_underlying hs, run_underlying hd, Conv.intToInt], .int ..⟩
  · rename_i d hs hd
    cases hx; cases hv
    exact ⟨_, by simp [convert, run_underlying hs, run_underlying hd], .str _⟩
  · rename_i x e hs hd hne
    split at hv
    · rename_i he
      split at hv
      · rename_i es hes
        simp only [Option.map_eq_some_iff] at hv
        obtain ⟨bs, hbs, rfl⟩ := hv
        obtain ⟨b, n, c, rfl, hn, hnc, hrow, L, hL, hone, hat⟩ := velems_sound hr hx hes
        obtain ⟨ns, h1, h2, h3⟩ := mapM_vbyte es bs hbs
        have hL' : L = ns.map (Value.int .u8) := RVs_ints ns L (by rw [← h1]; exact hL)
        rw [show (convert src dst (.slice b n c)).run P w = (Conv.bytesToString (.slice b n c)).run P w by simp [convert, run_underlying hs, run_underlying hd, run_underlying he]]
        cases b with
        | none =>
          have hn0 : n = 0 := by
            rcases hat with h0 | ⟨_, _, h0, _⟩
            · exact h0
            · cases h0
          have : bs = [] := by
            rw [← h2]
            have : ns = [] := List.eq_nil_of_length_eq_zero (by omega)
            simp [this]
          subst this
          exact ⟨.string .empty, by simp [Conv.bytesToString], RV.str .empty⟩
        | some a =>
          have hload : (loadCells a n).run P w = .ok (ns.map (Value.int .u8)).toArray w := by
            rcases hat with h0 | ⟨bl, o, h0, hc⟩
            · have : ns = [] := List.eq_nil_of_length_eq_zero (by omega)
              subst this; subst h0
              simp [loadCells, loadCellsFrom]
            · cases h0
              have := run_loadCells_at (P := P) hc 0 n (by rw [hL']; simp; omega)
              simp only [Nat.add_zero, List.drop_zero] at this
              rw [this, hL', List.take_of_length_le (by simp; omega)]
          refine ⟨_, run_bytesToString w a n c ns hload, ?_⟩
          have e1 : (ns.foldl (fun r n => r.push (UInt8.ofNat n.toNat)) ByteArray.empty).data.toList = bs := by rw [foldl_push, h2]; simp
          rw [← e1]
          exact .str _
      · cases hv
    · cases hv

theorem vmarks_sound {h : VHeap} (hr : Rel G h w) {src dst : TypeId} {x : VV} {a : Value} (hx : RV G x a) (hv : vmarks P src dst x = true) :
    ∃ w', (convert src dst a).run P w = .ok a w' ∧ Rel G h w' ∧ Ext G G w w' := by
  unfold vmarks at hv
  simp only [Bool.and_eq_true, beq_iff_eq] at hv
  obtain ⟨rfl, hv⟩ := hv
  split at hv
  · rename_i e v0 r0 es cap hs
    split at hv
    · rename_i he
      cases hx with
      | vs vals h1 h2 h3 h4 h5 h6 =>
        rename_i b base n c
        have hn : 0 < n := by have := h3 0 (by simp); simp at this; omega
        have hI := h4 0 0 (by simp) hn
        simp only [Nat.zero_mul, Nat.add_zero] at hI
        have hcell := hr.isub _ _ _ hI
        obtain ⟨arr, t, fz, hb⟩ : ∃ arr t fz, w.heap[b]? = some (.cells arr t fz) := by
          unfold World.cell? at hcell
          simp only at hcell
          split at hcell
          · rename_i arr t fz hb; exact ⟨arr, t, fz, hb⟩
          · cases hcell
        have hsh : w.shape? b = some (t, arr.size) := by simp [World.shape?, hb]
        have hother : ∀ b', b' ≠ b → (w.freeze ⟨b, arr.size, none⟩ 1).heap[b']? = w.heap[b']? := by
          intro b' hne
          simp [World.freeze, Array.getElem?_modify]
          intro e; exact absurd e.symm hne
        have hcells : ∀ ad, (w.freeze ⟨b, arr.size, none⟩ 1).cell? ad = w.cell? ad := by
          intro ad
          by_cases hne : ad.block = b
          · simp only [World.freeze, World.cell?, Array.getElem?_modify, hne, if_true, Nat.one_ne_zero, if_false]
            rw [hb]
            obtain ⟨lo, hi⟩ := fz
            rfl
          · exact World.cell?_of_block (hother _ hne)
        refine ⟨w.freeze ⟨b, arr.size, none⟩ 1, ?_, ⟨fun b' i v hv' => by rw [hcells]; exact hr.isub b' i v hv', fun o b' base' k hm => ?_, hr.inj, hr.sep, hr.dom, hr.dead, hr.num, hr.fresh⟩,
          .mk' ⟨.refl G, by simp [World.freeze], fun b' _ _ hno => hother b' (fun e => by subst e; rw [hno] at hI; cases hI), fun o m hm => .inl ⟨o, m, hm, rfl⟩, fun _ i v hv' => .inl ⟨i, v, hv'⟩, rfl, rfl, rfl⟩ (.refl G)⟩
        · simp [convert, run_underlying hs, run_underlying he, markStringish, hsh]
        · obtain ⟨y, hy, hat⟩ := hr.obj o b' base' k hm
          refine ⟨y, hy, hat.mono (.refl G) (hother b' fun e => ?_)⟩
          have := hr.sep o _ base hm
          simp only at this
          rw [e, hI] at this
          cases this
    · cases hv
  · cases hv

/-! ## All reading operations -/

theorem RVs.map_ev {fr : Fr} {ρ : Operand → Value} {xs : Array Operand} (h : ∀ x ∈ xs, RV G (ev fr x) (ρ x)) : RVs G (xs.toList.map (ev fr)) (xs.map ρ).toList := by
  refine ⟨by simp, fun j h1 h2 => ?_⟩
  have hj : j < xs.size := by simpa using h1
  have := h xs[j] (by simp)
  simpa using this

theorem vread_sound {h : VHeap} (hr : Rel G h w) {o : Oper} {fr : Fr} {ρ : Operand → Value} (hρ : ∀ x ∈ o.op.operands, RV G (ev fr x) (ρ x)) {v : VV} (hv : vread P o.op fr h = some v) :
    ∃ x w' G', (execOp ρ o).run P w = .ok (.value x) w' ∧ RV G' v x ∧ Rel G' h w' ∧ Ext G G' w w' ∧ G'.φ = G.φ ∧ G'.D = G.D := by
  have plain : ∀ {s : Sem Value} {y : Value}, (execOp ρ o) = (do pure (.value (← s))) → s.run P w = .ok y w → RV G v y →
      ∃ x w' G', (execOp ρ o).run P w = .ok (.value x) w' ∧ RV G' v x ∧ Rel G' h w' ∧ Ext G G' w w' ∧ G'.φ = G.φ ∧ G'.D = G.D := by
    intro s y he hs hy
    exact ⟨y, w, G, by rw [he, Sem.run_bind, hs]; rfl, hy, hr, .refl G w, rfl, rfl⟩
  obtain ⟨dst, op, type, pos, after, guard⟩ := o
  unfold vread at hv
  simp only at hv hρ
  split at hv
  · -- move
    cases hv
    exact ⟨_, w, G, rfl, hρ _ (by simp [Op.operands]), hr, .refl G w, rfl, rfl⟩
  · cases hv
    exact ⟨_, w, G, rfl, hρ _ (by simp [Op.operands]), hr, .refl G w, rfl, rfl⟩
  · -- pick
    rename_i c a b
    split at hv
    · rename_i cb hc
      cases hv
      have h1 := hρ c (by simp [Op.operands])
      have h2 := hρ a (by simp [Op.operands])
      have h3 := hρ b (by simp [Op.operands])
      rw [hc] at h1
      generalize hcv : ρ c = cv at h1
      cases h1
      refine ⟨if cb then ρ a else ρ b, w, G, ?_, ?_, hr, .refl G w, rfl, rfl⟩
      · simp [execOp, hcv, asBool]
      · cases cb <;> simp [h2, h3]
    · cases hv
  · -- build
    rename_i t ps
    obtain ⟨y, hy, hrv⟩ := vbuild_sound (G := G) (w := w) (ps := ps.map fun p => (p.1, ρ p.2)) (by simp) (fun j h1 h2 => by
      have hj : j < ps.size := by simpa using h1
      have := hρ ps[j].2 (by simp only [Op.operands]; exact Array.mem_def.2 (List.mem_map.2 ⟨ps[j], by simp, rfl⟩))
      simpa using this) hv
    exact plain rfl hy hrv
  · -- buildSlice
    rename_i t n ps
    obtain ⟨y, w', G', hy, hrv, hr', he, e1, e2⟩ := vbuildSlice_sound (G := G) (w := w) hr (ps := ps.map fun p => (p.1, ρ p.2)) (by simp) (fun j h1 h2 => by
      have hj : j < ps.size := by simpa using h1
      have := hρ ps[j].2 (by simp only [Op.operands]; exact Array.mem_def.2 (List.mem_map.2 ⟨ps[j], by simp, rfl⟩))
      simpa using this) hv
    refine ⟨y, w', G', ?_, hrv, hr', he, e1, e2⟩
    show (do pure (Next.value (← Instr.buildSlice t n (ps.map fun p => (p.1, ρ p.2)))) : Sem Next).run P w = _
    rw [Sem.run_bind, hy]; rfl
  · -- load
    obtain ⟨y, hy, hrv⟩ := vload_sound (P := P) hr (hρ _ (by simp [Op.operands])) hv
    exact plain rfl hy hrv
  · -- nilCheck
    obtain ⟨hy, hrv⟩ := vnilCheck_sound (P := P) (w := w) ρ _ ⟨dst, _, type, pos, after, guard⟩ rfl rfl (hρ _ (by simp [Op.operands])) hv
    exact ⟨_, w, G, hy, hrv, hr, .refl G w, rfl, rfl⟩
  · -- binOp
    obtain ⟨y, hy, hrv⟩ := vbinOp_sound (P := P) (w := w) (hρ _ (by simp [Op.operands])) (hρ _ (by simp [Op.operands])) hv
    exact plain rfl hy hrv
  · obtain ⟨y, hy, hrv⟩ := vunOp_sound (P := P) (w := w) (hρ _ (by simp [Op.operands])) hv
    exact plain rfl hy hrv
  · split at hv
    · rename_i hmk
      cases hv
      obtain ⟨w', h1, h2, h3⟩ := vmarks_sound (P := P) hr (hρ _ (by simp [Op.operands])) hmk
      refine ⟨_, w', G, ?_, hρ _ (by simp [Op.operands]), h2, h3, rfl, rfl⟩
      show (do pure (Next.value (← convert _ _ _)) : Sem Next).run P w = _
      rw [Sem.run_bind, h1]; rfl
    · obtain ⟨y, hy, hrv⟩ := vconvert_sound (P := P) hr (hρ _ (by simp [Op.operands])) hv
      exact plain rfl hy hrv
  · obtain ⟨y, hy, hrv⟩ := vmakeInterface_sound (P := P) (w := w) (hρ _ (by simp [Op.operands])) hv
    exact plain rfl hy hrv
  · -- makeFunc
    rename_i f a b
    cases hv
    have ha := RVs.map_ev (G := G) (fr := fr) (ρ := ρ) (xs := a) (fun x hx => hρ x (by simp [Op.operands, hx]))
    have hb := RVs.map_ev (G := G) (fr := fr) (ρ := ρ) (xs := b) (fun x hx => hρ x (by simp [Op.operands, hx]))
    refine ⟨.func f (a.map ρ) (b.map ρ), w, G, rfl, .fn (by simp) (by simp) (fun j h1 h2 => ?_) (fun j h1 h2 => ?_), hr, .refl G w, rfl, rfl⟩
    · have := ha.2 j h1 (by simpa using h2); rwa [Array.getElem_toList] at this
    · have := hb.2 j h1 (by simpa using h2); rwa [Array.getElem_toList] at this
  · -- slice
    rename_i t x lo hi mx
    have ho : ∀ q : Option Operand, (∀ y, q = some y → RV G (ev fr y) (ρ y)) → RVo G (q.map (ev fr)) (q.map ρ) := by
      intro q hq
      cases q with
      | none => exact trivial
      | some y => exact hq y rfl
    obtain ⟨y, hy, hrv⟩ := vslice_sound (P := P) (w := w) (hρ x (by simp [Op.operands])) (ho lo fun y e => hρ y (by simp [Op.operands, e])) (ho hi fun y e => hρ y (by simp [Op.operands, e]))
      (ho mx fun y e => hρ y (by simp [Op.operands, e])) hv
    exact plain rfl hy hrv
  · obtain ⟨y, hy, hrv⟩ := vfieldAddr_sound (P := P) (w := w) (hρ _ (by simp [Op.operands])) hv
    exact plain rfl hy hrv
  · obtain ⟨y, hy, hrv⟩ := vfieldOf_sound (P := P) (w := w) (hρ _ (by simp [Op.operands])) hv
    exact plain rfl hy hrv
  · obtain ⟨y, hy, hrv⟩ := vindexAddr_sound (P := P) (w := w) (hρ _ (by simp [Op.operands])) (hρ _ (by simp [Op.operands])) hv
    exact plain rfl hy hrv
  · -- index
    split at hv
    · rename_i hu
      obtain ⟨y, hy, hrv⟩ := vindex_sound (P := P) (w := w) hu (hρ _ (by simp [Op.operands])) (hρ _ (by simp [Op.operands])) hv
      exact plain rfl hy hrv
    · cases hv
  · obtain ⟨y, hy, hrv⟩ := vlookup_sound (P := P) hr (hρ _ (by simp [Op.operands])) (hρ _ (by simp [Op.operands])) hv
    exact plain rfl hy hrv
  · obtain ⟨y, hy, hrv⟩ := vassert_sound (P := P) (w := w) (hρ _ (by simp [Op.operands])) hv
    exact plain rfl hy hrv
  · obtain ⟨y, hy, hrv⟩ := vextract_sound (P := P) (w := w) (hρ _ (by simp [Op.operands])) hv
    exact plain rfl hy hrv
  · -- len
    rename_i x t
    obtain ⟨y, hy, hrv⟩ := vlen_sound (P := P) (ty := type) hr (hρ x (by simp [Op.operands, Call.operands])) hv
    refine ⟨y, w, G, ?_, hrv, hr, .refl G w, rfl, rfl⟩
    simp [execOp, resolve, invoke, builtin, hy]
  · -- min
    rename_i x z ts
    obtain ⟨y, hy, hrv⟩ := vminmax_sound (P := P) (w := w) (mx := false) (hρ x (by simp [Op.operands, Call.operands])) (hρ z (by simp [Op.operands, Call.operands])) hv
    refine ⟨y, w, G, ?_, hrv, hr, .refl G w, rfl, rfl⟩
    simp only [Bool.false_eq_true, if_false] at hy
    simp [execOp, resolve, invoke, builtin, Builtin.min_, hy]
  · -- max
    rename_i x z ts
    obtain ⟨y, hy, hrv⟩ := vminmax_sound (P := P) (w := w) (mx := true) (hρ x (by simp [Op.operands, Call.operands])) (hρ z (by simp [Op.operands, Call.operands])) hv
    refine ⟨y, w, G, ?_, hrv, hr, .refl G w, rfl, rfl⟩
    simp only [if_true] at hy
    simp [execOp, resolve, invoke, builtin, Builtin.max_, hy]
  · cases hv

end Go.Vv
