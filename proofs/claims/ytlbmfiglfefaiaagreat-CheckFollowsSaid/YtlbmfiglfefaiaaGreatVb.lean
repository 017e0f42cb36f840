/- The relation between the abstract interpreter's values and heap, and the model's: numbers of objects against blocks of the world, cells that nobody writes any more, dead objects; and how it goes on when the world grows. -/
import Derived.Test.YtlbmfiglfefaiaaGreatVa
namespace Go.Vv

structure Ghost where
  φ : Nat → Option (Nat × Nat × Nat)
  D : Nat → Prop
  I : Nat → Nat → Option Value
  n : Nat

inductive RV (G : Ghost) : VV → Value → Prop where
  | bool (b : Bool) : RV G (.bool b) (.bool b)
  | int (k : IntKind) (n : Int) : RV G (.int k n) (.int k n)
  | str (s : ByteArray) : RV G (.str s.data.toList) (.string s)
  | nilp : RV G .nilp (.pointer none)
  | ptr {o off b base k : Nat} : G.φ o = some (b, base, k) → RV G (.ptr o off) (.pointer (some ⟨b, base + off, none⟩))
  | ptrD {o off : Nat} {a : Addr} : G.D o → RV G (.ptr o off) (.pointer (some a))
  | iptr {cs : List VV} {off b base : Nat} (vals : Nat → Value) : (∀ j, j < cs.length → G.I b (base + j) = some (vals j)) →
      (∀ j (h : j < cs.length), RV G cs[j] (vals j)) → (∀ j, j < cs.length → (vals j).oneCell' = true) → RV G (.iptr cs off) (.pointer (some ⟨b, base + off, none⟩))
  | gptr (g : Nat) : RV G (.gptr g) (.pointer (some ⟨g, 0, none⟩))
  | nils : RV G .nils (.slice none 0 0)
  | vs {es : List (List VV)} {cap : Option Nat} {b base n c : Nat} (vals : Nat → Nat → Value) : es.length ≤ c → (∀ k, cap = some k → c = k) →
      (∀ i (h : i < es.length), es[i].length = n) → (∀ i j, i < es.length → j < n → G.I b (base + i * n + j) = some (vals i j)) →
      (∀ i (h : i < es.length) j (h' : j < es[i].length), RV G es[i][j] (vals i j)) → (∀ i j, i < es.length → j < n → (vals i j).oneCell' = true) →
      RV G (.vs es cap) (.slice (some ⟨b, base, none⟩) es.length c)
  | ref {o off len esz b base k c : Nat} {cap : Option Nat} {a : Addr} : G.φ o = some (b, base, k) → len ≤ c → (∀ k', cap = some k' → c = k') →
      (c = 0 ∨ (a = ⟨b, base + off, none⟩ ∧ off + c * esz ≤ k)) → a.spot = none → RV G (.ref o off len esz cap) (.slice (some a) len c)
  | refD {o off len esz c : Nat} {cap : Option Nat} {a : Addr} : G.D o → len ≤ c → (∀ k', cap = some k' → c = k') → RV G (.ref o off len esz cap) (.slice (some a) len c)
  | nilm : RV G .nilm (.map none)
  | map {o b base k : Nat} : G.φ o = some (b, base, k) → RV G (.map o) (.map (some b))
  | mapD {o b : Nat} : G.D o → RV G (.map o) (.map (some b))
  | fn {f : Fn} {first captured : List VV} {a c : Array Value} : first.length = a.size → captured.length = c.size →
      (∀ j (h : j < first.length) (h' : j < a.size), RV G first[j] a[j]) → (∀ j (h : j < captured.length) (h' : j < c.size), RV G captured[j] c[j]) → RV G (.fn f first captured) (.func f a c)
  | nilf : RV G .nilf .nilFunc
  | iface {t : TypeId} {v : VV} {x : Value} : RV G v x → RV G (.iface t v) (.iface t x)
  | nili : RV G .nili .nilIface
  | agg {cs : List VV} {a : Array Value} : cs.length = a.size → (∀ j (h : j < cs.length) (h' : j < a.size), RV G cs[j] a[j]) →
      (∀ j (h : j < a.size), a[j].oneCell' = true) → RV G (.agg cs) (.agg a)
  | tup {cs : List VV} {a : Array Value} : cs.length = a.size → (∀ j (h : j < cs.length) (h' : j < a.size), RV G cs[j] a[j]) → RV G (.tup cs) (.tuple a)
  | yld {o b base k : Nat} : G.φ o = some (b, base, k) → RV G (.yld o) (.func (.yield b) #[] #[])
  | yldD {o b : Nat} : G.D o → RV G (.yld o) (.func (.yield b) #[] #[])

/-- Lists, one against the other. -/
def RVs (G : Ghost) (l : List VV) (a : List Value) : Prop := l.length = a.length ∧ ∀ j (h : j < l.length) (h' : j < a.length), RV G l[j] a[j]

theorem RVs.nil (G : Ghost) : RVs G [] [] := ⟨rfl, fun _ h => absurd h (Nat.not_lt_zero _)⟩
theorem RVs.cons {G : Ghost} {v : VV} {x : Value} {l : List VV} {a : List Value} (h : RV G v x) (ht : RVs G l a) : RVs G (v :: l) (x :: a) := by
  refine ⟨by simp [ht.1], fun j h1 h2 => ?_⟩
  cases j with
  | zero => exact h
  | succ j => exact ht.2 j (by simpa using h1) (by simpa using h2)
theorem RVs.append {G : Ghost} {l l' : List VV} {a a' : List Value} (h : RVs G l a) (h' : RVs G l' a') : RVs G (l ++ l') (a ++ a') := by
  refine ⟨by simp [h.1, h'.1], fun j h1 h2 => ?_⟩
  by_cases hj : j < l.length
  · rw [List.getElem_append_left hj, List.getElem_append_left (h.1 ▸ hj)]; exact h.2 _ _ _
  · have e1 : l.length ≤ j := by omega
    have e2 : a.length ≤ j := by rw [← h.1]; exact e1
    rw [List.getElem_append_right e1, List.getElem_append_right e2]
    have : j - l.length = j - a.length := by rw [h.1]
    have h3 := h'.2 (j - l.length) (by simp at h1; omega) (by simp at h2; rw [h.1]; omega)
    simpa [h.1] using h3
theorem RVs.take {G : Ghost} {l : List VV} {a : List Value} (h : RVs G l a) (n : Nat) : RVs G (l.take n) (a.take n) :=
  ⟨by simp [h.1], fun j h1 h2 => by simpa using h.2 j (by simp at h1; omega) (by simp at h2; omega)⟩
theorem RVs.drop {G : Ghost} {l : List VV} {a : List Value} (h : RVs G l a) (n : Nat) : RVs G (l.drop n) (a.drop n) :=
  ⟨by simp [h.1], fun j h1 h2 => by simpa using h.2 (n + j) (by simp at h1; omega) (by simp at h2; omega)⟩
theorem RVs.get {G : Ghost} {l : List VV} {a : List Value} (h : RVs G l a) {j : Nat} {v : VV} (hv : l[j]? = some v) : ∃ x, a[j]? = some x ∧ RV G v x := by
  obtain ⟨hj, rfl⟩ := List.getElem?_eq_some_iff.1 hv
  have hj' : j < a.length := h.1 ▸ hj
  exact ⟨a[j], by simp [hj'], h.2 j hj hj'⟩
theorem RVs.get' {G : Ghost} {l : List VV} {a : List Value} (h : RVs G l a) {j : Nat} {x : Value} (hv : a[j]? = some x) : ∃ v, l[j]? = some v ∧ RV G v x := by
  obtain ⟨hj, rfl⟩ := List.getElem?_eq_some_iff.1 hv
  have hj' : j < l.length := h.1 ▸ hj
  exact ⟨l[j], by simp [hj'], h.2 j hj' hj⟩

theorem RV.agg_iff {G : Ghost} {cs : List VV} {x : Value} : RV G (.agg cs) x ↔ ∃ a : Array Value, x = .agg a ∧ RVs G cs a.toList ∧ ∀ v ∈ a.toList, v.oneCell' = true := by
  constructor
  · intro h; cases h with
    | agg h1 h2 h3 =>
      refine ⟨_, rfl, ⟨by simpa using h1, fun j h h' => by simpa using h2 j h (by simpa using h')⟩, fun v hv => ?_⟩
      obtain ⟨j, hj, rfl⟩ := List.getElem_of_mem hv
      simpa using h3 j (by simpa using hj)
  · rintro ⟨a, rfl, h1, h2⟩
    exact .agg (by simpa using h1.1) (fun j h h' => by have := h1.2 j h (by simpa using h'); rwa [Array.getElem_toList] at this) (fun j h => h2 _ (by simp))

theorem RV.tup_iff {G : Ghost} {cs : List VV} {x : Value} : RV G (.tup cs) x ↔ ∃ a : Array Value, x = .tuple a ∧ RVs G cs a.toList := by
  constructor
  · intro h; cases h with
    | tup h1 h2 => exact ⟨_, rfl, by simpa using h1, fun j h h' => by simpa using h2 j h (by simpa using h')⟩
  · rintro ⟨a, rfl, h1⟩
    exact .tup (by simpa using h1.1) (fun j h h' => by have := h1.2 j h (by simpa using h'); rwa [Array.getElem_toList] at this)

/-- One ghost goes on from another. -/
structure Ghost.Le (G G' : Ghost) : Prop where
  φ : ∀ o m, G.φ o = some m → G'.φ o = some m ∨ G'.D o
  D : ∀ o, G.D o → G'.D o
  I : ∀ b o v, G.I b o = some v → G'.I b o = some v

theorem Ghost.Le.refl (G : Ghost) : G.Le G := ⟨fun _ _ h => .inl h, fun _ h => h, fun _ _ _ h => h⟩
theorem Ghost.Le.trans {G G1 G2 : Ghost} (h : G.Le G1) (h' : G1.Le G2) : G.Le G2 :=
  ⟨fun o m hm => (h.φ o m hm).elim (h'.φ o m) fun d => .inr (h'.D o d), fun o d => h'.D o (h.D o d), fun b o v hv => h'.I b o v (h.I b o v hv)⟩

theorem RV.mono {G G' : Ghost} (hle : G.Le G') {v : VV} {x : Value} (h : RV G v x) : RV G' v x := by
  induction h with
  | bool b => exact .bool b
  | int k n => exact .int k n
  | str s => exact .str s
  | nilp => exact .nilp
  | ptr h => exact (hle.φ _ _ h).elim .ptr .ptrD
  | ptrD h => exact .ptrD (hle.D _ h)
  | iptr vals h1 _ h3 ih => exact .iptr vals (fun j hj => hle.I _ _ _ (h1 j hj)) ih h3
  | gptr g => exact .gptr g
  | nils => exact .nils
  | vs vals h1 h2 h3 h4 _ h6 ih => exact .vs vals h1 h2 h3 (fun i j hi hj => hle.I _ _ _ (h4 i j hi hj)) ih h6
  | ref h h1 h2 h3 h4 => exact (hle.φ _ _ h).elim (fun h => .ref h h1 h2 h3 h4) fun h => .refD h h1 h2
  | refD h h1 h2 => exact .refD (hle.D _ h) h1 h2
  | nilm => exact .nilm
  | map h => exact (hle.φ _ _ h).elim .map .mapD
  | mapD h => exact .mapD (hle.D _ h)
  | fn h1 h2 _ _ ih1 ih2 => exact .fn h1 h2 ih1 ih2
  | nilf => exact .nilf
  | iface _ ih => exact .iface ih
  | nili => exact .nili
  | agg h1 _ h3 ih => exact .agg h1 ih h3
  | tup h1 _ ih => exact .tup h1 ih
  | yld h => exact (hle.φ _ _ h).elim .yld .yldD
  | yldD h => exact .yldD (hle.D _ h)

theorem RVs.mono {G G' : Ghost} (hle : G.Le G') {l : List VV} {a : List Value} (h : RVs G l a) : RVs G' l a := ⟨h.1, fun j h1 h2 => (h.2 j h1 h2).mono hle⟩

theorem RV.one {G : Ghost} {v : VV} {x : Value} (h : RV G v x) : v.one = x.oneCell' := by cases h <;> rfl

theorem RV.undef (G : Ghost) : RV G .undef Go.undef := .tup rfl (fun _ h => absurd h (Nat.not_lt_zero _))

/-- The cells of a value that is none of several. -/
theorem RV.cells {G : Ghost} {v : VV} {x : Value} (h : RV G v x) (ht : v.isTup = false) :
    RVs G v.cells x.cells.toList ∧ ∀ u ∈ x.cells.toList, u.oneCell' = true := by
  by_cases hv : v.one = true
  · have hx : x.oneCell' = true := by rw [← h.one]; exact hv
    have e1 : v.cells = [v] := by cases v <;> first | rfl | (simp [VV.one] at hv)
    have e2 : x.cells = #[x] := by cases x <;> first | rfl | (simp [Value.oneCell'] at hx)
    rw [e1, e2]
    exact ⟨.cons h (.nil G), by simpa using hx⟩
  · cases v <;> simp [VV.one, VV.isTup] at hv ht
    obtain ⟨a, rfl, h1, h2⟩ := RV.agg_iff.1 h
    exact ⟨h1, h2⟩

/-! ## The heap against the world -/

/-- What stands in a block, for an object. -/
def ObjAt (G : Ghost) (w : World) (b base k : Nat) : VObj → Prop
  | .cells c => ∃ arr t, w.heap[b]? = some (.cells arr t (0, 0)) ∧ base + k ≤ arr.size ∧ c.length ≤ k ∧
      ∀ j (h : j < c.length), ∃ v, arr[base + j]? = some v ∧ RV G c[j] v ∧ v.oneCell' = true
  | .map es => ∃ ents clock, w.heap[b]? = some (.map ents clock) ∧ ents.size = es.length ∧
      ∀ j (h : j < es.length) (h' : j < ents.size), RV G es[j].1 ents[j].key ∧ RV G es[j].2 ents[j].val
  | .dead => False
  | .loop l => ∃ r, w.heap[b]? = some (.loop r) ∧ r.state = l.st ∧ r.pending = l.pend ∧ r.params = l.ps ∧ r.assign = l.assign ∧ r.body = l.body ∧ r.tmps.size = l.n ∧
      ∀ t, RV G (Fr.at l.fr t) (r.tmps.getD t Go.undef)

structure Rel (G : Ghost) (h : VHeap) (w : World) : Prop where
  isub : ∀ b o v, G.I b o = some v → w.cell? ⟨b, o, none⟩ = some v
  obj : ∀ o b base k, G.φ o = some (b, base, k) → ∃ x, h.get o = some x ∧ ObjAt G w b base k x
  inj : ∀ o o' m m', G.φ o = some m → G.φ o' = some m' → o ≠ o' → m.1 ≠ m'.1
  sep : ∀ o m off, G.φ o = some m → G.I m.1 off = none
  dom : ∀ o m, G.φ o = some m → o < h.next
  dead : ∀ o, G.D o → o < h.next ∧ h.get o = some .dead
  num : G.n = h.next
  fresh : ∀ o, h.next ≤ o → h.get o = none

/-- A world goes on from another: what no object owns and was there is as it was. -/
structure Ext0 (G G' : Ghost) (w w' : World) : Prop where
  le : G.Le G'
  size : w.heap.size ≤ w'.heap.size
  old : ∀ b, b < w.heap.size → (∀ o m, G.φ o = some m → m.1 ≠ b) → (∀ i, G.I b i = none) → w'.heap[b]? = w.heap[b]?
  own : ∀ o m, G'.φ o = some m → (∃ o' m', G.φ o' = some m' ∧ m'.1 = m.1) ∨ w.heap.size ≤ m.1
  ownI : ∀ b i v, G'.I b i = some v → (∃ i' v', G.I b i' = some v') ∨ w.heap.size ≤ b
  os : w'.os = w.os
  tape : w'.tape = w.tape
  output : w'.output = w.output

theorem Ext0.refl (G : Ghost) (w : World) : Ext0 G G w w :=
  ⟨.refl G, Nat.le_refl _, fun _ _ _ _ => rfl, fun o m h => .inl ⟨o, m, h, rfl⟩, fun _ i v h => .inl ⟨i, v, h⟩, rfl, rfl, rfl⟩

theorem Ext0.trans {G G1 G2 : Ghost} {w w1 w2 : World} (h : Ext0 G G1 w w1) (h' : Ext0 G1 G2 w1 w2) : Ext0 G G2 w w2 where
  le := h.le.trans h'.le
  size := Nat.le_trans h.size h'.size
  old := fun b hb hn hI => by
    rw [h'.old b (Nat.lt_of_lt_of_le hb h.size) (fun o m hm => ?_) (fun i => ?_), h.old b hb hn hI]
    · rcases h.own o m hm with ⟨o', m', h1, h2⟩ | h1
      · exact h2 ▸ hn o' m' h1
      · omega
    · cases hc : G1.I b i with
      | none => rfl
      | some v =>
        rcases h.ownI b i v hc with ⟨i', v', h1⟩ | h1
        · rw [hI i'] at h1; cases h1
        · omega
  own := fun o m hm => by
    rcases h'.own o m hm with ⟨o', m', h1, h2⟩ | h1
    · rcases h.own o' m' h1 with ⟨o2, m2, h3, h4⟩ | h3
      · exact .inl ⟨o2, m2, h3, h4.trans h2⟩
      · exact .inr (h2 ▸ h3)
    · exact .inr (Nat.le_trans h.size h1)
  ownI := fun b i v hv => by
    rcases h'.ownI b i v hv with ⟨i', v', h1⟩ | h1
    · exact h.ownI b i' v' h1
    · exact .inr (Nat.le_trans h.size h1)
  os := h'.os.trans h.os
  tape := h'.tape.trans h.tape
  output := h'.output.trans h.output

/-- What was known but unborn stays so. -/
structure Young (G G' : Ghost) : Prop where
  num : G.n ≤ G'.n
  young : ∀ o, o < G.n → G.φ o = none → G'.φ o = none

theorem Young.refl (G : Ghost) : Young G G := ⟨Nat.le_refl _, fun _ _ h => h⟩
theorem Young.trans {G G1 G2 : Ghost} (h : Young G G1) (h' : Young G1 G2) : Young G G2 :=
  ⟨Nat.le_trans h.num h'.num, fun o ho hφ => h'.young o (Nat.lt_of_lt_of_le ho h.num) (h.young o ho hφ)⟩

structure Ext (G G' : Ghost) (w w' : World) : Prop extends Ext0 G G' w w', Young G G'

theorem Ext.mk' {G G' : Ghost} {w w' : World} (h : Ext0 G G' w w') (hy : Young G G') : Ext G G' w w' := { h, hy with }
theorem Ext.refl (G : Ghost) (w : World) : Ext G G w w := .mk' (.refl G w) (.refl G)
theorem Ext.trans {G G1 G2 : Ghost} {w w1 w2 : World} (h : Ext G G1 w w1) (h' : Ext G1 G2 w1 w2) : Ext G G2 w w2 :=
  .mk' (h.toExt0.trans h'.toExt0) (h.toYoung.trans h'.toYoung)

/-- A draw moves nothing that counts. -/
theorem Rel.drew {G : Ghost} {h : VHeap} {w : World} (hr : Rel G h w) (n : Nat) : Rel G h { w with drawn := n } :=
  ⟨hr.isub, fun o b base k hm => by
    obtain ⟨x, hx, hat⟩ := hr.obj o b base k hm
    exact ⟨x, hx, by cases x <;> exact hat⟩, hr.inj, hr.sep, hr.dom, hr.dead, hr.num, hr.fresh⟩
theorem Ext.drew (G : Ghost) (w : World) (n : Nat) : Ext G G w { w with drawn := n } :=
  .mk' ⟨.refl G, Nat.le_refl _, fun _ _ _ _ => rfl, fun o m h => .inl ⟨o, m, h, rfl⟩, fun _ i v h => .inl ⟨i, v, h⟩, rfl, rfl, rfl⟩ (.refl G)

theorem Rel.block_lt {G : Ghost} {h : VHeap} {w : World} (hr : Rel G h w) {o : Nat} {m : Nat × Nat × Nat} (hm : G.φ o = some m) : m.1 < w.heap.size := by
  obtain ⟨b, base, k⟩ := m
  obtain ⟨x, _, hat⟩ := hr.obj o b base k hm
  cases x with
  | cells c => obtain ⟨arr, t, hb, _⟩ := hat; exact (Array.getElem?_eq_some_iff.1 hb).1
  | map es => obtain ⟨ents, cl, hb, _⟩ := hat; exact (Array.getElem?_eq_some_iff.1 hb).1
  | dead => exact hat.elim
  | loop l => obtain ⟨r, hb, _⟩ := hat; exact (Array.getElem?_eq_some_iff.1 hb).1

theorem Rel.iblock_lt {G : Ghost} {h : VHeap} {w : World} (hr : Rel G h w) {b o : Nat} {v : Value} (hm : G.I b o = some v) : b < w.heap.size :=
  World.block_lt_of_cell? w _ (hr.isub b o v hm)

theorem ObjAt.mono {G G' : Ghost} (hle : G.Le G') {w w' : World} {b base k : Nat} {x : VObj} (hb : w'.heap[b]? = w.heap[b]?) (h : ObjAt G w b base k x) : ObjAt G' w' b base k x := by
  cases x with
  | cells c =>
    obtain ⟨arr, t, h1, h2, h3, h4⟩ := h
    exact ⟨arr, t, hb.trans h1, h2, h3, fun j hj => let ⟨v, a1, a2, a3⟩ := h4 j hj; ⟨v, a1, a2.mono hle, a3⟩⟩
  | map es =>
    obtain ⟨ents, cl, h1, h2, h3⟩ := h
    exact ⟨ents, cl, hb.trans h1, h2, fun j hj hj' => ⟨(h3 j hj hj').1.mono hle, (h3 j hj hj').2.mono hle⟩⟩
  | dead => exact h.elim
  | loop l =>
    obtain ⟨r, h1, h2, h3, h4, h5, h6, h7, h8⟩ := h
    exact ⟨r, hb.trans h1, h2, h3, h4, h5, h6, h7, fun t => (h8 t).mono hle⟩

/-- A number more. -/
def Ghost.more (G : Ghost) : Ghost := { G with n := G.n + 1 }

theorem Ghost.le_more (G : Ghost) : G.Le G.more := ⟨fun _ _ h => .inl h, fun _ h => h, fun _ _ _ h => h⟩
theorem Ext.more (G : Ghost) (w : World) : Ext G G.more w w :=
  .mk' ⟨G.le_more, Nat.le_refl _, fun _ _ _ _ => rfl, fun o m h => .inl ⟨o, m, h, rfl⟩, fun _ i v h => .inl ⟨i, v, h⟩, rfl, rfl, rfl⟩ ⟨Nat.le_succ _, fun _ _ h => h⟩

/-- A heap with an object more that nothing of the world is known of. -/
theorem Rel.push {G : Ghost} {h : VHeap} {w : World} (hr : Rel G h w) (x : VObj) : Rel G.more (h.push x) w where
  isub := hr.isub
  obj := fun o b base k hm => by
    obtain ⟨y, hy, hat⟩ := hr.obj o b base k hm
    exact ⟨y, by rw [VHeap.get_push_ne _ _ (Nat.ne_of_lt (hr.dom o _ hm))]; exact hy, hat.mono G.le_more rfl⟩
  inj := hr.inj
  sep := hr.sep
  dom := fun o m hm => Nat.lt_succ_of_lt (hr.dom o m hm)
  dead := fun o hd => ⟨Nat.lt_succ_of_lt (hr.dead o hd).1, by rw [VHeap.get_push_ne _ _ (Nat.ne_of_lt (hr.dead o hd).1)]; exact (hr.dead o hd).2⟩
  num := by simp [Ghost.more, VHeap.next_push, hr.num]
  fresh := fun o ho => by rw [VHeap.next_push] at ho; rw [VHeap.get_push_ne _ _ (by omega)]; exact hr.fresh o (by omega)

/-- An object's number against a block. -/
def Ghost.bear (G : Ghost) (o : Nat) (m : Nat × Nat × Nat) : Ghost := { G with φ := fun i => if i = o then some m else G.φ i }

theorem Ghost.le_bear {G : Ghost} {o : Nat} (m : Nat × Nat × Nat) (h : G.φ o = none) : G.Le (G.bear o m) :=
  ⟨fun i m' hi => .inl (by
    have : i ≠ o := fun e => by subst e; rw [h] at hi; cases hi
    simp [Ghost.bear, this, hi]), fun _ h => h, fun _ _ _ h => h⟩

/-- A block more in the world, for an object of the heap that had none. -/
theorem Rel.bear {G : Ghost} {h : VHeap} {w : World} (hr : Rel G h w) {o : Nat} {x : VObj} (hx : h.get o = some x) (hlt : o < h.next) (hφ : G.φ o = none)
    (B : Obj) (k : Nat) (hat : ObjAt (G.bear o (w.heap.size, 0, k)) (w.alloc B) w.heap.size 0 k x) :
    Rel (G.bear o (w.heap.size, 0, k)) h (w.alloc B) ∧ Ext0 G (G.bear o (w.heap.size, 0, k)) w (w.alloc B) := by
  have hle : G.Le (G.bear o (w.heap.size, 0, k)) := Ghost.le_bear _ hφ
  have hsz : (w.alloc B).heap.size = w.heap.size + 1 := by simp
  refine ⟨⟨?_, ?_, ?_, ?_, ?_, ?_, hr.num, hr.fresh⟩, ⟨hle, by omega, ?_, ?_, fun _ i v h => .inl ⟨i, v, h⟩, rfl, rfl, rfl⟩⟩
  · intro b i v hv
    have hb := hr.iblock_lt hv
    have h1 := hr.isub b i v hv
    rw [← h1]
    exact World.cell?_of_block (heap_alloc_old w B b hb)
  · intro i b base k' hm
    by_cases hi : i = o
    · subst hi
      simp [Ghost.bear] at hm
      obtain ⟨rfl, rfl, rfl⟩ := hm
      exact ⟨x, hx, hat⟩
    · simp [Ghost.bear, hi] at hm
      obtain ⟨y, hy, hyt⟩ := hr.obj i b base k' hm
      exact ⟨y, hy, hyt.mono hle (heap_alloc_old w B b (hr.block_lt hm))⟩
  · intro i i' m m' hm hm' hne
    by_cases hi : i = o
    · subst hi
      have hi' : i' ≠ i := fun e => hne e.symm
      simp [Ghost.bear] at hm
      simp [Ghost.bear, hi'] at hm'
      have := hr.block_lt hm'
      subst hm
      simp; omega
    · simp [Ghost.bear, hi] at hm
      by_cases hi' : i' = o
      · subst hi'
        simp [Ghost.bear] at hm'
        have := hr.block_lt hm
        subst hm'
        simp; omega
      · simp [Ghost.bear, hi'] at hm'
        exact hr.inj i i' m m' hm hm' hne
  · intro i m off hm
    by_cases hi : i = o
    · subst hi
      simp [Ghost.bear] at hm
      subst hm
      cases hI : G.I w.heap.size off with
      | none => exact hI
      | some v => have := hr.iblock_lt hI; omega
    · simp [Ghost.bear, hi] at hm
      exact hr.sep i m off hm
  · intro i m hm
    by_cases hi : i = o
    · subst hi; exact hlt
    · simp [Ghost.bear, hi] at hm
      exact hr.dom i m hm
  · exact hr.dead
  · intro b hb _ _
    exact heap_alloc_old w B b hb
  · intro i m hm
    by_cases hi : i = o
    · subst hi
      simp [Ghost.bear] at hm
      subst hm
      exact .inr (Nat.le_refl _)
    · simp [Ghost.bear, hi] at hm
      exact .inl ⟨i, m, hm, rfl⟩

/-- Cells of a new block that nobody writes any more. -/
def Ghost.fix (G : Ghost) (b : Nat) (arr : List Value) : Ghost := { G with I := fun b' o => if b' = b then arr[o]? else G.I b' o }

theorem Rel.fix {G : Ghost} {h : VHeap} {w : World} (hr : Rel G h w) (arr : List Value) (t : TypeId) :
    Rel (G.fix w.heap.size arr) h (w.alloc (.cells arr.toArray t)) ∧ Ext G (G.fix w.heap.size arr) w (w.alloc (.cells arr.toArray t)) := by
  have hle : G.Le (G.fix w.heap.size arr) := ⟨fun _ _ h => .inl h, fun _ h => h, fun b o v hv => by
    have : b ≠ w.heap.size := Nat.ne_of_lt (hr.iblock_lt hv)
    simp [Ghost.fix, this, hv]⟩
  refine ⟨⟨?_, ?_, hr.inj, ?_, hr.dom, hr.dead, hr.num, hr.fresh⟩, .mk' ⟨hle, by simp, fun b hb _ _ => heap_alloc_old w _ b hb, fun o m hm => .inl ⟨o, m, hm, rfl⟩, fun b i v hv => by
    by_cases hb : b = w.heap.size
    · exact .inr (by omega)
    · simp [Ghost.fix, hb] at hv; exact .inl ⟨i, v, hv⟩, rfl, rfl, rfl⟩ ⟨Nat.le_refl _, fun _ _ h => h⟩⟩
  · intro b o v hv
    by_cases hb : b = w.heap.size
    · subst hb
      simp [Ghost.fix] at hv
      rw [cell_of_row _ _ _ _ _ _ (heap_alloc_new w _)]
      simpa using hv
    · simp [Ghost.fix, hb] at hv
      rw [← hr.isub b o v hv]
      exact World.cell?_of_block (heap_alloc_old w _ b (hr.iblock_lt hv))
  · intro o b base k hm
    obtain ⟨y, hy, hyt⟩ := hr.obj o b base k hm
    exact ⟨y, hy, hyt.mono hle (heap_alloc_old w _ b (hr.block_lt hm))⟩
  · intro o m off hm
    have : m.1 ≠ w.heap.size := Nat.ne_of_lt (hr.block_lt hm)
    simp [Ghost.fix, this, hr.sep o m off hm]

end Go.Vv
