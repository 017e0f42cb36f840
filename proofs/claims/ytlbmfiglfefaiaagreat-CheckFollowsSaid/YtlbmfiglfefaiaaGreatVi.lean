/- What the abstract interpreter tells of each plain operation is what the model's operation does: operations that make an object, and those that change the heap. -/
import Derived.Test.YtlbmfiglfefaiaaGreatVh
import Derived.MapKept
import Derived.Laws.MakeOwn
namespace Go.Vv

variable {P : Program} {G : Ghost} {w : World}

/-- What stands in an object's block is other than it was. -/
theorem Rel.rewrite {h : VHeap} (hr : Rel G h w) {o b base k : Nat} (hφ : G.φ o = some (b, base, k)) {x : VObj} {w' : World}
    (hat : ObjAt G w' b base k x) (hother : ∀ b', b' ≠ b → w'.heap[b']? = w.heap[b']?) (hsz : w'.heap.size = w.heap.size) (hos : w'.os = w.os)
    (ht : w'.tape = w.tape) (hout : w'.output = w.output) : Rel G (h.set o x) w' ∧ Ext G G w w' := by
  refine ⟨⟨?_, ?_, hr.inj, hr.sep, hr.dom, ?_, hr.num, fun o' ho' => by rw [VHeap.get_set_ne _ _ (fun e => by subst e; exact absurd (hr.dom _ _ hφ) (Nat.not_lt.2 ho'))]; exact hr.fresh o' ho'⟩, .mk' ⟨.refl G, by omega, ?_, fun o m hm => .inl ⟨o, m, hm, rfl⟩, fun _ i v h => .inl ⟨i, v, h⟩, hos, ht, hout⟩ (.refl G)⟩
  · intro b' i v hv
    have hne : b' ≠ b := by
      rintro rfl
      have := hr.sep o _ i hφ
      simp only at this
      rw [this] at hv; cases hv
    rw [← hr.isub b' i v hv]
    exact World.cell?_of_block (hother b' hne)
  · intro o' b' base' k' hm
    by_cases ho : o' = o
    · subst ho
      rw [hφ] at hm; cases hm
      exact ⟨x, VHeap.get_set_same .., hat⟩
    · obtain ⟨y, hy, hyt⟩ := hr.obj o' b' base' k' hm
      refine ⟨y, by rw [VHeap.get_set_ne _ _ ho]; exact hy, hyt.mono (.refl G) (hother b' ?_)⟩
      exact hr.inj o' o _ _ hm hφ ho
  · intro o' hd
    refine ⟨(hr.dead o' hd).1, ?_⟩
    by_cases ho : o' = o
    · subst ho
      obtain ⟨y, hy, hyt⟩ := hr.obj _ _ _ _ hφ
      rw [(hr.dead _ hd).2] at hy; cases hy
      exact hyt.elim
    · rw [VHeap.get_set_ne _ _ ho]; exact (hr.dead o' hd).2
  · intro b' _ hn _
    exact hother b' (fun e => hn o _ hφ e.symm)

/-- Cells of a row from the cells of a list. -/
theorem objAt_cells {c : List VV} {L : List Value} (hc : RVs G c L) (h1 : ∀ u ∈ L, u.oneCell' = true) {b base k : Nat} {arr : Array Value} {t : TypeId}
    (hb : w.heap[b]? = some (.cells arr t (0, 0))) (hk : base + k ≤ arr.size) (hl : c.length ≤ k) (hL : ∀ j u, L[j]? = some u → arr[base + j]? = some u) : ObjAt G w b base k (.cells c) := by
  refine ⟨arr, t, hb, hk, hl, fun j hj => ?_⟩
  have hj' : j < L.length := hc.1 ▸ hj
  exact ⟨L[j], hL j _ (by simp [hj']), hc.2 j hj hj', h1 _ (by simp)⟩

theorem vstore_sound {h h' : VHeap} (hr : Rel G h w) {t : TypeId} {p v : VV} {a x : Value} (hp : RV G p a) (hx : RV G v x) (hv : vstore P t p v h = some h') :
    ∃ w', (Instr.storeAt t a x).run P w = .ok () w' ∧ Rel G h' w' ∧ Ext G G w w' := by
  unfold vstore at hv
  split at hv
  · rename_i o off
    split at hv
    · rename_i c hg
      split at hv
      · rename_i hc
        obtain ⟨hc1, hc0, hc2, hc3⟩ := hc
        cases hv
        obtain ⟨hxc, hx1⟩ := hx.cells hc3
        cases hp with
        | ptrD hd => have := (hr.dead o hd).2; rw [hg] at this; cases this
        | ptr hφ =>
          rename_i b base k
          obtain ⟨arr, t', h1, h2, h3, L, hL, hone, hat, hLeq⟩ := obj_cells hr hφ hg
          have hlen : x.cells.toList.length = v.cells.length := hxc.1.symm
          have hst := run_storeCells_at P b (base + off) t' x.cells.toList 0 arr w h1 (by omega) hx1
          simp only [Nat.add_zero] at hst
          have hLl : L.length = c.length := hL.1.symm
          obtain ⟨i, hi⟩ := vsz_info hc0
          have hsize := run_sizeOf_vsz (w := w) hi
          have hrun : (Instr.storeAt t (.pointer (some ⟨b, base + off, none⟩)) x).run P w = .ok () (w.setRow b (arr.toList.take (base + off) ++ x.cells.toList ++ arr.toList.drop (base + off + x.cells.toList.length)).toArray) := by
            have hcs : x.cells.size = vsz P t := by rw [← hc1, ← hlen]; simp
            simp [Instr.storeAt, Instr.sureAddr, storeVar, hsize, hcs]
            simpa [hcs] using hst
          refine ⟨_, hrun, ?_⟩
          refine hr.rewrite hφ ?_ (fun b' hb' => setRow_other w b b' _ hb') (by simp) rfl rfl rfl
          refine objAt_cells (L := overV L off x.cells.toList) (hL.over hxc off) ?_ (setRow_heap w b arr _ t' _ h1) ?_ ?_ ?_
          · intro u hu
            simp only [overV, List.mem_append] at hu
            rcases hu with (hu | hu) | hu
            · exact hone u (List.mem_of_mem_take hu)
            · exact hx1 u hu
            · exact hone u (List.mem_of_mem_drop hu)
          · simp only [List.size_toArray, List.length_append, List.length_take, List.length_drop, Array.length_toList]; omega
          · rw [over_length hc2]; exact h3
          · intro j u hu
            rw [getElem?_overV _ _ _ _ (by omega)] at hu
            have key := getElem?_overV arr.toList x.cells.toList (base + off) (base + j) (by have e : arr.toList.length = arr.size := Array.length_toList; omega)
            simp only [overV] at key
            simp only [List.getElem?_toArray]
            rw [key]
            split at hu
            · rw [if_pos (by omega)]
              rw [show base + j - (base + off) = j - off by omega]; exact hu
            · rw [if_neg (by omega)]
              have hjc : j < c.length := by rw [← hLl]; exact (List.getElem?_eq_some_iff.1 hu).1
              rw [hLeq, List.getElem?_take, if_pos hjc, List.getElem?_drop] at hu
              exact hu
      · cases hv
    · cases hv
  · cases hv

/-! ## Maps -/

theorem vsameKey_eq {k k' : VV} {x x' : Value} (hx : RV G k x) (hx' : RV G k' x') (hv : vsameKey k k' = some true) : x' = x ∧ ∀ n, Instr.sameBits n x x = true := by
  unfold vsameKey at hv
  split at hv
  · cases hx; cases hx'
    split at hv
    · rename_i hj; subst hj
      simp at hv; subst hv
      exact ⟨rfl, fun n => by cases n <;> simp [Instr.sameBits]⟩
    · cases hv
  · cases hx; cases hx'
    rename_i s s'
    simp at hv
    have : s = s' := by
      apply ByteArray.ext
      exact hv
    subst this
    have hs : (s == s) = true := by rw [beq_toListBytes]; simp
    exact ⟨rfl, fun n => by cases n <;> simp [Instr.sameBits, hs]⟩
  · cases hv

theorem vfind_key {k : VV} : ∀ (es : List (VV × VV)) (i n : Nat) (v : VV), vfind k es i = some (some (n, v)) → i ≤ n ∧ ∃ e, es[n - i]? = some e ∧ vsameKey k e.1 = some true := by
  intro es
  induction es with
  | nil => intro i n v h; simp [vfind] at h
  | cons e es ih =>
    intro i n v h
    simp only [vfind] at h
    cases hs : vsameKey k e.1 with
    | none => simp [hs] at h
    | some b =>
      cases b with
      | true => simp [hs] at h; obtain ⟨rfl, _⟩ := h; exact ⟨Nat.le_refl _, e, by simp, hs⟩
      | false =>
        simp [hs] at h
        obtain ⟨h1, e', h2, h3⟩ := ih (i + 1) n v h
        refine ⟨by omega, e', ?_, h3⟩
        rw [show n - i = (n - (i + 1)) + 1 by omega, List.getElem?_cons_succ]; exact h2

/-- A map's block after a store. -/
def mapAfter (r : Option (Nat × Value)) (ents : Array MapEntry) (cl : Nat) (x y : Value) : Obj :=
  match r with
  | some (n, _) => .map (ents.modify n fun e => { e with key := x, val := y }) cl
  | none => .map (ents.push { key := x, val := y, born := cl }) (cl + 1)

theorem run_mapUpdate_at {t kt e : TypeId} {d : TypeDesc} (hu : P.underlying t = some (.map kt e)) (hk : P.underlying kt = some d) (hd : (∃ k, d = .int k) ∨ d = .string)
    {b cl : Nat} {x y : Value} {ents : Array MapEntry} (hb : w.heap[b]? = some (.map ents cl)) {r : Option (Nat × Value)} (hf : Instr.findNow d x ents.toList 0 = some r)
    (hkey : ∀ n v, r = some (n, v) → ∃ en, ents[n]? = some en ∧ en.key = x ∧ Instr.sameBits 10000 x x = true) :
    (Instr.mapUpdate t (.map (some b)) x y).run P w = .ok () { w with heap := w.heap.setIfInBounds b (mapAfter r ents cl x y) } := by
  have hfk : (Instr.findKey kt x ents.toList).run P w = .ok r w := by
    unfold Instr.findKey
    rw [Sem.run_bind, run_underlying hk]
    simp [hf]
  have hck := checkKey_plain (P := P) (w := w) hk hd false x
  have hset := fun o => MapKept.run_setObj_map (P := P) o hb
  unfold Instr.mapUpdate
  cases r with
  | none => simp [run_underlying hu, run_getObj_map (P := P) hb, hck, hfk, hset, mapAfter]
  | some q =>
    obtain ⟨n, v⟩ := q
    obtain ⟨en, h1, h2, h3⟩ := hkey n v rfl
    simp [run_underlying hu, run_getObj_map (P := P) hb, hck, hfk, h1, h2, Instr.keyThatStays, h3, hset, mapAfter]

theorem vmapUpdate_sound {h h' : VHeap} (hr : Rel G h w) {t : TypeId} {m k v : VV} {a x y : Value} (hm : RV G m a) (hx : RV G k x) (hy : RV G v y) (hv : vmapUpdate P t m k v h = some h') :
    ∃ w', (Instr.mapUpdate t a x y).run P w = .ok () w' ∧ Rel G h' w' ∧ Ext G G w w' := by
  unfold vmapUpdate at hv
  split at hv
  · rename_i e o he
    obtain ⟨kt, d, hu, hk, hd⟩ := vmapElem_some he
    split at hv
    · rename_i hfit
      have hkind := vkeyFits_kind hu hk hfit
      split at hv
      · rename_i es hg
        cases hm with
        | mapD hdd => have := (hr.dead _ hdd).2; rw [hg] at this; cases this
        | map hφ =>
          rename_i b base k'
          obtain ⟨z, hz, hat⟩ := hr.obj _ _ _ _ hφ
          rw [hg] at hz; cases hz
          obtain ⟨ents, cl, hb, hsz, hall⟩ := hat
          have hbl : b < w.heap.size := (Array.getElem?_eq_some_iff.1 hb).1
          have hfs := fun r => vfind_sound hx hkind es ents.toList 0 r (by simpa using hsz.symm) (fun j hj hj' => by simpa using hall j hj (by simpa using hj'))
          have hother : ∀ o', ∀ b', b' ≠ b → ({ w with heap := w.heap.setIfInBounds b o' } : World).heap[b']? = w.heap[b']? := fun o' b' hb' => (MapKept.heap_set (o' := o') hb).2 b' hb'
          have hsame : ∀ o', ({ w with heap := w.heap.setIfInBounds b o' } : World).heap[b]? = some o' := fun o' => (MapKept.heap_set hb).1
          split at hv
          · rename_i n v' hf
            cases hv
            obtain ⟨_, hn, y', h3, _, _⟩ := hfs _ hf
            obtain ⟨_, e', h5, h6⟩ := vfind_key _ _ _ _ hf
            simp only [Nat.sub_zero, Nat.zero_add] at h5 hn
            obtain ⟨hn', rfl⟩ := List.getElem?_eq_some_iff.1 h5
            have hn2 : n < ents.size := by omega
            obtain ⟨hkx, hbits⟩ := vsameKey_eq hx (hall n hn' hn2).1 h6
            refine ⟨_, run_mapUpdate_at (y := y) hu hk hd hb h3 (fun n' v'' hq => by cases hq; exact ⟨ents[n], by simp [hn2], hkx, hbits _⟩), hr.rewrite hφ ?_ (hother _) (by simp) rfl rfl rfl⟩
            refine ⟨_, cl, hsame _, by simp [hsz], fun j hj hj' => ?_⟩
            simp only [Array.getElem_modify, List.getElem_set]
            split
            · exact ⟨hx, hy⟩
            · exact hall j (by simpa using hj) (by simpa using hj')
          · rename_i hf
            cases hv
            have h3 := hfs _ hf
            refine ⟨_, run_mapUpdate_at (y := y) hu hk hd hb h3 (fun n' v'' hq => by cases hq), hr.rewrite hφ ?_ (hother _) (by simp) rfl rfl rfl⟩
            refine ⟨_, cl + 1, hsame _, by simp [hsz], fun j hj hj' => ?_⟩
            by_cases hjl : j < es.length
            · rw [List.getElem_append_left hjl, Array.getElem_push_lt (by omega)]
              exact hall j hjl (by omega)
            · have hje : j = es.length := by simp at hj; omega
              subst hje
              rw [List.getElem_append_right (by omega)]
              simp [← hsz]
              exact ⟨hx, hy⟩
          · cases hv
      · cases hv
    · cases hv
  · cases hv

/-! ## Births -/

/-- An operation that makes an object: its value once the object has its block. -/
def Born (G : Ghost) (w : World) (f : Nat → VV) (x : VObj) (y : Value) (B : Obj) (k : Nat) : Prop :=
  ∀ (G' : Ghost) (i : Nat) (w' : World), G.Le G' → w'.heap[w.heap.size]? = some B → G'.φ i = some (w.heap.size, 0, k) → RV G' (f i) y ∧ ObjAt G' w' w.heap.size 0 k x

theorem born_cells {v : VV} {x : Value} (hx : RV G v x) (ht : v.isTup = false) (e : TypeId) :
    Born G w (fun o => .ptr o 0) (.cells v.cells) (.pointer (some ⟨w.heap.size, 0, none⟩)) (.cells x.cells e) x.cells.size := by
  intro G' i w' hle hb hφ
  obtain ⟨hc, h1⟩ := hx.cells ht
  refine ⟨.ptr hφ, objAt_cells (hc.mono hle) h1 hb (by omega) (by rw [hc.1]; simp) (fun j u hu => by simpa using hu)⟩

theorem vnew_sound {o : Oper} {fr : Fr} {ρ : Operand → Value} (hρ : ∀ x ∈ o.op.operands, RV G (ev fr x) (ρ x)) {f : Nat → VV} {x : VObj} (hv : vnew P o.op fr = some (f, x)) :
    ∃ y B k, (execOp ρ o).run P w = .ok (.value y) (w.alloc B) ∧ Born G w f x y B k := by
  obtain ⟨dst, op, type, pos, after, guard⟩ := o
  unfold vnew at hv
  simp only at hv hρ
  split at hv
  · rename_i t
    cases hz : vzero P t with
    | none => simp [hz] at hv
    | some z =>
      simp [hz] at hv
      obtain ⟨rfl, rfl⟩ := hv
      obtain ⟨i, zx, hi, hzx, _, hzr, hzrun⟩ := vzero_sound (w := w) G hz
      exact ⟨_, _, _, by simp [execOp, Instr.alloc, hzrun, newVar, newRow], born_cells hzr (vzero_notup hz) t⟩
  · rename_i t x'
    split at hv
    · cases hv
    · rename_i ht
      cases hv
      have hx := hρ x' (by simp [Op.operands])
      exact ⟨_, _, _, by simp [execOp, Instr.box, newVar, newRow], born_cells hx (by simpa using ht) t⟩
  · cases hv
    refine ⟨_, _, 0, by simp [execOp, Instr.makeMap], fun G' i w' hle hb hφ => ⟨.map hφ, #[], 0, hb, rfl, fun j h => absurd h (Nat.not_lt_zero _)⟩⟩
  · rename_i t l c
    have hl := hρ l (by simp [Op.operands])
    have hc := hρ c (by simp [Op.operands])
    unfold vmakeSlice at hv
    split at hv
    · rename_i e kl l' kc c' he hel hec
      split at hv
      · rename_i z hz
        split at hv
        · rename_i hcond
          obtain ⟨h1, h2, h3, h4, h5, h6⟩ := hcond
          cases hv
          rw [hel] at hl; rw [hec] at hc
          generalize hlv : ρ l = lv at hl
          generalize hcv : ρ c = cv at hc
          cases hl; cases hc
          obtain ⟨i, zx, hi, hzx, _, hzr, _⟩ := vzero_sound (w := w) G hz
          have hs : vsz P e = i.size := by simp [vsz, hi]
          have hbb : vbytes P e = i.bytes := by simp [vbytes, hi]
          have hrun := run_make (P := P) w t e i zx (velem_some he) hi hzx kl kc l' c' h1 h2 (by rw [← hbb]; omega) h3
          obtain ⟨hzc, hz1⟩ := hzr.cells (vzero_notup hz)
          have hzl : zx.cells.size = i.size := by have := hzc.1; simp at this; omega
          have hpos : 0 < zx.cells.size := by omega
          have e1 : madeCells zx.cells (c'.toNat * i.size) = (Array.range (c'.toNat * zx.cells.size)).map (zx.cells[· % zx.cells.size]!) := by rw [← hzl]; rfl
          refine ⟨_, _, c'.toNat * i.size, by simp [execOp, hlv, hcv, hrun]; exact ⟨rfl, rfl⟩, fun G' j w' hle hb hφ => ⟨?_, ?_⟩⟩
          · refine .ref (a := ⟨w.heap.size, 0, none⟩) hφ (by omega) (fun k' hk' => by cases hk'; rfl) (.inr ⟨rfl, by rw [hs]; omega⟩) rfl
          · refine objAt_cells (L := (madeCells zx.cells (c'.toNat * i.size)).toList) ?_ ?_ hb ?_ ?_ (fun j u hu => by simpa using hu)
            · rw [e1]; exact (RVs.zeros hzc c'.toNat hpos).mono hle
            · rw [e1]; exact zeros_one hz1 c'.toNat hpos
            · rw [e1]; simp [hzl]
            · rw [flatten_replicate_length, h5, hs]; exact Nat.le_refl _
        · cases hv
      · cases hv
    · cases hv
  · cases hv

end Go.Vv
