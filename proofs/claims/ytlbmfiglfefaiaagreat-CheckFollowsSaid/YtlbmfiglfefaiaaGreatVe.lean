/- What the abstract interpreter tells of each plain operation is what the model's operation does: building, slicing, texts of bytes, maps' lookups; then all reading operations together. -/
import Derived.Test.YtlbmfiglfefaiaaGreatVd
import Derived.Great.FillDense
import Derived.Laws.Slices
namespace Go.Vv

variable {P : Program} {G : Ghost} {w : World}

/-! ## Constants -/

theorem ofValue_sound (G : Ghost) {v : Value} (h : constCell v = true) : RV G (ofValue v) v ∧ v.oneCell' = true := by
  unfold constCell at h
  split at h <;> first | (cases h; done) | skip
  · exact ⟨.bool _, rfl⟩
  · exact ⟨.int .., rfl⟩
  · exact ⟨.str _, rfl⟩
  · exact ⟨.nilp, rfl⟩
  · exact ⟨.nilm, rfl⟩
  · exact ⟨.nilf, rfl⟩
  · exact ⟨.nili, rfl⟩
  · exact ⟨.nils, rfl⟩
  · rename_i f a b
    simp only [Bool.and_eq_true, Array.isEmpty_iff] at h
    obtain ⟨rfl, rfl⟩ := h
    exact ⟨.fn rfl rfl (fun _ h => absurd h (Nat.not_lt_zero _)) (fun _ h => absurd h (Nat.not_lt_zero _)), rfl⟩

theorem ofZero_cell (v : Value) (h : constCell v = true) : ofZero v = ofValue v := by
  cases v <;> first | rfl | (simp [constCell] at h)

theorem constCell_of {v : Value} (h : constOK v = true) (ha : ¬ ∃ cs, v = .agg cs) : constCell v = true := by
  cases v <;> first | exact h | exact absurd ⟨_, rfl⟩ ha

theorem ofZero_sound (G : Ghost) {v : Value} (h : constOK v = true) : RV G (ofZero v) v := by
  by_cases ha : ∃ cs, v = .agg cs
  · obtain ⟨cs, rfl⟩ := ha
    simp only [constOK, Array.all_eq_true] at h
    refine RV.agg_iff.2 ⟨cs, rfl, ⟨by simp, fun j h1 h2 => ?_⟩, fun u hu => ?_⟩
    · have := (ofValue_sound G (h j (by simpa using h2))).1
      simpa using this
    · obtain ⟨j, hj, rfl⟩ := List.getElem_of_mem hu
      have := (ofValue_sound G (h j (by simpa using hj))).2
      simpa using this
  · rw [ofZero_cell _ (constCell_of h ha)]; exact (ofValue_sound G (constCell_of h ha)).1

theorem vzero_sound (G : Ghost) {t : TypeId} {z : VV} (h : vzero P t = some z) : ∃ i x, P.info? t = some i ∧ i.zero = some x ∧ z = ofZero x ∧ RV G z x ∧ (zeroValue t).run P w = .ok x w := by
  unfold vzero at h
  cases hi : P.info? t with
  | none => simp [hi] at h
  | some i =>
    cases hz : i.zero with
    | none => simp [hi, hz] at h
    | some x =>
      simp [hi, hz] at h
      obtain ⟨hc, rfl⟩ := h
      exact ⟨i, x, rfl, hz, rfl, ofZero_sound G hc, by simp [zeroValue, typeInfo, hi, hz]⟩

theorem notup_of_one {v : VV} (h : v.one = true) : v.isTup = false := by
  cases v <;> first | rfl | (simp [VV.one] at h)

theorem ofZero_notup {v : Value} (h : constOK v = true) : (ofZero v).isTup = false := by
  by_cases ha : ∃ cs, v = .agg cs
  · obtain ⟨cs, rfl⟩ := ha; rfl
  · have hc := constCell_of h ha
    rw [ofZero_cell _ hc]
    have := ofValue_sound ⟨fun _ => none, fun _ => False, fun _ _ => none, 0⟩ hc
    exact notup_of_one (this.1.one.trans this.2)

/-! ## Cells written over others -/

theorem over_length {c : List VV} {off : Nat} {new : List VV} (h : off + new.length ≤ c.length) : (over c off new).length = c.length := by
  simp [over]; omega

def overV (c : List Value) (off : Nat) (new : List Value) : List Value := c.take off ++ new ++ c.drop (off + new.length)

theorem RVs.over {c new : List VV} {L N : List Value} (hc : RVs G c L) (hn : RVs G new N) (off : Nat) : RVs G (Vv.over c off new) (overV L off N) := by
  unfold Vv.over overV
  rw [hn.1]
  exact ((hc.take off).append hn).append (hc.drop _)

theorem getElem?_overV (c new : List Value) (off k : Nat) (h : off + new.length ≤ c.length) : (overV c off new)[k]? = if off ≤ k ∧ k < off + new.length then new[k - off]? else c[k]? := by
  unfold overV
  by_cases h1 : k < off
  · rw [List.append_assoc, List.getElem?_append_left (by simp; omega), if_neg (by omega), List.getElem?_take, if_pos h1]
  · by_cases h2 : k < off + new.length
    · rw [if_pos ⟨by omega, h2⟩, List.getElem?_append_left (by simp; omega), List.getElem?_append_right (by simp; omega)]
      congr 1; simp; omega
    · rw [if_neg (by omega), List.getElem?_append_right (by simp; omega), List.getElem?_drop]
      congr 1; simp; omega

theorem foldl_over (off : Nat) (x : Array Value) (cs : Array Value) (h : off + x.size ≤ cs.size) :
    (x.zipIdx.foldl (fun (cs : Array Value) (c : Value × Nat) => cs.setIfInBounds (off + c.2) c.1) cs).toList = overV cs.toList off x.toList := by
  rw [← Array.foldl_toList, Array.toList_zipIdx]
  obtain ⟨h1, h2⟩ := Great.foldl_set off x.toList 0 cs
  apply List.ext_getElem?
  intro k
  rw [getElem?_overV _ _ _ _ (by simpa using h), Array.getElem?_toList, h2 k]
  simp only [Nat.add_zero, Array.length_toList, Array.getElem?_toList]
  by_cases hk : off ≤ k ∧ k < off + x.size
  · rw [if_pos ⟨hk.1, hk.2, by omega⟩, if_pos hk]
  · rw [if_neg (by omega), if_neg hk]

theorem vfill_sound {place : Nat → Option (Nat × Nat)} : ∀ (parts : List (Nat × VV)) (ps : List (Nat × Value)) (cells : List VV) (arr : Array Value) (out : List VV),
    parts.length = ps.length → (∀ j (h : j < parts.length) (h' : j < ps.length), parts[j].1 = ps[j].1 ∧ RV G parts[j].2 ps[j].2) →
    RVs G cells arr.toList → (∀ u ∈ arr.toList, u.oneCell' = true) → vfill place cells parts = some out →
    ∃ arr', Instr.fill place arr ps = some arr' ∧ RVs G out arr'.toList ∧ ∀ u ∈ arr'.toList, u.oneCell' = true := by
  intro parts
  induction parts with
  | nil =>
    intro ps cells arr out hl _ hc h1 hv
    have : ps = [] := List.eq_nil_of_length_eq_zero (by simpa using hl.symm)
    subst this
    simp [vfill] at hv; subst hv
    exact ⟨arr, rfl, hc, h1⟩
  | cons p parts ih =>
    intro ps cells arr out hl hp hc h1 hv
    cases ps with
    | nil => simp at hl
    | cons q ps =>
      obtain ⟨i, v⟩ := p
      obtain ⟨i', x⟩ := q
      have h0 := hp 0 (by simp) (by simp)
      simp at h0
      obtain ⟨rfl, hvx⟩ := h0
      simp only [vfill] at hv
      cases hpl : place i with
      | none => simp [hpl] at hv
      | some os =>
        obtain ⟨off, size⟩ := os
        simp only [hpl] at hv
        split at hv
        · cases hv
        · rename_i hn
          simp only [not_or, ne_eq, Decidable.not_not, gt_iff_lt, Nat.not_lt] at hn
          obtain ⟨hn1, hn2, hn3⟩ := hn
          have hnt : v.isTup = false := by simpa using hn3
          obtain ⟨hcells, hone⟩ := hvx.cells hnt
          have e1 : x.cells.size = v.cells.length := by have := hcells.1; simpa using this.symm
          have e2 : arr.size = cells.length := by have := hc.1; simpa using this.symm
          have hfo := foldl_over off x.cells arr (by omega)
          obtain ⟨arr', ha, hb, hd⟩ := ih ps (over cells off v.cells) (x.cells.zipIdx.foldl (fun cs c => cs.setIfInBounds (off + c.2) c.1) arr) out (by simpa using hl)
            (fun j hj hj' => by have := hp (j + 1) (by simpa using hj) (by simpa using hj'); simpa using this)
            (by rw [hfo]; exact hc.over hcells off) (by
              rw [hfo]
              intro u hu
              simp only [overV, List.mem_append] at hu
              rcases hu with (hu | hu) | hu
              · exact h1 u (List.mem_of_mem_take hu)
              · exact hone u hu
              · exact h1 u (List.mem_of_mem_drop hu)) hv
          refine ⟨arr', ?_, hb, hd⟩
          simp only [Instr.fill, hpl]
          rw [if_neg (by simp; omega)]
          exact ha

end Go.Vv
