/- What the abstract interpreter tells of each plain operation is what the model's operation does: structs, literals of slices, slicing, texts of bytes, maps' lookups; then all reading operations together. -/
import Derived.Test.YtlbmfiglfefaiaaGreatVe
import Derived.Great.BuildSlice
namespace Go.Vv

variable {P : Program} {G : Ghost} {w : World}

theorem one_of_RVs {l : List VV} {a : List Value} (h : RVs G l a) (h1 : ∀ v ∈ l, v.one = true) : ∀ u ∈ a, u.oneCell' = true := by
  intro u hu
  obtain ⟨j, hj, rfl⟩ := List.getElem_of_mem hu
  have hj' : j < l.length := by rw [h.1]; exact hj
  rw [← (h.2 j hj' hj).one]
  exact h1 _ (List.getElem_mem hj')

theorem vbuild_sound {t : TypeId} {parts : List (Nat × VV)} {ps : Array (Nat × Value)} (hl : parts.length = ps.size)
    (hp : ∀ j (h : j < parts.length) (h' : j < ps.size), parts[j].1 = ps[j].1 ∧ RV G parts[j].2 ps[j].2) {v : VV} (hv : vbuild P t parts = some v) :
    ∃ x, (Instr.build t ps).run P w = .ok x w ∧ RV G v x := by
  unfold vbuild at hv
  split at hv
  · rename_i places z hpl hz
    obtain ⟨it, zx, hit, hzx, _, hzr, _⟩ := vzero_sound (w := w) G hz
    simp only [Option.map_eq_some_iff] at hv
    obtain ⟨out, hout, rfl⟩ := hv
    have hzt : z.isTup = false := by
      unfold vzero at hz
      simp only [hit, Option.bind_some, hzx] at hz
      split at hz
      · rename_i hc; cases hz; exact ofZero_notup hc
      · cases hz
    obtain ⟨hzc, hz1⟩ := hzr.cells hzt
    unfold vplaces at hpl
    split at hpl
    · rename_i fs hu
      obtain ⟨arr, ha, hr, h1⟩ := vfill_sound (place := fun i => places[i]?) parts ps.toList z.cells zx.cells out (by simpa using hl) (fun j h h' => by simpa using hp j h (by simpa using h')) hzc hz1 hout
      refine ⟨.agg arr, run_build w t ps arr ?_, RV.agg_iff.2 ⟨arr, rfl, hr, h1⟩⟩
      simp only [Program.built, hit, hu, hzx, hpl]
      simpa using ha
    · cases hpl
  · cases hv

theorem vfill_length {place : Nat → Option (Nat × Nat)} : ∀ (parts : List (Nat × VV)) (cells : List VV) (out : List VV), vfill place cells parts = some out → out.length = cells.length := by
  intro parts
  induction parts with
  | nil => intro cells out h; simp [vfill] at h; rw [h]
  | cons p parts ih =>
    intro cells out h
    obtain ⟨i, v⟩ := p
    simp only [vfill] at h
    split at h
    · cases h
    · split at h
      · cases h
      · rename_i hn
        simp only [not_or, gt_iff_lt, Nat.not_lt] at hn
        rw [ih _ _ h, over_length hn.2.1]

theorem rows_length (n k : Nat) : ∀ (l : List VV), (rows n k l).length = n := by
  induction n with
  | zero => intro l; rfl
  | succ n ih => intro l; simp [rows, ih]

theorem rows_get {k : Nat} : ∀ (n : Nat) (l : List VV) (i : Nat) (h : i < (rows n k l).length), (rows n k l)[i] = (l.drop (i * k)).take k := by
  intro n
  induction n with
  | zero => intro l i h; simp [rows] at h
  | succ n ih =>
    intro l i h
    cases i with
    | zero => simp [rows]
    | succ i =>
      have := ih (l.drop k) i (by simpa [rows] using h)
      simp only [rows, List.getElem_cons_succ, this, List.drop_drop]
      congr 2
      rw [Nat.succ_mul, Nat.add_comm]

/-- Cells that nobody writes any more, as the rows of a slice. -/
theorem RV.vs_of_cells {cs : List VV} {L : List Value} (hc : RVs G cs L) (h1 : ∀ u ∈ L, u.oneCell' = true) {b base n k c : Nat} {cap : Option Nat} (hI : ∀ j u, L[j]? = some u → G.I b (base + j) = some u)
    (hn : n * k ≤ cs.length) (hcap : n ≤ c) (hk : ∀ q, cap = some q → c = q) : RV G (.vs (rows n k cs) cap) (.slice (some ⟨b, base, none⟩) n c) := by
  have hlen : (rows n k cs).length = n := rows_length n k cs
  have hidx : ∀ i j, i < n → j < k → i * k + j < L.length := by
    intro i j hi hj
    have : (i + 1) * k ≤ n * k := Nat.mul_le_mul_right k hi
    rw [Nat.succ_mul] at this
    rw [← hc.1]; omega
  have hrow : ∀ i (h : i < (rows n k cs).length), (rows n k cs)[i].length = k := by
    intro i h
    rw [rows_get]
    have := hidx i
    have h2 : (i + 1) * k ≤ n * k := Nat.mul_le_mul_right k (by omega)
    rw [Nat.succ_mul] at h2
    simp; omega
  have := RV.vs (G := G) (es := rows n k cs) (cap := cap) (b := b) (base := base) (n := k) (c := c) (fun i j => L.getD (i * k + j) Go.undef)
    (by rw [hlen]; exact hcap) hk hrow
    (fun i j hi hj => by
      rw [Nat.add_assoc]
      apply hI
      have hlt := hidx i j (by omega) hj
      rw [List.getElem?_eq_getElem hlt]; simp [List.getD, List.getElem?_eq_getElem hlt])
    (fun i hi j hj => by
      have hlt := hidx i j (by omega) (by rw [hrow i hi] at hj; exact hj)
      have h2 := hc.2 (i * k + j) (by rw [hc.1]; exact hlt) hlt
      have e : (rows n k cs)[i][j] = cs[i * k + j]'(by rw [hc.1]; exact hlt) := by
        have e1 := rows_get n cs i hi
        have : (rows n k cs)[i][j]? = cs[i * k + j]? := by
          rw [e1, List.getElem?_take, if_pos (by rw [hrow i hi] at hj; exact hj), List.getElem?_drop]
        rw [List.getElem?_eq_getElem hj, List.getElem?_eq_getElem (by rw [hc.1]; exact hlt)] at this
        exact Option.some.inj this
      rw [e]
      simpa [List.getD, List.getElem?_eq_getElem hlt] using h2)
    (fun i j hi hj => by
      have hlt := hidx i j (by omega) hj
      simp only [List.getD, List.getElem?_eq_getElem hlt, Option.getD_some]
      exact h1 _ (List.getElem_mem hlt))
  rw [hlen] at this
  exact this


theorem flatten_replicate_length (n : Nat) (l : List VV) : ((List.replicate n l).flatten).length = n * l.length := by
  simp [List.length_flatten]

theorem getElem?_flatten_replicate {α : Type} (l : List α) : ∀ (n j : Nat), j < n * l.length → ((List.replicate n l).flatten)[j]? = l[j % l.length]? := by
  intro n
  induction n with
  | zero => intro j h; simp at h
  | succ n ih =>
    intro j h
    rw [List.replicate_succ, List.flatten_cons]
    have hpos : 0 < l.length := by
      rcases Nat.eq_zero_or_pos l.length with h0 | h0
      · rw [h0] at h; simp at h
      · exact h0
    by_cases hj : j < l.length
    · rw [List.getElem?_append_left hj, Nat.mod_eq_of_lt hj]
    · rw [List.getElem?_append_right (by omega), ih _ (by rw [Nat.succ_mul] at h; omega)]
      congr 1
      exact (Nat.mod_eq_sub_mod (by omega)).symm

/-- Zero cells over and over, as the model makes them. -/
theorem RVs.zeros {zc : List VV} {zx : Array Value} (h : RVs G zc zx.toList) (n : Nat) (hpos : 0 < zx.size) :
    RVs G ((List.replicate n zc).flatten) ((Array.range (n * zx.size)).map (zx[· % zx.size]!)).toList := by
  have hl : zc.length = zx.size := by simpa using h.1
  refine ⟨by simp [List.length_flatten, hl], fun j h1 h2 => ?_⟩
  have hj : j < n * zc.length := by simpa [List.length_flatten] using h1
  have e := getElem?_flatten_replicate zc n j hj
  rw [List.getElem?_eq_getElem h1] at e
  have hm : j % zc.length < zc.length := Nat.mod_lt _ (by omega)
  rw [List.getElem?_eq_getElem hm] at e
  rw [Option.some.inj e]
  have hm' : j % zx.size < zx.size := by rw [← hl]; exact hm
  have := h.2 (j % zc.length) hm (by simpa [hl] using hm')
  simpa [hl, getElem!_pos, hm'] using this

theorem zeros_one {zx : Array Value} (h : ∀ u ∈ zx.toList, u.oneCell' = true) (n : Nat) (hpos : 0 < zx.size) :
    ∀ u ∈ ((Array.range (n * zx.size)).map (zx[· % zx.size]!)).toList, u.oneCell' = true := by
  intro u hu
  simp only [Array.toList_map, Array.toList_range, List.mem_map, List.mem_range] at hu
  obtain ⟨j, _, rfl⟩ := hu
  have hm' : j % zx.size < zx.size := Nat.mod_lt _ hpos
  rw [getElem!_pos zx _ hm']
  exact h _ (by simp)

theorem vzero_notup {t : TypeId} {z : VV} (hz : vzero P t = some z) : z.isTup = false := by
  unfold vzero at hz
  split at hz
  · split at hz
    · rename_i hc; cases hz; exact ofZero_notup hc
    · cases hz
  · cases hz

theorem vbuildSlice_sound {h : VHeap} (hr : Rel G h w) {t : TypeId} {len : Nat} {parts : List (Nat × VV)} {ps : Array (Nat × Value)} (hl : parts.length = ps.size)
    (hp : ∀ j (h : j < parts.length) (h' : j < ps.size), parts[j].1 = ps[j].1 ∧ RV G parts[j].2 ps[j].2) {v : VV} (hv : vbuildSlice P t len parts = some v) :
    ∃ x w' G', (Instr.buildSlice t len ps).run P w = .ok x w' ∧ RV G' v x ∧ Rel G' h w' ∧ Ext G G' w w' ∧ G'.φ = G.φ ∧ G'.D = G.D := by
  unfold vbuildSlice at hv
  split at hv
  · rename_i e he
    split at hv
    · rename_i z hz
      split at hv
      · cases hv
      · rename_i hc
        simp only [not_or, ne_eq, Decidable.not_not, gt_iff_lt, Nat.not_lt] at hc
        obtain ⟨hc1, hc2, hc3⟩ := hc
        obtain ⟨ie, zx, hie, hzx, _, hzr, _⟩ := vzero_sound (w := w) G hz
        have hs : vsz P e = ie.size := by simp [vsz, hie]
        obtain ⟨hzc, hz1⟩ := hzr.cells (vzero_notup hz)
        have hzl : zx.cells.size = ie.size := by have := hzc.1; simp at this; omega
        split at hv
        · rename_i cs hcs
          cases hv
          by_cases hlen : len = 0
          · subst hlen
            obtain ⟨arr, ha, hra, h1a⟩ := vfill_sound (place := fun i => some (i * vsz P e, vsz P e)) parts ps.toList ((List.replicate 0 z.cells).flatten) #[] cs (by simpa using hl) (fun j h h' => by simpa using hp j h (by simpa using h'))
              (.nil G) (by simp) hcs
            have hrun : (Instr.buildSlice t 0 ps).run P w = .ok (.slice (some ⟨w.heap.size, 0, none⟩) 0 0) (w.alloc (.cells arr e)) := by
              simp [Instr.buildSlice, run_underlying (velem_some he), sizeOf, typeInfo, hie, newRow, ← hs]
              rw [show Array.map (fun _ => (default : Value)) (Array.range 0) = #[] from (by apply Array.ext <;> simp), ha]
              rfl
            obtain ⟨hrel, hext⟩ := hr.fix arr.toList e
            simp only [Array.toArray_toList] at hrel hext
            exact ⟨_, _, _, hrun, RV.vs_of_cells (G := G.fix w.heap.size arr.toList) (L := arr.toList) (hra.mono hext.le) h1a (fun j u hu => by simpa [Ghost.fix] using hu) (by simp) (Nat.le_refl _) (fun q hq => by cases hq; rfl), hrel, hext, rfl, rfl⟩
          · have hpos : 0 < zx.cells.size := by omega
            obtain ⟨arr, ha, hra, h1a⟩ := vfill_sound (place := fun i => some (i * vsz P e, vsz P e)) parts ps.toList ((List.replicate len z.cells).flatten) _ cs (by simpa using hl) (fun j h h' => by simpa using hp j h (by simpa using h'))
              (RVs.zeros hzc len hpos) (zeros_one hz1 len hpos) hcs
            have hrun := run_buildSlice (P := P) w t e len ps arr ie zx (velem_some he) hie hzx (by rw [← hs]; omega)
              (by rw [← hs]; exact Nat.mul_ne_zero hlen hc1) (by rw [← hs, ← hc2, hzc.1]; simpa [hs, hzl] using ha)
            obtain ⟨hrel, hext⟩ := hr.fix arr.toList e
            simp only [Array.toArray_toList] at hrel hext
            have hcl : cs.length = len * vsz P e := by
              have h2 := vfill_length _ _ _ hcs
              rw [h2]; simp [List.length_flatten, hc2]
            exact ⟨_, _, _, hrun, RV.vs_of_cells (G := G.fix w.heap.size arr.toList) (L := arr.toList) (hra.mono hext.le) h1a (fun j u hu => by simpa [Ghost.fix] using hu) (by omega) (Nat.le_refl _) (fun q hq => by cases hq; rfl), hrel, hext, rfl, rfl⟩
        · cases hv
    · cases hv
  · cases hv

end Go.Vv
