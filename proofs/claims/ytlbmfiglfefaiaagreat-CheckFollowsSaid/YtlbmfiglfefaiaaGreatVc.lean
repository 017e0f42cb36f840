/- What the abstract interpreter tells of each plain operation is what the model's operation does: reading, addresses, numbers, texts. -/
import Derived.Test.YtlbmfiglfefaiaaGreatVb
import Derived.Laws.StructEq
namespace Go.Vv

variable {P : Program} {G : Ghost} {w : World}

theorem info_of_underlying {t : TypeId} {d : TypeDesc} (h : P.underlying t = some d) : ∃ i, P.info? t = some i := by
  unfold Program.underlying at h
  cases hi : P.info? t with
  | none => simp [hi] at h
  | some i => exact ⟨i, rfl⟩

theorem run_sizeOf_vsz {t : TypeId} {i : TypeInfo} (h : P.info? t = some i) : (sizeOf t).run P w = .ok (vsz P t) w := by
  simp [sizeOf, typeInfo, h, vsz]

theorem run_isAgg_vagg {t : TypeId} {b : Bool} (h : vagg P t = some b) : (isAgg t).run P w = .ok b w ∧ ∃ i, P.info? t = some i := by
  unfold vagg at h
  cases hu : P.underlying t with
  | none => simp [hu] at h
  | some d =>
    refine ⟨?_, info_of_underlying hu⟩
    unfold isAgg
    rw [Sem.run_bind, run_underlying hu w]
    rw [hu] at h
    cases d <;> simp_all

/-- Cells of a world, from an address on. -/
def CellsAt (w : World) (b base : Nat) (L : List Value) : Prop := ∀ j u, L[j]? = some u → w.cell? ⟨b, base + j, none⟩ = some u

theorem addr_add (b o n : Nat) : (⟨b, o, none⟩ : Addr).add n = ⟨b, o + n, none⟩ := by
  unfold Addr.add; split <;> simp_all

theorem run_loadCells_at {b base : Nat} {L : List Value} (h : CellsAt w b base L) (off n : Nat) (hn : off + n ≤ L.length) :
    (loadCells ⟨b, base + off, none⟩ n).run P w = .ok ((L.drop off).take n).toArray w := by
  have hl : ((L.drop off).take n).length = n := by simp; omega
  have := run_loadCells_list (P := P) w ⟨b, base + off, none⟩ ((L.drop off).take n) (fun j v hv => by
    rw [addr_add, Nat.add_assoc]
    apply h
    rw [List.getElem?_take] at hv
    split at hv
    · rw [List.getElem?_drop] at hv; exact hv
    · cases hv)
  rw [hl] at this
  exact this

theorem vpart_sound {cs : List VV} {L : List Value} (hc : RVs G cs L) (h1 : ∀ u ∈ L, u.oneCell' = true) {t : TypeId} {off : Nat} {v : VV} (hv : vpart P t cs off = some v)
    {b base : Nat} (hat : CellsAt w b base L) : ∃ x, (loadVar t ⟨b, base + off, none⟩).run P w = .ok x w ∧ RV G v x := by
  unfold vpart at hv
  cases ha : vagg P t with
  | none => simp [ha] at hv
  | some ag =>
    obtain ⟨hrun, i, hi⟩ := run_isAgg_vagg (w := w) ha
    cases ag with
    | true =>
      simp only [ha] at hv
      split at hv
      · rename_i hle
        cases hv
        refine ⟨.agg ((L.drop off).take (vsz P t)).toArray, ?_, RV.agg_iff.2 ⟨_, rfl, by simpa using (hc.drop off).take _, fun u hu => h1 u ?_⟩⟩
        · unfold loadVar
          rw [Sem.run_bind, hrun]
          simp only [Result.andThen_ok, if_true]
          rw [Sem.run_bind, run_sizeOf_vsz hi]
          simp only [Result.andThen_ok]
          rw [Sem.run_bind, run_loadCells_at hat off _ (by rw [← hc.1]; exact hle)]
          rfl
        · exact List.mem_of_mem_drop (List.mem_of_mem_take (by simpa using hu))
      · cases hv
    | false =>
      simp only [ha] at hv
      obtain ⟨x, hx, hr⟩ := hc.get hv
      refine ⟨x, ?_, hr⟩
      unfold loadVar
      rw [Sem.run_bind, hrun]
      simp only [Result.andThen_ok, Bool.false_eq_true, if_false]
      simp [hat off x hx]

/-- The same of a value's cells ('part'). -/
theorem vpart_part {cs : List VV} {a : Array Value} (hc : RVs G cs a.toList) (h1 : ∀ u ∈ a.toList, u.oneCell' = true) {t : TypeId} {off : Nat} {v : VV} (hv : vpart P t cs off = some v) :
    ∃ x, (part t a off).run P w = .ok x w ∧ RV G v x := by
  unfold vpart at hv
  cases ha : vagg P t with
  | none => simp [ha] at hv
  | some ag =>
    obtain ⟨hrun, i, hi⟩ := run_isAgg_vagg (w := w) ha
    cases ag with
    | true =>
      simp only [ha] at hv
      split at hv
      · rename_i hle
        cases hv
        have e : (a.extract off (off + vsz P t)).toList = (a.toList.drop off).take (vsz P t) := by
          simp
        refine ⟨.agg (a.extract off (off + vsz P t)), ?_, RV.agg_iff.2 ⟨_, rfl, by rw [e]; exact (hc.drop off).take _, fun u hu => h1 u ?_⟩⟩
        · unfold part
          rw [Sem.run_bind, hrun]
          simp only [Result.andThen_ok, if_true]
          rw [Sem.run_bind, run_sizeOf_vsz hi]
          rfl
        · rw [e] at hu
          exact List.mem_of_mem_drop (List.mem_of_mem_take hu)
      · cases hv
    | false =>
      simp only [ha] at hv
      obtain ⟨x, hx, hr⟩ := hc.get hv
      refine ⟨x, ?_, hr⟩
      unfold part
      rw [Sem.run_bind, hrun]
      have hx' : a[off]? = some x := by simpa using hx
      simp [hx']

theorem obj_cells {h : VHeap} (hr : Rel G h w) {o b base k : Nat} (hφ : G.φ o = some (b, base, k)) {c : List VV} (hg : h.get o = some (.cells c)) :
    ∃ arr t, w.heap[b]? = some (.cells arr t (0, 0)) ∧ base + k ≤ arr.size ∧ c.length ≤ k ∧
      ∃ L : List Value, RVs G c L ∧ (∀ u ∈ L, u.oneCell' = true) ∧ CellsAt w b base L ∧ L = (arr.toList.drop base).take c.length := by
  obtain ⟨x, hx, hat⟩ := hr.obj o b base k hφ
  rw [hg] at hx; cases hx
  obtain ⟨arr, t, h1, h2, h3, h4⟩ := hat
  have hlen : ((arr.toList.drop base).take c.length).length = c.length := by simp; omega
  have hget : ∀ j, j < c.length → ((arr.toList.drop base).take c.length)[j]? = arr[base + j]? := by
    intro j hj
    rw [List.getElem?_take, if_pos hj, List.getElem?_drop]; simp
  refine ⟨arr, t, h1, h2, h3, (arr.toList.drop base).take c.length, ⟨hlen.symm, fun j hj hj' => ?_⟩, fun u hu => ?_, fun j u hu => ?_, rfl⟩
  · obtain ⟨v, a1, a2, _⟩ := h4 j hj
    have := hget j hj
    rw [a1, List.getElem?_eq_getElem hj'] at this
    cases this; exact a2
  · obtain ⟨j, hj, rfl⟩ := List.getElem_of_mem hu
    have hj' : j < c.length := by rw [hlen] at hj; exact hj
    obtain ⟨v, a1, _, a3⟩ := h4 j hj'
    have := hget j hj'
    rw [a1, List.getElem?_eq_getElem hj] at this
    cases this; exact a3
  · have hj : j < c.length := by
      have := (List.getElem?_eq_some_iff.1 hu).1; rw [hlen] at this; exact this
    rw [hget j hj] at hu
    rw [cell_of_row w b (base + j) arr t (0, 0) h1]
    exact hu

theorem vload_sound {h : VHeap} (hr : Rel G h w) {t : TypeId} {p v : VV} {a : Value} (hp : RV G p a) (hv : vload P t p h = some v) :
    ∃ x, (Instr.loadAt t a).run P w = .ok x w ∧ RV G v x := by
  unfold vload at hv
  cases p <;> simp only [reduceCtorEq] at hv
  case ptr o off =>
    cases hg : h.get o with
    | none => simp [hg] at hv
    | some x =>
      cases x <;> simp only [hg, reduceCtorEq] at hv
      rename_i c
      cases hp with
      | ptrD hd => have := (hr.dead o hd).2; rw [hg] at this; cases this
      | ptr hφ =>
        rename_i b base k
        obtain ⟨arr, t', h1, h2, h3, L, hL, hone, hat, _⟩ := obj_cells hr hφ hg
        obtain ⟨x, hx, hrv⟩ := vpart_sound hL hone hv hat
        exact ⟨x, by simp [Instr.loadAt, Instr.sureAddr, hx], hrv⟩
  case iptr cs off =>
    cases hp with
    | iptr vals h1 h2 h3 =>
      rename_i b base
      have hL : RVs G cs ((List.range cs.length).map vals) := ⟨by simp, fun j hj hj' => by simpa using h2 j hj⟩
      have hone : ∀ u ∈ (List.range cs.length).map vals, u.oneCell' = true := by
        intro u hu
        obtain ⟨j, hj, rfl⟩ := List.mem_map.1 hu
        exact h3 j (by simpa using hj)
      have hat : CellsAt w b base ((List.range cs.length).map vals) := by
        intro j u hu
        obtain ⟨hj, rfl⟩ := List.getElem?_eq_some_iff.1 hu
        simp at hj ⊢
        exact hr.isub _ _ _ (h1 j hj)
      obtain ⟨x, hx, hrv⟩ := vpart_sound hL hone hv hat
      exact ⟨x, by simp [Instr.loadAt, Instr.sureAddr, hx], hrv⟩

theorem vfield_some {t : TypeId} {i fo : Nat} {ft : TypeId} (h : vfield P t i = some (fo, ft)) : ∃ fs f, P.underlying t = some (.struct fs) ∧ fs[i]? = some f ∧ f.offset = fo ∧ f.type = ft := by
  unfold vfield at h
  cases hu : P.underlying t with
  | none => simp [hu] at h
  | some d =>
    cases d <;> simp only [hu, reduceCtorEq] at h
    rename_i fs
    cases hf : fs[i]? with
    | none => simp [hf] at h
    | some f => simp [hf] at h; exact ⟨fs, f, rfl, hf, h.1, h.2⟩

theorem vsz_info {t : TypeId} (h : vsz P t ≠ 0) : ∃ i, P.info? t = some i := by
  unfold vsz at h
  cases hi : P.info? t with
  | none => simp [hi] at h
  | some i => exact ⟨i, rfl⟩

theorem vfieldAddr_sound {t : TypeId} {p v : VV} {i : Nat} {a : Value} (hp : RV G p a) (hv : vfieldAddr P t p i = some v) :
    ∃ x, (Instr.fieldAt t a i).run P w = .ok x w ∧ RV G v x := by
  unfold vfieldAddr at hv
  cases hf : vfield P t i with
  | none => simp [hf] at hv
  | some m =>
    obtain ⟨fo, ft⟩ := m
    obtain ⟨fs, f, hu, hfi, rfl, rfl⟩ := vfield_some hf
    simp only [hf] at hv
    split at hv
    · cases hv
    · rename_i hz
      obtain ⟨ti, hti⟩ := vsz_info hz
      have hs := run_sizeOf_vsz (w := w) hti
      have key : ∀ b o, (Instr.fieldAt t (.pointer (some ⟨b, o, none⟩)) i).run P w = .ok (.pointer (some ⟨b, o + f.offset, none⟩)) w := by
        intro b o
        simp [Instr.fieldAt, run_underlying hu, hfi, Instr.sureAddr, fieldPlace, hs, hz, addr_add]
      cases p <;> simp only [reduceCtorEq, Option.some.injEq] at hv
      case ptr o off =>
        subst hv
        cases hp with
        | ptrD hd =>
          rename_i a
          refine ⟨.pointer (some (a.add f.offset)), ?_, .ptrD hd⟩
          simp [Instr.fieldAt, run_underlying hu, hfi, Instr.sureAddr, fieldPlace, hs, hz]
        | ptr hφ => rename_i b base k; exact ⟨_, key _ _, by rw [Nat.add_assoc]; exact .ptr hφ⟩
      case iptr cs off =>
        subst hv
        cases hp with
        | iptr vals h1 h2 h3 => rename_i b base; exact ⟨_, key _ _, by rw [Nat.add_assoc]; exact .iptr vals h1 h2 h3⟩

theorem velem_some {t e : TypeId} (h : velem P t = some e) : P.underlying t = some (.slice e) := by
  unfold velem at h
  cases hu : P.underlying t with
  | none => simp [hu] at h
  | some d => cases d <;> simp_all

theorem vindexAddr_sound {t : TypeId} {x i v : VV} {a n : Value} (hx : RV G x a) (hi : RV G i n) (hv : vindexAddr P t x i = some v) :
    ∃ y, (Instr.indexAt t a n).run P w = .ok y w ∧ RV G v y := by
  unfold vindexAddr at hv
  cases he : velem P t with
  | none => simp [he] at hv
  | some e =>
    have hu := velem_some he
    cases i <;> simp only [he, reduceCtorEq] at hv
    rename_i k m
    cases hi
    cases x <;> simp only [reduceCtorEq] at hv
    case vs es cap =>
      split at hv
      · rename_i h0
        cases hrow : es[m.toNat]? with
        | none => simp [hrow] at hv
        | some row =>
          simp only [hrow] at hv
          split at hv
          · rename_i hlen
            cases hv
            cases hx with
            | vs vals h1 h2 h3 h4 h5 h6 =>
              rename_i b base q c
              obtain ⟨hlt, hrowe⟩ := List.getElem?_eq_some_iff.1 hrow
              have hq : row.length = q := by rw [← hrowe]; exact h3 _ hlt
              have hml : m < (es.length : Int) := by omega
              obtain ⟨ie, hie⟩ := vsz_info hlen.2
              refine ⟨.pointer (some ⟨b, base + m.toNat * vsz P e, none⟩), ?_, ?_⟩
              · simp [Instr.indexAt, asIntOf, run_underlying hu, h0, hml, run_sizeOf_vsz hie, addr_add]
              · have hqe : vsz P e = q := by omega
                rw [hqe]
                have := RV.iptr (G := G) (cs := row) (off := 0) (b := b) (base := base + m.toNat * q) (vals m.toNat)
                  (fun j hj => h4 _ _ hlt (by omega)) (fun j hj => by subst hrowe; exact h5 _ hlt j hj) (fun j hj => h6 _ _ hlt (by omega))
                simpa using this
          · cases hv
      · cases hv
    case ref o off len esz cap =>
      split at hv
      · rename_i hc
        obtain ⟨h0, hml, hes, hz⟩ := hc
        obtain ⟨ie, hie⟩ := vsz_info hz
        cases hv
        cases hx with
        | ref hφ h1 h2 h3 h4 =>
          rename_i b base kk c a
          rcases h3 with h3 | ⟨rfl, h3⟩
          · omega
          · refine ⟨.pointer (some ⟨b, base + off + m.toNat * vsz P e, none⟩), ?_, ?_⟩
            · simp [Instr.indexAt, asIntOf, run_underlying hu, h0, hml, run_sizeOf_vsz hie, addr_add]
            · rw [hes, Nat.add_assoc]; exact .ptr hφ
        | refD hd h7 h8 =>
          rename_i c a
          refine ⟨.pointer (some (a.add (m.toNat * vsz P e))), ?_, .ptrD hd⟩
          simp [Instr.indexAt, asIntOf, run_underlying hu, h0, hml, run_sizeOf_vsz hie]
      · cases hv

theorem vindex_sound {t : TypeId} (hu : P.underlying t = some .string) {x i v : VV} {a n : Value} (hx : RV G x a) (hi : RV G i n) (hv : vindex x i = some v) :
    ∃ y, (Instr.index t a n).run P w = .ok y w ∧ RV G v y := by
  cases x <;> cases i <;> simp only [vindex, reduceCtorEq] at hv
  cases hx; cases hi
  rename_i k m s
  split at hv
  · rename_i h0
    simp only [Option.map_eq_some_iff] at hv
    obtain ⟨b, hb, rfl⟩ := hv
    have hlt : m.toNat < s.size := by have := (List.getElem?_eq_some_iff.1 hb).1; simpa using this
    have hb' : s[m.toNat]? = some b := by
      rw [getElem?_pos s m.toNat hlt]
      have h2 : s.data[m.toNat]? = some b := by simpa using hb
      rw [Array.getElem?_eq_getElem (by simpa using hlt)] at h2
      exact h2
    exact ⟨_, by simp [Instr.index, asIntOf, run_underlying hu, h0, hb'], .int ..⟩
  · cases hv

theorem vfieldOf_sound {t : TypeId} {x v : VV} {i : Nat} {a : Value} (hx : RV G x a) (hv : vfieldOf P t x i = some v) :
    ∃ y, (Instr.field t a i).run P w = .ok y w ∧ RV G v y := by
  unfold vfieldOf at hv
  cases hf : vfield P t i with
  | none => simp [hf] at hv
  | some m =>
    obtain ⟨fo, ft⟩ := m
    obtain ⟨fs, f, hu, hfi, rfl, rfl⟩ := vfield_some hf
    cases x <;> simp only [hf, reduceCtorEq] at hv
    obtain ⟨a, rfl, h1, h2⟩ := RV.agg_iff.1 hx
    obtain ⟨y, hy, hrv⟩ := vpart_part (w := w) h1 h2 hv
    exact ⟨y, by simp [Instr.field, run_underlying hu, hfi, asAgg, hy], hrv⟩

theorem vnilCheck_sound {x v : VV} {a : Value} (ρ : Operand → Value) (o : Operand) (oper : Oper) (ho : oper.op = .nilCheck o) (ha : ρ o = a) (hx : RV G x a) (hv : vnilCheck x = some v) :
    (execOp ρ oper).run P w = .ok (.value a) w ∧ RV G v a := by
  cases x <;> simp only [vnilCheck, reduceCtorEq, Option.some.injEq] at hv <;> subst hv <;> refine ⟨?_, hx⟩ <;> cases hx <;> simp [execOp, ho, ha]

theorem bytes_size (s : ByteArray) : s.data.toList.length = s.size := by simp
theorem bytes_toList (s : ByteArray) : s.toList = s.data.toList := ByteArray.toList_eq s

theorem vintOp_sound {op : BinOp} {k : IntKind} {a b : Int} {v : VV} (hv : vintOp op k a b = some v) (t : TypeId) :
    ∃ y, (binOp op t (.int k a) (.int k b)).run P w = .ok y w ∧ RV G v y := by
  cases op <;> simp only [vintOp, reduceCtorEq, Option.some.injEq] at hv
  case quo =>
    split at hv
    · cases hv
    · rename_i h0; cases hv; exact ⟨_, by simp [binOp, Op.intDiv, h0], .int ..⟩
  case rem =>
    split at hv
    · cases hv
    · rename_i h0; cases hv; exact ⟨_, by simp [binOp, Op.intDiv, h0], .int ..⟩
  case and => subst hv; exact ⟨_, by simp only [binOp, ne_eq, not_true_eq_false, if_false]; rfl, .int ..⟩
  case or => subst hv; exact ⟨_, by simp only [binOp, ne_eq, not_true_eq_false, if_false]; rfl, .int ..⟩
  case add => subst hv; exact ⟨_, by simp [binOp, Op.intArith], .int ..⟩
  case sub => subst hv; exact ⟨_, by simp [binOp, Op.intArith], .int ..⟩
  case mul => subst hv; exact ⟨_, by simp [binOp, Op.intArith], .int ..⟩
  all_goals (subst hv; exact ⟨_, by simp [binOp, Op.intCmp], .bool _⟩)

theorem vstrOp_sound {op : BinOp} {x y : ByteArray} {v : VV} (hv : vstrOp op x.data.toList y.data.toList = some v) (t : TypeId) :
    ∃ z, (binOp op t (.string x) (.string y)).run P w = .ok z w ∧ RV G v z := by
  cases op <;> simp only [vstrOp, reduceCtorEq, Option.some.injEq] at hv
  case add =>
    split at hv
    · rename_i hl
      cases hv
      have e : (x ++ y).data.toList = x.data.toList ++ y.data.toList := by simp
      refine ⟨.string (x ++ y), ?_, by rw [← e]; exact .str _⟩
      have : ¬ ((x.size + y.size : Nat) : Int) > IntKind.i64.max := by
        rw [bytes_size, bytes_size] at hl
        show ¬ ((x.size + y.size : Nat) : Int) > 9223372036854775807
        omega
      simp only [binOp, Op.stringOp]
      rw [if_neg this]
      rfl
    · cases hv
  all_goals
    subst hv
    exact ⟨_, by simp [binOp, Op.stringOp, bytes_toList], .bool _⟩

end Go.Vv
