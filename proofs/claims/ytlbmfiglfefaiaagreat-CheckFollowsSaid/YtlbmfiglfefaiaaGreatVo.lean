/- Regions whose operations come in an order that is drawn: a plan is enough. -/
import Derived.Test.YtlbmfiglfefaiaaGreatVn
namespace Go.Vv

variable {P : Program} {G : Ghost} {w : World}

theorem vread_congr {op : Op} {fr fr' : Fr} (h : VHeap) (hx : ∀ x ∈ op.operands, ev fr x = ev fr' x) : vread P op fr h = vread P op fr' h := by
  unfold vread
  split
  case h_1 => rw [hx _ (by simp [Op.operands])]
  case h_2 => rw [hx _ (by simp [Op.operands])]
  case h_3 c a b => simp only [hx c (by simp [Op.operands]), hx a (by simp [Op.operands]), hx b (by simp [Op.operands])]
  case h_4 t ps =>
    rw [show (ps.toList.map fun p => (p.1, ev fr p.2)) = ps.toList.map fun p => (p.1, ev fr' p.2) from List.map_congr_left fun p hp => by
      rw [hx p.2 (by simp only [Op.operands]; exact Array.mem_def.2 (List.mem_map.2 ⟨p, hp, rfl⟩))]]
  case h_5 t n ps =>
    rw [show (ps.toList.map fun p => (p.1, ev fr p.2)) = ps.toList.map fun p => (p.1, ev fr' p.2) from List.map_congr_left fun p hp => by
      rw [hx p.2 (by simp only [Op.operands]; exact Array.mem_def.2 (List.mem_map.2 ⟨p, hp, rfl⟩))]]
  case h_12 f a b =>
    rw [show a.toList.map (ev fr) = a.toList.map (ev fr') from List.map_congr_left fun p hp => hx p (by simp [Op.operands, Array.mem_toList_iff.1 hp]),
      show b.toList.map (ev fr) = b.toList.map (ev fr') from List.map_congr_left fun p hp => hx p (by simp [Op.operands, Array.mem_toList_iff.1 hp])]
  case h_13 t x lo hi mx =>
    have hlo : lo.map (ev fr) = lo.map (ev fr') := by
      cases lo with
      | none => rfl
      | some l => simp only [Option.map_some]; rw [hx l (by simp [Op.operands])]
    have hhi : hi.map (ev fr) = hi.map (ev fr') := by
      cases hi with
      | none => rfl
      | some l => simp only [Option.map_some]; rw [hx l (by simp [Op.operands])]
    have hmx : mx.map (ev fr) = mx.map (ev fr') := by
      cases mx with
      | none => rfl
      | some l => simp only [Option.map_some]; rw [hx l (by simp [Op.operands])]
    rw [hx x (by simp [Op.operands]), hlo, hhi, hmx]
  all_goals first
    | rfl
    | (rw [hx _ (by simp [Op.operands, Call.operands])]; done)
    | (rw [hx _ (by simp [Op.operands, Call.operands]), hx _ (by simp [Op.operands, Call.operands])]; done)

theorem vread_other {op : Op} (fr : Fr) (h h' : VHeap) (hn : readsHeap op = false) : vread P op fr h = vread P op fr h' := by
  unfold vread
  split <;> first | rfl | (simp [readsHeap] at hn; done)

theorem vnew_congr {op : Op} {fr fr' : Fr} (hx : ∀ x ∈ op.operands, ev fr x = ev fr' x) : vnew P op fr = vnew P op fr' := by
  unfold vnew
  split
  case h_2 => rw [hx _ (by simp [Op.operands])]
  case h_4 => rw [hx _ (by simp [Op.operands]), hx _ (by simp [Op.operands])]
  all_goals rfl

theorem vread_new {op : Op} (fr : Fr) (h : VHeap) (hn : isNew op = true) : vread P op fr h = none := by
  unfold vread
  split <;> first | rfl | (simp [isNew] at hn; done)

theorem isNew_of_vnew {op : Op} {fr : Fr} {r : (Nat → VV) × VObj} (h : vnew P op fr = some r) : isNew op = true := by
  unfold vnew at h
  split at h <;> first | rfl | (simp at h; done)

/-! ## A heap with more -/

def VHeap.Sub (h h' : VHeap) : Prop := ∀ o y, h.get o = some y → h'.get o = some y

theorem vload_sub {h h' : VHeap} (hs : h.Sub h') {t : TypeId} {p v : VV} (hv : vload P t p h = some v) : vload P t p h' = some v := by
  unfold vload at hv ⊢
  split at hv
  · split at hv
    · rename_i c hg; simp only [hs _ _ hg]; exact hv
    · cases hv
  · exact hv
  · cases hv

theorem ventries_sub {h h' : VHeap} (hs : h.Sub h') {m : VV} {es : List (VV × VV)} (hv : ventries m h = some es) : ventries m h' = some es := by
  unfold ventries at hv ⊢
  split at hv
  · exact hv
  · split at hv
    · rename_i o _ es' hg; cases hv; simp only [hs _ _ hg]
    · cases hv
  · cases hv

theorem velems_sub {h h' : VHeap} (hs : h.Sub h') {x : VV} {e : Nat} {es : List (List VV)} (hv : velems x h e = some es) : velems x h' e = some es := by
  unfold velems at hv ⊢
  split at hv
  · exact hv
  · exact hv
  · split at hv
    · cases hv
    · rename_i hq
      split at hv
      · rename_i c hg; simp only [if_neg hq, hs _ _ hg]; exact hv
      · cases hv
  · cases hv

theorem vlookup_sub {h h' : VHeap} (hs : h.Sub h') {t : TypeId} {m k v : VV} {ok : Bool} (hv : vlookup P t m k ok h = some v) : vlookup P t m k ok h' = some v := by
  unfold vlookup at hv ⊢
  split at hv
  · split at hv
    · rename_i hfit
      split at hv
      · rename_i es z hes hz
        simp only [if_pos hfit, ventries_sub hs hes, hz]; exact hv
      · cases hv
    · cases hv
  · cases hv

theorem vconvert_sub {h h' : VHeap} (hs : h.Sub h') {s d : TypeId} {x v : VV} (hv : vconvert P s d x h = some v) : vconvert P s d x h' = some v := by
  unfold vconvert at hv ⊢
  split at hv
  · exact hv
  · exact hv
  · split at hv
    · rename_i he
      split at hv
      · rename_i es hes
        simp only [velems_sub hs hes]; exact hv
      · cases hv
    · cases hv
  · cases hv

theorem vlen_sub {h h' : VHeap} (hs : h.Sub h') {t : TypeId} {x v : VV} (hv : vlen P t x h = some v) : vlen P t x h' = some v := by
  unfold vlen at hv ⊢
  split at hv <;> first
    | exact hv
    | (cases hv; done)
    | (split at hv
       · rename_i hg; simp only [hs _ _ hg]; exact hv
       · cases hv)

theorem vread_sub {h h' : VHeap} (hs : h.Sub h') {op : Op} {fr : Fr} {v : VV} (hv : vread P op fr h = some v) : vread P op fr h' = some v := by
  cases hn : readsHeap op with
  | false => rw [← vread_other fr h h' hn]; exact hv
  | true =>
    unfold vread at hv ⊢
    split at hv <;> first
      | exact vload_sub hs hv
      | exact vlookup_sub hs hv
      | exact vconvert_sub hs hv
      | (split at hv
         · rename_i hmk; rw [if_pos hmk]; exact hv
         · rename_i hmk; rw [if_neg hmk]; exact vconvert_sub hs hv)
      | exact vlen_sub hs hv
      | (simp [readsHeap] at hn; done)
      | (cases hv; done)

end Go.Vv
