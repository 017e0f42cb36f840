/- A closed call, from whatever heap. -/
import Derived.Test.YtlbmfiglfefaiaaGreatVs
namespace Go.Vv

variable {P : Program} {G : Ghost} {w : World}

/-! ## A closed call, from whatever heap -/

/-- Nothing is known of any object. -/
def Ghost.none : Ghost := ⟨fun _ => Option.none, fun _ => False, fun _ _ => Option.none, 0⟩

theorem Rel.none (w : World) : Rel Ghost.none VHeap.empty w :=
  ⟨(fun b o v h => by cases h), (fun o b base k h => by cases h), (fun o o' m m' h => by cases h), (fun o m off h => by cases h), (fun o m h => by cases h), (fun o h => h.elim), rfl, (fun o _ => rfl)⟩

/-- Does a value hold no addresses? -/
def VV.flat : VV → Bool
  | .bool _ | .int .. | .str _ | .nilp | .nils | .nilm | .nilf | .nili => true
  | _ => false

theorem RV.flat {G G' : Ghost} {v : VV} {x : Value} (hv : v.flat = true) (h : RV G v x) : RV G' v x := by
  cases v <;> simp [VV.flat] at hv
  · cases h; exact .bool _
  · cases h; exact .int ..
  · generalize hs : VV.str _ = u at h
    cases h <;> cases hs
    exact .str _
  · cases h; exact .nilp
  · cases h; exact .nils
  · cases h; exact .nilm
  · cases h; exact .nilf
  · cases h; exact .nili

theorem RVs.flat {G G' : Ghost} : ∀ {l : List VV} {a : List Value}, l.all VV.flat = true → RVs G l a → RVs G' l a := by
  intro l a hl h
  refine ⟨h.1, fun j h1 h2 => (h.2 j h1 h2).flat ?_⟩
  exact List.all_eq_true.1 hl _ (by simp)

/-- The world behind a call that knew of nothing: all that was there is as it was. -/
theorem Ext.forget {G : Ghost} {h : VHeap} {w w' : World} {G' : Ghost} (hr : Rel G h w) (he : Ext Ghost.none G' w w') : Rel G h w' ∧ Ext G G w w' := by
  have hold : ∀ b, b < w.heap.size → w'.heap[b]? = w.heap[b]? := fun b hb => he.old b hb (fun o m hm => by cases hm) (fun _ => rfl)
  refine ⟨⟨?_, ?_, hr.inj, hr.sep, hr.dom, hr.dead, hr.num, hr.fresh⟩, .mk' ⟨.refl G, he.size, fun b hb _ _ => hold b hb, fun o m h => .inl ⟨o, m, h, rfl⟩, fun _ i v h => .inl ⟨i, v, h⟩, he.os, he.tape, he.output⟩ (.refl G)⟩
  · intro b i v hv
    rw [← hr.isub b i v hv]
    exact World.cell?_of_block (hold b (hr.iblock_lt hv))
  · intro o b base k hm
    obtain ⟨x, hx, hat⟩ := hr.obj o b base k hm
    exact ⟨x, hx, hat.mono (.refl G) (hold b (hr.block_lt hm))⟩

theorem VCalls.closed {f : FuncId} {args : List VV} {v : VV} (ha : args.all VV.flat = true) (hv : v.flat = true) (hc : VCalls P f args VHeap.empty fun r _ => r = .ret v) (h : VHeap) :
    VCalls P f args h fun r h' => r = .ret v ∧ h' = h := by
  intro F n hF G w vargs hr hargs o a K Q hK hQ
  refine hc F n hF Ghost.none w vargs (Rel.none w) (hargs.flat ha) o a K Q ?_ ?_
  · intro G' w' h' y v' hv' hy hr' he
    cases hv'
    obtain ⟨h1, h2⟩ := he.forget hr
    exact hK G w' h y v ⟨rfl, rfl⟩ (hy.flat hv) h1 h2
  · intro G' w' h' y v' hv'
    cases hv'

end Go.Vv
