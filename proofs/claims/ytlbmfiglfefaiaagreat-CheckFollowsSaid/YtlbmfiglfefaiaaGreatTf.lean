/- Proved: for every text s, CheckFollows tells true (patinalaw16.CheckFollows: a type followed behind all its references and Boxes as the reference follows it, the law's own instance, and the little programs of 'speaks'), and the text reads behind the call as it read before. No condition beyond the given row's. -/
import Derived.Test.YtlbmfiglfefaiaaGreatRows
import Derived.Test.YtlbmfiglfefaiaaGreatTe
import Derived.ProofKit
import Derived.ChangeMaps5
namespace Go.Proofs.YtlbmfiglfefaiaaGreat
open Go.ChangeShapes Go.WideShapes Go.ChangeAt Go.RowKit Go.Vv

theorem own : ownKnob Tryz.prog.godebug = none := by kernel_rfl

/-- What was there before a call that knew of nothing is there behind it. -/
theorem keptBut_forget {G' : Ghost} {W W' : World} (he : Ext Ghost.none G' W W') (may : MemPlace → Prop) : W.keptBut W' may := by
  refine ⟨he.os, he.output, fun i hi => ?_⟩
  rw [he.old i hi (fun o m hm => by cases hm) (fun _ => rfl)]
  exact (World.keptBut_refl W may).2.2 i hi

set_option maxRecDepth 100000 in
theorem law_any (s : ByteArray) (hs : s.size ≤ maxLen) (W : World) : Calls Tryz.prog 3 #[.string s] W fun e W' => e = .returned (.bool true) ∧ ∃ G', Ext Ghost.none G' W W' := by
  have hlen : s.data.toList.length ≤ big := hs
  have hb : hasBody Tryz.prog 3 = true := by kernel_rfl
  refine callsIn_wide.1 (VCalls.callsIn (n := 1) (F := Fence.wide) hb (law_calls s.data.toList hlen VHeap.empty) FreeF.top (Rel.none W) (vargs := #[.string s]) (.cons (.str s) (.nil _)) ?_ ?_)
  · rintro G' w' h' y v ⟨hv, _⟩ hy hr he
    cases hv
    cases hy
    exact ⟨rfl, G', he⟩
  · rintro G' w' h' y v ⟨hv, _⟩
    cases hv

set_option maxRecDepth 100000 in
theorem checkFollows_lifted (os : Os) (started : os.Started) (H : Type) (enc : TypeId × Value → H) :
    ReturnsInHanded {} Tryz.checked os 3 .any (Rows.checkFollowsSpec.pre6 enc Tryz.prog Tryz.f3 Rows.checkFollowsRow.domain false) (Rows.checkFollowsSpec.post enc Tryz.prog Tryz.f3 false true false false) := by
  refine returnsInHanded_of_change (C := Tryz.checked) own started (by kernel_rfl) Tryz.func3
    (ChangeSpec.witness6 (enc := enc) (C := Tryz.checked) false ⟨#[], #[.string ByteArray.empty], []⟩ 8 (by kernel_rfl) (by kernel_rfl) (by kernel_rfl) (by kernel_rfl)) ?_
  intro W base args ds gs before hval0 hW hcnd _
  have hval : ∀ (j : Nat) t v, Tryz.f3.params[j]? = some t → args[j]? = some v → Value.okWide Tryz.prog W .any base t v := hval0
  have hW' := hW
  obtain ⟨p, q, hA0, hV, rfl, hfz, hnd⟩ := hW
  have hA : DataW.TrodAll enc Tryz.prog W 0 (fun _ => true) true Tryz.f3.params.toList args.toList ds p := hA0
  rw [Tryz.params3] at hA hval
  obtain ⟨v0, d0, rfl, rfl, h0⟩ := trodAll_one hA
  obtain ⟨rfl, rfl⟩ := trodVars_none hV
  obtain ⟨s, rfl, rfl, rfl, hs⟩ := ChangeMaps.open_string Tryz.underlying9 (hval 0 9 v0 rfl rfl) h0
  clear hA0 hval0
  simp only [List.append_nil] at hW'
  refine (law_any s hs W).mono fun e W' ⟨he, G', hext⟩ => ?_
  subst he
  exact ⟨_, rfl, _, _, _, [], [], [], hW', trodAll_mk1 (shut_bool Tryz.underlying4 true), trodAll_mk1 (ChangeMaps.shut_string Tryz.underlying9 hs), rfl, keptBut_forget hext _, fun h => by cases h⟩

theorem checkFollows_holds : Rows.CheckFollowsSaid :=
  OpenClaim.holds_of_wide 3 Tryz.f3 rfl rfl rfl rfl rfl rfl rfl ⟨rfl, rfl, rfl, rfl, rfl⟩ rfl rfl rfl rfl rfl (by kernel_rfl) Tryz.func3 (by kernel_rfl)
    (of_decide_eq_true (by kernel_rfl)) (by unfold Func.isWrapper; first | (rw [if_pos (by decide +kernel)]; kernel_rfl) | (rw [if_neg (by decide +kernel)]; exact ⟨rfl, rfl⟩))
    (fun os started H enc _ => checkFollows_lifted os started H enc)

end Go.Proofs.YtlbmfiglfefaiaaGreat
