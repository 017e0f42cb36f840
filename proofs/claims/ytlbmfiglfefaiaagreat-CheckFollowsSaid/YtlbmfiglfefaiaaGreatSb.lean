/- The law's own little programs: what 'speaks' tells, run on the abstract heap that is empty. -/
import Derived.Test.YtlbmfiglfefaiaaGreatSa
namespace Go.Proofs.YtlbmfiglfefaiaaGreat
open Go.Vv

/-- A run that has told true. -/
def toldTrue : Option (VEnd × VHeap) → Bool
  | some (.ret (.bool true), _) => true
  | _ => false

theorem toldTrue_some {r : Option (VEnd × VHeap)} (h : toldTrue r = true) : ∃ h', r = some (.ret (.bool true), h') := by
  unfold toldTrue at h
  split at h
  · exact ⟨_, rfl⟩
  · cases h

theorem speaks_run : toldTrue (kcall Tryz.prog overB gd planAt 2000 6 [] VHeap.empty) = true := by kernel_rfl

set_option maxRecDepth 100000 in
theorem speaks_calls : VCalls Tryz.prog 6 [] VHeap.empty fun r _ => r = .ret (.bool true) := by
  obtain ⟨h', hr⟩ := toldTrue_some speaks_run
  exact (run_sound 2000 6 [] VHeap.empty _ _ hr).mono fun r h'' hh => hh.1

end Go.Proofs.YtlbmfiglfefaiaaGreat
