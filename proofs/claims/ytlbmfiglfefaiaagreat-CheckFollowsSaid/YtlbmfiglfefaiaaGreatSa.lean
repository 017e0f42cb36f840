/- The functions that a run of the law reaches are as the abstract interpreter asks. -/
import Derived.Test.YtlbmfiglfefaiaaGreatPl
import Derived.Test.YtlbmfiglfefaiaaGreatChecked
namespace Go.Proofs.YtlbmfiglfefaiaaGreat
open Go.Vv

def goodTab : Tr Unit := (.node none (.node none (.node (some ()) (.node (some ()) (.node (some ()) (.node (some ()) (.node (some ()) (.node (some ()) .nil .nil) .nil) (.node (some ()) .nil .nil)) (.node (some ()) (.node none (.node (some ()) .nil .nil) .nil) (.node none (.node (some ()) .nil .nil) .nil))) (.node none (.node (some ()) .nil .nil) (.node (some ()) (.node (some ()) (.node (some ()) .nil .nil) .nil) (.node (some ()) (.node (some ()) .nil .nil) .nil)))) (.node (some ()) (.node (some ()) (.node (some ()) (.node (some ()) .nil .nil) (.node (some ()) (.node (some ()) .nil .nil) .nil)) (.node (some ()) .nil (.node none (.node (some ()) .nil .nil) .nil))) (.node (some ()) (.node (some ()) .nil (.node (some ()) .nil .nil)) (.node (some ()) (.node (some ()) (.node (some ()) .nil .nil) .nil) (.node (some ()) .nil .nil))))) (.node (some ()) (.node none (.node (some ()) (.node (some ()) (.node (some ()) (.node (some ()) .nil .nil) .nil) (.node (some ()) .nil .nil)) (.node (some ()) .nil .nil)) (.node (some ()) (.node (some ()) (.node none (.node (some ()) .nil .nil) .nil) (.node (some ()) .nil .nil)) (.node (some ()) (.node (some ()) (.node (some ()) .nil .nil) .nil) (.node none (.node (some ()) .nil .nil) .nil)))) (.node (some ()) (.node (some ()) (.node (some ()) (.node none (.node (some ()) .nil .nil) .nil) (.node (some ()) (.node (some ()) .nil .nil) .nil)) (.node none .nil (.node none (.node (some ()) .nil .nil) .nil))) (.node (some ()) (.node (some ()) (.node none (.node (some ()) .nil .nil) .nil) (.node (some ()) .nil .nil)) (.node (some ()) (.node (some ()) (.node (some ()) .nil .nil) .nil) (.node (some ()) .nil .nil)))))) (.node none (.node (some ()) (.node (some ()) (.node (some ()) (.node (some ()) (.node (some ()) (.node (some ()) .nil .nil) .nil) .nil) (.node (some ()) (.node (some ()) (.node (some ()) .nil .nil) .nil) (.node none (.node (some ()) .nil .nil) .nil))) (.node (some ()) (.node (some ()) (.node none (.node (some ()) .nil .nil) .nil) .nil) (.node (some ()) (.node (some ()) .nil .nil) .nil))) (.node (some ()) (.node (some ()) (.node (some ()) (.node (some ()) (.node (some ()) .nil .nil) .nil) (.node (some ()) (.node (some ()) .nil .nil) .nil)) (.node none (.node (some ()) .nil .nil) (.node (some ()) .nil .nil))) (.node (some ()) (.node (some ()) (.node (some ()) (.node (some ()) .nil .nil) .nil) (.node (some ()) (.node (some ()) .nil .nil) .nil)) (.node (some ()) (.node (some ()) .nil .nil) (.node (some ()) .nil .nil))))) (.node (some ()) (.node (some ()) (.node (some ()) (.node (some ()) (.node (some ()) .nil .nil) (.node (some ()) .nil .nil)) (.node (some ()) .nil .nil)) (.node (some ()) (.node (some ()) (.node none (.node (some ()) .nil .nil) .nil) (.node (some ()) .nil .nil)) (.node (some ()) (.node (some ()) (.node (some ()) .nil .nil) .nil) .nil))) (.node (some ()) (.node (some ()) (.node (some ()) .nil (.node (some ()) (.node (some ()) .nil .nil) .nil)) (.node (some ()) (.node (some ()) (.node (some ()) .nil .nil) .nil) .nil)) (.node (some ()) (.node none (.node none (.node (some ()) .nil .nil) .nil) (.node (some ()) .nil .nil)) (.node none (.node (some ()) .nil .nil) (.node (some ()) .nil .nil)))))))
def goodTabS : Tr Unit := (.node none (.node none (.node none (.node none .nil (.node none (.node none (.node (some ()) .nil .nil) .nil) .nil)) .nil) (.node none (.node (some ()) .nil .nil) .nil)) .nil)
def gd : XGood := ⟨tabHas goodTab, tabHas goodTabS⟩

theorem good_plain : Tr.allAt (chkAll Tryz.prog planAt) goodTab = true := by kernel_rfl
theorem good_spine : Tr.allAt (chkAllS Tryz.prog planAt) goodTabS = true := by kernel_rfl
set_option maxRecDepth 100000 in
theorem gd_sound : GSound Tryz.prog planAt gd := ⟨fun f hf => tabHas_all good_plain f hf, fun f hf => tabHas_all good_spine f hf⟩
set_option maxRecDepth 100000 in
theorem mix : Tryz.prog.follows .mixedOrders = true := by kernel_rfl

/-- What is known beforehand: the search of a byte. -/
def overB : XCall := fun f args h => match Nat.beq f 156 with
  | true => match overByte args with
    | some v => some (.ret v, h)
    | none => none
  | false => none

set_option maxRecDepth 100000 in
theorem overB_sound : XSound Tryz.prog overB := by
  intro f args h r h' hx
  unfold overB at hx
  split at hx
  · rename_i hf
    have : f = 156 := Nat.eq_of_beq_eq_true hf
    subst this
    split at hx
    · rename_i v hv
      cases hx
      exact (overByte_sound Tryz.func156 (by kernel_rfl) (by kernel_rfl) (by kernel_rfl) (by kernel_rfl) hv).mono fun r' h'' hh => hh
    · cases hx
  · cases hx

set_option maxRecDepth 100000 in
theorem run_sound (n : Nat) : XSound Tryz.prog (kcall Tryz.prog overB gd planAt n) := kcall_sound mix overB_sound gd_sound n

end Go.Proofs.YtlbmfiglfefaiaaGreat
