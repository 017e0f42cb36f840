/- Functions without a body: the search of a byte in a text. -/
import Derived.Test.YtlbmfiglfefaiaaGreatVr
import Derived.Lib.Bytealg
namespace Go.Vv

variable {P : Program} {G : Ghost} {w : World}

theorem vcalls_extern {f : FuncId} {fn : Func} {e : Array Value → Sem Value} (hf : P.funcs[f]? = some fn) (hn : (fn.name == "runtime.NumGoroutine") = false) (hb : fn.body = none)
    (hnx : Extern.findNext fn = none) (he : Extern.find fn = some e) {args : List VV} {h : VHeap} {v : VV}
    (hrun : ∀ (G : Ghost) (w : World) (vargs : Array Value), RVs G args vargs.toList → ∃ y, (e vargs).run P w = .ok y w ∧ RV G v y) : VCalls P f args h fun r h' => r = .ret v ∧ h' = h := by
  intro F n hF G w vargs hr ha o a K Q hK hQ
  obtain ⟨y, hy, hrv⟩ := hrun G w vargs ha
  have h1 : fn.name ≠ "runtime.NumGoroutine" := by simpa using hn
  have : (callFunc f vargs).run P w = .ok (.value y) w := by
    simp [callFunc, hf, h1, hb, hnx, he, hy]
  rw [this]
  exact hK G w h y v ⟨rfl, rfl⟩ hrv hr (.refl G w)

/-- The search of a byte in a text. -/
def overByte : List VV → Option VV
  | [.str s, .int .u8 n] => some (.int .i64 (Lib.indexByte s n.toNat.toUInt8))
  | _ => none

theorem overByte_sound {f : FuncId} {fn : Func} (hf : P.funcs[f]? = some fn) (hn : (fn.name == "runtime.NumGoroutine") = false) (hb : fn.body = none)
    (hnx : Extern.findNext fn = none) (he : Extern.find fn = some Extern.BytealgIndexByte.indexByte) {args : List VV} {h : VHeap} {v : VV} (hv : overByte args = some v) :
    VCalls P f args h fun r h' => r = .ret v ∧ h' = h := by
  refine vcalls_extern hf hn hb hnx he fun G w vargs ha => ?_
  unfold overByte at hv
  split at hv
  · rename_i s n
    cases hv
    obtain ⟨hl, hall⟩ := ha
    obtain ⟨l⟩ := vargs
    rcases l with _ | ⟨x, _ | ⟨y, _ | ⟨z, l⟩⟩⟩ <;> simp at hl
    have h0 : RV G (.str s) x := by simpa using hall 0 (by simp) (by simp)
    have h1 : RV G (.int .u8 n) y := by simpa using hall 1 (by simp) (by simp)
    generalize hs : VV.str s = vs at h0
    cases h1
    cases h0 <;> cases hs
    exact ⟨_, Lib.run_indexByteString _ _ w, .int ..⟩
  · cases hv

/-! ## Tables of functions -/

def Tr.allAt (p : Nat → Bool) : Tr Unit → Bool
  | .nil => true
  | .node v l r => (match v with | some _ => p 0 | none => true) && Tr.allAt (fun n => p (2 * n + 1)) l && Tr.allAt (fun n => p (2 * n + 2)) r

theorem Tr.of_allAt : ∀ (t : Tr Unit) (p : Nat → Bool), Tr.allAt p t = true → ∀ n u, t.get n = some u → p n = true := by
  intro t
  induction t with
  | nil => intro p _ n u h; cases h
  | node v l r ihl ihr =>
    intro p hp n u h
    simp only [Tr.allAt, Bool.and_eq_true] at hp
    simp only [Tr.get] at h
    split at h
    · rename_i hn; subst hn; subst h; exact hp.1.1
    · split at h
      · rename_i hn ho
        have := ihl _ hp.1.2 _ _ h
        rwa [show 2 * (n / 2) + 1 = n by omega] at this
      · rename_i hn ho
        have := ihr _ hp.2 _ _ h
        rwa [show 2 * (n / 2 - 1) + 2 = n by omega] at this

def tabHas (t : Tr Unit) (f : Nat) : Bool :=
  match t.get f with
  | some _ => true
  | none => false

theorem tabHas_all {t : Tr Unit} {p : Nat → Bool} (h : Tr.allAt p t = true) (f : Nat) (hf : tabHas t f = true) : p f = true := by
  unfold tabHas at hf
  split at hf
  · rename_i u hu; exact Tr.of_allAt t p h f u hu
  · cases hf

end Go.Vv
