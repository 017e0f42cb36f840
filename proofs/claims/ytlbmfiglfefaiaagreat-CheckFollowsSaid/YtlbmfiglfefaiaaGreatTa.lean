/- What the texts' functions do that the law reaches: beginnings and ends of texts. -/
import Derived.Test.YtlbmfiglfefaiaaGreatSa
namespace Go.Proofs.YtlbmfiglfefaiaaGreat
open Go.Vv

section steps
variable {P : Program} {N : Fm} {Q : VX → Fr → VHeap → Prop} {fr : Fr} {h : VHeap}
theorem w_seq {a b : Code} (hv : vwp P N a (VX.then (vwp P N b Q) Q) fr h) : vwp P N (.seq a b) Q fr h := hv
theorem w_ops {id : Nat} {ops : Array Oper} (hv : vops P ops Q ops.toList fr h) : vwp P N (.region id ops false) Q fr h := hv
theorem w_block {id : Nat} {c : Code} (hv : vwp P N c (VX.inBlock id Q) fr h) : vwp P N (.block id c) Q fr h := hv
theorem w_cond {c : Operand} {a b : Code} (t : Bool) (hc : ev fr c = .bool t) (h1 : t = true → vwp P N a Q fr h) (h2 : t = false → vwp P N b Q fr h) : vwp P N (.cond c a b) Q fr h := by
  simp only [vwp, hc]
  cases t with
  | true => exact h1 rfl
  | false => exact h2 rfl
theorem w_ret (hv : Q .ret fr h) : vwp P N .ret Q fr h := hv
theorem w_skip (hv : Q .normal fr h) : vwp P N .skip Q fr h := hv
theorem w_exit {id : Nat} (hv : Q (.exit id) fr h) : vwp P N (.exit id) Q fr h := hv
theorem w_loop {c : Code} (n : Nat) (hv : vloop (vwp P N c) Q n fr h) : vwp P N (.loop c) Q fr h := ⟨n, hv⟩
theorem w_round {c : Code} {n : Nat} (hv : vwp P N c (VX.then (vloop (vwp P N c) Q n) Q) fr h) : vloop (vwp P N c) Q (n + 1) fr h := hv
theorem w_seqK {a b : Code} (hv : ∀ K : Fr → VHeap → Prop, (∀ f h, vwp P N b Q f h → K f h) → vwp P N a (VX.then K Q) fr h) : vwp P N (.seq a b) Q fr h := hv _ fun _ _ h => h
theorem w_roundK {c : Code} {n : Nat} (hv : ∀ L : Fr → VHeap → Prop, (∀ f h, vloop (vwp P N c) Q n f h → L f h) → vwp P N c (VX.then L Q) fr h) : vloop (vwp P N c) Q (n + 1) fr h := hv _ fun _ _ h => h
theorem v_body {f : FuncId} {fn : Func} {c : Code} {args : List VV} {R : VEnd → VHeap → Prop} (hf : P.funcs[f]? = some fn) (hb : fn.body = some c)
    (hv : ∀ Q : VX → Fr → VHeap → Prop, (∀ fr h v, vresult P fn.results.toList fr h = some v → R (.ret v) h → Q .ret fr h) → (∀ fr h v, vresult P fn.results.toList fr h = some v → R (.ret v) h → Q .normal fr h) → vwp P ⟨fn.ntmps, []⟩ c Q (vframe args) h) :
    vbody P f args h R := by
  unfold vbody
  simp only [hf, hb]
  exact hv _ (fun fr h v h1 h2 => by simp only [VBody, h1]; exact h2) (fun fr h v h1 h2 => by simp only [VBody, h1]; exact h2)
theorem c_step {f : FuncId} {args : List VV} {r0 : VEnd} {R : VEnd → VHeap → Prop} (hc : VCalls P f args h fun r h' => r = r0 ∧ h' = h) (hR : R r0 h) : VCalls P f args h R :=
  hc.mono fun r h' hh => by obtain ⟨rfl, rfl⟩ := hh; exact hR
end steps

/-- Does a text begin with another? -/
def hp (s p : List UInt8) : Bool := decide (p.length ≤ s.length) && (s.take p.length == p)
/-- Does a text end with another? -/
def hs (s p : List UInt8) : Bool := decide (p.length ≤ s.length) && (s.drop (s.length - p.length) == p)

attribute [local simp] VX.then VX.inBlock vops vwant Region.wanted vstep vplain vop vread ev put Fr.at_set vframe vframeFrom ofZero ofValue vcallee vyieldee vlen Tryz.underlying9 vbinOp vintOp vyield vslice vsliceStr bound vstrOp VBody vresult vresults vresult1 vunOp vextract VEnd.on vindex vminmax

set_option maxRecDepth 10000 in
theorem hasPrefix_calls (s p : List UInt8) (h : VHeap) : VCalls Tryz.prog 40 [.str s, .str p] h fun r h' => r = .ret (.bool (hp s p)) ∧ h' = h := by
  refine vcalls_of_body (by kernel_rfl) ?_
  unfold vbody hp
  simp only [Tryz.func40, Tryz.f40]
  by_cases hc : p.length ≤ s.length
  · simp [vwp, hc]
  · simp [vwp, hc]

set_option maxRecDepth 10000 in
theorem starts_calls (s p : List UInt8) (h : VHeap) : VCalls Tryz.prog 13 [.str s, .str p] h fun r h' => r = .ret (.bool (hp s p)) ∧ h' = h := by
  refine vcalls_of_body (by kernel_rfl) ?_
  unfold vbody hp
  simp only [Tryz.func13, Tryz.f13]
  by_cases hc : p.length ≤ s.length
  · simp [vwp, hc]
  · simp [vwp, hc]

set_option maxRecDepth 10000 in
theorem cutPrefix0_calls (s p : List UInt8) (h : VHeap) : VCalls Tryz.prog 19 [.str s, .str p] h fun r h' => r = .ret (.tup [.str (if hp s p = true then s.drop p.length else s), .bool (hp s p)]) ∧ h' = h := by
  refine vcalls_of_body (by kernel_rfl) ?_
  unfold vbody
  simp only [Tryz.func19, Tryz.f19]
  simp [vwp]
  refine (hasPrefix_calls s p h).mono ?_
  rintro r h' ⟨rfl, rfl⟩
  cases hb : hp s p with
  | false => simp
  | true =>
    have hle : p.length ≤ s.length := by simp [hp] at hb; exact hb.1
    simp [hle]

set_option maxRecDepth 10000 in
theorem cutPrefix_calls (s p : List UInt8) (h : VHeap) : VCalls Tryz.prog 11 [.str s, .str p] h fun r h' => r = .ret (.tup [.str (if hp s p = true then s.drop p.length else s), .bool (hp s p)]) ∧ h' = h := by
  refine vcalls_of_body (by kernel_rfl) ?_
  unfold vbody
  simp only [Tryz.func11, Tryz.f11]
  simp [vwp]
  refine (cutPrefix0_calls s p h).mono ?_
  rintro r h' ⟨rfl, rfl⟩
  simp

/-- Numbers of a size that no text goes beyond. -/
abbrev big : Nat := 9223372036854775807

theorem wrap_sub {a b : Nat} (h : b ≤ a) (ha : a ≤ big) : IntKind.i64.wrap ((a : Int) - (b : Int)) = ((a - b : Nat) : Int) := by
  have := wrap_small .i64 (a - b) (by show a - b < 9223372036854775808; unfold big at ha; omega)
  rw [show (a : Int) - (b : Int) = Int.ofNat (a - b) by show (a : Int) - b = ((a - b : Nat) : Int); omega]
  exact this

set_option maxRecDepth 10000 in
theorem hasSuffix_calls (s p : List UInt8) (hs' : s.length ≤ big) (h : VHeap) : VCalls Tryz.prog 41 [.str s, .str p] h fun r h' => r = .ret (.bool (hs s p)) ∧ h' = h := by
  refine vcalls_of_body (by kernel_rfl) ?_
  unfold vbody hs
  simp only [Tryz.func41, Tryz.f41]
  by_cases hc : p.length ≤ s.length
  · have hw := wrap_sub hc hs'
    simp [vwp, hc, hw]
  · simp [vwp, hc]

set_option maxRecDepth 10000 in
theorem cutSuffix0_calls (s p : List UInt8) (hs' : s.length ≤ big) (h : VHeap) : VCalls Tryz.prog 20 [.str s, .str p] h fun r h' => r = .ret (.tup [.str (if hs s p = true then s.take (s.length - p.length) else s), .bool (hs s p)]) ∧ h' = h := by
  refine vcalls_of_body (by kernel_rfl) ?_
  unfold vbody
  simp only [Tryz.func20, Tryz.f20]
  simp [vwp]
  refine (hasSuffix_calls s p hs' h).mono ?_
  rintro r h' ⟨rfl, rfl⟩
  cases hb : hs s p with
  | false => simp
  | true =>
    have hle : p.length ≤ s.length := by simp [hs] at hb; exact hb.1
    have hw := wrap_sub hle hs'
    simp [hw]

set_option maxRecDepth 10000 in
theorem cutSuffix_calls (s p : List UInt8) (hs' : s.length ≤ big) (h : VHeap) : VCalls Tryz.prog 12 [.str s, .str p] h fun r h' => r = .ret (.tup [.str (if hs s p = true then s.take (s.length - p.length) else s), .bool (hs s p)]) ∧ h' = h := by
  refine vcalls_of_body (by kernel_rfl) ?_
  unfold vbody
  simp only [Tryz.func12, Tryz.f12]
  simp [vwp]
  refine (cutSuffix0_calls s p hs' h).mono ?_
  rintro r h' ⟨rfl, rfl⟩
  simp

/-! ## What stands behind a reference's or a Box's type -/

def tMut : List UInt8 := [38, 109, 117, 116, 32]
def tAmp : List UInt8 := [38]
def tBox : List UInt8 := [66, 111, 120, 60]
def tEnd : List UInt8 := [62]

def innerA (s : List UInt8) : Option (List UInt8) :=
  if hp s tMut = true then some (s.drop 5) else if hp s tAmp = true then some (s.drop 1) else
  if hp s tBox = true then (if hs (s.drop 4) tEnd = true then some ((s.drop 4).take ((s.drop 4).length - 1)) else none) else none

/-- Is the last letter '>'? -/
def lastGt (s : List UInt8) : Bool := match s[s.length - 1]? with | some b => b == 62 | none => false

def innerB (s : List UInt8) : Option (List UInt8) :=
  if hp s tMut = true then some (s.drop 5) else if hp s tAmp = true then some (s.drop 1) else
  if hp s tBox = true ∧ lastGt s = true then some ((s.take (s.length - 1)).drop 4) else none

def innerV (r : Option (List UInt8)) : VV := match r with
  | some t => .tup [.str t, .bool true]
  | none => .tup [.str [], .bool false]

end Go.Proofs.YtlbmfiglfefaiaaGreat
