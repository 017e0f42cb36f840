/- The executor again, laid out so that the kernel runs it at little cost: operations with their types looked up beforehand, everything by recursors; and that it tells what the first one tells. -/
import Derived.Test.YtlbmfiglfefaiaaGreatVr
namespace Go.Vv

variable {P : Program}

/-! ## Tries by their recursor -/

noncomputable def fgetO {α : Type} (t : Tr α) : Nat → Option α :=
  Tr.rec (motive := fun _ => Nat → Option α) (fun _ => none)
    (fun v _ _ ihl ihr n => Bool.rec (Bool.rec (ihr (Nat.pred (Nat.div n 2))) (ihl (Nat.div n 2)) (Nat.beq (Nat.mod n 2) 1)) v (Nat.beq n 0)) t

theorem fgetO_eq {α : Type} : ∀ (t : Tr α) (n : Nat), fgetO t n = t.get n := by
  intro t
  induction t with
  | nil => intro n; rfl
  | node v l r ihl ihr =>
    intro n
    show (Bool.rec (Bool.rec (fgetO r (Nat.pred (Nat.div n 2))) (fgetO l (Nat.div n 2)) (Nat.beq (Nat.mod n 2) 1)) v (Nat.beq n 0) : Option α) = _
    rw [ihl, ihr]
    simp only [Tr.get]
    by_cases h0 : n = 0
    · subst h0; rfl
    · have e0 : Nat.beq n 0 = false := by rw [← Bool.not_eq_true]; intro e; exact h0 (Nat.eq_of_beq_eq_true e)
      rw [if_neg h0, e0]
      by_cases h1 : n % 2 = 1
      · have e1 : Nat.beq (Nat.mod n 2) 1 = true := by
          have : Nat.mod n 2 = 1 := h1
          rw [this]; rfl
        rw [if_pos h1, e1]; rfl
      · have e1 : Nat.beq (Nat.mod n 2) 1 = false := by
          rw [← Bool.not_eq_true]; intro e; exact h1 (Nat.eq_of_beq_eq_true e)
        rw [if_neg h1, e1]; rfl

noncomputable def fsetO {α : Type} (t : Tr α) : Nat → α → Tr α :=
  Tr.rec (motive := fun _ => Nat → α → Tr α) (fun n a => Tr.set .nil n a)
    (fun v l r ihl ihr n a => Bool.rec (Bool.rec (.node v l (ihr (Nat.pred (Nat.div n 2)) a)) (.node v (ihl (Nat.div n 2) a) r) (Nat.beq (Nat.mod n 2) 1)) (.node (some a) l r) (Nat.beq n 0)) t

theorem setF_fuel {α : Type} : ∀ (f g : Nat) (t : Tr α) (n : Nat) (a : α), n < f → n < g → Tr.setF f t n a = Tr.setF g t n a := by
  intro f
  induction f with
  | zero => intro g t n a h; omega
  | succ f ih =>
    intro g t n a hf hg
    cases g with
    | zero => omega
    | succ g =>
      cases t with
      | nil =>
        simp only [Tr.setF]
        split
        · rfl
        · split
          · rw [ih g .nil (n / 2) a (by omega) (by omega)]
          · rw [ih g .nil (n / 2 - 1) a (by omega) (by omega)]
      | node v l r =>
        simp only [Tr.setF]
        split
        · rfl
        · split
          · rw [ih g l (n / 2) a (by omega) (by omega)]
          · rw [ih g r (n / 2 - 1) a (by omega) (by omega)]

theorem fsetO_eq {α : Type} : ∀ (t : Tr α) (n : Nat) (a : α), fsetO t n a = t.set n a := by
  intro t
  induction t with
  | nil => intro n a; rfl
  | node v l r ihl ihr =>
    intro n a
    show (Bool.rec (Bool.rec (.node v l (fsetO r (Nat.pred (Nat.div n 2)) a)) (.node v (fsetO l (Nat.div n 2) a) r) (Nat.beq (Nat.mod n 2) 1)) (.node (some a) l r) (Nat.beq n 0) : Tr α) = _
    rw [ihl, ihr]
    simp only [Tr.set, Tr.setF]
    by_cases h0 : n = 0
    · subst h0; rfl
    · have e0 : Nat.beq n 0 = false := by rw [← Bool.not_eq_true]; intro e; exact h0 (Nat.eq_of_beq_eq_true e)
      rw [if_neg h0, e0]
      by_cases h1 : n % 2 = 1
      · have e1 : Nat.beq (Nat.mod n 2) 1 = true := by
          have : Nat.mod n 2 = 1 := h1
          rw [this]; rfl
        rw [if_pos h1, e1, setF_fuel n (n / 2 + 1) l (n / 2) a (by omega) (by omega)]; rfl
      · have e1 : Nat.beq (Nat.mod n 2) 1 = false := by
          rw [← Bool.not_eq_true]; intro e; exact h1 (Nat.eq_of_beq_eq_true e)
        rw [if_neg h1, e1, setF_fuel n (n / 2 - 1 + 1) r (n / 2 - 1) a (by omega) (by omega)]; rfl

noncomputable def fat (fr : Fr) (t : Nat) : VV := Option.rec VV.undef (fun v => v) (fgetO fr t)

theorem fat_eq (fr : Fr) (t : Nat) : fat fr t = fr.at t := by
  unfold fat Fr.at
  rw [fgetO_eq]
  cases Tr.get fr t <;> rfl

noncomputable def kput (fr : Fr) (d : Option Nat) (v : VV) : Fr := Option.rec fr (fun d => fsetO fr d v) d

theorem kput_eq (fr : Fr) (d : Option Nat) (v : VV) : kput fr d v = put fr d v := by
  cases d with
  | none => rfl
  | some d => exact fsetO_eq fr d v

/-! ## Values opened -/

noncomputable def VV.int? : VV → Option (IntKind × Int) :=
  @VV.rec (fun _ => Option (IntKind × Int)) (fun _ => Option (IntKind × Int)) (fun _ => Option (IntKind × Int)) (fun _ => none) (fun k n => some (k, n)) (fun _ => none) none (fun _ _ => none) (fun _ _ _ => none) (fun _ => none) none
    (fun _ _ _ => none) (fun _ _ _ _ _ => none) none (fun _ => none) (fun _ _ _ _ _ => none) none (fun _ _ _ => none) none (fun _ _ => none) (fun _ _ => none) (fun _ => none) none (fun _ _ _ _ => none) none (fun _ _ _ _ => none)

theorem VV.int?_some {x : VV} {k : IntKind} {n : Int} (h : x.int? = some (k, n)) : x = .int k n := by
  cases x <;> first | (cases h; rfl) | (exact absurd h (fun e => by cases e))

noncomputable def VV.bool? : VV → Option Bool :=
  @VV.rec (fun _ => Option Bool) (fun _ => Option Bool) (fun _ => Option Bool) (fun b => some b) (fun _ _ => none) (fun _ => none) none (fun _ _ => none) (fun _ _ _ => none) (fun _ => none) none
    (fun _ _ _ => none) (fun _ _ _ _ _ => none) none (fun _ => none) (fun _ _ _ _ _ => none) none (fun _ _ _ => none) none (fun _ _ => none) (fun _ _ => none) (fun _ => none) none (fun _ _ _ _ => none) none (fun _ _ _ _ => none)

theorem VV.bool?_some {x : VV} {b : Bool} (h : x.bool? = some b) : x = .bool b := by
  cases x <;> first | (cases h; rfl) | (exact absurd h (fun e => by cases e))

noncomputable def VV.str? : VV → Option (List UInt8) :=
  @VV.rec (fun _ => Option (List UInt8)) (fun _ => Option (List UInt8)) (fun _ => Option (List UInt8)) (fun _ => none) (fun _ _ => none) (fun s => some s) none (fun _ _ => none) (fun _ _ _ => none) (fun _ => none) none
    (fun _ _ _ => none) (fun _ _ _ _ _ => none) none (fun _ => none) (fun _ _ _ _ _ => none) none (fun _ _ _ => none) none (fun _ _ => none) (fun _ _ => none) (fun _ => none) none (fun _ _ _ _ => none) none (fun _ _ _ _ => none)

theorem VV.str?_some {x : VV} {s : List UInt8} (h : x.str? = some s) : x = .str s := by
  cases x <;> first | (cases h; rfl) | (exact absurd h (fun e => by cases e))

noncomputable def VV.tup? : VV → Option (List VV) :=
  @VV.rec (fun _ => Option (List VV)) (fun _ => Option (List VV)) (fun _ => Option (List VV)) (fun _ => none) (fun _ _ => none) (fun _ => none) none (fun _ _ => none) (fun _ _ _ => none) (fun _ => none) none
    (fun _ _ _ => none) (fun _ _ _ _ _ => none) none (fun _ => none) (fun _ _ _ _ _ => none) none (fun _ _ _ => none) none (fun _ _ => none) (fun cs _ => some cs) (fun _ => none) none (fun _ _ _ _ => none) none (fun _ _ _ _ => none)

theorem VV.tup?_some {x : VV} {s : List VV} (h : x.tup? = some s) : x = .tup s := by
  cases x <;> first | (cases h; rfl) | (exact absurd h (fun e => by cases e))

noncomputable def VV.agg? : VV → Option (List VV) :=
  @VV.rec (fun _ => Option (List VV)) (fun _ => Option (List VV)) (fun _ => Option (List VV)) (fun _ => none) (fun _ _ => none) (fun _ => none) none (fun _ _ => none) (fun _ _ _ => none) (fun _ => none) none
    (fun _ _ _ => none) (fun _ _ _ _ _ => none) none (fun _ => none) (fun _ _ _ _ _ => none) none (fun _ _ _ => none) none (fun cs _ => some cs) (fun _ _ => none) (fun _ => none) none (fun _ _ _ _ => none) none (fun _ _ _ _ => none)

theorem VV.agg?_some {x : VV} {s : List VV} (h : x.agg? = some s) : x = .agg s := by
  cases x <;> first | (cases h; rfl) | (exact absurd h (fun e => by cases e))

/-- A pointer: what it points to, and how to point elsewhere in it. -/
inductive KP where
  | ptr (o off : Nat)
  | iptr (cs : List VV) (off : Nat)

noncomputable def VV.kp? : VV → Option KP :=
  @VV.rec (fun _ => Option KP) (fun _ => Option KP) (fun _ => Option KP) (fun _ => none) (fun _ _ => none) (fun _ => none) none (fun o off => some (.ptr o off)) (fun cs off _ => some (.iptr cs off)) (fun _ => none) none
    (fun _ _ _ => none) (fun _ _ _ _ _ => none) none (fun _ => none) (fun _ _ _ _ _ => none) none (fun _ _ _ => none) none (fun _ _ => none) (fun _ _ => none) (fun _ => none) none (fun _ _ _ _ => none) none (fun _ _ _ _ => none)

def KP.val : KP → VV
  | .ptr o off => .ptr o off
  | .iptr cs off => .iptr cs off

theorem VV.kp?_some {x : VV} {p : KP} (h : x.kp? = some p) : x = p.val := by
  cases x <;> first | (cases h; rfl) | (exact absurd h (fun e => by cases e))

/-- A slice. -/
inductive KS where
  | nils
  | vs (es : List (List VV))
  | ref (o off len esz : Nat)

noncomputable def VV.ks? : VV → Option KS :=
  @VV.rec (fun _ => Option KS) (fun _ => Option KS) (fun _ => Option KS) (fun _ => none) (fun _ _ => none) (fun _ => none) none (fun _ _ => none) (fun _ _ _ => none) (fun _ => none) (some .nils)
    (fun es _ _ => some (.vs es)) (fun o off len esz _ => some (.ref o off len esz)) none (fun _ => none) (fun _ _ _ _ _ => none) none (fun _ _ _ => none) none (fun _ _ => none) (fun _ _ => none) (fun _ => none) none (fun _ _ _ _ => none) none (fun _ _ _ _ => none)

def KS.is : KS → VV → Prop
  | .nils, x => x = .nils
  | .vs es, x => ∃ c, x = .vs es c
  | .ref o off len esz, x => ∃ c, x = .ref o off len esz c

theorem VV.ks?_some {x : VV} {p : KS} (h : x.ks? = some p) : p.is x := by
  cases x <;> first | (cases h; exact rfl) | (cases h; exact ⟨_, rfl⟩) | (exact absurd h (fun e => by cases e))

/-! ## Lists by their recursor -/

noncomputable def lnth {α : Type} (l : List α) : Nat → Option α :=
  List.rec (motive := fun _ => Nat → Option α) (fun _ => none) (fun a _ ih n => Bool.rec (ih (Nat.pred n)) (some a) (Nat.beq n 0)) l

theorem lnth_eq {α : Type} : ∀ (l : List α) (n : Nat), lnth l n = l[n]? := by
  intro l
  induction l with
  | nil => intro n; simp; rfl
  | cons a l ih =>
    intro n
    cases n with
    | zero => rfl
    | succ n =>
      show lnth l n = _
      rw [ih]; simp

noncomputable def llen {α : Type} (l : List α) : Nat → Nat :=
  List.rec (motive := fun _ => Nat → Nat) (fun n => n) (fun _ _ ih n => ih (Nat.succ n)) l

theorem llen_eq {α : Type} : ∀ (l : List α) (n : Nat), llen l n = l.length + n := by
  intro l
  induction l with
  | nil => intro n; show n = _; simp
  | cons a l ih => intro n; show llen l (n + 1) = _; rw [ih]; simp; omega

noncomputable def ldrop {α : Type} (l : List α) : Nat → List α :=
  List.rec (motive := fun _ => Nat → List α) (fun _ => []) (fun a l ih n => Bool.rec (ih (Nat.pred n)) (a :: l) (Nat.beq n 0)) l

theorem ldrop_eq {α : Type} : ∀ (l : List α) (n : Nat), ldrop l n = l.drop n := by
  intro l
  induction l with
  | nil => intro n; simp; rfl
  | cons a l ih =>
    intro n
    cases n with
    | zero => rfl
    | succ n => show ldrop l n = _; rw [ih]; simp

noncomputable def ltake {α : Type} (l : List α) : Nat → List α :=
  List.rec (motive := fun _ => Nat → List α) (fun _ => []) (fun a _ ih n => Bool.rec (a :: ih (Nat.pred n)) [] (Nat.beq n 0)) l

theorem ltake_eq {α : Type} : ∀ (l : List α) (n : Nat), ltake l n = l.take n := by
  intro l
  induction l with
  | nil => intro n; simp; rfl
  | cons a l ih =>
    intro n
    cases n with
    | zero => rfl
    | succ n => show a :: ltake l n = _; rw [ih]; simp

end Go.Vv
