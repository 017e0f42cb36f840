/- The executor laid out anew: code. -/
import Derived.Test.YtlbmfiglfefaiaaGreatVza
namespace Go.Vv

variable {P : Program}

/-! ## Operands -/

inductive KX where
  | tmp (t : Nat)
  | val (v : VV)

def kx : Operand → KX
  | .tmp t => .tmp t
  | .const v => .val (ofZero v)
  | .global g => .val (.gptr g)
  | .func f => .val (.fn (.func f) [] [])

noncomputable def kev (fr : Fr) (x : KX) : VV := @KX.rec (fun _ => VV) (fun t => fat fr t) (fun v => v) x

theorem kev_kx (fr : Fr) (x : Operand) : kev fr (kx x) = ev fr x := by
  cases x with
  | tmp t => exact fat_eq fr t
  | _ => rfl

/-! ## Operations that read -/

inductive KR where
  | mov (x : KX)
  | pick (c a b : KX)
  | load (a : KX)
  | loadA (sz : Nat) (a : KX)
  | faddr (off : Nat) (a : KX)
  | iaddr (esz : Nat) (x i : KX)
  | nilc (x : KX)
  | bin (op : BinOp) (t : TypeId) (x y : KX)
  | lenS (x : KX)
  | lenL (x : KX)
  | index (x i : KX)
  | extr (x : KX) (i : Nat)
  | not (x : KX)
  | field (off : Nat) (x : KX)
  | fieldA (sz off : Nat) (x : KX)

noncomputable def kpart (sz : Nat) (cs : List VV) (off : Nat) : Option VV :=
  @Bool.rec (fun _ => Option VV) none (some (.agg (ltake (ldrop cs off) sz))) (Nat.ble (Nat.add off sz) (llen cs 0))

/-- The cells of what a pointer points to. -/
noncomputable def kcells (h : VHeap) (p : KP) (K : List VV → Nat → Option VV) : Option VV :=
  @KP.rec (fun _ => Option VV) (fun o off => @Option.rec VObj (fun _ => Option VV) none (fun ob => @VObj.rec (fun _ => Option VV) (fun c => K c off) (fun _ => none) none (fun _ => none) ob) (fgetO h.objs o)) (fun cs off => K cs off) p

noncomputable def kopt {α β : Type} (x : Option α) (K : α → Option β) : Option β := @Option.rec α (fun _ => Option β) none K x

theorem kopt_some {α β : Type} {x : Option α} {K : α → Option β} {b : β} (h : kopt x K = some b) : ∃ a, x = some a ∧ K a = some b := by
  cases x with
  | none => cases h
  | some a => exact ⟨a, rfl, h⟩

noncomputable def knat (i : Int) (K : Nat → Option VV) : Option VV := @Int.rec (fun _ => Option VV) K (fun _ => none) i

theorem knat_some {i : Int} {K : Nat → Option VV} {b : VV} (h : knat i K = some b) : ∃ n, i = Int.ofNat n ∧ K n = some b := by
  cases i with
  | ofNat n => exact ⟨n, rfl, h⟩
  | negSucc n => cases h

noncomputable def kif {α : Type} (b : Bool) (x : Option α) : Option α := @Bool.rec (fun _ => Option α) none x b

theorem kif_some {α : Type} {b : Bool} {x : Option α} {y : α} (h : kif b x = some y) : b = true ∧ x = some y := by
  cases b with
  | true => exact ⟨rfl, h⟩
  | false => cases h

noncomputable def krd (P : Program) (r : KR) : Fr → VHeap → Option VV :=
  @KR.rec (fun _ => Fr → VHeap → Option VV)
    (fun x fr _ => some (kev fr x))
    (fun c a b fr _ => kopt (kev fr c).bool? fun t => some (@Bool.rec (fun _ => VV) (kev fr b) (kev fr a) t))
    (fun a fr h => kopt (kev fr a).kp? fun p => kcells h p fun c off => lnth c off)
    (fun sz a fr h => kopt (kev fr a).kp? fun p => kcells h p fun c off => kpart sz c off)
    (fun fo a fr _ => kopt (kev fr a).kp? fun p => some (@KP.rec (fun _ => VV) (fun o off => .ptr o (Nat.add off fo)) (fun cs off => .iptr cs (Nat.add off fo)) p))
    (fun esz x i fr _ => kopt (kev fr i).int? fun q => knat q.2 fun n => kopt (kev fr x).ks? fun s =>
      @KS.rec (fun _ => Option VV) none (fun es => kopt (lnth es n) fun row => kif (Nat.beq (llen row 0) esz) (some (.iptr row 0)))
        (fun o off len esz' => kif (Nat.ble (Nat.succ n) len) (kif (Nat.beq esz' esz) (some (.ptr o (Nat.add off (Nat.mul n esz)))))) s)
    (fun x fr _ => kopt (kev fr x).kp? fun _ => some (kev fr x))
    (fun op t x y fr _ => kbin P op t (kev fr x) (kev fr y))
    (fun x fr _ => kopt (kev fr x).str? fun s => some (.int .i64 (Int.ofNat (llen s 0))))
    (fun x fr _ => kopt (kev fr x).ks? fun s => some (.int .i64 (Int.ofNat (@KS.rec (fun _ => Nat) 0 (fun es => llen es 0) (fun _ _ len _ => len) s))))
    (fun x i fr _ => kopt (kev fr x).str? fun s => kopt (kev fr i).int? fun q => knat q.2 fun n => kopt (lnth s n) fun b => some (.int .u8 (Int.ofNat b.toNat)))
    (fun x i fr _ => kopt (kev fr x).tup? fun l => lnth l i)
    (fun x fr _ => kopt (kev fr x).bool? fun b => some (.bool (@Bool.rec (fun _ => Bool) true false b)))
    (fun off x fr _ => kopt (kev fr x).agg? fun cs => lnth cs off)
    (fun sz off x fr _ => kopt (kev fr x).agg? fun cs => kpart sz cs off) r

def compR (P : Program) : Op → Option KR
  | .move x => some (.mov (kx x))
  | .assign x => some (.mov (kx x))
  | .pick c a b => some (.pick (kx c) (kx a) (kx b))
  | .load t a => match vagg P t with | some true => some (.loadA (vsz P t) (kx a)) | some false => some (.load (kx a)) | none => none
  | .fieldAddr t x i => match vfield P t i with | some (fo, ft) => if vsz P ft = 0 then none else some (.faddr fo (kx x)) | none => none
  | .indexAddr t x i => match velem P t with | some e => if vsz P e = 0 then none else some (.iaddr (vsz P e) (kx x) (kx i)) | none => none
  | .nilCheck x => some (.nilc (kx x))
  | .binOp op t x y _ => some (.bin op t (kx x) (kx y))
  | .call { callee := .builtin .len, args := ⟨[x]⟩, argTypes := ⟨[t]⟩ } => match P.underlying t with | some .string => some (.lenS (kx x)) | some (.slice _) => some (.lenL (kx x)) | _ => none
  | .index t x i => match P.underlying t with | some .string => some (.index (kx x) (kx i)) | _ => none
  | .extract x i => some (.extr (kx x) i)
  | .unOp .not _ x => some (.not (kx x))
  | .field t x i => match vfield P t i with | some (fo, ft) => (match vagg P ft with | some true => some (.fieldA (vsz P ft) fo (kx x)) | some false => some (.field fo (kx x)) | none => none) | none => none
  | _ => none

theorem kpart_some {t : TypeId} {cs : List VV} {off : Nat} {v : VV} (ha : vagg P t = some true) (h : kpart (vsz P t) cs off = some v) : vpart P t cs off = some v := by
  obtain ⟨h1, h2⟩ := kif_some (show kif _ _ = some v from h)
  cases h2
  have hle : off + vsz P t ≤ cs.length := by
    have := Nat.le_of_ble_eq_true h1
    rw [llen_eq] at this
    exact this
  unfold vpart
  simp only [ha]
  rw [if_pos hle, ltake_eq, ldrop_eq]

theorem kcells_some {h : VHeap} {p : KP} {K : List VV → Nat → Option VV} {v : VV} {t : TypeId} (hK : ∀ c off, K c off = some v → vpart P t c off = some v) (hv : kcells h p K = some v) : vload P t p.val h = some v := by
  cases p with
  | ptr o off =>
    have hv2 : kopt (fgetO h.objs o) (fun ob => @VObj.rec (fun _ => Option VV) (fun c => K c off) (fun _ => none) none (fun _ => none) ob) = some v := hv
    obtain ⟨ob, h1, h2⟩ := kopt_some hv2
    rw [fgetO_eq] at h1
    cases ob with
    | cells c =>
      show (match h.get o with | some (.cells c) => vpart P t c off | _ => none) = some v
      have : h.get o = some (.cells c) := h1
      rw [this]
      exact hK c off h2
    | map es => cases h2
    | dead => cases h2
    | loop l => cases h2
  | iptr cs off => exact hK cs off hv

theorem krd_sound {op : Op} {r : KR} (hr : compR P op = some r) {fr : Fr} {h : VHeap} {v : VV} (hv : krd P r fr h = some v) : vread P op fr h = some v := by
  unfold compR at hr
  split at hr
  · cases hr
    have hv : some (kev fr (kx _)) = some v := hv
    rw [kev_kx] at hv; exact hv
  · cases hr
    have hv : some (kev fr (kx _)) = some v := hv
    rw [kev_kx] at hv; exact hv
  · rename_i c a b
    cases hr
    have hv : kopt (kev fr (kx c)).bool? (fun t => some (@Bool.rec (fun _ => VV) (kev fr (kx b)) (kev fr (kx a)) t)) = some v := hv
    obtain ⟨t, h1, h2⟩ := kopt_some hv
    have h3 := VV.bool?_some h1
    simp only [kev_kx] at h2 h3
    unfold vread
    simp only [h3]
    cases t <;> exact h2
  · rename_i t a
    split at hr
    · rename_i ha
      cases hr
      have hv : kopt (kev fr (kx a)).kp? (fun p => kcells h p fun c off => kpart (vsz P t) c off) = some v := hv
      obtain ⟨p, h1, h2⟩ := kopt_some hv
      have h3 := VV.kp?_some h1
      rw [kev_kx] at h3
      unfold vread
      simp only [h3]
      exact kcells_some (fun c off hc => kpart_some ha hc) h2
    · rename_i ha
      cases hr
      have hv : kopt (kev fr (kx a)).kp? (fun p => kcells h p fun c off => lnth c off) = some v := hv
      obtain ⟨p, h1, h2⟩ := kopt_some hv
      have h3 := VV.kp?_some h1
      rw [kev_kx] at h3
      unfold vread
      simp only [h3]
      exact kcells_some (fun c off hc => by rw [lnth_eq] at hc; simp only [vpart, ha]; exact hc) h2
    · cases hr
  · rename_i t x i
    split at hr
    · rename_i fo ft hf
      split at hr
      · cases hr
      · rename_i hz
        cases hr
        have hv : kopt (kev fr (kx x)).kp? (fun p => some (@KP.rec (fun _ => VV) (fun o off => .ptr o (Nat.add off fo)) (fun cs off => .iptr cs (Nat.add off fo)) p)) = some v := hv
        obtain ⟨p, h1, h2⟩ := kopt_some hv
        have h3 := VV.kp?_some h1
        rw [kev_kx] at h3
        unfold vread
        simp only [h3, vfieldAddr, hf]
        rw [if_neg hz]
        cases p <;> exact h2
    · cases hr
  · rename_i t x i
    split at hr
    · rename_i e he
      split at hr
      · cases hr
      · rename_i hz
        cases hr
        have hv : kopt (kev fr (kx i)).int? (fun q => knat q.2 fun n => kopt (kev fr (kx x)).ks? fun s =>
          @KS.rec (fun _ => Option VV) none (fun es => kopt (lnth es n) fun row => kif (Nat.beq (llen row 0) (vsz P e)) (some (.iptr row 0)))
            (fun o off len esz' => kif (Nat.ble (Nat.succ n) len) (kif (Nat.beq esz' (vsz P e)) (some (.ptr o (Nat.add off (Nat.mul n (vsz P e))))))) s) = some v := hv
        obtain ⟨⟨k, m⟩, h1, h2⟩ := kopt_some hv
        obtain ⟨n, h3, h4⟩ := knat_some h2
        obtain ⟨s, h5, h6⟩ := kopt_some h4
        have h7 := VV.int?_some h1
        have h8 := VV.ks?_some h5
        simp only at h3
        rw [kev_kx] at h7 h8
        subst h3
        unfold vread
        simp only [vindexAddr, he, h7]
        cases s with
        | nils => cases h6
        | vs es =>
          obtain ⟨c, h9⟩ := h8
          obtain ⟨row, h10, h11⟩ := kopt_some (show kopt _ _ = some v from h6)
          obtain ⟨h12, h13⟩ := kif_some h11
          have h14 := Nat.eq_of_beq_eq_true h12
          rw [llen_eq] at h14
          rw [lnth_eq] at h10
          simp only [h9]
          rw [if_pos (show (0 : Int) ≤ Int.ofNat n from Int.natCast_nonneg n)]
          have h15 : es[(Int.ofNat n).toNat]? = some row := h10
          simp only [h15]
          rw [if_pos ⟨h14, hz⟩]
          exact h13
        | ref o off len esz' =>
          obtain ⟨c, h9⟩ := h8
          obtain ⟨h10, h11⟩ := kif_some (show kif _ _ = some v from h6)
          obtain ⟨h12, h13⟩ := kif_some h11
          have h14 := Nat.eq_of_beq_eq_true h12
          have h15 := Nat.le_of_ble_eq_true h10
          subst h14
          simp only [h9]
          rw [if_pos (show (0 : Int) ≤ Int.ofNat n ∧ Int.ofNat n < (len : Int) ∧ True ∧ vsz P e ≠ 0 from ⟨Int.natCast_nonneg n, by show (n : Int) < len; omega, trivial, hz⟩)]
          exact h13
    · cases hr
  · rename_i x
    cases hr
    have hv : kopt (kev fr (kx x)).kp? (fun _ => some (kev fr (kx x))) = some v := hv
    obtain ⟨p, h1, h2⟩ := kopt_some hv
    have h3 := VV.kp?_some h1
    rw [kev_kx] at h2 h3
    unfold vread
    simp only [h3, vnilCheck] at h2 ⊢
    cases p <;> exact h2
  · rename_i op t x y yt
    cases hr
    have hv : kbin P op t (kev fr (kx x)) (kev fr (kx y)) = some v := hv
    rw [kbin_eq, kev_kx, kev_kx] at hv
    exact hv
  · rename_i x t
    split at hr
    · rename_i hu
      cases hr
      have hv : kopt (kev fr (kx x)).str? (fun s => some (.int .i64 (Int.ofNat (llen s 0)))) = some v := hv
      obtain ⟨s, h1, h2⟩ := kopt_some hv
      have h3 := VV.str?_some h1
      rw [kev_kx] at h3
      unfold vread
      simp only [vlen, hu, h3]
      rw [llen_eq] at h2
      exact h2
    · rename_i e hu
      cases hr
      have hv : kopt (kev fr (kx x)).ks? (fun s => some (.int .i64 (Int.ofNat (@KS.rec (fun _ => Nat) 0 (fun es => llen es 0) (fun _ _ len _ => len) s)))) = some v := hv
      obtain ⟨s, h1, h2⟩ := kopt_some hv
      have h3 := VV.ks?_some h1
      rw [kev_kx] at h3
      unfold vread
      cases s with
      | nils =>
        have h3 : ev fr x = .nils := h3
        simp only [vlen, hu, h3]
        exact h2
      | vs es =>
        obtain ⟨c, h3⟩ := h3
        simp only [vlen, hu, h3]
        have h2 : some (VV.int .i64 (Int.ofNat (llen es 0))) = some v := h2
        rw [llen_eq] at h2
        exact h2
      | ref o off len esz =>
        obtain ⟨c, h3⟩ := h3
        simp only [vlen, hu, h3]
        exact h2
    · cases hr
  · rename_i t x i
    split at hr
    · rename_i hu
      cases hr
      have hv : kopt (kev fr (kx x)).str? (fun s => kopt (kev fr (kx i)).int? fun q => knat q.2 fun n => kopt (lnth s n) fun b => some (.int .u8 (Int.ofNat b.toNat))) = some v := hv
      obtain ⟨s, h1, h2⟩ := kopt_some hv
      obtain ⟨⟨k, m⟩, h3, h4⟩ := kopt_some h2
      obtain ⟨n, h5, h6⟩ := knat_some h4
      obtain ⟨b, h7, h8⟩ := kopt_some h6
      have h9 := VV.str?_some h1
      have h10 := VV.int?_some h3
      rw [kev_kx] at h9 h10
      simp only at h5
      subst h5
      rw [lnth_eq] at h7
      unfold vread
      simp only [hu, vindex, h9, h10]
      rw [if_pos (show (0 : Int) ≤ Int.ofNat n from Int.natCast_nonneg n)]
      have h15 : s[(Int.ofNat n).toNat]? = some b := h7
      rw [h15]
      exact h8
    · cases hr
  · rename_i x i
    cases hr
    have hv : kopt (kev fr (kx x)).tup? (fun l => lnth l i) = some v := hv
    obtain ⟨l, h1, h2⟩ := kopt_some hv
    have h3 := VV.tup?_some h1
    rw [kev_kx] at h3
    rw [lnth_eq] at h2
    unfold vread
    simp only [vextract, h3]
    exact h2
  · rename_i t x
    cases hr
    have hv : kopt (kev fr (kx x)).bool? (fun b => some (.bool (@Bool.rec (fun _ => Bool) true false b))) = some v := hv
    obtain ⟨b, h1, h2⟩ := kopt_some hv
    have h3 := VV.bool?_some h1
    rw [kev_kx] at h3
    unfold vread
    simp only [vunOp, h3]
    cases b <;> exact h2
  · rename_i t x i
    split at hr
    · rename_i fo ft hf
      split at hr
      · rename_i ha
        cases hr
        have hv : kopt (kev fr (kx x)).agg? (fun cs => kpart (vsz P ft) cs fo) = some v := hv
        obtain ⟨cs, h1, h2⟩ := kopt_some hv
        have h3 := VV.agg?_some h1
        rw [kev_kx] at h3
        unfold vread
        simp only [vfieldOf, hf, h3]
        exact kpart_some ha h2
      · rename_i ha
        cases hr
        have hv : kopt (kev fr (kx x)).agg? (fun cs => lnth cs fo) = some v := hv
        obtain ⟨cs, h1, h2⟩ := kopt_some hv
        have h3 := VV.agg?_some h1
        rw [kev_kx] at h3
        rw [lnth_eq] at h2
        unfold vread
        simp only [vfieldOf, hf, h3, vpart, ha]
        exact h2
      · cases hr
    · cases hr
  · cases hr

end Go.Vv
