/- What the abstract interpreter tells of append is what the model's append does. -/
import Derived.Test.YtlbmfiglfefaiaaGreatVi
import Derived.Laws.AppendOwn
namespace Go.Vv

variable {P : Program} {G : Ghost} {w : World}

/-- An object is dead from here on. -/
def Ghost.kill (G : Ghost) (o : Nat) : Ghost := { G with φ := fun i => if i = o then none else G.φ i, D := fun i => i = o ∨ G.D i }

theorem Ghost.kill_φ {G : Ghost} {o i : Nat} {m : Nat × Nat × Nat} (h : (G.kill o).φ i = some m) : i ≠ o ∧ G.φ i = some m := by
  unfold Ghost.kill at h
  by_cases hi : i = o
  · simp [hi] at h
  · exact ⟨hi, by simpa [hi] using h⟩

theorem Ghost.le_kill (G : Ghost) (o : Nat) : G.Le (G.kill o) :=
  ⟨fun i m hm => by
    by_cases hi : i = o
    · exact .inr (.inl hi)
    · exact .inl (by simp [Ghost.kill, hi, hm]), fun i hd => .inr hd, fun _ _ _ h => h⟩

theorem Rel.kill {h : VHeap} (hr : Rel G h w) {o : Nat} (hlt : o < h.next) : Rel (G.kill o) (h.set o .dead) w ∧ Ext G (G.kill o) w w := by
  refine ⟨⟨hr.isub, ?_, ?_, ?_, ?_, ?_, hr.num, fun o' ho' => by rw [VHeap.get_set_ne _ _ (fun e => by subst e; exact absurd hlt (Nat.not_lt.2 ho'))]; exact hr.fresh o' ho'⟩, .mk' ⟨G.le_kill o, Nat.le_refl _, fun _ _ _ _ => rfl, fun i m hm => .inl ⟨i, m, (Ghost.kill_φ hm).2, rfl⟩, fun _ i v h => .inl ⟨i, v, h⟩, rfl, rfl, rfl⟩ ⟨Nat.le_refl _, fun i _ hi => by simp [Ghost.kill, hi]⟩⟩
  · intro i b base k hm
    obtain ⟨hi, hm⟩ := Ghost.kill_φ hm
    obtain ⟨x, hx, hat⟩ := hr.obj i b base k hm
    exact ⟨x, by rw [VHeap.get_set_ne _ _ hi]; exact hx, hat.mono (G.le_kill o) rfl⟩
  · intro i i' m m' h1 h2 hne
    exact hr.inj i i' m m' (Ghost.kill_φ h1).2 (Ghost.kill_φ h2).2 hne
  · intro i m off hm
    exact hr.sep i m off (Ghost.kill_φ hm).2
  · intro i m hm
    exact hr.dom i m (Ghost.kill_φ hm).2
  · intro i hd
    by_cases hi : i = o
    · subst hi; exact ⟨hlt, VHeap.get_set_same ..⟩
    · rcases hd with hd | hd
      · exact absurd hd hi
      · exact ⟨(hr.dead i hd).1, by rw [VHeap.get_set_ne _ _ hi]; exact (hr.dead i hd).2⟩

/-- A block that no object owns is an object's from here on, and stands otherwise. -/
theorem Rel.adopt {h : VHeap} (hr : Rel G h w) {i b base k : Nat} {x : VObj} (hx : h.get i = some x) (hlt : i < h.next) (hφ : G.φ i = none)
    (hown : ∀ o m, G.φ o = some m → m.1 ≠ b) (hI : ∀ off, G.I b off = none) {w' : World} (hother : ∀ b', b' < w.heap.size → b' ≠ b → w'.heap[b']? = w.heap[b']?)
    (hat : ObjAt (G.bear i (b, base, k)) w' b base k x) : Rel (G.bear i (b, base, k)) h w' := by
  have hle : G.Le (G.bear i (b, base, k)) := Ghost.le_bear _ hφ
  refine ⟨?_, ?_, ?_, ?_, ?_, hr.dead, hr.num, hr.fresh⟩
  · intro b' off v hv
    have hne : b' ≠ b := by rintro rfl; have := hI off; rw [show G.I b' off = some v from hv] at this; cases this
    rw [← hr.isub b' off v hv]
    exact World.cell?_of_block (hother b' (hr.iblock_lt hv) hne)
  · intro j b' base' k' hm
    by_cases hj : j = i
    · subst hj
      simp [Ghost.bear] at hm
      obtain ⟨rfl, rfl, rfl⟩ := hm
      exact ⟨x, hx, hat⟩
    · simp [Ghost.bear, hj] at hm
      obtain ⟨y, hy, hyt⟩ := hr.obj j b' base' k' hm
      exact ⟨y, hy, hyt.mono hle (hother b' (hr.block_lt hm) (hown j _ hm))⟩
  · intro j j' m m' hm hm' hne
    by_cases hj : j = i
    · subst hj
      have hj' : j' ≠ j := fun e => hne e.symm
      simp [Ghost.bear] at hm
      simp [Ghost.bear, hj'] at hm'
      subst hm
      exact fun e => hown j' m' hm' e.symm
    · simp [Ghost.bear, hj] at hm
      by_cases hj' : j' = i
      · subst hj'
        simp [Ghost.bear] at hm'
        subst hm'
        exact hown j m hm
      · simp [Ghost.bear, hj'] at hm'
        exact hr.inj j j' m m' hm hm' hne
  · intro j m off hm
    by_cases hj : j = i
    · subst hj
      simp [Ghost.bear] at hm
      subst hm
      exact hI off
    · simp [Ghost.bear, hj] at hm
      exact hr.sep j m off hm
  · intro j m hm
    by_cases hj : j = i
    · subst hj; exact hlt
    · simp [Ghost.bear, hj] at hm
      exact hr.dom j m hm

/-- append into the room behind a slice. -/
theorem run_append_room_at (t ty e : TypeId) (sz : Nat) (ht : P.underlying t = some (.slice e)) (hsz : (sizeOf e).run P w = .ok sz w)
    {g base sLen sCap : Nat} {cur : Array Value} {rt : TypeId} (hg : w.heap[g]? = some (.cells cur rt (0, 0)))
    {a : Addr} {m c : Nat} {news : List Value} (hl : news.length = m * sz) (hnews : ∀ j u, news[j]? = some u → w.cell? (a.add j) = some u) (h1 : ∀ u ∈ news, u.oneCell' = true)
    (hroom : sLen + m ≤ sCap) (hfit : base + sLen * sz + news.length ≤ cur.size) :
    (Builtin.append_ #[t, t] ty #[.slice (some ⟨g, base, none⟩) sLen sCap, .slice (some a) m c]).run P w =
      .ok (.slice (some ⟨g, base, none⟩) (sLen + m) sCap) (w.setRow g (cur.toList.take (base + sLen * sz) ++ news ++ cur.toList.drop (base + sLen * sz + news.length)).toArray) := by
  have hf := run_firstCells_some (P := P) w sz m a m c news hl hnews
  have hst := run_storeCells_at P g (base + sLen * sz) rt news 0 cur w hg (by simpa using hfit) h1
  simp only [Nat.add_zero] at hst
  simp [Builtin.append_, run_underlying ht, hsz, Builtin.lenOf, hroom, hf, addr_add, hst]

theorem run_append_none (t ty e : TypeId) (sz : Nat) (ht : P.underlying t = some (.slice e)) (hsz : (sizeOf e).run P w = .ok sz w) {b b' : Option Addr} {n c c' : Nat} (hn : n ≤ c) :
    (Builtin.append_ #[t, t] ty #[.slice b n c, .slice b' 0 c']).run P w = .ok (.slice b n c) w := by
  have hf : (Builtin.firstCells sz 0 (.slice b' 0 c')).run P w = .ok #[] w := by
    cases b' <;> simp [Builtin.firstCells, loadCells, loadCellsFrom]
  cases b with
  | none => simp [Builtin.append_, run_underlying ht, hsz, Builtin.lenOf, hn, hf]
  | some a => simp [Builtin.append_, run_underlying ht, hsz, Builtin.lenOf, hn, hf, storeCells]

theorem Young.bear_more {n : Nat} (hn : G.n = n) (m : Nat × Nat × Nat) : Young G (G.more.bear n m) := by
  refine ⟨Nat.le_succ _, fun o ho hφ => ?_⟩
  have : o ≠ n := by omega
  simp [Ghost.bear, this, Ghost.more, hφ]

/-- A grown slice's new object. -/
theorem grown_sound {h : VHeap} (hr : Rel G h w) {F : List VV} {L : List Value} (hF : RVs G F L) (hone : ∀ u ∈ L, u.oneCell' = true) {n sz cap : Nat} (hL : L.length = n * sz) (hcap : n ≤ cap)
    {zs : Array Value} (hz : zs.size = (cap - n) * sz) (e : TypeId) :
    ∃ G', RV G' (.ref h.next 0 n sz none) (.slice (some ⟨w.heap.size, 0, none⟩) n cap) ∧ Rel G' (h.push (.cells F)) (w.drew.alloc (.cells (L.toArray ++ zs) e)) ∧
      Ext G G' w (w.drew.alloc (.cells (L.toArray ++ zs) e)) := by
  have hφ : G.φ h.next = none := by
    cases hc : G.φ h.next with
    | none => rfl
    | some m => have := hr.dom _ _ hc; omega
  have hrp := (hr.push (.cells F)).drew (w.drawn + 1)
  have hφ' : G.more.φ h.next = none := hφ
  have hk : cap * sz = n * sz + (cap - n) * sz := by rw [← Nat.add_mul]; congr 1; omega
  have hb := hrp.bear (o := h.next) (x := .cells F) (VHeap.get_push_same ..) (by rw [VHeap.next_push]; omega) hφ' (.cells (L.toArray ++ zs) e) (cap * sz)
    (objAt_cells (hF.mono (G.le_more.trans (Ghost.le_bear _ hφ'))) hone (heap_alloc_new w.drew _) (by simp [hL, hz, hk]) (by rw [hF.1, hL, hk]; omega) (fun j u hu => by
      have hj := (List.getElem?_eq_some_iff.1 hu).1
      rw [Array.getElem?_append_left (by simpa using hj)]
      simpa using hu))
  refine ⟨_, ?_, hb.1, .mk' ((Ext.drew G w (w.drawn + 1)).toExt0.trans ((Ext.more G _).toExt0.trans hb.2)) (Young.bear_more hr.num _)⟩
  exact .ref (a := ⟨w.heap.size, 0, none⟩) (b := w.heap.size) (base := 0) (k := cap * sz) (by simp [Ghost.bear]) hcap (fun k' hk' => by cases hk') (.inr ⟨rfl, by omega⟩) rfl

theorem RV.nils_inv {b : Option Addr} {n c : Nat} (h : RV G .nils (.slice b n c)) : b = none ∧ c = 0 := by cases h; exact ⟨rfl, rfl⟩
theorem RV.vs_inv {es : List (List VV)} {cap : Option Nat} {b : Option Addr} {n c : Nat} (h : RV G (.vs es cap) (.slice b n c)) : b ≠ none ∧ ∀ k, cap = some k → c = k := by
  cases h with
  | vs vals h1 h2 h3 h4 h5 h6 => exact ⟨by simp, h2⟩
theorem RV.ref_inv {o off len esz : Nat} {cap : Option Nat} {b : Option Addr} {n c : Nat} (h : RV G (.ref o off len esz cap) (.slice b n c)) :
    b ≠ none ∧ n = len ∧ (∀ k, cap = some k → c = k) ∧
      ((∃ bl base k, G.φ o = some (bl, base, k) ∧ (c = 0 ∨ (b = some ⟨bl, base + off, none⟩ ∧ off + c * esz ≤ k))) ∨ G.D o) := by
  cases h with
  | ref h1 h2 h3 h4 h5 => exact ⟨by simp, rfl, h3, .inl ⟨_, _, _, h1, h4.imp_right fun ⟨a, b⟩ => ⟨by rw [a], b⟩⟩⟩
  | refD h1 h2 h3 => exact ⟨by simp, rfl, h3, .inr h1⟩

theorem vappend_sound {h h' : VHeap} (hr : Rel G h w) {t : TypeId} {s x v : VV} {a b : Value} (hs : RV G s a) (hx : RV G x b) (hv : vappend P t s x h = some (v, h')) (ty : TypeId) :
    ∃ y w' G', (Builtin.append_ #[t, t] ty #[a, b]).run P w = .ok y w' ∧ RV G' v y ∧ Rel G' h' w' ∧ Ext G G' w w' := by
  unfold vappend at hv
  split at hv
  · rename_i e he
    have ht := velem_some he
    split at hv
    · cases hv
    · rename_i hsz
      simp only [not_or, ne_eq, Decidable.not_not] at hsz
      obtain ⟨hs0, hzc⟩ := hsz
      obtain ⟨i, hi⟩ := vsz_info hs0
      have hss := run_sizeOf_vsz (w := w) hi
      have hsi : vsz P e = i.size := by simp [vsz, hi]
      have hbi : vbytes P e = i.bytes := by simp [vbytes, hi]
      cases hz : vzero P e with
      | none => simp [hz] at hzc
      | some z =>
      obtain ⟨i', zx, hi', hzx, _, hzr, _⟩ := vzero_sound (w := w) G hz
      rw [hi] at hi'; cases hi'
      have hzcs : zx.cells.size = i.size := by
        have h1 := (hzr.cells (vzero_notup hz)).1.1
        simp [hz] at hzc
        simp at h1; omega
      split at hv
      · -- nothing more
        rename_i ss hex hes
        cases hv
        obtain ⟨bx, n, c, rfl, hn, _, _⟩ := velems_sound hr hx hex
        obtain ⟨bs, m, c', rfl, hm, hmc, _⟩ := velems_sound hr hs hes
        simp at hn; subst hn
        exact ⟨_, w, G, run_append_none t ty e _ ht hss hmc, hs, hr, .refl G w⟩
      · rename_i xs ss hne hex hes
        split at hv
        · rename_i hfit
          obtain ⟨hfit1, hfit2⟩ := hfit
          obtain ⟨bx, n, c, rfl, hn, hnc, hxr, N, hN, hN1, hNat⟩ := velems_sound hr hx hex
          obtain ⟨bs, m, c', rfl, hm, hmc, hsr, L, hL, hL1, hLat⟩ := velems_sound hr hs hes
          subst hn; subst hm
          have hxpos : 0 < xs.length := by
            cases xs with
            | nil => first | exact (hne rfl).elim | exact (hne _).elim | exact (hne _ rfl).elim
            | cons => simp
          have hNl : N.length = xs.length * i.size := by rw [← hN.1, flatten_uniform_length xs hxr, hsi]
          have hLl : L.length = ss.length * i.size := by rw [← hL.1, flatten_uniform_length ss hsr, hsi]
          have hF : RVs G ((ss ++ xs).flatten) (L ++ N) := by rw [List.flatten_append]; exact hL.append hN
          have hF1 : ∀ u ∈ L ++ N, u.oneCell' = true := by
            intro u hu
            rcases List.mem_append.1 hu with hu | hu
            · exact hL1 u hu
            · exact hN1 u hu
          have hFl : (L ++ N).length = (ss.length + xs.length) * i.size := by rw [List.length_append, hLl, hNl, Nat.add_mul]
          obtain ⟨bl, o, rfl, hNat2⟩ : ∃ bl o, bx = some ⟨bl, o, none⟩ ∧ CellsAt w bl o N := by
            rcases hNat with h0 | h0
            · omega
            · exact h0
          have hnews : ∀ j u, N[j]? = some u → w.cell? ((⟨bl, o, none⟩ : Addr).add j) = some u := fun j u hu => by rw [addr_add]; exact hNat2 j u hu
          have hb48 : (ss.length + xs.length) * i.bytes ≤ 140737488355328 := by rw [← hbi]; exact hfit1
          have h63 : ((ss.length + xs.length : Nat) : Int) ≤ 9223372036854775807 := by omega
          -- a slice without room
          have grow : ∀ {h1 : VHeap} {G1 : Ghost}, Rel G1 h1 w → Ext G G1 w w → bs ≠ none ∨ ss = [] ∧ c' = 0 → c' < ss.length + xs.length → 
              ∃ y w' G', (Builtin.append_ #[t, t] ty #[.slice bs ss.length c', .slice (some ⟨bl, o, none⟩) xs.length c]).run P w = .ok y w' ∧
                RV G' (.ref h1.next 0 (ss.length + xs.length) (vsz P e) none) y ∧ Rel G' (h1.push (.cells ((ss ++ xs).flatten))) w' ∧ Ext G G' w w' := by
            intro h1 G1 hr1 he1 hbs hc
            have hge := grownCap_ge w (ss.length + xs.length) c' e
            obtain ⟨G', g1, g2, g3⟩ := grown_sound hr1 (hF.mono he1.le) hF1 hFl hge (zs := Builtin.zeroCells zx.cells (grownCap w (ss.length + xs.length) c' e - (ss.length + xs.length)))
              (by rw [size_zeroCells, hzcs]) e
            rw [← hsi] at g1
            cases bs with
            | some ad =>
              refine ⟨_, _, G', ?_, g1, g2, he1.trans g3⟩
              have hol : ∀ j u, L[j]? = some u → w.cell? (ad.add j) = some u := by
                intro j u hu
                rcases hLat with h0 | ⟨bl', o', h0, hat⟩
                · have : L = [] := List.eq_nil_of_length_eq_zero (by rw [hLl, h0]; simp)
                  subst this; simp at hu
                · cases h0; rw [addr_add]; exact hat j u hu
              rw [run_append_grow w t ty e i zx ht hi hzx ad ss.length c' L hLl hol ⟨bl, o, none⟩ xs.length c N hNl hnews hc h63 (growslice_fits hc hb48)]
              simp
            | none =>
              obtain ⟨rfl, rfl⟩ : ss = [] ∧ c' = 0 := by
                rcases hbs with h0 | h0
                · exact absurd rfl h0
                · exact h0
              have : L = [] := List.eq_nil_of_length_eq_zero (by rw [hLl]; simp)
              subst this
              refine ⟨_, _, G', ?_, g1, g2, he1.trans g3⟩
              simp only [List.length_nil]
              rw [run_append_nil w t ty e i zx ht hi hzx ⟨bl, o, none⟩ xs.length c N hNl hnews hxpos (by omega) (by simp at hb48; omega)]
              simp
          simp only at hv
          split at hv
          · -- nil
            cases hv
            simp [velems] at hes
            subst hes
            obtain ⟨rfl, rfl⟩ := hs.nils_inv
            exact grow hr (.refl G w) (.inr ⟨rfl, rfl⟩) (by simp; omega)
          · -- cells that nobody writes
            rename_i es' c0
            split at hv
            · rename_i hc0
              cases hv
              obtain ⟨h1, h2⟩ := hs.vs_inv
              exact grow hr (.refl G w) (.inl h1) (by rw [h2 _ rfl, hc0]; omega)
            · cases hv
          · -- an object's cells
            rename_i o' off len esz cap
            split at hv
            · rename_i hcap
              cases hv
              obtain ⟨h1, h2, h3, _⟩ := hs.ref_inv
              exact grow hr (.refl G w) (.inl h1) (by rw [h3 _ hcap]; omega)
            · cases hv
              obtain ⟨h1, rfl, h3, h4⟩ := hs.ref_inv
              have hcell : esz = vsz P e ∧ ∃ c, h.get o' = some (.cells c) := by
                unfold velems at hes
                simp only at hes
                split at hes
                · cases hes
                · rename_i hq
                  split at hes
                  · rename_i c hg; exact ⟨Decidable.not_not.1 hq, c, hg⟩
                  · cases hes
              obtain ⟨rfl, cs, hg⟩ := hcell
              rcases h4 with ⟨blk, base, k, hφ, hat⟩ | hd
              · have hlt := hr.dom _ _ hφ
                obtain ⟨hkr, hke⟩ := hr.kill hlt
                by_cases hroom : ss.length + xs.length ≤ c'
                · rcases hat with hc0 | ⟨rfl, hk⟩
                  · omega
                  obtain ⟨arr, t', ha1, ha2, ha3, _⟩ := obj_cells hr hφ hg
                  rw [hsi] at hk
                  have hmul : (ss.length + xs.length) * i.size ≤ c' * i.size := Nat.mul_le_mul_right _ hroom
                  have hadd : (ss.length + xs.length) * i.size = ss.length * i.size + xs.length * i.size := Nat.add_mul ..
                  have hfits : base + off + ss.length * i.size + N.length ≤ arr.size := by rw [hNl]; omega
                  have hrun := run_append_room_at (P := P) (w := w) t ty e i.size ht (by rw [← hsi]; exact hss) ha1 hNl hnews hN1 (sCap := c') (c := c) hroom hfits
                  have hLcell : ∀ j u, L[j]? = some u → arr[base + off + j]? = some u := by
                    intro j u hu
                    rcases hLat with h0 | ⟨bl', o2, h0, hat⟩
                    · have : L = [] := List.eq_nil_of_length_eq_zero (by rw [hLl, h0]; simp)
                      subst this; simp at hu
                    · cases h0
                      have := hat j u hu
                      rw [cell_of_row w blk _ arr t' (0, 0) ha1] at this
                      exact this
                  have hφn : (G.kill o').φ h.next = none := by
                    cases hc : (G.kill o').φ h.next with
                    | none => rfl
                    | some m => have := hr.dom _ _ (Ghost.kill_φ hc).2; omega
                  have hle : G.Le ((G.kill o').more.bear h.next (blk, base + off, k - off)) := (G.le_kill o').trans ((Ghost.le_more _).trans (Ghost.le_bear _ hφn))
                  refine ⟨_, _, (G.kill o').more.bear h.next (blk, base + off, k - off), hrun, ?_, ?_, .mk' ⟨hle, by simp, ?_, ?_, fun _ i v h => .inl ⟨i, v, h⟩, rfl, rfl, rfl⟩ (hke.toYoung.trans (Young.bear_more hkr.num _))⟩
                  · refine .ref (a := ⟨blk, base + off, none⟩) (b := blk) (base := base + off) (k := k - off) (by simp [Ghost.bear]) hroom (fun k' hk' => by cases hk') (.inr ⟨rfl, by rw [hsi]; omega⟩) rfl
                  · refine (hkr.push _).adopt (VHeap.get_push_same ..) (by rw [VHeap.next_push]; exact Nat.lt_succ_self _) hφn ?_ ?_ (fun b' _ hb' => setRow_other w blk b' _ hb') ?_
                    · intro o2 m hm
                      obtain ⟨hne2, hm⟩ := Ghost.kill_φ hm
                      exact hr.inj o2 o' _ _ hm hφ hne2
                    · intro off'
                      exact hr.sep o' _ off' hφ
                    · refine objAt_cells (hF.mono hle) hF1 (setRow_heap w blk arr _ t' _ ha1) ?_ ?_ ?_
                      · simp only [List.size_toArray, List.length_append, List.length_take, List.length_drop, Array.length_toList]
                        omega
                      · rw [hF.1, hFl]; omega
                      · intro j u hu
                        have key := getElem?_overV arr.toList N (base + off + ss.length * i.size) (base + off + j) (by have e : arr.toList.length = arr.size := Array.length_toList; omega)
                        simp only [overV] at key
                        simp only [List.getElem?_toArray]
                        rw [key]
                        have hj := (List.getElem?_eq_some_iff.1 hu).1
                        rw [List.length_append, hLl] at hj
                        by_cases hjL : j < ss.length * i.size
                        · rw [if_neg (by omega)]
                          rw [List.getElem?_append_left (by omega)] at hu
                          simpa using hLcell j u hu
                        · rw [if_pos (by omega)]
                          rw [List.getElem?_append_right (by omega), hLl] at hu
                          rw [show base + off + j - (base + off + ss.length * i.size) = j - ss.length * i.size by omega]
                          exact hu
                  · intro b' _ hn' _
                    exact setRow_other w blk b' _ (fun e => hn' o' _ hφ e.symm)
                  · intro i2 m hm
                    by_cases hi2 : i2 = h.next
                    · subst hi2
                      simp [Ghost.bear] at hm
                      subst hm
                      exact .inl ⟨o', _, hφ, rfl⟩
                    · simp only [Ghost.bear, if_neg hi2, Ghost.more] at hm
                      exact .inl ⟨i2, m, (Ghost.kill_φ hm).2, rfl⟩
                · exact grow hkr hke (.inl h1) (by omega)
              · have := (hr.dead _ hd).2; rw [hg] at this; cases this
          · cases hv
        · cases hv
      · cases hv
  · cases hv

/-- An operation that changes the heap. -/
theorem vwrite_sound {h h' : VHeap} (hr : Rel G h w) {o : Oper} {fr : Fr} {ρ : Operand → Value} (hρ : ∀ x ∈ o.op.operands, RV G (ev fr x) (ρ x)) {v : VV} (hv : vwrite P o.op fr h = some (v, h')) :
    ∃ y w' G', ((execOp ρ o).run P w = .ok (.value y) w' ∨ (execOp ρ o).run P w = .ok .skip w' ∧ y = Go.undef) ∧ RV G' v y ∧ Rel G' h' w' ∧ Ext G G' w w' := by
  obtain ⟨dst, op, type, pos, after, guard⟩ := o
  unfold vwrite at hv
  simp only at hv hρ
  split at hv
  · rename_i t a x
    simp only [Option.map_eq_some_iff, Prod.mk.injEq] at hv
    obtain ⟨h1, hst, rfl, rfl⟩ := hv
    obtain ⟨w', h2, h3, h4⟩ := vstore_sound (P := P) hr (hρ a (by simp [Op.operands])) (hρ x (by simp [Op.operands])) hst
    exact ⟨_, w', G, .inr ⟨by simp [execOp, h2], rfl⟩, .undef G, h3, h4⟩
  · rename_i t m k x
    simp only [Option.map_eq_some_iff, Prod.mk.injEq] at hv
    obtain ⟨h1, hst, rfl, rfl⟩ := hv
    obtain ⟨w', h2, h3, h4⟩ := vmapUpdate_sound (P := P) hr (hρ m (by simp [Op.operands])) (hρ k (by simp [Op.operands])) (hρ x (by simp [Op.operands])) hst
    exact ⟨_, w', G, .inr ⟨by simp [execOp, h2], rfl⟩, .undef G, h3, h4⟩
  · rename_i t m k x
    simp only [Option.map_eq_some_iff, Prod.mk.injEq] at hv
    obtain ⟨h1, hst, rfl, rfl⟩ := hv
    obtain ⟨w', h2, h3, h4⟩ := vmapUpdate_sound (P := P) hr (hρ m (by simp [Op.operands])) (hρ k (by simp [Op.operands])) (hρ x (by simp [Op.operands])) hst
    exact ⟨_, w', G, .inr ⟨by simp [execOp, h2], rfl⟩, .undef G, h3, h4⟩
  · rename_i s x t t'
    split at hv
    · rename_i htt
      subst htt
      obtain ⟨y, w', G', h1, h2, h3, h4⟩ := vappend_sound (P := P) hr (hρ s (by simp [Op.operands, Call.operands])) (hρ x (by simp [Op.operands, Call.operands])) hv type
      exact ⟨y, w', G', .inl (by simp [execOp, resolve, invoke, builtin, h1]), h2, h3, h4⟩
    · cases hv
  · cases hv

/-- A plain operation. -/
theorem vop_sound {h h' : VHeap} (hr : Rel G h w) {o : Oper} {fr : Fr} {ρ : Operand → Value} (hρ : ∀ x ∈ o.op.operands, RV G (ev fr x) (ρ x)) {v : VV} (hv : vop P o.op fr h = some (v, h')) :
    ∃ y w' G', ((execOp ρ o).run P w = .ok (.value y) w' ∨ (execOp ρ o).run P w = .ok .skip w' ∧ y = Go.undef) ∧ RV G' v y ∧ Rel G' h' w' ∧ Ext G G' w w' := by
  unfold vop at hv
  split at hv
  · rename_i v' hrd
    cases hv
    obtain ⟨y, w', G', h1, h2, h3, h4, _⟩ := vread_sound hr hρ hrd
    exact ⟨y, w', G', .inl h1, h2, h3, h4⟩
  · split at hv
    · rename_i f x hnew
      cases hv
      obtain ⟨y, B, k, h1, h2⟩ := vnew_sound (w := w) hρ hnew
      have hφ : G.φ h.next = none := by
        cases hc : G.φ h.next with
        | none => rfl
        | some m => have := hr.dom _ _ hc; omega
      have hle := G.le_more.trans (Ghost.le_bear (G := G.more) (o := h.next) (w.heap.size, 0, k) hφ)
      obtain ⟨h3, h4⟩ := h2 (G.more.bear h.next (w.heap.size, 0, k)) h.next (w.alloc B) hle (heap_alloc_new w B) (by simp [Ghost.bear])
      obtain ⟨h5, h6⟩ := (hr.push x).bear (VHeap.get_push_same ..) (by rw [VHeap.next_push]; exact Nat.lt_succ_self _) hφ B k h4
      exact ⟨y, _, _, .inl h1, h3, h5, .mk' ((Ext.more G w).toExt0.trans h6) (Young.bear_more hr.num _)⟩
    · exact vwrite_sound hr hρ hv

end Go.Vv
