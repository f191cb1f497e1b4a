/- The operations that reckon and read, on: slices, operators, conversions, maps, aggregates. -/
import Derived.Test.YthlkmfeelhbhjaaGreatDoorHgS2
import Derived.ChangeKeysEq
set_option linter.unusedVariables false
set_option linter.unusedSimpArgs false
namespace Go.Hg
variable {P : Program} {ρ : Env} {s : St} {w : World}

/-! ### Slices -/
def OVR (ρ : Env) (o o' : Option Value) : Prop := (o = none ∧ o' = none) ∨ ∃ v v', o = some v ∧ o' = some v' ∧ VR ρ v v'

theorem run_bound {k : IntKind} {i : Int} {y : Nat} {code : BoundsCode} (h0 : 0 ≤ i) (h1 : i ≤ y) : (Instr.sliceBound (.int k i) y code).run P w = .ok i.toNat w := by
  simp [Instr.sliceBound, asIntOf, h0, h1]

theorem boundIn_sound {v v' : Value} {y y' n : Nat} {code : BoundsCode} (hv : VR ρ v v') (h : boundIn v y = some n) (hy : y ≤ y') :
    (Instr.sliceBound v' y' code).run P w = .ok n w ∧ n ≤ y := by
  unfold boundIn at h
  cases hi : intOf? v with
  | none => rw [hi] at h; cases h
  | some i =>
    obtain ⟨k, rfl, rfl⟩ := int_of hv hi
    rw [hi] at h
    simp only at h
    by_cases hc : 0 ≤ i ∧ i ≤ y
    · rw [decide_eq_true hc.1, decide_eq_true hc.2] at h
      simp at h; subst h
      exact ⟨run_bound hc.1 (by omega), by omega⟩
    · have : (decide (0 ≤ i) && decide (i ≤ (y : Int))) = false := by
        rw [Bool.and_eq_false_iff]; by_cases h0 : 0 ≤ i
        · right; simp; omega
        · left; simpa using h0
      rw [this] at h; cases h

theorem bounds_sound {isS : Bool} {len cap cap' l h m : Nat} {low low' high high' mx mx' : Option Value} (hl : OVR ρ low low') (hh : OVR ρ high high') (hm : OVR ρ mx mx')
    (hb : boundsD len cap low high mx = some (l, h, m)) (hc : cap ≤ cap') :
    (Instr.sliceBounds isS len cap' low' high' mx').run P w = .ok (l, h, if mx.isSome then m else cap') w ∧ l ≤ h ∧ h ≤ m ∧ m ≤ cap ∧ (mx.isSome = false → m = cap) ∧ mx'.isSome = mx.isSome := by
  unfold boundsD at hb
  cases h1 : boundM cap mx with
  | none => rw [h1] at hb; cases hb
  | some m0 =>
    rw [h1] at hb; simp only at hb
    cases h2 : boundH len m0 mx.isSome high with
    | none => rw [h2] at hb; cases hb
    | some h0 =>
      rw [h2] at hb; simp only at hb
      cases h3 : boundL h0 low with
      | none => rw [h3] at hb; cases hb
      | some l0 =>
        rw [h3] at hb; simp only at hb
        cases h4 : Nat.ble h0 m0 with
        | false => rw [h4] at hb; cases hb
        | true =>
          rw [h4] at hb
          simp at hb
          obtain ⟨rfl, rfl, rfl⟩ := hb
          have hle := Nat.le_of_ble_eq_true h4
          have hL : ∀ c, (match low' with
              | some v => Instr.sliceBound v h0 c
              | none => pure 0).run P w = .ok l0 w ∧ l0 ≤ h0 := by
            intro c
            rcases hl with ⟨rfl, rfl⟩ | ⟨v, v', rfl, rfl, hv⟩
            · simp only [boundL] at h3; injection h3 with h3; subst h3; exact ⟨by simp, Nat.zero_le _⟩
            · exact boundIn_sound hv h3 (Nat.le_refl _)
          rcases hm with ⟨rfl, rfl⟩ | ⟨vm, vm', rfl, rfl, hvm⟩
          · simp only [boundM] at h1; injection h1 with h1; subst h1
            refine ⟨?_, (hL .index).2, hle, Nat.le_refl _, fun _ => rfl, rfl⟩
            rcases hh with ⟨rfl, rfl⟩ | ⟨vh, vh', rfl, rfl, hvh⟩
            · simp [boundH] at h2; subst h2
              have q := (hL .sliceB).1
              cases low' <;> simp_all [Instr.sliceBounds]
            · have q := (hL .sliceB).1
              have q2 := fun c => (boundIn_sound (P := P) (w := w) (code := c) hvh h2 hc).1
              cases low' <;> simp_all [Instr.sliceBounds]
          · obtain ⟨a1, a2⟩ := boundIn_sound (P := P) (w := w) (code := if isS then .slice3Acap else .slice3Alen) hvm h1 hc
            refine ⟨?_, (hL .index).2, hle, a2, by simp, rfl⟩
            rcases hh with ⟨rfl, rfl⟩ | ⟨vh, vh', rfl, rfl, hvh⟩
            · simp [boundH] at h2
            · have q := (hL .slice3C).1
              have q2 := fun c => (boundIn_sound (P := P) (w := w) (code := c) hvh h2 (Nat.le_refl _)).1
              cases low' <;> simp_all [Instr.sliceBounds]

theorem exact_rel (h : Rel ρ s w) {k off len cap cap' size : Nat} {L : Loc} {b : Bool} (hL : ρ k = some L) (h0 : L.grow = 0 → cap' = cap) (ht : cap' = cap ∨ off + cap * L.grow = L.size)
    (hr : L.grow ≠ 0 → L.base + off + cap' * L.grow ≤ L.room) (he : exact s (.slice (some ⟨k, off, none⟩) len cap) size = some b) :
    (b = true → cap' = cap) ∧ (b = false → L.grow = size ∧ off + cap * size = L.size) ∧ (L.grow ≠ 0 → L.grow = size) := by
  unfold exact at he
  simp only at he
  cases hg : s.heap.get k with
  | none => rw [hg] at he; cases he
  | some o =>
    rw [hg] at he
    obtain ⟨L', h1, h2⟩ := h.obj _ _ hg
    rw [hL] at h1; injection h1 with h1; subst h1
    cases o with
    | cells n g c =>
      obtain ⟨hsz, hgr, _⟩ := h2
      simp only at he
      cases g with
      | zero => simp only at he; injection he with he; subst he; exact ⟨fun _ => h0 hgr, by simp, fun h => absurd hgr h⟩
      | succ g =>
        simp only at he
        cases hb : Nat.beq (g + 1) size with
        | false => rw [hb] at he; simp at he
        | true =>
          have hgs : g + 1 = size := Nat.eq_of_beq_eq_true hb
          rw [hb] at he; simp only [cond_true] at he; injection he with he; subst he
          refine ⟨fun hx => ?_, fun hx => ?_, fun _ => by omega⟩
          · rcases ht with ht | ht
            · exact ht
            · exfalso
              rw [hgr, hgs, hsz] at ht
              rw [ht] at hx
              simp [Nat.beq_refl] at hx
          · simp only [Bool.not_eq_false'] at hx
            have := Nat.eq_of_beq_eq_true hx
            exact ⟨by omega, by omega⟩
    | _ => cases he

theorem slice_mk {k L} (hL : ρ k = some L) {off len cap cap' o : Nat} (ho : o = L.base + off) (hle : cap ≤ cap') (h0 : L.grow = 0 → cap' = cap) (ht : cap' = cap ∨ off + cap * L.grow = L.size)
    (hr : L.grow ≠ 0 → L.base + off + cap' * L.grow ≤ L.room) : VR ρ (.slice (some ⟨k, off, none⟩) len cap) (.slice (some ⟨L.block, o, none⟩) len cap') := by
  subst ho; exact .slice off len cap cap' hL hle h0 ht hr

theorem array_slice {k off l h m n size : Nat} {L : Loc} {low low' high high' mx mx' : Option Value} {v : Value} (hs : Rel ρ s w) (hL : ρ k = some L) (hl : OVR ρ low low') (hh : OVR ρ high high') (hm : OVR ρ mx mx')
    (hb : boundsD n n low high mx = some (l, h, m)) (hv : cond (tight s k) (some (Value.slice (some ⟨k, cond (Nat.beq m l) off (off + l * size), none⟩) (h - l) (m - l))) none = some v) :
    (Instr.sliceBounds false n n low' high' mx').run P w = .ok (l, h, m) w ∧
      VR ρ v (.slice (some (if m = l then ⟨L.block, L.base + off, none⟩ else (⟨L.block, L.base + off, none⟩ : Addr).add (l * size))) (h - l) (m - l)) := by
  obtain ⟨hrun, h1, h2, h3, h4, _⟩ := bounds_sound (P := P) (w := w) (isS := false) hl hh hm hb (Nat.le_refl n)
  have hmm : (if mx.isSome then m else n) = m := by
    cases hx : mx.isSome with
    | true => simp
    | false => simp [h4 hx]
  rw [hmm] at hrun
  refine ⟨hrun, ?_⟩
  cases ht : tight s k with
  | false => rw [ht] at hv; cases hv
  | true =>
    rw [ht] at hv; simp only [cond_true] at hv; injection hv with hv; subst hv
    have hg : L.grow = 0 := by
      unfold tight at ht
      split at ht
      · rename_i n c hk
        obtain ⟨L', a, b⟩ := hs.obj _ _ hk
        rw [hL] at a; injection a with a; subst a
        exact b.2.1
      · cases ht
    by_cases e : m = l
    · subst e
      simp only [if_pos, Nat.beq_refl, cond_true]
      exact slice_mk hL rfl (Nat.le_refl _) (fun _ => rfl) (.inl rfl) (fun h => absurd hg h)
    · have : Nat.beq m l = false := by
        cases hbb : Nat.beq m l with
        | false => rfl
        | true => exact absurd (Nat.eq_of_beq_eq_true hbb) e
      simp only [this, cond_false, if_neg e, add_none]
      exact slice_mk hL (by omega) (Nat.le_refl _) (fun _ => rfl) (.inl rfl) (fun h => absurd hg h)

theorem slice_sound (hs : Rel ρ s w) {t : TypeId} {x x' v : Value} {low low' high high' mx mx' : Option Value} (hx : VR ρ x x') (hl : OVR ρ low low') (hh : OVR ρ high high') (hm : OVR ρ mx mx')
    (hf : sliceD P t x low high mx s = some v) : ∃ v', (Instr.sliceAt t x' low' high' mx').run P w = .ok v' w ∧ VR ρ v v' := by
  unfold sliceD at hf
  split at hf
  · rename_i n elem k off hu
    cases hx with
    | ptr _ hL =>
      rename_i L
      cases hb : boundsD n n low high mx with
      | none => rw [hb] at hf; simp at hf
      | some y =>
        obtain ⟨l, h, m⟩ := y
        cases hz : szOf P elem with
        | none => rw [hb, hz] at hf; simp at hf
        | some size =>
          rw [hb, hz] at hf; simp only at hf
          obtain ⟨h1, h2⟩ := array_slice (P := P) hs hL hl hh hm hb hf
          exact ⟨_, by simp only [Instr.sliceAt, Sem.run_bind, run_und hu, Result.andThen_ok, Instr.sureAddr, Sem.run_pure, h1, run_szOf hz], h2⟩
  · rename_i b hu
    cases hx
    rcases hm with ⟨rfl, rfl⟩ | ⟨_, _, rfl, rfl, _⟩
    · cases hb : boundsD b.size b.size low high none with
      | none => rw [hb] at hf; simp at hf
      | some y =>
        obtain ⟨l, h, m⟩ := y
        rw [hb] at hf; simp only at hf; injection hf with hf; subst hf
        obtain ⟨h1, _⟩ := bounds_sound (P := P) (w := w) (isS := false) hl hh (.inl ⟨rfl, rfl⟩) hb (Nat.le_refl _)
        refine ⟨.string (b.extract l h), ?_, .string _⟩
        simp [Instr.sliceAt, Instr.slice, run_und hu, h1]
    · simp at hf
  · rename_i elem a len cap hu
    cases hb : boundsD len cap low high mx with
    | none => rw [hb] at hf; simp at hf
    | some y =>
      obtain ⟨l, h, m⟩ := y
      cases hz : szOf P elem with
      | none => rw [hb, hz] at hf; simp at hf
      | some size =>
        rw [hb, hz] at hf; simp only at hf
        cases hx with
        | nilSlice =>
          simp only at hf; injection hf with hf; subst hf
          obtain ⟨h1, h2, h3, h4, h5, h6⟩ := bounds_sound (P := P) (w := w) (isS := true) hl hh hm hb (Nat.le_refl _)
          refine ⟨.slice none (h - l) (m - l), ?_, .nilSlice _ _⟩
          have hmm : (if mx.isSome then m else cap) = m := by
            cases hx : mx.isSome with
            | true => simp
            | false => simp [h5 hx]
          rw [hmm] at h1
          simp [Instr.sliceAt, Instr.slice, run_und hu, h1, run_szOf hz]
        | slice off _ _ cap' hL hle h0 ht hr =>
          rename_i k L
          simp only at hf
          cases he : exact s (.slice (some ⟨k, off, none⟩) len cap) size with
          | none => rw [he] at hf; simp at hf
          | some ex =>
            rw [he] at hf; simp only at hf; injection hf with hf; subst hf
            obtain ⟨h1, h2, h3, h4, h5, h6⟩ := bounds_sound (P := P) (w := w) (isS := true) hl hh hm hb hle
            obtain ⟨e1, e2, e3⟩ := exact_rel hs hL h0 ht hr he
            refine ⟨.slice (if (if mx.isSome then m else cap') = l then some ⟨L.block, L.base + off, none⟩ else some ⟨L.block, L.base + off + l * size, none⟩) (h - l) ((if mx.isSome then m else cap') - l), ?_, ?_⟩
            · simp only [Instr.sliceAt, Instr.slice, Sem.run_bind, run_und hu, Result.andThen_ok, h1, run_szOf hz, Sem.run_pure, Option.map_some, add_none]
            · have hroom : ∀ c, l ≤ c → c ≤ cap' → L.grow ≠ 0 → L.base + (off + l * size) + (c - l) * L.grow ≤ L.room := by
                intro c hc1 hc2 hg
                have e := e3 hg
                have := hr hg
                rw [e] at this ⊢
                have : l * size + (c - l) * size = c * size := by rw [← Nat.add_mul]; congr 1; omega
                have : c * size ≤ cap' * size := Nat.mul_le_mul_right _ hc2
                omega
              have hroom0 : L.grow ≠ 0 → L.base + off ≤ L.room := by intro hg; have := hr hg; omega
              cases hx : mx.isSome with
              | true =>
                simp only [Bool.or_true, Bool.and_true, if_true]
                by_cases e : m = l
                · subst e
                  simp only [Nat.beq_refl, cond_true, if_true]
                  exact slice_mk hL rfl (Nat.le_refl _) (fun _ => rfl) (.inl rfl) (fun hg => by have := hroom0 hg; simp; omega)
                · have hne : Nat.beq m l = false := by
                    cases hbb : Nat.beq m l with
                    | false => rfl
                    | true => exact absurd (Nat.eq_of_beq_eq_true hbb) e
                  simp only [hne, cond_false, if_neg e]
                  exact slice_mk hL (by omega) (Nat.le_refl _) (fun _ => rfl) (.inl rfl) (hroom m (by omega) (by omega))
              | false =>
                have hmc := h5 hx
                subst hmc
                simp only [Bool.or_false, Bool.false_eq_true, if_false]
                cases ex with
                | true =>
                  have := e1 rfl; subst this
                  simp only [Bool.and_true]
                  by_cases e : cap' = l
                  · subst e
                    simp only [Nat.beq_refl, cond_true, if_true]
                    exact slice_mk hL rfl (Nat.le_refl _) (fun _ => rfl) (.inl rfl) (fun hg => by have := hroom0 hg; simp; omega)
                  · have hne : Nat.beq cap' l = false := by
                      cases hbb : Nat.beq cap' l with
                      | false => rfl
                      | true => exact absurd (Nat.eq_of_beq_eq_true hbb) e
                    simp only [hne, cond_false, if_neg e]
                    exact slice_mk hL (by omega) (Nat.le_refl _) (fun _ => rfl) (.inl rfl) (hroom cap' (by omega) (by omega))
                | false =>
                  obtain ⟨g1, g2⟩ := e2 rfl
                  simp only [Bool.and_false, cond_false]
                  by_cases e : cap' = l
                  · subst e
                    have hm1 : m = cap' := by omega
                    subst hm1
                    have hh1 : h = m := by omega
                    subst hh1
                    simp only [if_true, Nat.sub_self]
                    exact .sliceEnd _ _ hL
                  · rw [if_neg e]
                    refine slice_mk hL (by omega) (by omega) (fun hg => by have := h0 hg; omega) (.inr ?_) (hroom cap' (by omega) (by omega))
                    have : l * size + (m - l) * size = m * size := by rw [← Nat.add_mul]; congr 1; omega
                    rw [g1]; omega
        | sliceEnd off off' hL =>
          rename_i k L
          simp only at hf
          cases he : exact s (.slice (some ⟨k, off, none⟩) 0 0) size with
          | none => rw [he] at hf; simp at hf
          | some ex =>
            rw [he] at hf; simp only at hf; injection hf with hf; subst hf
            obtain ⟨h1, h2, h3, h4, h5, h6⟩ := bounds_sound (P := P) (w := w) (isS := true) hl hh hm hb (Nat.le_refl _)
            have hm0 : m = 0 := by omega
            have hh0 : h = 0 := by omega
            have hl0 : l = 0 := by omega
            subst hm0; subst hh0; subst hl0
            have hmm : (if mx.isSome then 0 else 0) = 0 := by split <;> rfl
            rw [hmm] at h1
            refine ⟨.slice (some ⟨L.block, off', none⟩) 0 0, ?_, ?_⟩
            · simp [Instr.sliceAt, Instr.slice, run_und hu, h1, run_szOf hz]
            · simp only [Nat.sub_self]; exact .sliceEnd _ _ hL
  · rename_i arr k off hu
    cases hx with
    | ptr _ hL =>
      rename_i L
      split at hf
      · rename_i n elem hu2
        cases hb : boundsD n n low high mx with
        | none => rw [hb] at hf; simp at hf
        | some y =>
          obtain ⟨l, h, m⟩ := y
          cases hz : szOf P elem with
          | none => rw [hb, hz] at hf; simp at hf
          | some size =>
            rw [hb, hz] at hf; simp only at hf
            obtain ⟨h1, h2⟩ := array_slice (P := P) hs hL hl hh hm hb hf
            exact ⟨_, by simp only [Instr.sliceAt, Instr.slice, Sem.run_bind, run_und hu, run_und hu2, Result.andThen_ok, asAddr, Sem.run_pure, h1, run_szOf hz], h2⟩
      · cases hf
  · cases hf
end Go.Hg
