/- The operations that reckon and read: what the interpreter has of them is what the model has. -/
import Derived.Test.YthlkmfeelhbhjaaGreatDoorHgS1
set_option linter.unusedVariables false
set_option linter.unusedSimpArgs false
namespace Go.Hg
variable {P : Program} {ρ : Env} {s : St} {w : World}

/-! ### Types -/
theorem run_und {t : TypeId} {d : TypeDesc} (h : und P t = some d) : (underlying t).run P w = .ok d w := by
  unfold und at h; simp [underlying, h]
theorem run_typeInfo {t : TypeId} {i : TypeInfo} (h : P.info? t = some i) : (typeInfo t).run P w = .ok i w := by
  simp [typeInfo, h]
theorem run_szOf {t : TypeId} {n : Nat} (h : szOf P t = some n) : (sizeOf t).run P w = .ok n w := by
  unfold szOf at h
  cases hi : P.info? t with
  | none => rw [hi] at h; cases h
  | some i => rw [hi] at h; injection h with h; simp [sizeOf, run_typeInfo hi, h]
theorem info_bytes {t : TypeId} {n : Nat} (h : bytesOf' P t = some n) : ∃ i, P.info? t = some i ∧ i.bytes = n := by
  unfold bytesOf' at h
  cases hi : P.info? t with
  | none => rw [hi] at h; cases h
  | some i => rw [hi] at h; injection h with h; exact ⟨i, rfl, h⟩
theorem info_zero {t : TypeId} {z : Value} (h : zeroOf P t = some z) : ∃ i, P.info? t = some i ∧ i.zero = some z ∧ plainV z = true := by
  unfold zeroOf at h
  cases hi : P.info? t with
  | none => rw [hi] at h; cases h
  | some i =>
    rw [hi] at h
    simp only at h
    cases hz : i.zero with
    | none => rw [hz] at h; cases h
    | some z' =>
      rw [hz] at h
      simp only at h
      cases hp : plainV z' with
      | false => rw [hp] at h; cases h
      | true => rw [hp] at h; injection h with h; subst h; exact ⟨i, rfl, hz, hp⟩
theorem run_zeroOf {t : TypeId} {z : Value} (h : zeroOf P t = some z) : (zeroValue t).run P w = .ok z w := by
  obtain ⟨i, hi, hz, _⟩ := info_zero h
  simp [zeroValue, run_typeInfo hi, hz]
theorem zero_refl {t : TypeId} {z : Value} (h : zeroOf P t = some z) : VR ρ z z := by
  obtain ⟨_, _, _, hp⟩ := info_zero h
  exact plain_refl ρ hp
theorem run_aggT {t : TypeId} {b : Bool} (h : aggT P t = some b) : (isAgg t).run P w = .ok b w := by
  unfold aggT at h
  cases hu : P.underlying t with
  | none => rw [hu] at h; cases h
  | some d =>
    have hu' : und P t = some d := hu
    rw [hu] at h
    simp only [isAgg, Sem.run_bind, run_und hu', Result.andThen_ok]
    cases d <;> (simp only at h; injection h with h; subst h; rfl)

/-! ### Cells -/
theorem loadN_sound {c : Tr Value} {base n : Nat} {arr : Array Value} (hc : CellsR ρ c base n arr) :
    ∀ (m off : Nat) (l : List Value), loadN c off m = some l → l.length = m ∧ ∃ l', VRL ρ l l' ∧ ∀ j v, l'[j]? = some v → arr[base + off + j]? = some v := by
  intro m
  induction m with
  | zero => intro off l h; simp only [loadN] at h; injection h with h; subst h; exact ⟨rfl, [], .nil, fun j v hj => by simp at hj⟩
  | succ m ih =>
    intro off l h
    simp only [loadN] at h
    cases hg : c.get off with
    | none => rw [hg] at h; cases h
    | some v =>
      rw [hg] at h; simp only at h
      cases hr : loadN c (Nat.succ off) m with
      | none => rw [hr] at h; cases h
      | some vs =>
        rw [hr] at h; injection h with h; subst h
        obtain ⟨hlen, l', hv, hl⟩ := ih _ _ hr
        obtain ⟨_, v', ha, hvr⟩ := hc _ _ hg
        refine ⟨by simp [hlen], v' :: l', .cons hvr hv, fun j x hj => ?_⟩
        cases j with
        | zero => simp at hj; subst hj; simpa using ha
        | succ j => simp at hj; have := hl j x hj; rw [← this]; congr 1; simp; omega

theorem cells_of (h : Rel ρ s w) {k n g : Nat} {c : Tr Value} (hk : s.cells k = some (n, g, c)) {L : Loc} (hL : ρ k = some L) :
    s.heap.get k = some (.cells n g c) ∧ ObjR ρ L w (.cells n g c) := by
  unfold St.cells at hk
  cases hg : s.heap.get k with
  | none => rw [hg] at hk; cases hk
  | some o =>
    rw [hg] at hk
    cases o <;> simp only at hk <;> try cases hk
    obtain ⟨L', h1, h2⟩ := h.obj _ _ hg
    rw [hL] at h1; injection h1 with h1; subst h1
    exact ⟨rfl, h2⟩

theorem run_cells {b o : Nat} {arr : Array Value} {el : TypeId} {fz : Nat × Nat} (hb : w.heap[b]? = some (.cells arr el fz)) {l' : List Value}
    (hl : ∀ j v, l'[j]? = some v → arr[o + j]? = some v) : (loadCells ⟨b, o, none⟩ l'.length).run P w = .ok ⟨l'⟩ w := by
  have := run_loadCells_list (P := P) (w := w) ⟨b, o, none⟩ l' (fun j v hj => by rw [add_none, cell_of_cells hb]; exact hl j v hj)
  simpa using this

theorem load_sound (h : Rel ρ s w) {t : TypeId} {p p' v : Value} (hp : VR ρ p p') (hl : loadD P t p s = some v) :
    ∃ v', (Instr.loadAt t p').run P w = .ok v' w ∧ VR ρ v v' := by
  unfold loadD at hl
  split at hl
  · rename_i k off
    cases hp with
    | ptr _ hL =>
      rename_i L
      cases hc : s.cells k with
      | none => rw [hc] at hl; cases hl
      | some x =>
        obtain ⟨n, g, c⟩ := x
        rw [hc] at hl
        obtain ⟨_, hsz, hg, arr, el, fz, hb, hroom, hle, hfree, hcr⟩ := cells_of h hc hL
        simp only at hl
        simp only [Instr.loadAt, Instr.sureAddr, Sem.run_bind, Sem.run_pure, Result.andThen_ok, loadVar]
        cases ha : aggT P t with
        | none => rw [ha] at hl; cases hl
        | some b =>
          rw [run_aggT ha]
          cases b with
          | true =>
            rw [ha] at hl; simp only at hl
            cases hs : szOf P t with
            | none => rw [hs] at hl; cases hl
            | some m =>
              rw [hs] at hl; simp only at hl
              cases hn : loadN c off m with
              | none => rw [hn] at hl; cases hl
              | some l =>
                rw [hn] at hl; injection hl with hl; subst hl
                obtain ⟨hlen, l', hv, hl'⟩ := loadN_sound hcr _ _ _ hn
                have : m = l'.length := by rw [← hv.1, hlen]
                refine ⟨.agg ⟨l'⟩, ?_, .agg' hv⟩
                simp only [Result.andThen_ok, if_true, Sem.run_bind, run_szOf hs, this, run_cells hb hl', Sem.run_pure]
          | false =>
            rw [ha] at hl; simp only at hl
            obtain ⟨_, v', hv, hvr⟩ := hcr _ _ hl
            refine ⟨v', ?_, hvr⟩
            simp only [Result.andThen_ok, Bool.false_eq_true, if_false, run_load, cell_of_cells hb, hv]
  · cases hl

/-! ### Numbers -/
theorem pureOf_sound {α : Type} {m : Sem α} {x : α} (h : pureOf m = some x) : m.run P w = .ok x w := by
  cases m <;> simp only [pureOf] at h <;> first | (injection h with h; subst h; rfl) | cases h


/-! ### Parts -/
theorem part_sound {t : TypeId} {cs : List Value} {cs' : Array Value} {off : Nat} {v : Value} (h : VRL ρ cs cs'.toList) (hp : partD P t cs off = some v) :
    ∃ v', (part t cs' off).run P w = .ok v' w ∧ VR ρ v v' := by
  unfold partD at hp
  cases ha : aggT P t with
  | none => rw [ha] at hp; cases hp
  | some b =>
    rw [ha] at hp
    cases b with
    | true =>
      simp only at hp
      cases hs : szOf P t with
      | none => rw [hs] at hp; cases hp
      | some n =>
        rw [hs] at hp; simp only at hp
        cases hb : Nat.ble (off + n) cs.length with
        | false => rw [hb] at hp; cases hp
        | true =>
          rw [hb] at hp; simp only [cond_true] at hp; injection hp with hp; subst hp
          refine ⟨.agg (cs'.extract off (off + n)), ?_, .agg' ?_⟩
          · simp [part, run_aggT ha, run_szOf hs]
          · have := (h.drop off).take n
            simpa [Array.toList_extract, List.extract_eq_take_drop] using this
    | false =>
      simp only at hp
      obtain ⟨v', h1, h2⟩ := h.get hp
      refine ⟨v', ?_, h2⟩
      have h1' : cs'[off]? = some v' := by simpa using h1
      simp [part, run_aggT ha, h1']

theorem int_of {ρ : Env} {v v' : Value} {i : Int} (h : VR ρ v v') (hi : intOf? v = some i) : ∃ k, v = .int k i ∧ v' = .int k i := by
  cases h <;> simp only [intOf?] at hi <;> first | (injection hi with hi; subst hi; exact ⟨_, rfl, rfl⟩) | cases hi

theorem field_sound {t : TypeId} {x x' v : Value} {f : Nat} (h : VR ρ x x') (hf : fieldD P t x f = some v) :
    ∃ v', (Instr.field t x' f).run P w = .ok v' w ∧ VR ρ v v' := by
  unfold fieldD at hf
  split at hf
  · rename_i fs cs hu
    obtain ⟨cs', rfl, hl⟩ := h.of_agg
    cases hg : fs.toList[f]? with
    | none => rw [hg] at hf; cases hf
    | some fd =>
      rw [hg] at hf; simp only at hf
      have hg' : fs[f]? = some fd := by simpa using hg
      obtain ⟨v', h1, h2⟩ := part_sound (w := w) hl hf
      exact ⟨v', by simp [Instr.field, run_und hu, hg', asAgg, h1], h2⟩
  · cases hf

theorem fieldAddr_sound {t : TypeId} {x x' v : Value} {f : Nat} (h : VR ρ x x') (hf : fieldAddrD P t x f = some v) :
    ∃ v', (Instr.fieldAt t x' f).run P w = .ok v' w ∧ VR ρ v v' := by
  unfold fieldAddrD at hf
  split at hf
  · rename_i fs k off hu
    cases h with
    | ptr _ hL =>
      rename_i L
      cases hg : fs.toList[f]? with
      | none => rw [hg] at hf; cases hf
      | some fd =>
        rw [hg] at hf; simp only at hf
        have hg' : fs[f]? = some fd := by simpa using hg
        cases hs : szOf P fd.type with
        | none => rw [hs] at hf; cases hf
        | some n =>
          rw [hs] at hf
          cases n with
          | zero => cases hf
          | succ n =>
            simp only at hf; injection hf with hf; subst hf
            refine ⟨.pointer (some ⟨L.block, L.base + (off + fd.offset), none⟩), ?_, .ptr _ hL⟩
            simp [Instr.fieldAt, run_und hu, hg', Instr.sureAddr, fieldPlace, run_szOf hs, add_none, Nat.add_assoc]
  · cases hf

theorem indexAddr_sound {t : TypeId} {x x' j j' v : Value} (h : VR ρ x x') (hj : VR ρ j j') (hf : indexAddrD P t x j = some v) :
    ∃ v', (Instr.indexAt t x' j').run P w = .ok v' w ∧ VR ρ v v' := by
  unfold indexAddrD at hf
  split at hf
  · rename_i ik i
    cases hj
    split at hf
    · rename_i len elem k off hu
      cases h with
      | ptr _ hL =>
        rename_i L
        cases hs : szOf P elem with
        | none => rw [hs] at hf; cases hf
        | some n =>
          rw [hs] at hf; simp only at hf
          by_cases hc : 0 ≤ i ∧ i < len
          · simp only [decide_eq_true hc.1, decide_eq_true hc.2, Bool.and_self, cond_true] at hf
            injection hf with hf; subst hf
            refine ⟨.pointer (some ⟨L.block, L.base + (off + i.toNat * n), none⟩), ?_, .ptr _ hL⟩
            simp [Instr.indexAt, asIntOf, run_und hu, Instr.sureAddr, hc, run_szOf hs, add_none, Nat.add_assoc]
          · have : (decide (0 ≤ i) && decide (i < (len : Int))) = false := by
              rw [Bool.and_eq_false_iff]; by_cases h0 : 0 ≤ i
              · right; simp; omega
              · left; simpa using h0
            rw [this] at hf; cases hf
    · rename_i elem k off len cap hu
      cases hs : szOf P elem with
      | none => rw [hs] at hf; cases hf
      | some n =>
        rw [hs] at hf; simp only at hf
        by_cases hc : 0 ≤ i ∧ i < len
        · simp only [decide_eq_true hc.1, decide_eq_true hc.2, Bool.and_self, cond_true] at hf
          injection hf with hf; subst hf
          cases h with
          | slice _ _ _ cap' hL =>
            rename_i L _ _ _ _
            refine ⟨.pointer (some ⟨L.block, L.base + (off + i.toNat * n), none⟩), ?_, .ptr _ hL⟩
            simp [Instr.indexAt, asIntOf, run_und hu, hc, run_szOf hs, add_none, Nat.add_assoc]
          | sliceEnd _ off' hL => exfalso; simp at hc; omega
        · have : (decide (0 ≤ i) && decide (i < (len : Int))) = false := by
            rw [Bool.and_eq_false_iff]; by_cases h0 : 0 ≤ i
            · right; simp; omega
            · left; simpa using h0
          rw [this] at hf; cases hf
    · cases hf
  · cases hf

theorem index_sound {t : TypeId} {x x' j j' v : Value} (h : VR ρ x x') (hj : VR ρ j j') (hf : indexD P t x j = some v) :
    ∃ v', (Instr.index t x' j').run P w = .ok v' w ∧ VR ρ v v' := by
  unfold indexD at hf
  split at hf
  · rename_i ik i
    cases hj
    split at hf
    · rename_i len elem cs hu
      obtain ⟨cs', rfl, hl⟩ := h.of_agg
      cases hs : szOf P elem with
      | none => rw [hs] at hf; cases hf
      | some n =>
        rw [hs] at hf; simp only at hf
        by_cases hc : 0 ≤ i ∧ i < len
        · simp only [decide_eq_true hc.1, decide_eq_true hc.2, Bool.and_self, cond_true] at hf
          obtain ⟨v', h1, h2⟩ := part_sound (w := w) hl hf
          exact ⟨v', by simp [Instr.index, asIntOf, run_und hu, hc, run_szOf hs, h1], h2⟩
        · have : (decide (0 ≤ i) && decide (i < (len : Int))) = false := by
            rw [Bool.and_eq_false_iff]; by_cases h0 : 0 ≤ i
            · right; simp; omega
            · left; simpa using h0
          rw [this] at hf; cases hf
    · rename_i b hu
      cases h
      by_cases h0 : 0 ≤ i
      · simp only [decide_eq_true h0, cond_true] at hf
        cases hg : b.data.toList[i.toNat]? with
        | none => rw [hg] at hf; cases hf
        | some y =>
          rw [hg] at hf; injection hf with hf; subst hf
          have hb : b[i.toNat]? = some y := by
            obtain ⟨h1, h2⟩ := List.getElem?_eq_some_iff.1 hg
            have h3 : i.toNat < b.size := by rw [Array.length_toList] at h1; exact h1
            rw [getElem?_pos b i.toNat h3, ← h2, Array.getElem_toList]
            rfl
          refine ⟨.int .u8 y.toNat, ?_, .int _ _⟩
          simp only [Instr.index, asIntOf, Sem.run_bind, Sem.run_pure, Result.andThen_ok, run_und hu, h0, if_true, hb]
      · have : decide (0 ≤ i) = false := by simpa using h0
        rw [this] at hf; cases hf
    · cases hf
  · cases hf

end Go.Hg
