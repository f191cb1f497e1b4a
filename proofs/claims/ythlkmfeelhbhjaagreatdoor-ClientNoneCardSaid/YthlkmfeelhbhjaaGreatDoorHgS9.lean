/- The operations that write into rows of cells: stores, copies, appends. -/
import Derived.Test.YthlkmfeelhbhjaaGreatDoorHgS8
set_option linter.unusedVariables false
set_option linter.unusedSimpArgs false
namespace Go.Hg
variable {P : Program} {ρ : Env} {s : St} {w : World}

/-- Worlds that part in one block alone. -/
structure But (b : Nat) (w w' : World) : Prop where
  size : w'.heap.size = w.heap.size
  other : ∀ j, j ≠ b → w'.heap[j]? = w.heap[j]?
  os : w'.os = w.os
  output : w'.output = w.output
  tape : w'.tape = w.tape

theorem But.refl (b : Nat) (w : World) : But b w w := ⟨rfl, fun _ _ => rfl, rfl, rfl, rfl⟩
theorem But.trans {b : Nat} {w₁ w₂ w₃ : World} (h : But b w₁ w₂) (h' : But b w₂ w₃) : But b w₁ w₃ :=
  ⟨h'.size.trans h.size, fun j hj => (h'.other j hj).trans (h.other j hj), h'.os.trans h.os, h'.output.trans h.output, h'.tape.trans h.tape⟩

theorem raw_store {b o : Nat} {el : TypeId} {fz : Nat × Nat} : ∀ (vs : List Value) (i : Nat) (w : World) (arr : Array Value), w.heap[b]? = some (.cells arr el fz) → (∀ v ∈ vs, oneCell v = true) →
    o + i + vs.length ≤ arr.size → freeFrom fz (o + i) arr.size →
    ∃ w' arr', (storeCells ⟨b, o, none⟩ vs i).run P w = .ok () w' ∧ w'.heap[b]? = some (.cells arr' el fz) ∧ arr'.size = arr.size ∧
      (∀ j, arr'[j]? = if o + i ≤ j ∧ j < o + i + vs.length then vs[j - (o + i)]? else arr[j]?) ∧ But b w w'
  | [], i, w, arr, hb, _, _, _ => ⟨w, arr, rfl, hb, rfl, fun j => by rw [if_neg (by simp)], .refl b w⟩
  | v :: vs, i, w, arr, hb, hv, hle, hf => by
    simp only [List.length_cons] at hle
    have hone : v.oneCell' = true := by
      have h := hv v (by simp)
      cases v <;> first | rfl | exact h
    have hlt : o + i < arr.size := by omega
    have hc : w.cell? ⟨b, o + i, none⟩ = some arr[o + i] := by rw [cell_of_cells hb]; exact Array.getElem?_eq_getElem hlt
    have hfr : w.frozen? ⟨b, o + i, none⟩ = false := by rw [frozen_of_cells hb]; exact hf _ (Nat.le_refl _) hlt
    have hb' := heap_setCell (v := v) (o := o + i) hb
    obtain ⟨w', arr', h1, h2, h3, h4, h5⟩ := raw_store (o := o) vs (i + 1) (w.setCell ⟨b, o + i, none⟩ v) (arr.setIfInBounds (o + i) v) hb' (fun x hx => hv x (by simp [hx])) (by simp; omega)
      (by intro j hj hj'; exact hf j (by omega) (by simpa using hj'))
    refine ⟨w', arr', ?_, h2, by simpa using h3, fun j => ?_, But.trans ⟨size_setCell _ _ _, fun j hj => heap_setCell_ne hj, rfl, rfl, rfl⟩ h5⟩
    · simp only [storeCells, Sem.run_bind, add_none, run_store P w _ v _ hone, hc, hfr, Bool.false_eq_true, if_false, Result.andThen_ok]
      exact h1
    · rw [h4 j]
      by_cases e : j = o + i
      · subst e
        rw [if_neg (by omega), if_pos (by simp)]
        simp [hlt]
      · rw [Array.getElem?_setIfInBounds_ne (by omega)]
        by_cases h6 : o + (i + 1) ≤ j ∧ j < o + (i + 1) + vs.length
        · rw [if_pos h6, if_pos (by simp; omega)]
          obtain ⟨q, hq⟩ : ∃ q, j - (o + i) = q + 1 := ⟨j - (o + i) - 1, by omega⟩
          rw [hq, List.getElem?_cons_succ]; congr 1; omega
        · rw [if_neg h6, if_neg (by simp; omega)]

theorem storeN_get : ∀ (vs : List Value) (c c' : Tr Value) (off : Nat), storeN c off vs = some c' →
    (∀ j, c'.get j = if off ≤ j ∧ j < off + vs.length then vs[j - off]? else c.get j) ∧ (∀ j, off ≤ j → j < off + vs.length → ∃ v, c.get j = some v) ∧ (∀ v ∈ vs, oneCell v = true)
  | [], c, c', off, h => by
    simp only [storeN] at h; injection h with h; subst h
    exact ⟨fun j => by rw [if_neg (by simp)], fun j a b => by simp at b; omega, fun v hv => by simp at hv⟩
  | v :: vs, c, c', off, h => by
    simp only [storeN] at h
    split at h
    · rename_i x hx hone
      obtain ⟨h1, h2, h3⟩ := storeN_get vs _ _ _ h
      refine ⟨fun j => ?_, fun j a b => ?_, fun u hu => ?_⟩
      · rw [h1 j]
        simp only [Nat.succ_eq_add_one, List.length_cons]
        by_cases e : j = off
        · subst e; rw [if_neg (by omega), if_pos (by omega)]; simp
        · by_cases h6 : off + 1 ≤ j ∧ j < off + 1 + vs.length
          · rw [if_pos h6, if_pos (by omega)]
            obtain ⟨q, hq⟩ : ∃ q, j - off = q + 1 := ⟨j - off - 1, by omega⟩
            rw [hq, List.getElem?_cons_succ]; congr 1; omega
          · rw [if_neg h6, if_neg (by omega), Tr.get_set, if_neg e]
      · by_cases e : j = off
        · subst e; exact ⟨x, hx⟩
        · simp only [List.length_cons] at b
          obtain ⟨u, hu⟩ := h2 j (by simp only [Nat.succ_eq_add_one]; omega) (by simp only [Nat.succ_eq_add_one]; omega)
          rw [Tr.get_set, if_neg e] at hu
          exact ⟨u, hu⟩
      · simp only [List.mem_cons] at hu
        rcases hu with rfl | hu
        · exact hone
        · exact h3 u hu
    · cases h

theorem one_rel {vs vs' : List Value} (h : VRL ρ vs vs') (ho : ∀ v ∈ vs, oneCell v = true) : ∀ v ∈ vs', oneCell v = true := by
  intro v' hv'
  obtain ⟨i, hi⟩ := List.mem_iff_getElem?.1 hv'
  have hlt : i < vs.length := by rw [h.1]; exact (List.getElem?_eq_some_iff.1 hi).1
  have hvi : vs[i]? = some vs[i] := List.getElem?_eq_getElem hlt
  rw [oneCell_rel (h.2 i _ _ hvi hi)]
  exact ho _ (List.mem_of_getElem? hvi)

theorem fr_but {n : Nat} {k : Nat} {L : Loc} {w' : World} {o : Obj} (hg : s.heap.get k = some o) (hL : ρ k = some L) (h : But L.block w w') : Fr n s s ρ ρ w w' where
  le := Env.le_refl _
  fresh _ _ h := h
  size := by rw [h.size]; exact Nat.le_refl _
  keepL b _ hno := h.other b (fun e => hno k o L hg hL e.symm)
  new k L hk h0 := by rw [hk] at h0; cases h0
  live k o L hg hL := .inr ⟨k, o, L, hg, hL, rfl⟩
  os := h.os
  output := h.output
  tape := h.tape

theorem store_core (hs : Rel ρ s w) {k off : Nat} {L : Loc} (hL : ρ k = some L) {vs vs' : List Value} (hv : VRL ρ vs vs') {s' : St} (h : storeAtD s k off vs = some s') :
    ∃ w', (storeCells ⟨L.block, L.base + off, none⟩ vs' 0).run P w = .ok () w' ∧ Fr s.next s s' ρ ρ w w' ∧ Rel ρ s' w' ∧ s'.next = s.next := by
  unfold storeAtD at h
  cases hc : s.cells k with
  | none => rw [hc] at h; cases h
  | some y =>
    obtain ⟨n, g, c⟩ := y
    rw [hc] at h; simp only at h
    cases hn : storeN c off vs with
    | none => rw [hn] at h; cases h
    | some c' =>
      rw [hn] at h; injection h with h; subst h
      obtain ⟨hk, hsz, hg, arr, el, fz, hb, hroom, hle, hfree, hcr⟩ := cells_of hs hc hL
      obtain ⟨g1, g2, g3⟩ := storeN_get _ _ _ _ hn
      have hin : off + vs.length ≤ n ∨ vs.length = 0 := by
        rcases Nat.eq_zero_or_pos vs.length with h0 | h0
        · exact .inr h0
        · left
          obtain ⟨v, hv⟩ := g2 (off + vs.length - 1) (by omega) (by omega)
          have := (hcr _ _ hv).1
          omega
      have hlen := hv.1
      by_cases h0 : vs.length = 0
      · have e1 : vs = [] := List.eq_nil_of_length_eq_zero h0
        have e2 : vs' = [] := List.eq_nil_of_length_eq_zero (by omega)
        subst e1; subst e2
        refine ⟨w, rfl, (Fr.refl _ _ _ _).live_set hk _, ?_, rfl⟩
        have hcr' : CellsR ρ c' L.base n arr := by
          intro i v hi
          rw [g1 i, if_neg (by simp)] at hi
          exact hcr i v hi
        exact hs.change hk hL rfl (fun _ _ => rfl) ⟨hsz, hg, arr, el, fz, hb, hroom, hle, hfree, hcr'⟩ (IterR.plain hs hk hL rfl rfl (fun _ _ => rfl))
      · have hin' : off + vs.length ≤ n := hin.resolve_right h0
        obtain ⟨w', arr', r1, r2, r3, r4, r5⟩ := raw_store (P := P) (o := L.base + off) vs' 0 w arr hb (one_rel hv g3) (by omega)
          (by intro j hj hj'; exact hfree j (by omega) (by omega))
        refine ⟨w', r1, (fr_but hk hL r5).live_set hk _, ?_, rfl⟩
        refine hs.change hk hL r5.size r5.other ⟨hsz, hg, arr', el, fz, r2, by omega, hle, hfree, fun i v hi => ?_⟩ (IterR.plain hs hk hL rfl rfl r5.other)
        rw [g1 i] at hi
        by_cases h6 : off ≤ i ∧ i < off + vs.length
        · rw [if_pos h6] at hi
          obtain ⟨v', a, b⟩ := hv.get hi
          refine ⟨by omega, v', ?_, b⟩
          rw [r4, if_pos (by omega), ← a]
          congr 1; omega
        · rw [if_neg h6] at hi
          obtain ⟨a, v', b, c⟩ := hcr i v hi
          refine ⟨a, v', ?_, c⟩
          rw [r4, if_neg (by omega)]
          exact b

/-- What an operation does that is no call. -/
structure DoesR (P : Program) (ρ : Env) (s s' : St) (w : World) (m : Sem Next) (v : Value) : Prop where
  out : ∃ ρ' w' v', (m.run P w = .ok (.value v') w' ∨ (m.run P w = .ok .skip w' ∧ v' = undef)) ∧ Fr s.next s s' ρ ρ' w w' ∧ Rel ρ' s' w' ∧ VR ρ' v v' ∧ s.next ≤ s'.next

theorem undef_rel : VR ρ undefD undef := .tuple' .nil

theorem store_sound (hs : Rel ρ s w) {t : TypeId} {p p' v v' : Value} {s' : St} (hp : VR ρ p p') (hv : VR ρ v v') (h : storeD P t p v s = some s') :
    ∃ w', (Instr.storeAt t p' v').run P w = .ok () w' ∧ Fr s.next s s' ρ ρ w w' ∧ Rel ρ s' w' ∧ s'.next = s.next := by
  unfold storeD at h
  split at h
  · rename_i k off n hz
    cases hb : Nat.beq (cellsOf v).length n with
    | false => rw [hb] at h; cases h
    | true =>
      rw [hb] at h; simp only [cond_true] at h
      have hb' := Nat.eq_of_beq_eq_true hb
      cases hp with
      | ptr _ hL =>
        rename_i L
        have hcr := cells_rel hv
        obtain ⟨w', h1, h2, h3, h4⟩ := store_core (P := P) hs hL hcr h
        refine ⟨w', ?_, h2, h3, h4⟩
        have hsz : v'.cells.size = n := by rw [← hb', hcr.1]; simp
        simp only [Instr.storeAt, Instr.sureAddr, Sem.run_bind, Sem.run_pure, Result.andThen_ok, storeVar, run_szOf hz, hsz, ne_eq, not_true_eq_false, if_false]
        exact h1
  · cases h

theorem first_sound (hs : Rel ρ s w) {size n : Nat} {x x' : Value} {l : List Value} (hx : VR ρ x x') (h : firstD size n x s = some l) (hn : ∀ len cap a, x = .slice (some a) len cap → n ≤ len) :
    ∀ w', w'.heap = w.heap → ∃ l', (Builtin.firstCells size n x').run P w' = .ok ⟨l'⟩ w' ∧ VRL ρ l l' := by
  intro w' hw
  have hs' := hs.same hw
  unfold firstD at h
  split at h
  · rename_i k off len cap
    cases hc : s.cells k with
    | none => rw [hc] at h; cases h
    | some y =>
      obtain ⟨m, g, c⟩ := y
      rw [hc] at h; simp only at h
      cases hx with
      | slice _ _ _ cap' hL =>
        rename_i L _ _ _ _
        obtain ⟨_, _, _, arr, el, fz, hb, _, _, _, hcr⟩ := cells_of hs' hc hL
        obtain ⟨hlen, l', hv, hl'⟩ := loadN_sound hcr _ _ _ h
        refine ⟨l', ?_, hv⟩
        simp only [Builtin.firstCells]
        rw [show n * size = l'.length by rw [← hv.1, hlen]]
        exact run_cells hb hl'
      | sliceEnd _ off' hL =>
        have hn0 : n = 0 := by have := hn _ _ _ rfl; omega
        subst hn0
        simp only [Nat.zero_mul, loadN] at h; injection h with h; subst h
        exact ⟨[], by simp [Builtin.firstCells, loadCells, loadCellsFrom], .nil⟩
  · cases hx; injection h with h; subst h; exact ⟨[], rfl, .nil⟩
  · rename_i b
    cases hx; injection h with h; subst h
    refine ⟨(b.data.toList.take n).map fun x => .int .u8 x.toNat, ?_, ?_⟩
    · simp only [Builtin.firstCells, Sem.run_pure]
      congr 1
      apply Array.toList_inj.1
      simp [ByteArray.data_extract, Array.toList_extract, List.extract_eq_take_drop]
    · refine ⟨rfl, fun i v v' hv hv' => ?_⟩
      rw [hv] at hv'; injection hv' with hv'; subst hv'
      rw [List.getElem?_map] at hv
      cases hb : (b.data.toList.take n)[i]? with
      | none => rw [hb] at hv; cases hv
      | some y => rw [hb] at hv; injection hv with hv; subst hv; exact .int _ _
  · cases h

theorem len_rel {x x' : Value} {n : Nat} (hx : VR ρ x x') (h : lenD x = some n) : (Builtin.lenOf x').run P w = .ok n w := by
  unfold lenD at h
  split at h
  · injection h with h; subst h; cases hx <;> rfl
  · injection h with h; subst h; cases hx; rfl
  · cases h

theorem len_le {x : Value} {n : Nat} (h : lenD x = some n) : ∀ len cap a, x = .slice (some a) len cap → n ≤ len := by
  rintro len cap a rfl
  simp only [lenD] at h; injection h with h; omega

theorem copy_sound (hs : Rel ρ s w) {t : TypeId} {ts : Array TypeId} {ty : TypeId} {as : Array Value} {d d' x x' v : Value} {s' : St} (hd : VR ρ d d') (hx : VR ρ x x') (ht : ts[0]? = some t) (ha : as[0]? = some d')
    (hb : as[1]? = some x') (h : copyD P t d x s = some (v, s')) : ∃ w', (Builtin.copy_ ts ty as).run P w = .ok v w' ∧ Fr s.next s s' ρ ρ w w' ∧ Rel ρ s' w' ∧ VR ρ v v ∧ s'.next = s.next := by
  unfold copyD at h
  unfold Builtin.copy_
  simp only [ht, ha, hb]
  split at h
  · rename_i elem hu
    split at h
    · rename_i size base dLen dCap sl hz hl
      have hn : ∀ len cap a, x = .slice (some a) len cap → Nat.min sl dLen ≤ len := fun len cap a e => Nat.le_trans (Nat.min_le_left _ _) (len_le hl len cap a e)
      simp only at h
      split at h
      · rename_i l k off hf
        cases hst : storeAtD s k off l with
        | none => rw [hst] at h; cases h
        | some s1 =>
          rw [hst] at h
          simp only [Option.some.injEq, Prod.mk.injEq] at h
          obtain ⟨rfl, rfl⟩ := h
          obtain ⟨l', h1, h2⟩ := first_sound (P := P) hs hx hf hn w rfl
          cases hd with
          | slice _ _ _ cap' hL =>
            rename_i L _ _ _ _
            obtain ⟨w', h3, h4, h5, h6⟩ := store_core (P := P) hs hL h2 hst
            refine ⟨w', ?_, h4, h5, .int _ _, h6⟩
            simp only [Sem.run_bind, run_und hu, Result.andThen_ok, len_rel hx hl, run_szOf hz, h1, h3, Sem.run_pure]
            rfl
          | sliceEnd _ off' hL =>
            rename_i L
            have h0 : Nat.min sl 0 = 0 := Nat.min_eq_right (Nat.zero_le _)
            rw [h0] at h1 hf
            have hl0 : l = [] := by
              unfold firstD at hf
              split at hf
              · split at hf
                · simp only [Nat.zero_mul, loadN] at hf; injection hf with hf; exact hf.symm
                · cases hf
              · injection hf with hf; exact hf.symm
              · injection hf with hf; simpa using hf.symm
              · cases hf
            subst hl0
            have := h2.cases_nil; subst this
            obtain ⟨w', h3, h4, h5, h6⟩ := store_core (P := P) hs hL .nil hst
            have hw : w' = w := by simp only [storeCells, Sem.run_pure] at h3; injection h3 with _ h3; exact h3.symm
            subst hw
            refine ⟨w', ?_, h4, h5, .int _ _, h6⟩
            simp only [Sem.run_bind, run_und hu, Result.andThen_ok, len_rel hx hl, run_szOf hz, h0, h1, Sem.run_pure, storeCells]
            rfl
      · rename_i l hf
        simp only [Option.some.injEq, Prod.mk.injEq] at h
        obtain ⟨rfl, rfl⟩ := h
        obtain ⟨l', h1, h2⟩ := first_sound (P := P) hs hx hf hn w rfl
        cases hd
        refine ⟨w, ?_, .refl _ _ _ _, hs, .int _ _, rfl⟩
        simp only [Sem.run_bind, run_und hu, Result.andThen_ok, len_rel hx hl, run_szOf hz, h1, Sem.run_pure]
        rfl
      · cases h
    · cases h
  · cases h
end Go.Hg
