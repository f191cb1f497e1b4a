/- append, joined; maps written. -/
import Derived.Test.YthlkmfeelhbhjaaGreatDoorHgSa
set_option linter.unusedVariables false
set_option linter.unusedSimpArgs false
namespace Go.Hg
variable {P : Program} {ρ : Env} {s : St} {w : World}

/-- What a reckoning of a value does. -/
def DoesV (P : Program) (ρ : Env) (s s' : St) (w : World) (m : Sem Value) (v : Value) : Prop :=
  ∃ ρ' w' v', m.run P w = .ok v' w' ∧ Fr s.next s s' ρ ρ' w w' ∧ Rel ρ' s' w' ∧ VR ρ' v v' ∧ s.next ≤ s'.next

theorem kill_less {k : Nat} : ∀ j o, (s.kill k).heap.get j = some o → ∃ o', s.heap.get j = some o' := by
  intro j o h
  simp only [St.kill, Tr.get_put] at h
  split at h
  · cases h
  · exact ⟨o, h⟩

theorem appNew_sound (hs : Rel ρ s w) {elem size bytes : Nat} {base : Option Addr} {zeros : Bool} {sLen sCap n : Nat} {new : List Value} {sv' x' v : Value} {s' : St}
    (hz : szOf P elem = some size) (hby : bytesOf' P elem = some bytes) (hsv : VR ρ (.slice base sLen sCap) sv') (hgt : sCap < sLen + n) (hxt : ∀ len cap a, Value.slice base sLen sCap = .slice (some a) len cap → sLen ≤ len)
    (hnew : ∀ w', w'.heap = w.heap → ∃ new', (appendedS zeros elem size n x').run P w' = .ok ⟨new'⟩ w' ∧ VRL ρ new new')
    (h : appNew P elem size bytes (.slice base sLen sCap) base sLen n new s = some (v, s')) :
    ∃ base' sCap', sv' = .slice base' sLen sCap' ∧ DoesV P ρ s s' w (tailS elem size zeros base' sLen sCap' n sv' x') v := by
  unfold appNew at h
  simp only at h
  cases hf : firstD size sLen (.slice base sLen sCap) s with
  | none => rw [hf] at h; cases h
  | some old =>
    cases he : exact s (.slice base sLen sCap) size with
    | none => rw [hf, he] at h; cases h
    | some ex =>
      cases hzero : zeroOf P elem with
      | none => rw [hf, he, hzero] at h; cases h
      | some z =>
        rw [hf, he, hzero] at h; simp only at h
        cases hcc : (Nat.ble ((sLen + n) * bytes) most && Nat.blt 0 size && Nat.blt 0 bytes && Nat.beq (cellsOf z).length size && Nat.beq (old ++ new).length ((sLen + n) * size) && (old ++ new).all oneCell) with
        | false => rw [hcc] at h; cases h
        | true =>
          rw [hcc] at h
          simp only [cond_true, Option.some.injEq, Prod.mk.injEq] at h
          obtain ⟨rfl, h⟩ := h
          simp only [Bool.and_eq_true] at hcc
          obtain ⟨⟨⟨⟨⟨c1, c2⟩, c3⟩, c4⟩, c5⟩, c6⟩ := hcc
          have d1 := Nat.le_of_ble_eq_true c1
          have d2 : 0 < size := Nat.le_of_ble_eq_true c2
          have d3 : 0 < bytes := Nat.le_of_ble_eq_true c3
          have d4 := Nat.eq_of_beq_eq_true c4
          have d5 := Nat.eq_of_beq_eq_true c5
          have hold : ∀ w', w'.heap = w.heap → ∃ old', (Builtin.firstCells size sLen sv').run P w' = .ok ⟨old'⟩ w' ∧ VRL ρ old old' := first_sound (P := P) hs hsv hf hxt
          have hone : ∀ u ∈ new, oneCell u = true := fun u hu => List.all_eq_true.1 c6 u (List.mem_append_right _ hu)
          cases hsv with
          | nilSlice =>
            obtain ⟨w', v', L, r1, r2, r3, r4⟩ := grow_sound (P := P) hs (base' := none) hby hzero d4 d2 d3 hgt d1 d5 hold hnew
            subst h
            exact ⟨none, _, rfl, _, w', v', r1, r2, r3, r4, Nat.le_succ _⟩
          | slice off _ _ cap' hL hle h0 ht hr =>
            rename_i k L
            refine ⟨_, cap', rfl, ?_⟩
            obtain ⟨x1, x2, x3⟩ := exact_rel hs hL h0 ht hr he
            have hck : ∃ m c, s.heap.get k = some (.cells m L.grow c) ∧ loadN c off (sLen * size) = some old := by
              simp only [firstD] at hf
              cases hc : s.cells k with
              | none => rw [hc] at hf; cases hf
              | some y =>
                obtain ⟨m, g, c⟩ := y
                rw [hc] at hf; simp only at hf
                obtain ⟨a, b⟩ := cells_of hs hc hL
                obtain ⟨_, b2, _⟩ := b
                rw [← b2] at a
                exact ⟨m, c, a, hf⟩
            obtain ⟨m, c, hk, hld⟩ := hck
            cases ex with
            | true =>
              have := x1 rfl; subst this
              obtain ⟨w', v', L', r1, r2, r3, r4⟩ := grow_sound (P := P) hs (base' := some ⟨L.block, L.base + off, none⟩) (sCap' := cap') hby hzero d4 d2 d3 hgt d1 d5 hold hnew
              subst h
              exact ⟨_, w', v', r1, r2, r3, r4, Nat.le_succ _⟩
            | false =>
              obtain ⟨y1, y2⟩ := x2 rfl
              by_cases hin : sLen + n ≤ cap'
              · rw [y1] at hk hr
                have hol : old.length = sLen * size := by
                  obtain ⟨Lx, hx1, hx2⟩ := hs.obj _ _ hk
                  obtain ⟨_, _, arr, el, fz, _, _, _, _, hcr⟩ := hx2
                  exact (loadN_sound hcr _ _ _ hld).1
                obtain ⟨w', L', r1, r2, r3, r4⟩ := inplace_sound (P := P) (sCap := sCap) hs hk hL d2 hin (hr (by omega)) d5 hol hld hone (hnew w rfl)
                subst h
                exact ⟨_, w', _, r1, r2, r3, r4, Nat.le_succ _⟩
              · obtain ⟨w', v', L', r1, r2, r3, r4⟩ := grow_sound (P := P) (hs.kill hk) (base' := some ⟨L.block, L.base + off, none⟩) (sCap' := cap') hby hzero d4 d2 d3 (by omega) d1 d5 hold hnew
                subst h
                exact ⟨_, w', v', r1, r2.of_less kill_less, r3, r4, Nat.le_succ _⟩
          | sliceEnd _ off' hL =>
            rename_i k L off
            refine ⟨_, 0, rfl, ?_⟩
            cases ex with
            | true =>
              obtain ⟨w', v', L', r1, r2, r3, r4⟩ := grow_sound (P := P) hs (base' := some ⟨L.block, off', none⟩) hby hzero d4 d2 d3 hgt d1 d5 hold hnew
              subst h
              exact ⟨_, w', v', r1, r2, r3, r4, Nat.le_succ _⟩
            | false =>
              have hck : ∃ m g c, s.heap.get k = some (.cells m g c) := by
                simp only [firstD] at hf
                cases hc : s.cells k with
                | none => rw [hc] at hf; cases hf
                | some y =>
                  obtain ⟨m, g, c⟩ := y
                  exact ⟨m, g, c, (cells_of hs hc hL).1⟩
              obtain ⟨m, g, c, hk⟩ := hck
              obtain ⟨w', v', L', r1, r2, r3, r4⟩ := grow_sound (P := P) (hs.kill hk) (base' := some ⟨L.block, off', none⟩) hby hzero d4 d2 d3 hgt d1 d5 hold hnew
              subst h
              exact ⟨_, w', v', r1, r2.of_less kill_less, r3, r4, Nat.le_succ _⟩

theorem append_sound (hs : Rel ρ s w) {ts : Array TypeId} {ty t : TypeId} {as : Array Value} {sv sv' x x' v : Value} {s' : St} (hsv : VR ρ sv sv') (hx : VR ρ x x') (ht : ts[0]? = some t) (ha : as[0]? = some sv') (hb : as[1]? = some x')
    (h : appendD P t ts[1]? sv x s = some (v, s')) : DoesV P ρ s s' w (Builtin.append_ ts ty as) v := by
  unfold appendD at h
  split at h
  · rename_i elem hu
    split at h
    · rename_i size bytes hz hby
      split at h
      · rename_i base sLen sCap
        split at h
        · rename_i n new harg
          obtain ⟨zeros, g1, g2⟩ := arg_sound (P := P) hs hz hby hx harg
          cases hle : Nat.ble (sLen + n) sCap with
          | true =>
            rw [hle] at h; simp only [cond_true] at h
            obtain ⟨base', sCap', w', v', rfl, r1, r2, r3, r4, r5⟩ := appIn_sound (P := P) hs hsv (g2 w rfl) (Nat.le_of_ble_eq_true hle) h
            exact ⟨ρ, w', v', by rw [append_tail ht ha hb hu hz g1]; exact r1, r2, r3, r4, by omega⟩
          | false =>
            rw [hle] at h; simp only [cond_false] at h
            have hgt : sCap < sLen + n := by
              rcases Nat.lt_or_ge sCap (sLen + n) with h1 | h1
              · exact h1
              · rw [Nat.ble_eq_true_of_le h1] at hle; cases hle
            obtain ⟨base', sCap', rfl, r⟩ := appNew_sound (P := P) hs hz hby hsv hgt (fun len cap a e => by injection e with e1 e2 e3; omega) g2 h
            obtain ⟨ρ', w', v', r1, r2, r3, r4, r5⟩ := r
            exact ⟨ρ', w', v', by rw [append_tail ht ha hb hu hz g1]; exact r1, r2, r3, r4, r5⟩
        · cases h
      · cases h
    · cases h
  · cases h
end Go.Hg
