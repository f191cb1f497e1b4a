/- clear; iterators over maps. -/
import Derived.Test.YthlkmfeelhbhjaaGreatDoorHgSc
import Derived.Maps.RangeRun
set_option linter.unusedVariables false
set_option linter.unusedSimpArgs false
namespace Go.Hg
variable {P : Program} {ρ : Env} {s : St} {w : World}

theorem clear_sound (hs : Rel ρ s w) {ts : Array TypeId} {ty t : TypeId} {as : Array Value} {x x' : Value} {s' : St} (hx : VR ρ x x') (ht : ts[0]? = some t) (ha : as[0]? = some x') (h : clearD P t x s = some s') :
    ∃ w', (Builtin.clear_ ts ty as).run P w = .ok undef w' ∧ Fr s.next s s' ρ ρ w w' ∧ Rel ρ s' w' ∧ s'.next = s.next := by
  unfold clearD at h
  unfold Builtin.clear_
  simp only [ht, ha]
  split at h
  · rename_i elem base n cap hu
    split at h
    · rename_i z k off hz
      cases hle : Nat.ble n most with
      | false => rw [hle] at h; cases h
      | true =>
        rw [hle] at h; simp only [cond_true] at h
        have key : ∀ L c', ρ k = some L → ∀ o', (n = 0 ∨ o' = L.base + off) → x' = .slice (some ⟨L.block, o', none⟩) n c' → ∃ w', ((do
            match ← underlying t, x' with
            | _, .map none | _, .slice none _ _ | _, .slice _ 0 _ => pure ()
            | _, .map (some r) =>
              let .map _ clock ← getObj r | stuck "clear: map expected"
              setObj r (.map #[] clock)
            | .slice elem, .slice (some a) n _ => storeCells a (Builtin.zeroCells (← zeroValue elem).cells n).toList
            | _, _ => stuck "clear: map or slice expected"
            pure (.tuple #[]) : Sem Value)).run P w = .ok undef w' ∧ Fr s.next s s' ρ ρ w w' ∧ Rel ρ s' w' ∧ s'.next = s.next := by
          intro L c' hL o' ho' e; subst e
          cases n with
          | zero =>
            obtain ⟨w', h1, h2, h3, h4⟩ := store_core (P := P) hs hL VRL.nil h
            have hw : w' = w := by simp only [storeCells, Sem.run_pure] at h1; injection h1 with _ h1; exact h1.symm
            subst hw
            exact ⟨w', by simp [run_und hu]; rfl, h2, h3, h4⟩
          | succ n =>
            have := ho'.resolve_left (by omega); subst this
            have hzr := cells_rel (zero_refl (ρ := ρ) hz)
            obtain ⟨w', h1, h2, h3, h4⟩ := store_core (P := P) hs hL (repl_rel hzr (n + 1)) h
            refine ⟨w', ?_, h2, h3, h4⟩
            simp only [Sem.run_bind, run_und hu, Result.andThen_ok, run_zeroOf hz, Builtin.zeroCells, range_repl, h1, Sem.run_pure]
            rfl
        cases hx with
        | slice _ _ _ cap' hL => exact key _ _ hL _ (.inr rfl) rfl
        | sliceEnd _ off' hL => exact key _ _ hL _ (.inl rfl) rfl
    · injection h with h; subst h
      cases hx
      exact ⟨w, by simp [run_und hu]; rfl, .refl _ _ _ _, hs, rfl⟩
    · cases h
  · rename_i kt et hu
    injection h with h; subst h
    cases hx
    exact ⟨w, by simp [run_und hu]; rfl, .refl _ _ _ _, hs, rfl⟩
  · rename_i kt et r hu
    cases hx with
    | map hL =>
      rename_i L
      split at h
      · rename_i st es hg
        injection h with h; subst h
        obtain ⟨L', a, es', clock, hb, hmr⟩ := hs.obj _ _ hg
        rw [hL] at a; injection a with a; subst a
        refine ⟨wput w L.block (.map #[] clock), ?_, fr_put _ _ _ hg hL, map_change hs hg hL hb ⟨rfl, fun i k v e h => by simp at h, fun i e h => by simp at h⟩ (.inr (Nat.lt_succ_self _)), rfl⟩
        simp only [Sem.run_bind, run_und hu, Result.andThen_ok, getObj_some hb, setObj_map _ hb, Sem.run_pure]
        rfl
      · cases h
  · cases h

theorem range_sound (hs : Rel ρ s w) {t : TypeId} {m' : Value} {mo : Option Nat} {st : Nat} (hu : ∃ a b, und P t = some (.map a b)) (hm : VR ρ (.map mo) m') (hst : ∀ k, mo = some k → ∃ es, s.heap.get k = some (.map st es)) :
    DoesV P ρ s (s.new (.iter mo st false)).2 w (Instr.range t m') (.pointer (some ⟨s.next, 0, none⟩)) := by
  obtain ⟨kt, et, hu⟩ := hu
  obtain ⟨hk, hkh⟩ := hs.dom s.next (Nat.le_refl _)
  let L : Loc := ⟨w.heap.size, 0, 0, 0, 0⟩
  cases hm with
  | nilMap =>
    refine ⟨ρ.ext s.next L, push w (.mapIter none 0 #[] 0), .pointer (some ⟨w.heap.size, 0, none⟩), ?_, fr_push _ _ hk (Nat.le_refl _) rfl, ?_, .ptr (L := L) 0 (by simp), Nat.le_succ _⟩
    · simp [Instr.range, run_und hu, push]
    · exact hs.lay hk hkh (Nat.le_succ _) (Nat.lt_succ_self _) (by rw [push_size]; omega) (Nat.le_refl _) (by rw [push_size]; exact Nat.lt_succ_self _) (fun b hb => push_old w _ hb)
        ⟨none, 0, #[], 0, push_new w _, fun _ => rfl, rfl⟩ (fun m st seen h => by cases h)
  | map hLm =>
    rename_i m Lm
    obtain ⟨es, hg⟩ := hst m rfl
    obtain ⟨L', a, es', clock, hb, hmr⟩ := hs.obj _ _ hg
    rw [hLm] at a; injection a with a; subst a
    have hmn : m ≠ s.next := by intro e; subst e; rw [hkh] at hg; cases hg
    have hlm := hs.wf _ _ hLm
    refine ⟨ρ.ext s.next L, push w (.mapIter (some Lm.block) clock #[] clock), .pointer (some ⟨w.heap.size, 0, none⟩), ?_, fr_push _ _ hk (Nat.le_refl _) rfl, ?_, .ptr (L := L) 0 (by simp), Nat.le_succ _⟩
    · simp [Instr.range, run_und hu, getObj_some hb, push]
    · refine hs.lay hk hkh (Nat.le_succ _) (Nat.lt_succ_self _) (by rw [push_size]; omega) (Nat.le_refl _) (by rw [push_size]; exact Nat.lt_succ_self _) (fun b hb => push_old w _ hb)
        ⟨some Lm.block, clock, #[], clock, push_new w _, (fun h => by cases h), rfl⟩ (fun m1 st1 seen1 he => ?_)
      intro j mj stj seen hj
      have hj' : (if j = s.next then some (Obj.iter (some m) st false) else s.heap.get j) = some (.iter (some mj) stj seen) := by rw [← Tr.get_set]; exact hj
      by_cases e : j = s.next
      · subst e
        rw [if_pos rfl] at hj'; injection hj' with hj'; injection hj' with e1 e2 e3
        injection e1 with e1
        subst e1; subst e2; subst e3
        refine ⟨st, es, by show (s.heap.set _ _).get m = _; rw [Tr.get_set, if_neg hmn]; exact hg, Nat.le_refl _, fun _ _ Lj Lk hlj hlk => ?_⟩
        simp at hlj; subst hlj
        rw [Env.ext_other _ hmn, hLm] at hlk; injection hlk with hlk; subst hlk
        exact ⟨clock, #[], clock, es', clock, push_new w _, by rw [push_old w _ hlm]; exact hb, fun _ => ⟨rfl, rfl⟩, fun h => by cases h⟩
      · rw [if_neg e] at hj'
        obtain ⟨st0, es0, h1, h2, h3⟩ := hs.iter j mj stj seen hj'
        have e2 : mj ≠ s.next := by intro e; subst e; rw [h1] at hkh; cases hkh
        refine ⟨st0, es0, by show (s.heap.set _ _).get mj = _; rw [Tr.get_set, if_neg e2]; exact h1, h2, fun h4 h5 Lj Lk hlj hlk => ?_⟩
        rw [Env.ext_other _ e] at hlj; rw [Env.ext_other _ e2] at hlk
        obtain ⟨since, seen', stepped, es2, cl, a1, a2, a3, a4⟩ := h3 h4 h5 Lj Lk hlj hlk
        exact ⟨since, seen', stepped, es2, cl, by rw [push_old w _ (hs.wf _ _ hlj)]; exact a1, by rw [push_old w _ (hs.wf _ _ hlk)]; exact a2, a3, a4⟩

/-- What lies behind an iterator's pointer. -/
theorem iter_ptr (hs : Rel ρ s w) {r : Nat} {it' : Value} {m : Option Nat} {st : Nat} {seen : Bool} (hi : VR ρ (.pointer (some ⟨r, 0, none⟩)) it') (hg : s.heap.get r = some (.iter m st seen)) :
    ∃ L, ρ r = some L ∧ it' = .pointer (some ⟨L.block, 0, none⟩) ∧ (∃ m' since seen' stepped, w.heap[L.block]? = some (Go.Obj.mapIter m' since seen' stepped) ∧ (m = none → m' = none)) := by
  cases hi with
  | ptr _ hL =>
    rename_i L
    obtain ⟨L', a, m', c, d, e, f, g, h⟩ := hs.obj _ _ hg
    rw [hL] at a; injection a with a; subst a
    exact ⟨L, hL, by rw [h], m', c, d, e, f, g⟩

theorem next_empty {ty : TypeId} {r bm since c0 clock : Nat} {seen : Array Nat} (hr : w.heap[r]? = some (.mapIter (some bm) since seen c0)) (hb : w.heap[bm]? = some (.map #[] clock)) :
    (Instr.next (.pointer (some ⟨r, 0, none⟩)) false ty).run P w = .ok (.tuple #[.bool false]) w := by
  simp [Instr.next, getObj_it hr, getObj_some hb, Question.forced]

theorem next_one {ty : TypeId} {r bm since c0 clock : Nat} {e : MapEntry} (hr : w.heap[r]? = some (.mapIter (some bm) since #[] c0)) (hb : w.heap[bm]? = some (.map #[e] clock)) (he : e.born < since) :
    (Instr.next (.pointer (some ⟨r, 0, none⟩)) false ty).run P w = .ok (.tuple #[.bool true, e.key, e.val]) (wput w r (.mapIter (some bm) since #[e.born] clock)) := by
  have h1 : ¬ (since ≤ e.born) := by omega
  simp [Instr.next, getObj_it hr, getObj_some hb, Question.forced, he, h1, setObj_iter _ hr]

theorem next_over {ty : TypeId} {r bm since c0 clock : Nat} {e : MapEntry} (hr : w.heap[r]? = some (.mapIter (some bm) since #[e.born] c0)) (hb : w.heap[bm]? = some (.map #[e] clock)) (he : e.born < c0) :
    (Instr.next (.pointer (some ⟨r, 0, none⟩)) false ty).run P w = .ok (.tuple #[.bool false]) w := by
  have h1 : ¬ (c0 ≤ e.born) := by omega
  simp [Instr.next, getObj_it hr, getObj_some hb, Question.forced, h1]

theorem next_sound (hs : Rel ρ s w) {ty : TypeId} {it it' v : Value} {s' : St} (hi : VR ρ it it') (h : iterNext s it = some (v, s')) :
    ∃ w' v', (Instr.next it' false ty).run P w = .ok v' w' ∧ Fr s.next s s' ρ ρ w w' ∧ Rel ρ s' w' ∧ VR ρ v v' ∧ s'.next = s.next := by
  unfold iterNext at h
  split at h
  · rename_i r
    split at h
    · rename_i st sn hg
      simp only [Option.some.injEq, Prod.mk.injEq] at h
      obtain ⟨rfl, rfl⟩ := h
      obtain ⟨L, hL, rfl, m', since, seen', stepped, hb, hn⟩ := iter_ptr hs hi hg
      have := hn rfl; subst this
      exact ⟨w, _, by simp [Instr.next, getObj_it hb], .refl _ _ _ _, hs, .tuple' (.cons (.bool _) .nil), rfl⟩
    · rename_i m st sn hg
      obtain ⟨L, hL, rfl, _⟩ := iter_ptr hs hi hg
      split at h
      · rename_i st' es hm
        cases hst : Nat.beq st st' with
        | false => rw [hst] at h; cases h
        | true =>
          rw [hst] at h; simp only [cond_true] at h
          have := Nat.eq_of_beq_eq_true hst; subst this
          obtain ⟨st0, es0, a1, a2, a3⟩ := hs.iter _ _ _ _ hg
          rw [hm] at a1; injection a1 with a1; injection a1 with b1 b2; subst b1; subst b2
          obtain ⟨Lm, hLm, es', clock, hb, hmr⟩ := hs.obj _ _ hm
          have hle : es.length ≤ 1 := by
            split at h
            · simp
            · simp
            · cases h
          obtain ⟨since, seen', stepped, es2, cl, c1, c2, c3, c4⟩ := a3 rfl hle L Lm hL hLm
          rw [hb] at c2; injection c2 with c2; injection c2 with d1 d2; subst d1; subst d2
          split at h
          · simp only [Option.some.injEq, Prod.mk.injEq] at h
            obtain ⟨rfl, rfl⟩ := h
            have he : es' = #[] := Array.eq_empty_of_size_eq_zero (by rw [hmr.size]; rfl)
            subst he
            exact ⟨w, _, next_empty c1 hb, .refl _ _ _ _, hs, .tuple' (.cons (.bool _) .nil), rfl⟩
          · rename_i k u
            obtain ⟨e, rfl⟩ : ∃ e, es' = #[e] := by
              have := hmr.size
              simp at this
              exact ⟨es'[0], Array.ext (by simp [this]) (fun i h1 h2 => by simp at h2; subst h2; simp)⟩
            have hborn := hmr.born 0 e rfl
            obtain ⟨e1, e2, e3⟩ := hmr.ent 0 k u e rfl rfl
            cases sn with
            | true =>
              simp only [cond_true, Option.some.injEq, Prod.mk.injEq] at h
              obtain ⟨rfl, rfl⟩ := h
              obtain ⟨e', f1, f2, f3, f4⟩ := c4 rfl
              have hee : e' = e := by simpa using f1.symm
              subst hee
              subst f2
              exact ⟨w, _, next_over c1 hb (by omega), .refl _ _ _ _, hs, .tuple' (.cons (.bool _) .nil), rfl⟩
            | false =>
              simp only [cond_false, Option.some.injEq, Prod.mk.injEq] at h
              obtain ⟨rfl, rfl⟩ := h
              obtain ⟨f1, f2⟩ := c3 rfl
              subst f1; subst f2
              have hlt := hs.wf _ _ hL
              have hkr : VR ρ k e.key := by
                rw [e1]; exact scalar_refl ρ (by cases k <;> simp [keyV] at e2 <;> rfl)
              refine ⟨_, _, next_one c1 hb hborn, fr_put _ _ _ hg hL, ?_, .tuple' (.cons (.bool _) (.cons hkr (.cons e3 .nil))), rfl⟩
              obtain ⟨L', a, m', x1, x2, x3, x4, x5, x6⟩ := hs.obj _ _ hg
              rw [hL] at a; injection a with a; subst a
              have hrm : r ≠ m := by intro e; subst e; rw [hg] at hm; cases hm
              have hblk : Lm.block ≠ L.block := fun e => hrm (hs.inj _ _ _ _ _ _ hg hm hL hLm e.symm)
              refine hs.change hg hL (wput_size _ _ _) (fun b hb => wput_other _ hb) ⟨_, _, _, _, wput_same _ hlt, fun h => (by cases h), x6⟩ ?_
              intro j mj stj seenj hj
              simp only [St.setObj, Tr.get_set] at hj ⊢
              by_cases e : j = r
              · subst e
                rw [if_pos rfl] at hj; injection hj with hj; injection hj with g1 g2 g3
                injection g1 with g1; subst g1; subst g2; subst g3
                refine ⟨_, _, by rw [if_neg (fun e => hrm e.symm)]; exact hm, Nat.le_refl _, fun _ _ Lj Lk hlj hlk => ?_⟩
                rw [hL] at hlj; injection hlj with hlj; subst hlj
                rw [hLm] at hlk; injection hlk with hlk; subst hlk
                exact ⟨_, _, _, _, _, wput_same _ hlt, by rw [wput_other _ hblk]; exact hb, fun h => (by cases h), fun _ => ⟨_, rfl, rfl, rfl, rfl⟩⟩
              · rw [if_neg e] at hj
                obtain ⟨st0, es0, h1, h2, h3⟩ := hs.iter j mj stj seenj hj
                have e2 : mj ≠ r := by intro e; subst e; rw [hg] at h1; cases h1
                refine ⟨st0, es0, by rw [if_neg e2]; exact h1, h2, fun h4 h5 Lj Lk hlj hlk => ?_⟩
                obtain ⟨q1, q2, q3, q4, q5, y1, y2, y3, y4⟩ := h3 h4 h5 Lj Lk hlj hlk
                exact ⟨q1, q2, q3, q4, q5, by rw [wput_other _ (fun e' => e (hs.inj _ _ _ _ _ _ hj hg hlj hL e'))]; exact y1, by rw [wput_other _ (fun e' => e2 (hs.inj _ _ _ _ _ _ h1 hg hlk hL e'))]; exact y2, y3, y4⟩
          · cases h
      · cases h
    · cases h
  · cases h

theorem entry_run {r bm since c0 : Nat} {e : MapEntry} (hr : w.heap[r]? = some (.mapIter (some bm) since #[e.born] c0)) (hb : w.heap[bm]? = some (.map #[e] c0)) :
    (Instr.entry (.pointer (some ⟨r, 0, none⟩))).run P w = .ok (.tuple #[e.key, e.val]) w := by
  simp [Instr.entry, getObj_it hr, getObj_some hb]

theorem entry_sound (hs : Rel ρ s w) {it it' v : Value} (hi : VR ρ it it') (h : iterEntry s it = some v) :
    ∃ v', (Instr.entry it').run P w = .ok v' w ∧ VR ρ v v' := by
  unfold iterEntry at h
  split at h
  · rename_i r
    split at h
    · rename_i m st hg
      obtain ⟨L, hL, rfl, _⟩ := iter_ptr hs hi hg
      split at h
      · rename_i st' k u hm
        cases hst : Nat.beq st st' with
        | false => rw [hst] at h; cases h
        | true =>
          rw [hst] at h; simp only [cond_true] at h
          injection h with h; subst h
          have := Nat.eq_of_beq_eq_true hst; subst this
          obtain ⟨st0, es0, a1, a2, a3⟩ := hs.iter _ _ _ _ hg
          rw [hm] at a1; injection a1 with a1; injection a1 with b1 b2; subst b1; subst b2
          obtain ⟨Lm, hLm, es', clock, hb, hmr⟩ := hs.obj _ _ hm
          obtain ⟨since, seen', stepped, es2, cl, c1, c2, c3, c4⟩ := a3 rfl (by simp) L Lm hL hLm
          rw [hb] at c2; injection c2 with c2; injection c2 with d1 d2; subst d1; subst d2
          obtain ⟨e, rfl, rfl, rfl, rfl⟩ := c4 rfl
          obtain ⟨e1, e2, e3⟩ := hmr.ent 0 k u e rfl rfl
          have hkr : VR ρ k e.key := by
            rw [e1]; exact scalar_refl ρ (by cases k <;> simp [keyV] at e2 <;> rfl)
          exact ⟨_, entry_run c1 hb, .tuple' (.cons hkr (.cons e3 .nil))⟩
      · cases h
    · cases h
  · cases h
end Go.Hg
