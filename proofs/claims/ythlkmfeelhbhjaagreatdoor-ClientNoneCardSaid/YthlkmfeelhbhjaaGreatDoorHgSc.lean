/- Maps written; iterators. -/
import Derived.Test.YthlkmfeelhbhjaaGreatDoorHgSb
set_option linter.unusedVariables false
set_option linter.unusedSimpArgs false
namespace Go.Hg
variable {P : Program} {ρ : Env} {s : St} {w : World}

def wput (w : World) (b : Nat) (o : Go.Obj) : World := { w with heap := w.heap.setIfInBounds b o }

theorem wput_size (w : World) (b : Nat) (o : Go.Obj) : (wput w b o).heap.size = w.heap.size := by simp [wput]
theorem wput_same {w : World} {b : Nat} (o : Go.Obj) (h : b < w.heap.size) : (wput w b o).heap[b]? = some o := by simp [wput, h]
theorem wput_other {w : World} {b j : Nat} (o : Go.Obj) (h : j ≠ b) : (wput w b o).heap[j]? = w.heap[j]? := by
  simp only [wput]; rw [Array.getElem?_setIfInBounds_ne (by omega)]

theorem setObj_map {r : Nat} {es : Array MapEntry} {clock : Nat} (o : Go.Obj) (hb : w.heap[r]? = some (.map es clock)) : (setObj r o).run P w = .ok () (wput w r o) := by
  simp [setObj, Sem.run, hb, wput]
theorem setObj_iter {r : Nat} {m : Option Nat} {a : Nat} {seen : Array Nat} {c : Nat} (o : Go.Obj) (hb : w.heap[r]? = some (.mapIter m a seen c)) : (setObj r o).run P w = .ok () (wput w r o) := by
  simp [setObj, Sem.run, hb, wput]
theorem getObj_some {r : Nat} {es : Array MapEntry} {clock : Nat} (hb : w.heap[r]? = some (.map es clock)) : (getObj r).run P w = .ok (.map es clock) w := by simp [getObj, Sem.run, hb]
theorem getObj_it {r : Nat} {m : Option Nat} {a : Nat} {seen : Array Nat} {c : Nat} (hb : w.heap[r]? = some (.mapIter m a seen c)) : (getObj r).run P w = .ok (.mapIter m a seen c) w := by simp [getObj, Sem.run, hb]

theorem fr_put (n : Nat) {k : Nat} {L : Loc} {ob : Obj} (o : Go.Obj) (o' : Obj) (hg : s.heap.get k = some ob) (hL : ρ k = some L) : Fr n s (s.setObj k o') ρ ρ w (wput w L.block o) :=
  (Fr.mk (Env.le_refl _) (fun _ _ h => h) (by rw [wput_size]; exact Nat.le_refl _) (fun b _ hno => wput_other o (fun e => hno k ob L hg hL e.symm)) (fun k L hk h0 => by rw [hk] at h0; cases h0)
    (fun k o L hg hL => .inr ⟨k, o, L, hg, hL, rfl⟩) rfl rfl rfl : Fr n s s ρ ρ w (wput w L.block o)).live_set hg o'

theorem map_change (hs : Rel ρ s w) {k st st2 clock clock2 : Nat} {es es2 : List (Value × Value)} {esw esw2 : Array MapEntry} {L : Loc} (hk : s.heap.get k = some (.map st es)) (hL : ρ k = some L)
    (hw : w.heap[L.block]? = some (.map esw clock)) (hm : MapR ρ es2 esw2 clock2)
    (hst : (st2 = st ∧ es2.length = es.length ∧ clock2 = clock ∧ ∀ e, esw = #[e] → ∃ e', esw2 = #[e'] ∧ e'.born = e.born) ∨ st < st2) : Rel ρ (s.setObj k (.map st2 es2)) (wput w L.block (.map esw2 clock2)) := by
  have hlt := hs.wf k L hL
  refine hs.change hk hL (wput_size _ _ _) (fun b hb => wput_other _ hb) ⟨esw2, clock2, wput_same _ hlt, hm⟩ ?_
  intro j m stj seen hj
  simp only [St.setObj, Tr.get_set] at hj ⊢
  have hjk : j ≠ k := by intro e; subst e; rw [if_pos rfl] at hj; cases hj
  rw [if_neg hjk] at hj
  obtain ⟨st0, es0, h1, h2, h3⟩ := hs.iter j m stj seen hj
  by_cases hmk : m = k
  · subst hmk
    rw [hk] at h1; injection h1 with h1; injection h1 with e1 e2; subst e1; subst e2
    rw [if_pos rfl]
    refine ⟨st2, es2, rfl, ?_, fun h4 h5 Lj Lm hlj hlm => ?_⟩
    · rcases hst with ⟨a, _⟩ | a <;> omega
    · rcases hst with ⟨a1, a2, a3, a4⟩ | a
      · subst a1
        rw [hL] at hlm; injection hlm with hlm; subst hlm
        obtain ⟨since, seen', stepped, es', cl, b1, b2, b3, b4⟩ := h3 h4 (by omega) Lj L hlj hL
        rw [hw] at b2; injection b2 with b2; injection b2 with b5 b6; subst b5; subst b6
        have hbl : Lj.block ≠ L.block := fun e => hjk (hs.inj _ _ _ _ _ _ hj hk hlj hL e)
        refine ⟨since, seen', stepped, esw2, clock2, by rw [wput_other _ hbl]; exact b1, wput_same _ hlt, fun h => by rw [a3]; exact b3 h, fun h => ?_⟩
        obtain ⟨e, c1, c2, c3, c4⟩ := b4 h
        obtain ⟨e', d1, d2⟩ := a4 e c1
        exact ⟨e', d1, by rw [d2]; exact c2, by omega, by omega⟩
      · omega
  · rw [if_neg hmk]
    refine ⟨st0, es0, h1, h2, fun h4 h5 Lj Lm hlj hlm => ?_⟩
    obtain ⟨since, seen', stepped, es', cl, b1, b2, b3, b4⟩ := h3 h4 h5 Lj Lm hlj hlm
    have hbl : Lj.block ≠ L.block := fun e => hjk (hs.inj _ _ _ _ _ _ hj hk hlj hL e)
    have hbl2 : Lm.block ≠ L.block := fun e => hmk (hs.inj _ _ _ _ _ _ h1 hk hlm hL e)
    exact ⟨since, seen', stepped, es', cl, by rw [wput_other _ hbl]; exact b1, by rw [wput_other _ hbl2]; exact b2, b3, b4⟩

theorem setNth_get {l : List (Value × Value)} {i : Nat} (x : Value × Value) (hi : i < l.length) (j : Nat) : (setNth l i x)[j]? = if j = i then some x else l[j]? := by
  unfold setNth
  by_cases h : j < i
  · rw [List.getElem?_append_left (by simp; omega), if_neg (by omega)]
    simp [List.getElem?_take, h]
  · rw [List.getElem?_append_right (by simp; omega)]
    simp only [List.length_take, show min i l.length = i by omega]
    by_cases e : j = i
    · subst e; simp
    · obtain ⟨q, hq⟩ : ∃ q, j - i = q + 1 := ⟨j - i - 1, by omega⟩
      rw [if_neg e, hq, List.getElem?_cons_succ, List.getElem?_drop]
      congr 1; omega

theorem setNth_length {l : List (Value × Value)} {i : Nat} (x : Value × Value) (hi : i < l.length) : (setNth l i x).length = l.length := by
  unfold setNth; simp; omega

theorem bytes_beq (a b : ByteArray) : (a == b) = decide (a = b) := by
  obtain ⟨a⟩ := a; obtain ⟨b⟩ := b
  have h : ((⟨a⟩ : ByteArray) == ⟨b⟩) = (a == b) := rfl
  rw [h]
  by_cases e : a = b
  · subst e; simp
  · simp [e]

theorem sameBits_key {k : Value} (n : Nat) (h : keyV k = true) : Instr.sameBits n k k = true := by
  cases k <;> simp [keyV] at h <;> simp [Instr.sameBits, bytes_beq]

theorem scalarEq_eq {k k' : Value} (h : scalarEq k k' = some true) : k' = k := by
  cases k <;> cases k' <;> simp [scalarEq, bytes_beq] at h
  · rw [h]
  · rename_i a b c d
    by_cases e : a = c
    · subst e; simp at h; rw [h]
    · simp [e] at h
  · rw [h]

theorem keyStays {k : Value} (h : keyV k = true) : (Instr.keyThatStays k k).run P w = .ok k w := by
  simp [Instr.keyThatStays, sameBits_key 10000 h]

theorem mapUpdate_sound (hs : Rel ρ s w) {t : TypeId} {m m' k k' v v' : Value} {s' : St} (hm : VR ρ m m') (hk : VR ρ k k') (hv : VR ρ v v') (h : mapUpdateD P t m k v s = some s') :
    ∃ w', (Instr.mapUpdate t m' k' v').run P w = .ok () w' ∧ Fr s.next s s' ρ ρ w w' ∧ Rel ρ s' w' ∧ s'.next = s.next := by
  unfold mapUpdateD at h
  split at h
  · rename_i kt et r hu
    cases hm with
    | map hL =>
      rename_i L
      cases hko : keyOk P kt k with
      | false => rw [hko] at h; cases h
      | true =>
        rw [hko] at h
        obtain ⟨d, hd⟩ := key_und hko
        obtain ⟨e1, hkv⟩ := key_rel hko hk
        subst e1
        split at h
        · rename_i st es _ hg
          obtain ⟨L', a, es', clock, hb, hmr⟩ := hs.obj _ _ hg
          rw [hL] at a; injection a with a; subst a
          cases hf : findKeyD k es 0 with
          | none => rw [hf] at h; cases h
          | some r0 =>
            rw [hf] at h
            have hfn := findNow_sound (ρ := ρ) hko hd es es'.toList 0 r0 (by simpa using hmr.size) (fun j a b c x y => hmr.ent j a b c x (by simpa using y)) hf
            have hc : (Instr.checkKey false 10000 kt k).run P w = .ok () w := run_checkKey (n := 9999) hko
            rcases hfn with ⟨rfl, hfn⟩ | ⟨i, u, e, rfl, he, hek, hfn, hvr⟩
            · simp only at h; injection h with h; subst h
              refine ⟨wput w L.block (.map (es'.push { key := k, val := v', born := clock }) (clock + 1)), ?_, fr_put _ _ _ hg hL, ?_, rfl⟩
              · simp only [Instr.mapUpdate, Sem.run_bind, run_und hu, Result.andThen_ok, getObj_some hb, hc, run_findKey hd hfn, setObj_map _ hb]
              · refine map_change hs hg hL hb ⟨by simp [hmr.size], fun i a b e h1 h2 => ?_, fun i e h2 => ?_⟩ (.inr (Nat.lt_succ_self _))
                · rw [Array.getElem?_push] at h2
                  by_cases hi : i = es'.size
                  · rw [if_pos hi] at h2
                    rw [List.getElem?_append_right (by rw [hi, hmr.size]; exact Nat.le_refl _)] at h1
                    rw [hi, hmr.size] at h1
                    simp at h1
                    injection h2 with h2; subst h2
                    obtain ⟨rfl, rfl⟩ := h1
                    exact ⟨rfl, hkv, hv⟩
                  · rw [if_neg hi] at h2
                    have := (Array.getElem?_eq_some_iff.1 h2).1
                    rw [List.getElem?_append_left (by rw [← hmr.size]; exact this)] at h1
                    exact hmr.ent i a b e h1 h2
                · rw [Array.getElem?_push] at h2
                  by_cases hi : i = es'.size
                  · rw [if_pos hi] at h2; injection h2 with h2; subst h2; exact Nat.lt_succ_self _
                  · rw [if_neg hi] at h2; exact Nat.lt_succ_of_lt (hmr.born i e h2)
            · simp only [Nat.zero_add] at h hfn; injection h with h; subst h
              obtain ⟨k0, hes, hsc⟩ := hek
              have := scalarEq_eq hsc; subst this
              have hil : i < es.length := (List.getElem?_eq_some_iff.1 hes).1
              have he' : es'[i]? = some e := by simpa using he
              have hkey := (hmr.ent i _ _ _ hes he').1
              refine ⟨wput w L.block (.map (es'.modify i fun e => { e with key := k0, val := v' }) clock), ?_, fr_put _ _ _ hg hL, ?_, rfl⟩
              · simp only [Instr.mapUpdate, Sem.run_bind, run_und hu, Result.andThen_ok, getObj_some hb, hc, run_findKey hd hfn, he', Option.map_some, Option.getD_some, hkey, keyStays hkv, setObj_map _ hb]
              · refine map_change hs hg hL hb ⟨by simp [hmr.size, setNth_length _ hil], fun j a b x h1 h2 => ?_, fun j x h2 => ?_⟩ (.inl ⟨rfl, setNth_length _ hil, rfl, fun x hx => ?_⟩)
                · rw [setNth_get _ hil] at h1
                  rw [Array.getElem?_modify] at h2
                  by_cases hj : j = i
                  · rw [if_pos hj] at h1; rw [if_pos hj.symm, hj, he'] at h2
                    simp only [Option.some.injEq, Prod.mk.injEq] at h1
                    simp only [Option.map_some, Option.some.injEq] at h2
                    obtain ⟨rfl, rfl⟩ := h1; subst h2
                    exact ⟨rfl, hkv, hv⟩
                  · rw [if_neg hj] at h1; rw [if_neg (fun e => hj e.symm)] at h2
                    exact hmr.ent j a b x h1 h2
                · rw [Array.getElem?_modify] at h2
                  by_cases hj : j = i
                  · rw [if_pos hj.symm, hj, he'] at h2
                    simp only [Option.map_some, Option.some.injEq] at h2
                    subst h2
                    exact hmr.born i e he'
                  · rw [if_neg (fun e => hj e.symm)] at h2; exact hmr.born j x h2
                · subst hx
                  have hi0 : i = 0 := by
                    have := (Array.getElem?_eq_some_iff.1 he').1
                    simpa using this
                  subst hi0
                  exact ⟨{ x with key := k0, val := v' }, by apply Array.toList_inj.1; simp [Array.modify, Array.modifyM], rfl⟩
        · cases h
  · cases h
end Go.Hg
