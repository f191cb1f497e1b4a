/- The interpreter's walk through a region that draws its order, step by step. -/
import Derived.Test.YthlkmfeelhbhjaaGreatDoorHgSn
set_option linter.unusedVariables false
set_option linter.unusedSimpArgs false
namespace Go.Hg
variable {P : Program}

section
variable (P) (call : TargetD → St → Option (EndD × St)) (r : Bool) (opsL : List Oper) (pre : List Nat) (base : Nat)

inductive DKind (i : Nat) (o : Oper) (d d' : DrS) (v : Value) : Prop
  | skip (hw : wantedD opsL d.a o = some false) (hv : v = undefD) (h1 : d'.hs = d.hs) (h2 : d'.cs = d.cs) (h3 : d'.fr = d.fr) (h4 : d'.lg = d.lg)
  | light (hw : wantedD opsL d.a o = some true) (h : St) (t : List St) (hh : d.hs = h :: t) (hc : cls o.op = 0) (hl : lightD P d.a (heapFor pre d.cs h d.fr (nth pre i)) o.op = some v)
      (h1 : d'.hs = d.hs) (h2 : d'.cs = d.cs) (h3 : d'.fr = d.fr) (h4 : d'.lg = cond (reads o.op) ((i, o.op, d.a, v) :: d.lg) d.lg)
  | fresh (hw : wantedD opsL d.a o = some true) (b : Obj) (f : Nat → Value) (hc : cls o.op = 1) (hl : freshD P d.a o.op = some (b, f)) (hv : v = f (base + i))
      (h1 : d'.hs = d.hs) (h2 : d'.cs = d.cs) (h3 : d'.fr = d.fr ++ [(i, base + i, b)]) (h4 : d'.lg = d.lg)
  | chain (hw : wantedD opsL d.a o = some true) (h : St) (t : List St) (s' : St) (hh : d.hs = h :: t) (hc : ∀ c ∈ d.cs, has (nth pre i) c = true) (hl : operD P call r d.a (heapFor pre d.cs h d.fr (nth pre i)) o = some (.val v s'))
      (h1 : d'.hs = s' :: d.hs) (h2 : d'.cs = i :: d.cs) (h3 : d'.fr = d.fr) (h4 : d'.lg = d.lg)

structure DStep (i : Nat) (o : Oper) (d d' : DrS) (v : Value) : Prop where
  put : d.a.put o.dst v = some d'.a
  kind : DKind P call r opsL pre base i o d d' v

structure DStop (i : Nat) (o : Oper) (rest : List (Nat × Oper)) (d : DrS) (v : Value) (s' : St) : Prop where
  hw : wantedD opsL d.a o = some true
  hc : ∀ c ∈ d.cs, has (nth pre i) c = true
  hl : ∃ h t, d.hs = h :: t ∧ operD P call r d.a (heapFor pre d.cs h d.fr (nth pre i)) o = some (.panic v s')
  log : logOk P pre d = true
  safe : harmless pre i rest = true
end

section
variable {call : TargetD → St → Option (EndD × St)} {r : Bool} {opsL : List Oper} {pre : List Nat} {base : Nat}

theorem drawChain_cases {i : Nat} {o : Oper} {rest : List (Nat × Oper)} {d : DrS} {h : St} {t : List St} (hh : d.hs = h :: t) (hw : wantedD opsL d.a o = some true) {R : DrR} (hs : drawChain P call r opsL pre i o rest h d = some R) :
    (∃ d' v, R = .go d' ∧ DStep P call r opsL pre base i o d d' v) ∨ (∃ v s', R = .stop (.panic v) ⟨eraseL d.a.regs (allDsts opsL), d.a.nt, d.a.defers⟩ s' ∧ DStop P call r opsL pre i o rest d v s') := by
  unfold drawChain at hs
  obtain ⟨hc, hs⟩ := cond_some hs
  rw [List.all_eq_true] at hc
  split at hs
  · rename_i v s' hl
    split at hs
    · rename_i a' hput
      injection hs with hs; subst hs
      exact .inl ⟨_, v, rfl, hput, .chain hw h t s' hh hc hl rfl rfl rfl rfl⟩
    · cases hs
  · cases hs
  · rename_i v s' hl
    obtain ⟨h1, h2⟩ := cond_some hs
    rw [Bool.and_eq_true] at h1
    injection h2 with h2; subst h2
    exact .inr ⟨v, s', rfl, hw, hc, ⟨h, t, hh, hl⟩, h1.1, h1.2⟩
  · cases hs

theorem drawStep_cases {i : Nat} {o : Oper} {rest : List (Nat × Oper)} {d : DrS} {R : DrR} (hs : drawStep P call r opsL pre base i o rest d = some R) :
    (∃ d' v, R = .go d' ∧ DStep P call r opsL pre base i o d d' v) ∨ (∃ v s', R = .stop (.panic v) ⟨eraseL d.a.regs (allDsts opsL), d.a.nt, d.a.defers⟩ s' ∧ DStop P call r opsL pre i o rest d v s') := by
  unfold drawStep at hs
  split at hs
  · rename_i h t hh hw
    split at hs
    · rename_i hcl
      split at hs
      · rename_i v hl
        split at hs
        · rename_i a' hput
          injection hs with hs; subst hs
          exact .inl ⟨_, v, rfl, hput, .light hw h t hh hcl hl rfl rfl rfl rfl⟩
        · cases hs
      · cases hs
    · rename_i hcl
      split at hs
      · rename_i b f hl
        split at hs
        · rename_i a' hput
          injection hs with hs; subst hs
          exact .inl ⟨_, _, rfl, hput, .fresh hw b f hcl hl rfl rfl rfl rfl rfl⟩
        · cases hs
      · cases hs
    · exact drawChain_cases hh hw hs
  · rename_i hw
    split at hs
    · rename_i a' hput
      injection hs with hs; subst hs
      exact .inl ⟨_, undefD, rfl, hput, .skip hw rfl rfl rfl rfl rfl⟩
    · cases hs
  · cases hs

theorem draw_trace {x : ExitD} {a' : ActD} {s' : St} : ∀ (l : List Oper) (i0 : Nat) (d : DrS), drawGo P call r opsL pre base (numbered i0 l) d = some (x, a', s') →
    ∃ (m : Nat) (D : Nat → DrS) (V : Nat → Value), D i0 = d ∧ i0 ≤ m ∧ m ≤ i0 + l.length ∧ (∀ j, i0 ≤ j → j < m → ∃ o, l[j - i0]? = some o ∧ DStep P call r opsL pre base j o (D j) (D (j + 1)) (V j)) ∧
      ((m = i0 + l.length ∧ x = .normal ∧ a' = (D m).a ∧ logOk P pre (D m) = true ∧ ∃ h t, (D m).hs = h :: t ∧ s' = heapAdd h (fun i => !flushed pre (D m).cs i) (D m).fr) ∨
       (∃ o v, l[m - i0]? = some o ∧ x = .panic v ∧ a' = ⟨eraseL (D m).a.regs (allDsts opsL), (D m).a.nt, (D m).a.defers⟩ ∧ DStop P call r opsL pre m o (numbered (m + 1) (l.drop (m - i0 + 1))) (D m) v s'))
  | [], i0, d, h => by
    simp only [numbered, drawGo] at h
    split at h
    · rename_i h0 t hh
      obtain ⟨h1, h2⟩ := cond_some h
      simp only [Option.some.injEq, Prod.mk.injEq] at h2
      obtain ⟨rfl, rfl, rfl⟩ := h2
      exact ⟨i0, fun _ => d, fun _ => undefD, rfl, Nat.le_refl _, by simp, fun j h1 h2 => by omega, .inl ⟨by simp, rfl, rfl, h1, h0, t, hh, rfl⟩⟩
    · cases h
  | o :: l, i0, d, h => by
    simp only [numbered, drawGo] at h
    split at h
    · rename_i d' hst
      rcases drawStep_cases hst with ⟨d1, v, e, hstep⟩ | ⟨v, s1, e, _⟩
      · injection e with e; subst e
        obtain ⟨m, D, V, h1, h2, h3, h4, h5⟩ := draw_trace l (Nat.succ i0) d' h
        simp only [Nat.succ_eq_add_one] at h1 h2 h3 h4 h5
        refine ⟨m, fun j => if j ≤ i0 then d else D j, fun j => if j ≤ i0 then v else V j, by simp, by omega, by simp; omega, fun j hj1 hj2 => ?_, ?_⟩
        · by_cases e : j = i0
          · subst e
            refine ⟨o, by simp, ?_⟩
            simp only [Nat.le_refl, if_true]
            rw [if_neg (by omega), h1]
            exact hstep
          · obtain ⟨o1, g1, g2⟩ := h4 j (by omega) hj2
            refine ⟨o1, ?_, ?_⟩
            · obtain ⟨q, hq⟩ : ∃ q, j - i0 = q + 1 := ⟨j - i0 - 1, by omega⟩
              rw [hq, List.getElem?_cons_succ, ← g1]; congr 1; omega
            · simp only
              rw [if_neg (by omega), if_neg (by omega), if_neg (by omega)]
              exact g2
        · have hm : ¬ m ≤ i0 := by omega
          simp only [if_neg hm]
          rcases h5 with ⟨g1, g2⟩ | ⟨o1, v1, g1, g2, g3, g4⟩
          · exact .inl ⟨by simp; omega, g2⟩
          · refine .inr ⟨o1, v1, ?_, g2, g3, ?_⟩
            · obtain ⟨q, hq⟩ : ∃ q, m - i0 = q + 1 := ⟨m - i0 - 1, by omega⟩
              rw [hq, List.getElem?_cons_succ, ← g1]; congr 1; omega
            · have e : (o :: l).drop (m - i0 + 1) = l.drop (m - (i0 + 1) + 1) := by
                rw [List.drop_succ_cons]; congr 1; omega
              rw [e]; exact g4
      · cases e
    · rename_i x1 a1 s1 hst
      simp only [Option.some.injEq, Prod.mk.injEq] at h
      obtain ⟨rfl, rfl, rfl⟩ := h
      rcases drawStep_cases hst with ⟨d1, v, e, hstep⟩ | ⟨v, s2, e, hstop⟩
      · cases e
      · injection e with e1 e2 e3; subst e1; subst e2; subst e3
        exact ⟨i0, fun _ => d, fun _ => undefD, rfl, Nat.le_refl _, by omega, fun j h1 h2 => by omega, .inr ⟨o, v, by simp, rfl, rfl, by simpa using hstop⟩⟩
    · cases h

/-! ### What holds all along the walk -/
structure Trace (P : Program) (call : TargetD → St → Option (EndD × St)) (r : Bool) (ops : Array Oper) (pre : List Nat) (base m : Nat) (D : Nat → DrS) (V : Nat → Value) : Prop where
  le : m ≤ ops.size
  step : ∀ j, j < m → ∃ o, ops[j]? = some o ∧ DStep P call r ops.toList pre base j o (D j) (D (j + 1)) (V j)
  hs0 : ∃ h, (D 0).hs = [h]
  cs0 : (D 0).cs = []
  fr0 : (D 0).fr = []
  lg0 : (D 0).lg = []

variable {ops : Array Oper} {m : Nat} {D : Nat → DrS} {V : Nat → Value}

theorem Trace.hs_ne (T : Trace P call r ops pre base m D V) : ∀ j, j ≤ m → (D j).hs.length = (D j).cs.length + 1
  | 0, _ => by obtain ⟨h, e⟩ := T.hs0; rw [e, T.cs0]; rfl
  | j + 1, hj => by
    obtain ⟨o, _, hst⟩ := T.step j (by omega)
    have ih := T.hs_ne j (by omega)
    cases hst.kind with
    | skip _ _ h1 h2 => rw [h1, h2]; exact ih
    | light _ _ _ _ _ _ h1 h2 => rw [h1, h2]; exact ih
    | fresh _ _ _ _ _ _ h1 h2 => rw [h1, h2]; exact ih
    | chain _ _ _ _ _ _ _ h1 h2 => rw [h1, h2]; simp [ih]

theorem Trace.cs_lt (T : Trace P call r ops pre base m D V) : ∀ j, j ≤ m → ∀ c ∈ (D j).cs, c < j
  | 0, _ => by rw [T.cs0]; simp
  | j + 1, hj => by
    obtain ⟨o, _, hst⟩ := T.step j (by omega)
    have ih := T.cs_lt j (by omega)
    intro c hc
    cases hst.kind with
    | skip _ _ h1 h2 => rw [h2] at hc; have := ih c hc; omega
    | light _ _ _ _ _ _ h1 h2 => rw [h2] at hc; have := ih c hc; omega
    | fresh _ _ _ _ _ _ h1 h2 => rw [h2] at hc; have := ih c hc; omega
    | chain _ _ _ _ _ _ _ h1 h2 =>
      rw [h2] at hc
      rcases List.mem_cons.1 hc with rfl | hc
      · omega
      · have := ih c hc; omega

theorem Trace.cs_mono (T : Trace P call r ops pre base m D V) : ∀ j k, j + k ≤ m → ∀ c, c < j → (c ∈ (D (j + k)).cs ↔ c ∈ (D j).cs)
  | j, 0, _ => fun c _ => Iff.rfl
  | j, k + 1, hj => by
    intro c hc
    obtain ⟨o, _, hst⟩ := T.step (j + k) (by omega)
    have ih := T.cs_mono j k (by omega) c hc
    rw [← Nat.add_assoc]
    cases hst.kind with
    | skip _ _ h1 h2 => rw [h2]; exact ih
    | light _ _ _ _ _ _ h1 h2 => rw [h2]; exact ih
    | fresh _ _ _ _ _ _ h1 h2 => rw [h2]; exact ih
    | chain _ _ _ _ _ _ _ h1 h2 =>
      rw [h2, List.mem_cons]
      constructor
      · rintro (rfl | h)
        · omega
        · exact ih.1 h
      · intro h; exact .inr (ih.2 h)

theorem Trace.cs_iff (T : Trace P call r ops pre base m D V) {j c : Nat} (hj : j ≤ m) (hc : c < j) : c ∈ (D m).cs ↔ c ∈ (D j).cs := by
  have := T.cs_mono j (m - j) (by omega) c hc
  rw [show j + (m - j) = m by omega] at this
  exact this

/-- Where no operation of the chain stands between, heaps and chain are the same. -/
theorem Trace.still (T : Trace P call r ops pre base m D V) (j : Nat) : ∀ k, j + k ≤ m → (∀ c, j ≤ c → c < j + k → c ∉ (D m).cs) → (D (j + k)).hs = (D j).hs ∧ (D (j + k)).cs = (D j).cs
  | 0, _, _ => ⟨rfl, rfl⟩
  | k + 1, hj, hno => by
    obtain ⟨o, _, hst⟩ := T.step (j + k) (by omega)
    obtain ⟨i1, i2⟩ := T.still j k (by omega) (fun c h1 h2 => hno c h1 (by omega))
    rw [← Nat.add_assoc]
    cases hst.kind with
    | skip _ _ h1 h2 => rw [h1, h2]; exact ⟨i1, i2⟩
    | light _ _ _ _ _ _ h1 h2 => rw [h1, h2]; exact ⟨i1, i2⟩
    | fresh _ _ _ _ _ _ h1 h2 => rw [h1, h2]; exact ⟨i1, i2⟩
    | chain _ _ _ _ _ _ _ h1 h2 =>
      exfalso
      have hm : j + k ∈ (D (j + k + 1)).cs := by rw [h2]; simp
      exact hno (j + k) (by omega) (by omega) ((T.cs_iff (j := j + k + 1) (by omega) (by omega)).2 hm)

theorem Trace.fr_pre (T : Trace P call r ops pre base m D V) : ∀ j k, j + k ≤ m → ∃ t, (D (j + k)).fr = (D j).fr ++ t ∧ ∀ e ∈ t, j ≤ e.1
  | j, 0, _ => ⟨[], by simp, by simp⟩
  | j, k + 1, hj => by
    obtain ⟨o, _, hst⟩ := T.step (j + k) (by omega)
    obtain ⟨t, h1, h2⟩ := T.fr_pre j k (by omega)
    rw [← Nat.add_assoc]
    cases hst.kind with
    | skip _ _ _ _ h3 => exact ⟨t, by rw [h3, h1], h2⟩
    | light _ _ _ _ _ _ _ _ h3 => exact ⟨t, by rw [h3, h1], h2⟩
    | fresh _ b _ _ _ _ _ _ h3 => exact ⟨t ++ [(j + k, base + (j + k), b)], by rw [h3, h1]; simp, by
        intro e he
        rcases List.mem_append.1 he with he | he
        · exact h2 e he
        · simp at he; subst he; simp⟩
    | chain _ _ _ _ _ _ _ _ _ h3 => exact ⟨t, by rw [h3, h1], h2⟩

theorem Trace.fr_ok (T : Trace P call r ops pre base m D V) : ∀ j, j ≤ m → (∀ e ∈ (D j).fr, e.2.1 = base + e.1 ∧ e.1 < j) ∧ ((D j).fr.map (·.2.1)).Nodup
  | 0, _ => by rw [T.fr0]; simp
  | j + 1, hj => by
    obtain ⟨o, _, hst⟩ := T.step j (by omega)
    obtain ⟨i1, i2⟩ := T.fr_ok j (by omega)
    have weak : (∀ e ∈ (D j).fr, e.2.1 = base + e.1 ∧ e.1 < j + 1) := fun e he => ⟨(i1 e he).1, by have := (i1 e he).2; omega⟩
    cases hst.kind with
    | skip _ _ _ _ h3 => rw [h3]; exact ⟨weak, i2⟩
    | light _ _ _ _ _ _ _ _ h3 => rw [h3]; exact ⟨weak, i2⟩
    | chain _ _ _ _ _ _ _ _ _ h3 => rw [h3]; exact ⟨weak, i2⟩
    | fresh _ b _ _ _ _ _ _ h3 =>
      rw [h3]
      refine ⟨fun e he => ?_, ?_⟩
      · rcases List.mem_append.1 he with he | he
        · exact weak e he
        · simp at he; subst he; simp
      · rw [List.map_append, List.nodup_append]
        refine ⟨i2, by simp, fun a ha b' hb e => ?_⟩
        simp at hb; subst hb; subst e
        obtain ⟨x, hx, e⟩ := List.mem_map.1 ha
        obtain ⟨q1, q2⟩ := i1 x hx
        omega

theorem Trace.log_mem (T : Trace P call r ops pre base m D V) {i : Nat} {o : Oper} {v : Value} (hlog : (i, o.op, (D i).a, v) ∈ (D (i + 1)).lg) : ∀ k, i + 1 + k ≤ m → (i, o.op, (D i).a, v) ∈ (D (i + 1 + k)).lg
  | 0, _ => hlog
  | k + 1, hj => by
    obtain ⟨o', _, hst⟩ := T.step (i + 1 + k) (by omega)
    have ih := T.log_mem hlog k (by omega)
    rw [← Nat.add_assoc]
    cases hst.kind with
    | skip _ _ _ _ _ h4 => rw [h4]; exact ih
    | light _ _ _ _ _ _ _ _ _ h4 =>
      rw [h4]
      cases reads o'.op
      · exact ih
      · exact List.mem_cons_of_mem _ ih
    | fresh _ _ _ _ _ _ _ _ _ h4 => rw [h4]; exact ih
    | chain _ _ _ _ _ _ _ _ _ _ h4 => rw [h4]; exact ih

theorem Trace.progress_mem (T : Trace P call r ops pre base m D V) {q : Nat} {h : St} {t : List St} (hh : (D q).hs = h :: t) : ∀ k, q + k ≤ m → (h, (D q).cs) ∈ progress (D (q + k)).hs (D (q + k)).cs
  | 0, _ => by rw [Nat.add_zero, hh]; simp [progress]
  | k + 1, hj => by
    obtain ⟨o, _, hst⟩ := T.step (q + k) (by omega)
    have ih := T.progress_mem hh k (by omega)
    rw [← Nat.add_assoc]
    cases hst.kind with
    | skip _ _ h1 h2 => rw [h1, h2]; exact ih
    | light _ _ _ _ _ _ h1 h2 => rw [h1, h2]; exact ih
    | fresh _ _ _ _ _ _ h1 h2 => rw [h1, h2]; exact ih
    | chain _ _ _ _ _ _ _ h1 h2 => rw [h1, h2]; simp only [progress, List.tail_cons]; exact List.mem_cons_of_mem _ ih
end
end Go.Hg
