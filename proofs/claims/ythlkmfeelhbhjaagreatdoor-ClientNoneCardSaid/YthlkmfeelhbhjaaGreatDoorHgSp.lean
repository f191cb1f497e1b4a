/- Regions that draw their order: what holds whatever the order. -/
import Derived.Test.YthlkmfeelhbhjaaGreatDoorHgSo
set_option linter.unusedVariables false
set_option linter.unusedSimpArgs false
namespace Go.Hg
variable {P : Program}

section laws
variable {call : TargetD → St → Option (EndD × St)} {r : Bool} {ops : Array Oper} {pre : List Nat} {base m : Nat} {D : Nat → DrS} {V : Nat → Value}

theorem heapAdd_same {keep keep' : Nat → Bool} {fr : List (Nat × Nat × Obj)} {s : St} {k : Nat} (hn : (fr.map (·.2.1)).Nodup) (h : ∀ e ∈ fr, e.2.1 = k → keep e.1 = keep' e.1) :
    (heapAdd s keep fr).heap.get k = (heapAdd s keep' fr).heap.get k := by
  by_cases hx : ∃ e ∈ fr, keep e.1 = true ∧ e.2.1 = k
  · obtain ⟨e, he, hk, rfl⟩ := hx
    rw [heapAdd_hit (i := e.1) (o := e.2.2) he hk hn, heapAdd_hit (i := e.1) (o := e.2.2) he (by rw [← h e he rfl]; exact hk) hn]
  · rw [heapAdd_miss, heapAdd_miss]
    · intro e he hk e2
      exact hx ⟨e, he, by rw [h e he e2]; exact hk, e2⟩
    · intro e he hk e2
      exact hx ⟨e, he, hk, e2⟩

/-- What lies in a heap with blocks added. -/
theorem heapAdd_cases {keep : Nat → Bool} {fr : List (Nat × Nat × Obj)} {s : St} {k : Nat} {o : Obj} (hn : (fr.map (·.2.1)).Nodup) (h : (heapAdd s keep fr).heap.get k = some o) :
    (∃ e ∈ fr, keep e.1 = true ∧ e.2.1 = k ∧ e.2.2 = o) ∨ (s.heap.get k = some o ∧ ∀ e ∈ fr, keep e.1 = true → e.2.1 ≠ k) := by
  by_cases hx : ∃ e ∈ fr, keep e.1 = true ∧ e.2.1 = k
  · obtain ⟨e, he, hk, rfl⟩ := hx
    rw [heapAdd_hit (i := e.1) (o := e.2.2) he hk hn] at h
    injection h with h
    exact .inl ⟨e, he, hk, rfl, h⟩
  · have hno : ∀ e ∈ fr, keep e.1 = true → e.2.1 ≠ k := fun e he hk e2 => hx ⟨e, he, hk, e2⟩
    rw [heapAdd_miss hno] at h
    exact .inr ⟨h, hno⟩

theorem Fr.to_less {n : Nat} {s s' s'' : St} {ρ ρ' : Env} {w w' : World} (h : Fr n s s' ρ ρ' w w') (hs : ∀ k o, s''.heap.get k = some o → ∃ o', s'.heap.get k = some o') : Fr n s s'' ρ ρ' w w' :=
  ⟨h.le, h.fresh, h.size, h.keepL, h.new, fun k o L hg hL => let ⟨o', h'⟩ := hs k o hg; h.live k o' L h' hL, h.os, h.output, h.tape⟩

/-- The last in the text, among these, that writes t gave v; or none writes it, and it was v. -/
def HasV (ops : Array Oper) (r0 : Tr Value) (V : Nat → Value) (S : Nat → Prop) (t : Nat) (v : Value) : Prop :=
  (∃ j o, S j ∧ ops[j]? = some o ∧ o.dst = some t ∧ V j = v ∧ ∀ j' o', S j' → ops[j']? = some o' → o'.dst = some t → j' ≤ j) ∨
  ((∀ j o, S j → ops[j]? = some o → o.dst ≠ some t) ∧ r0.get t = some v)

theorem put_some {a a' : ActD} {dst : Option Tmp} {v : Value} (h : a.put dst v = some a') : a'.nt = a.nt ∧ a'.defers = a.defers ∧ (∀ d, dst = some d → d < a.nt) ∧ ∀ t, a'.regs.get t = if dst = some t then some v else a.regs.get t := by
  cases dst with
  | none => simp only [ActD.put] at h; injection h with h; subst h; exact ⟨rfl, rfl, fun d e => (by cases e), fun t => by simp⟩
  | some d =>
    simp only [ActD.put] at h
    obtain ⟨h1, h⟩ := cond_some h
    injection h with h; subst h
    refine ⟨rfl, rfl, fun d' e => by injection e with e; subst e; exact Nat.le_of_ble_eq_true h1, fun t => ?_⟩
    simp only [Tr.get_set]
    by_cases e : t = d
    · subst e; simp
    · rw [if_neg e, if_neg (by intro e2; injection e2 with e2; exact e e2.symm)]

theorem Trace.regs (T : Trace P call r ops pre base m D V) : ∀ j, j ≤ m → (D j).a.nt = (D 0).a.nt ∧ (D j).a.defers = (D 0).a.defers ∧ ∀ t v, (D j).a.regs.get t = some v → HasV ops (D 0).a.regs V (· < j) t v
  | 0, _ => ⟨rfl, rfl, fun t v h => .inr ⟨fun j o hj => by omega, h⟩⟩
  | j + 1, hj => by
    obtain ⟨o, ho, hst⟩ := T.step j (by omega)
    obtain ⟨i1, i2, i3⟩ := T.regs j (by omega)
    obtain ⟨p1, p2, p3, p4⟩ := put_some hst.put
    refine ⟨p1.trans i1, p2.trans i2, fun t v h => ?_⟩
    rw [p4] at h
    by_cases e : o.dst = some t
    · rw [if_pos e] at h; injection h with h
      exact .inl ⟨j, o, Nat.lt_succ_self _, ho, e, h, fun j' o' h1 _ _ => Nat.le_of_lt_succ h1⟩
    · rw [if_neg e] at h
      rcases i3 t v h with ⟨j0, o0, h1, h2, h3, h4, h5⟩ | ⟨h1, h2⟩
      · refine .inl ⟨j0, o0, Nat.lt_succ_of_lt h1, h2, h3, h4, fun j' o' h6 h7 h8 => ?_⟩
        rcases Nat.lt_or_ge j' j with h9 | h9
        · exact h5 j' o' h9 h7 h8
        · have : j' = j := by have : j' < j + 1 := h6; omega
          subst this
          rw [ho] at h7; injection h7 with h7; subst h7
          exact (e h8).elim
      · refine .inr ⟨fun j' o' h6 h7 h8 => ?_, h2⟩
        rcases Nat.lt_or_ge j' j with h9 | h9
        · exact h1 j' o' h9 h7 h8
        · have : j' = j := by have : j' < j + 1 := h6; omega
          subst this
          rw [ho] at h7; injection h7 with h7; subst h7
          exact (e h8).elim

/-- Pairs of operations. -/
def PairS (ops : Array Oper) (pre : List Nat) : Prop := ∀ (a b : Nat) (x y : Oper), a < b → ops[a]? = some x → ops[b]? = some y →
  has (nth pre b) a = true ∨ ((∀ t ∈ dstL x, t ∉ looksL ops.toList y) ∧ ∀ t ∈ dstL y, t ∉ looksL ops.toList x)

theorem pairS_of (h : pairsOk ops.toList pre (numbered 0 ops.toList) = true) : PairS ops pre := by
  intro a b x y hab hx hy
  have := pairsOk_spec _ h a b (a, x) (b, y) hab (by rw [numbered_get]; simp [hx]) (by rw [numbered_get]; simp [hy])
  exact this

theorem dst_looks {o : Oper} {t : Nat} (h : o.dst = some t) (ops : List Oper) : t ∈ looksL ops o := by
  unfold looksL namesOf dstL; rw [h]; simp

theorem has_lift (hp : PairS ops pre) {S : Nat → Prop} (hcl : ∀ i j, S i → has (nth pre i) j = true → S j) {i : Nat} {o : Oper} (ho : ops[i]? = some o) (hi : ¬ S i) (hpi : ∀ j, has (nth pre i) j = true → S j) {r0 : Tr Value} {t : Nat} {v : Value} (ht : t ∈ looksL ops.toList o)
    (h : HasV ops r0 V (· < i) t v) : HasV ops r0 V S t v := by
  have early : ∀ j o', j < i → ops[j]? = some o' → o'.dst = some t → S j := by
    intro j o' hj ho' hd
    rcases hp j i o' o hj ho' ho with h1 | ⟨h1, _⟩
    · exact hpi j h1
    · exact (h1 t (by simp [dstL, hd]) ht).elim
  have late : ∀ j o', i < j → ops[j]? = some o' → o'.dst = some t → ¬ S j := by
    intro j o' hj ho' hd hS
    rcases hp i j o o' hj ho ho' with h1 | ⟨_, h1⟩
    · exact hi (hcl j i hS h1)
    · exact (h1 t (by simp [dstL, hd]) ht).elim
  have cases' : ∀ j o', S j → ops[j]? = some o' → o'.dst = some t → j < i := by
    intro j o' hS ho' hd
    rcases Nat.lt_trichotomy j i with h1 | h1 | h1
    · exact h1
    · subst h1; exact (hi hS).elim
    · exact (late j o' h1 ho' hd hS).elim
  rcases h with ⟨j, o', h1, h2, h3, h4, h5⟩ | ⟨h1, h2⟩
  · exact .inl ⟨j, o', early j o' h1 h2 h3, h2, h3, h4, fun j' o2 h6 h7 h8 => h5 j' o2 (cases' j' o2 h6 h7 h8) h7 h8⟩
  · exact .inr ⟨fun j o' hS ho' hd => h1 j o' (cases' j o' hS ho' hd) ho' hd, h2⟩

theorem regs_put {ρ : Env} (hp : PairS ops pre) {S S' : Nat → Prop} (hcl : ∀ i j, S i → has (nth pre i) j = true → S j) {i : Nat} {o : Oper} (ho : ops[i]? = some o) (hi : ¬ S i) (hS' : ∀ j, S' j ↔ j = i ∨ S j) {r0 : Tr Value} {ar : Act}
    (h : ∀ t v, HasV ops r0 V S t v → ∃ v', ar.tmps[t]? = some v' ∧ VR ρ v v') {v' : Value} (hv : VR ρ (V i) v') (hd : ∀ d, o.dst = some d → d < ar.tmps.size) :
    ∀ t v, HasV ops r0 V S' t v → ∃ u, (ar.put o.dst v').tmps[t]? = some u ∧ VR ρ v u := by
  have other : ∀ t, o.dst ≠ some t → (ar.put o.dst v').tmps[t]? = ar.tmps[t]? := by
    intro t ht
    cases hod : o.dst with
    | none => rfl
    | some d =>
      have : d ≠ t := by intro e; subst e; exact ht hod
      simp only [Act.put]
      rw [Array.getElem?_setIfInBounds_ne this]
  intro t v hh
  rcases hh with ⟨j, o', h1, h2, h3, h4, h5⟩ | ⟨h1, h2⟩
  · by_cases e : j = i
    · subst e
      rw [ho] at h2; injection h2 with h2; subst h2
      refine ⟨v', ?_, by rw [← h4]; exact hv⟩
      simp only [Act.put, h3]
      simp [hd t h3]
    · have hSj : S j := ((hS' j).1 h1).resolve_left e
      have hne : o.dst ≠ some t := by
        intro hot
        have hij : i ≤ j := h5 i o ((hS' i).2 (.inl rfl)) ho hot
        rcases hp i j o o' (by omega) ho h2 with h6 | ⟨h6, _⟩
        · exact hi (hcl j i hSj h6)
        · exact h6 t (by simp [dstL, hot]) (dst_looks h3 _)
      rw [other t hne]
      exact h t v (.inl ⟨j, o', hSj, h2, h3, h4, fun j' o2 h6 h7 h8 => h5 j' o2 ((hS' j').2 (.inr h6)) h7 h8⟩)
  · have hne : o.dst ≠ some t := h1 i o ((hS' i).2 (.inl rfl)) ho
    rw [other t hne]
    exact h t v (.inr ⟨fun j o' hS => h1 j o' ((hS' j).2 (.inr hS)), h2⟩)

theorem wantedD_keep (opsL : List Oper) (a : ActD) (o : Oper) : wantedD opsL ⟨keepR a.regs (guardL opsL o), a.nt, a.defers⟩ o = wantedD opsL a o := by
  unfold wantedD guardL
  cases hg : o.guard with
  | none => rfl
  | some jw =>
    obtain ⟨j, want⟩ := jw
    simp only
    cases hj : opsL[j]? with
    | none => rfl
    | some q =>
      simp only
      cases hd : q.dst with
      | none => rfl
      | some t => simp only [dstL, hd, keepR_get, List.mem_singleton, if_true]

theorem Trace.fr_at (T : Trace P call r ops pre base m D V) {i : Nat} (hi : i < m) {e : Nat × Nat × Obj} (he : e ∈ (D m).fr) (hei : e.1 = i) : e ∈ (D (i + 1)).fr := by
  obtain ⟨t, h1, h2⟩ := T.fr_pre (i + 1) (m - (i + 1)) (by omega)
  rw [show i + 1 + (m - (i + 1)) = m by omega] at h1
  rw [h1] at he
  rcases List.mem_append.1 he with h | h
  · exact h
  · have := h2 e h; omega

theorem Trace.fr_iter (T : Trace P call r ops pre base m D V) : ∀ j, j ≤ m → ∀ e ∈ (D j).fr, ∀ mm st seen, e.2.2 ≠ .iter mm st seen
  | 0, _ => by rw [T.fr0]; simp
  | j + 1, hj => by
    obtain ⟨o, _, hst⟩ := T.step j (by omega)
    have ih := T.fr_iter j (by omega)
    cases hst.kind with
    | skip _ _ _ _ h3 => rw [h3]; exact ih
    | light _ _ _ _ _ _ _ _ h3 => rw [h3]; exact ih
    | chain _ _ _ _ _ _ _ _ _ h3 => rw [h3]; exact ih
    | fresh _ b f _ hl _ _ _ h3 =>
      rw [h3]
      intro e he
      rcases List.mem_append.1 he with he | he
      · exact ih e he
      · simp at he; subst he; exact fresh_not_iter hl

/-- Which of the new blocks lie there. -/
def keepS (inS : Nat → Bool) (pre cs : List Nat) : Nat → Bool := fun j => inS j && !flushed pre cs j

/-- What holds when these have been done. -/
structure Inv (ops : Array Oper) (pre : List Nat) (base m : Nat) (D : Nat → DrS) (V : Nat → Value) (s0 : St) (ρ0 : Env) (w0 : World) (lo : Nat) (inS : Nat → Bool) (ρ : Env) (w : World) (ar : Act) (q : Nat) (h : St) (t : List St) : Prop where
  lt : ∀ j, inS j = true → j < m
  closed : ∀ i j, inS i = true → has (nth pre i) j = true → inS j = true
  qle : q ≤ m
  chain : ∀ c ∈ (D m).cs, (inS c = true ↔ c < q)
  hh : (D q).hs = h :: t
  rel : Rel ρ (heapAdd h (keepS inS pre (D q).cs) (D m).fr) w
  nm : ∀ j, j < ops.size → flushed pre (D q).cs j = false → h.heap.get (base + j) = none
  it : ∀ k mm st seen, h.heap.get k = some (.iter (some mm) st seen) → ∃ st0 es0, h.heap.get mm = some (.map st0 es0)
  nxt : base + ops.size ≤ h.next
  res : ∀ j, j < ops.size → (inS j = false ∨ ∀ e ∈ (D m).fr, e.1 ≠ j) → ρ (base + j) = none
  fr : Fr base s0 (heapAdd h (keepS inS pre (D q).cs) (D m).fr) ρ0 ρ w0 w
  size : ar.tmps.size = (D 0).a.nt
  regs : ∀ t v, HasV ops (D 0).a.regs V (fun j => inS j = true) t v → ∃ v', ar.tmps[t]? = some v' ∧ VR ρ v v'
  defs : DefsR ρ w lo w.heap.size (D 0).a.defers ar.defers
end laws
end Go.Hg
