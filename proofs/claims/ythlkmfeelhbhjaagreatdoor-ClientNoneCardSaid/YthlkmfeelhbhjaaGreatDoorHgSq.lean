/- Regions that draw their order: one step keeps the invariant. -/
import Derived.Test.YthlkmfeelhbhjaaGreatDoorHgSp
set_option linter.unusedVariables false
set_option linter.unusedSimpArgs false
namespace Go.Hg
variable {P : Program}

section
variable {call : TargetD → St → Option (EndD × St)} {r : Bool} {ops : Array Oper} {pre : List Nat} {base m : Nat} {D : Nat → DrS} {V : Nat → Value}
variable {s0 : St} {ρ0 ρ : Env} {w0 w : World} {lo : Nat} {inS : Nat → Bool} {ar : Act} {q : Nat} {h : St} {t : List St}

def addS (inS : Nat → Bool) (i : Nat) : Nat → Bool := fun j => decide (j = i) || inS j

theorem addS_iff (inS : Nat → Bool) (i j : Nat) : addS inS i j = true ↔ j = i ∨ inS j = true := by simp [addS]

/-- The registers that an operation looks at. -/
theorem Inv.operands (I : Inv ops pre base m D V s0 ρ0 w0 lo inS ρ w ar q h t) (T : Trace P call r ops pre base m D V) (hp : PairS ops pre) {i : Nat} {o : Oper} (him : i ≤ m) (ho : ops[i]? = some o) (hi : inS i = false) (hpi : ∀ j, has (nth pre i) j = true → inS j = true) :
    ∀ u v, u ∈ looksL ops.toList o → (D i).a.regs.get u = some v → ∃ v', ar.tmps[u]? = some v' ∧ VR ρ v v' := by
  intro u v hu hv
  have h1 := (T.regs i him).2.2 u v hv
  exact I.regs u v (has_lift hp I.closed ho (by simp [hi]) hpi hu h1)

theorem Inv.regsR (I : Inv ops pre base m D V s0 ρ0 w0 lo inS ρ w ar q h t) (T : Trace P call r ops pre base m D V) (hp : PairS ops pre) {i : Nat} {o : Oper} (him : i ≤ m) (ho : ops[i]? = some o) (hi : inS i = false) (hpi : ∀ j, has (nth pre i) j = true → inS j = true) :
    RegsR ρ (keepA (D i).a o.op).regs ar.tmps := by
  intro u v hv
  simp only [keepA, keepR_get] at hv
  split at hv
  · rename_i hu
    exact I.operands T hp him ho hi hpi u v (by simp [looksL, namesOf, hu]) hv
  · cases hv

theorem Inv.wanted (I : Inv ops pre base m D V s0 ρ0 w0 lo inS ρ w ar q h t) (T : Trace P call r ops pre base m D V) (hp : PairS ops pre) {i : Nat} {o : Oper} (him : i ≤ m) (ho : ops[i]? = some o) (hi : inS i = false) (hpi : ∀ j, has (nth pre i) j = true → inS j = true) {b : Bool}
    (hw : wantedD ops.toList (D i).a o = some b) : Region.wanted o (yielded ops ar.tmps) = b := by
  rw [← wantedD_keep] at hw
  refine wanted_sound (ρ := ρ) (opsA := ops) rfl ?_ hw
  intro u v hv
  simp only [keepR_get] at hv
  split at hv
  · rename_i hu
    exact I.operands T hp him ho hi hpi u v (by simp [looksL, hu]) hv
  · cases hv

/-- A heap with fewer of the new blocks. -/
theorem Inv.less (I : Inv ops pre base m D V s0 ρ0 w0 lo inS ρ w ar q h t) (T : Trace P call r ops pre base m D V) {keep : Nat → Bool} (hk : ∀ j, keep j = true → keepS inS pre (D q).cs j = true) :
    Rel ρ (heapAdd h keep (D m).fr) w ∧ ∀ k o, (heapAdd h keep (D m).fr).heap.get k = some o → (heapAdd h (keepS inS pre (D q).cs) (D m).fr).heap.get k = some o := by
  obtain ⟨f1, f2⟩ := T.fr_ok m (Nat.le_refl _)
  have f3 := T.fr_iter m (Nat.le_refl _)
  have hmiss : ∀ k o, h.heap.get k = some o → ∀ e ∈ (D m).fr, keepS inS pre (D q).cs e.1 = true → e.2.1 ≠ k := by
    intro k o hg e he hke e2
    have hfl : flushed pre (D q).cs e.1 = false := by
      simp only [keepS, Bool.and_eq_true, Bool.not_eq_true'] at hke; exact hke.2
    obtain ⟨g1, g2⟩ := f1 e he
    rw [← e2, g1, I.nm e.1 (by have := T.le; omega) hfl] at hg
    cases hg
  have sub : ∀ k o, (heapAdd h keep (D m).fr).heap.get k = some o → (heapAdd h (keepS inS pre (D q).cs) (D m).fr).heap.get k = some o := by
    intro k o hg
    rcases heapAdd_cases f2 hg with ⟨e, he, h1, h2, h3⟩ | ⟨h1, _⟩
    · subst h2; subst h3
      exact heapAdd_hit (i := e.1) he (hk _ h1) f2
    · rw [heapAdd_miss (hmiss k o h1)]; exact h1
  refine ⟨I.rel.less (by rw [heapAdd_next, heapAdd_next]; exact Nat.le_refl _) sub (fun k st es hg hit => ?_), sub⟩
  obtain ⟨j, st', seen, hj⟩ := hit
  rcases heapAdd_cases f2 hj with ⟨e, he, _, _, h3⟩ | ⟨h1, _⟩
  · exact (f3 e he _ _ _ h3).elim
  · obtain ⟨st0, es0, h4⟩ := I.it j k st' seen h1
    have h5 : (heapAdd h (keepS inS pre (D q).cs) (D m).fr).heap.get k = h.heap.get k := heapAdd_miss (hmiss k _ h4)
    rw [h5] at hg
    rw [heapAdd_miss (fun e he hke => hmiss k _ h4 e he (hk _ hke))]
    exact hg

/-- The heap on which the interpreter ran an operation, among the others. -/
theorem Trace.heapFor_eq (T : Trace P call r ops pre base m D V) (hP : PreS ops pre) {i : Nat} (him : i ≤ m) (cs : List Nat) (h : St) : heapFor pre cs h (D i).fr (nth pre i) = heapFor pre cs h (D m).fr (nth pre i) := by
  obtain ⟨t, h1, h2⟩ := T.fr_pre i (m - i) (by omega)
  rw [show i + (m - i) = m by omega] at h1
  unfold heapFor
  rw [h1, heapAdd_append]
  rw [heapAdd_none (fr := t)]
  intro e he
  have h3 := h2 e he
  cases h4 : has (nth pre i) e.1 with
  | false => rfl
  | true => have := hP.lt i e.1 h4; omega

theorem Inv.no_entry (T : Trace P call r ops pre base m D V) {i : Nat} (him : i < m) (hfr : (D (i + 1)).fr = (D i).fr) : ∀ e ∈ (D m).fr, e.1 ≠ i := by
  intro e he hei
  have h1 := T.fr_at him he hei
  rw [hfr] at h1
  have := ((T.fr_ok i (by omega)).1 e h1).2
  omega

/-- Nothing but registers turns. -/
theorem Inv.quiet (I : Inv ops pre base m D V s0 ρ0 w0 lo inS ρ w ar q h t) (T : Trace P call r ops pre base m D V) (hp : PairS ops pre) {i : Nat} {o : Oper} (him : i < m) (ho : ops[i]? = some o) (hi : inS i = false) (hpi : ∀ j, has (nth pre i) j = true → inS j = true)
    (hput : (D i).a.put o.dst (V i) = some (D (i + 1)).a) (hfr : (D (i + 1)).fr = (D i).fr) (hcs : (D (i + 1)).cs = (D i).cs) {v' : Value} (hv : VR ρ (V i) v') :
    Inv ops pre base m D V s0 ρ0 w0 lo (addS inS i) ρ w (ar.put o.dst v') q h t := by
  have hne := Inv.no_entry T him hfr
  have hσ : heapAdd h (keepS (addS inS i) pre (D q).cs) (D m).fr = heapAdd h (keepS inS pre (D q).cs) (D m).fr := by
    refine heapAdd_congr (fun e he => ?_)
    have : e.1 ≠ i := hne e he
    simp [keepS, addS, this]
  have hnc : i ∉ (D m).cs := by
    intro hc
    have := (T.cs_iff (j := i + 1) (by omega) (Nat.lt_succ_self _)).1 hc
    rw [hcs] at this
    have := T.cs_lt i (by omega) i this
    omega
  obtain ⟨p1, p2, p3, p4⟩ := put_some hput
  have hnt := (T.regs i (by omega)).1
  refine ⟨fun j hj => ?_, fun j k hj hk => ?_, I.qle, fun c hc => ?_, I.hh, by rw [hσ]; exact I.rel, I.nm, I.it, I.nxt, fun j hj hjs => I.res j hj ?_, by rw [hσ]; exact I.fr, ?_, ?_, ?_⟩
  · rcases (addS_iff _ _ _).1 hj with rfl | hj
    · exact him
    · exact I.lt j hj
  · rcases (addS_iff _ _ _).1 hj with rfl | hj
    · exact (addS_iff _ _ _).2 (.inr (hpi k hk))
    · exact (addS_iff _ _ _).2 (.inr (I.closed j k hj hk))
  · rw [addS_iff, ← I.chain c hc]
    constructor
    · rintro (rfl | h1)
      · exact (hnc hc).elim
      · exact h1
    · exact .inr
  · rcases hjs with h1 | h1
    · simp only [addS, Bool.or_eq_false_iff] at h1; exact .inl h1.2
    · exact .inr h1
  · have := I.size
    cases o.dst <;> simpa [Act.put] using this
  · exact regs_put hp I.closed ho (by simp [hi]) (addS_iff inS i) I.regs hv (fun d hd => by rw [I.size, ← hnt]; exact p3 d hd)
  · have := I.defs
    cases o.dst <;> simpa [Act.put] using this
end
end Go.Hg
