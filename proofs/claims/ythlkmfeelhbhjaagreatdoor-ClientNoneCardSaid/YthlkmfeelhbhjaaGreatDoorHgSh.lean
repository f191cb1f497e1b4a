/- Code: one layer of the interpreter over a sound one. -/
import Derived.Test.YthlkmfeelhbhjaaGreatDoorHgSg
set_option linter.unusedVariables false
set_option linter.unusedSimpArgs false
namespace Go.Hg
variable {P : Program}

inductive Starts : Item → Code → Prop
  | code (c : Code) : Starts (.code c) c
  | loop (body : Code) : Starts (.inLoop body) (.loop body)

def CodeS (P : Program) (r : Bool) (c : Code) (a : ActD) (s : St) (x : ExitD) (a' : ActD) (s' : St) : Prop :=
  ∀ it ρ w lo (b : Frame) ar k cs, Starts it c → b.roundOf.isSome = r → Rel ρ s w → ActR ρ w lo a ar → lo ≤ w.heap.size →
    Runs P (lone (b.atR ar (it :: k)) cs w) ρ s w lo b k cs x a' s'

def ExS (P : Program) (ex : Bool → Code → ActD → St → Option (ExitD × ActD × St)) : Prop :=
  ∀ r c a s x a' s', ex r c a s = some (x, a', s') → CodeS P r c a s x a' s'

section
variable {ρ : Env} {s : St} {w : World} {b : Frame} {ar : Act} {k : List Item} {cs : List Frame}

theorem stepR_scope {c : Code} : step P (lone (b.atR ar (.code (.scope c) :: k)) cs w) = .next (lone (b.atR ar (.code c :: .inScope c :: k)) cs w) :=
  step_lone_go (by simp [stepG, stepG.exec, Frame.atR])
theorem stepR_inScope {c : Code} : step P (lone (b.atR ar (.inScope c :: k)) cs w) = .next (lone (b.atR ar k) cs w) :=
  step_lone_go (by simp [stepG, stepG.exec, Frame.atR])

/-- What stood behind falls away, unless the code came to its end. -/
theorem Reach.cut {ρ' : Env} {m : Machine} {k' : List Item} {ar' : Act} {w' : World} {x : ExitD} (hx : x ≠ .normal) (he : ∀ id, x = .exit id → exitTo id k' = exitTo id k) (hg : ∀ l, x = .goto l → gotoIn l k' = gotoIn l k)
    (h : Reach P ρ' m b k' cs ar' w' x) : Reach P ρ' m b k cs ar' w' x := by
  cases x with
  | normal => exact (hx rfl).elim
  | exit id => obtain ⟨k1, h1, h2⟩ := h; exact ⟨k1, h1.trans (he id rfl), h2⟩
  | goto l => obtain ⟨k1, h1, h2⟩ := h; exact ⟨k1, h1.trans (hg l rfl), h2⟩
  | ret => exact h
  | panic v => exact h

theorem Runs.cut {m : Machine} {lo : Nat} {k' : List Item} {x : ExitD} {a' : ActD} {s' : St} (h : Runs P m ρ s w lo b k' cs x a' s') (hx : x ≠ .normal) (he : ∀ id, x = .exit id → exitTo id k' = exitTo id k) (hg : ∀ l, x = .goto l → gotoIn l k' = gotoIn l k) : Runs P m ρ s w lo b k cs x a' s' := by
  obtain ⟨ρ', w', ar', h1, h2, h3, h4, h5⟩ := h
  exact ⟨ρ', w', ar', h1, h2, h3, h4, h5.cut hx he hg⟩

theorem exitTo_other {id id' : Nat} (h : id ≠ id') : exitTo id (.inBlock id' :: k) = exitTo id k := by
  simp only [exitTo]
  rw [if_neg]
  simpa using fun e => h e.symm

theorem scope_sound {ex : Bool → Code → ActD → St → Option (ExitD × ActD × St)} (he : ExS P ex) {body : Code} {r : Bool} {lo : Nat} (hb : b.roundOf.isSome = r) {x : ExitD} {a' : ActD} {s' : St} :
    ∀ (n : Nat) (c : Code) (a : ActD) (s : St) (ρ : Env) (w : World) (ar : Act), scopeD ex body n r c a s = some (x, a', s') → Rel ρ s w → ActR ρ w lo a ar → lo ≤ w.heap.size →
      Runs P (lone (b.atR ar (.code c :: .inScope body :: k)) cs w) ρ s w lo b k cs x a' s'
  | 0, c, a, s, ρ, w, ar, h, hs, ha, hlo => by cases h
  | n + 1, c, a, s, ρ, w, ar, h, hs, ha, hlo => by
    simp only [scopeD] at h
    split at h
    · rename_i l a1 s1 hex
      obtain ⟨ρ1, w1, ar1, h1, h2, h3, h4, k1, h5, h6⟩ := he _ _ _ _ _ _ _ hex _ ρ w lo b ar (.inScope body :: k) cs (.code c) hb hs ha hlo
      split at h
      · rename_i rest hfl
        have hgo : gotoIn l k1 = some (.code rest :: .inScope body :: k) := by rw [h5]; simp [gotoIn, hfl]
        exact Runs.of_steps (h6.trans (.one (stepR_goto hgo))) h1 h4 (scope_sound he hb n rest a1 s1 ρ1 w1 ar1 h h2 h3 (Nat.le_trans hlo h1.size))
      · rename_i hfl
        simp only [Option.some.injEq, Prod.mk.injEq] at h
        obtain ⟨rfl, rfl, rfl⟩ := h
        exact ⟨ρ1, w1, ar1, h1, h2, h3, h4, k1, by rw [h5]; simp [gotoIn, hfl], h6⟩
    · rename_i hng
      have hr := he _ _ _ _ _ _ _ h _ ρ w lo b ar (.inScope body :: k) cs (.code c) hb hs ha hlo
      by_cases hx : x = .normal
      · subst hx
        obtain ⟨ρ1, w1, ar1, h1, h2, h3, h4, h5⟩ := hr
        exact ⟨ρ1, w1, ar1, h1, h2, h3, h4, Steps.trans h5 (.one stepR_inScope)⟩
      · exact hr.cut hx (fun id _ => rfl) (fun l e => by subst e; exact (hng l a' s' h).elim)
end

theorem execStep_sound {e : Eng} (he : ExS P e.ex) (hc : CallS P e.call)
    (hdraw : ∀ r id (ops : Array Oper) a s x a' s', drawD P e.call r ops.toList a s = some (x, a', s') → CodeS P r (.region id ops true) a s x a' s')
    (hrange : ∀ r f ps as body a s x a' s', rangeFuncD e.call r f ps as body a s = some (x, a', s') → CodeS P r (.rangeFunc f ps as body) a s x a' s') : ExS P (execStep P e) := by
  intro r c a s x a' s' h
  cases c with
  | region id ops draw =>
    cases draw with
    | true => simp only [execStep, cond_true] at h; exact hdraw _ _ _ _ _ _ _ _ h
    | false =>
      simp only [execStep, cond_false] at h
      intro it ρ w lo b ar k cs hst hb hs ha hlo
      cases hst
      have := ops_sound (k := k) (cs := cs) hc hb ops.toList 0 a ar ρ s w rfl h hs ha hlo
      exact Runs.of_steps (.one stepR_region) (.refl _ _ _ _) (Nat.le_refl _) this
  | rangeFunc f ps as body => simp only [execStep] at h; exact hrange _ _ _ _ _ _ _ _ _ _ h
  | skip =>
    simp only [execStep, Option.some.injEq, Prod.mk.injEq] at h
    obtain ⟨rfl, rfl, rfl⟩ := h
    intro it ρ w lo b ar k cs hst hb hs ha hlo
    cases hst
    exact ⟨ρ, w, ar, .refl _ _ _ _, hs, ha, Nat.le_refl _, .one stepR_skip⟩
  | label l =>
    simp only [execStep, Option.some.injEq, Prod.mk.injEq] at h
    obtain ⟨rfl, rfl, rfl⟩ := h
    intro it ρ w lo b ar k cs hst hb hs ha hlo
    cases hst
    exact ⟨ρ, w, ar, .refl _ _ _ _, hs, ha, Nat.le_refl _, .one stepR_label⟩
  | seq c1 c2 =>
    simp only [execStep] at h
    intro it ρ w lo b ar k cs hst hb hs ha hlo
    cases hst
    split at h
    · rename_i a1 s1 hex
      obtain ⟨ρ1, w1, ar1, h1, h2, h3, h4, h5⟩ := he _ _ _ _ _ _ _ hex _ ρ w lo b ar (.code c2 :: k) cs (.code c1) hb hs ha hlo
      have := he _ _ _ _ _ _ _ h _ ρ1 w1 lo b ar1 k cs (.code c2) hb h2 h3 (Nat.le_trans hlo h1.size)
      exact Runs.of_steps (.head stepR_seq h5) h1 h4 this
    · rename_i hnn
      have hr := he _ _ _ _ _ _ _ h _ ρ w lo b ar (.code c2 :: k) cs (.code c1) hb hs ha hlo
      refine Runs.of_steps (.one stepR_seq) (.refl _ _ _ _) (Nat.le_refl _) (hr.cut (fun e => ?_) (fun _ _ => rfl) (fun _ _ => rfl))
      subst e
      exact hnn a' s' h
  | cond c x1 y1 =>
    simp only [execStep] at h
    intro it ρ w lo b ar k cs hst hb hs ha hlo
    cases hst
    split at h
    · rename_i t hcv
      have hv := eval_sound ha.regs hcv
      generalize hg : ar.eval c = cv at hv
      cases hv
      cases t with
      | true =>
        simp only [cond_true] at h
        exact Runs.of_steps (.one (stepR_cond hg)) (.refl _ _ _ _) (Nat.le_refl _) (he _ _ _ _ _ _ _ h _ ρ w lo b ar k cs (.code _) hb hs ha hlo)
      | false =>
        simp only [cond_false] at h
        exact Runs.of_steps (.one (stepR_cond hg)) (.refl _ _ _ _) (Nat.le_refl _) (he _ _ _ _ _ _ _ h _ ρ w lo b ar k cs (.code _) hb hs ha hlo)
    · cases h
  | block id body =>
    simp only [execStep] at h
    intro it ρ w lo b ar k cs hst hb hs ha hlo
    cases hst
    split at h
    · rename_i id' a1 s1 hex
      obtain ⟨ρ1, w1, ar1, h1, h2, h3, h4, k1, h5, h6⟩ := he _ _ _ _ _ _ _ hex _ ρ w lo b ar (.inBlock id :: k) cs (.code body) hb hs ha hlo
      cases hid : Nat.beq id' id with
      | true =>
        rw [hid] at h; simp only [cond_true, Option.some.injEq, Prod.mk.injEq] at h
        obtain ⟨rfl, rfl, rfl⟩ := h
        have := Nat.eq_of_beq_eq_true hid; subst this
        refine ⟨ρ1, w1, ar1, h1, h2, h3, h4, .head stepR_block (h6.trans (.one (stepR_exit ?_)))⟩
        rw [h5]; simp [exitTo]
      | false =>
        rw [hid] at h; simp only [cond_false, Option.some.injEq, Prod.mk.injEq] at h
        obtain ⟨rfl, rfl, rfl⟩ := h
        refine ⟨ρ1, w1, ar1, h1, h2, h3, h4, k1, ?_, .head stepR_block h6⟩
        rw [h5, exitTo_other (Nat.ne_of_beq_eq_false hid)]
    · rename_i hne
      have hr := he _ _ _ _ _ _ _ h _ ρ w lo b ar (.inBlock id :: k) cs (.code body) hb hs ha hlo
      by_cases hx : x = .normal
      · subst hx
        obtain ⟨ρ1, w1, ar1, h1, h2, h3, h4, h5⟩ := hr
        exact ⟨ρ1, w1, ar1, h1, h2, h3, h4, .head stepR_block (Steps.trans h5 (.one stepR_inBlock))⟩
      · refine Runs.of_steps (.one stepR_block) (.refl _ _ _ _) (Nat.le_refl _) (hr.cut hx (fun id' e => ?_) (fun _ _ => rfl))
        subst e
        exact (hne id' a' s' h).elim
  | loop body =>
    simp only [execStep] at h
    intro it ρ w lo b ar k cs hst hb hs ha hlo
    have hfirst : Steps P (lone (b.atR ar (it :: k)) cs w) (lone (b.atR ar (.code body :: .inLoop body :: k)) cs w) := by
      cases hst
      · exact .one stepR_loop
      · exact .one stepR_inLoop
    split at h
    · rename_i a1 s1 hex
      obtain ⟨ρ1, w1, ar1, h1, h2, h3, h4, h5⟩ := he _ _ _ _ _ _ _ hex _ ρ w lo b ar (.inLoop body :: k) cs (.code body) hb hs ha hlo
      exact Runs.of_steps (hfirst.trans h5) h1 h4 (he _ _ _ _ _ _ _ h _ ρ1 w1 lo b ar1 k cs (.loop body) hb h2 h3 (Nat.le_trans hlo h1.size))
    · rename_i hnn
      have hr := he _ _ _ _ _ _ _ h _ ρ w lo b ar (.inLoop body :: k) cs (.code body) hb hs ha hlo
      refine Runs.of_steps hfirst (.refl _ _ _ _) (Nat.le_refl _) (hr.cut (fun e => ?_) (fun _ _ => rfl) (fun _ _ => rfl))
      subst e
      exact hnn a' s' h
  | exit id =>
    simp only [execStep, Option.some.injEq, Prod.mk.injEq] at h
    obtain ⟨rfl, rfl, rfl⟩ := h
    intro it ρ w lo b ar k cs hst hb hs ha hlo
    cases hst
    exact ⟨ρ, w, ar, .refl _ _ _ _, hs, ha, Nat.le_refl _, k, rfl, Steps.refl _ _⟩
  | goto l =>
    simp only [execStep, Option.some.injEq, Prod.mk.injEq] at h
    obtain ⟨rfl, rfl, rfl⟩ := h
    intro it ρ w lo b ar k cs hst hb hs ha hlo
    cases hst
    exact ⟨ρ, w, ar, .refl _ _ _ _, hs, ha, Nat.le_refl _, k, rfl, Steps.refl _ _⟩
  | ret =>
    simp only [execStep, Option.some.injEq, Prod.mk.injEq] at h
    obtain ⟨rfl, rfl, rfl⟩ := h
    intro it ρ w lo b ar k cs hst hb hs ha hlo
    cases hst
    exact ⟨ρ, w, ar, .refl _ _ _ _, hs, ha, Nat.le_refl _, k, Steps.refl _ _⟩
  | scope body =>
    simp only [execStep] at h
    intro it ρ w lo b ar k cs hst hb hs ha hlo
    cases hst
    exact Runs.of_steps (.one stepR_scope) (.refl _ _ _ _) (Nat.le_refl _) (scope_sound he hb _ body a s ρ w ar h hs ha hlo)
  | refuse why => simp [execStep] at h
end Go.Hg
