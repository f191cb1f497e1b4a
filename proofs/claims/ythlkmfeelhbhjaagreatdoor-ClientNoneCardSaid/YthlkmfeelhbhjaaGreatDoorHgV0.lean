/- From a run of the quick interpreter to what a function does. -/
import Derived.Test.YthlkmfeelhbhjaaGreatDoorHgG6
import Derived.Test.YthlkmfeelhbhjaaGreatDoorHgU0
set_option linter.unusedVariables false
set_option linter.unusedSimpArgs false
noncomputable section
namespace Go.Hg
variable {P : Program}

/-- Does it answer true? -/
def retB (c : C) : Bool := C.rec (motive := fun _ => Bool) false (fun v _ _ => @Value.rec (fun _ => Bool) (fun _ => Unit) (fun _ => Unit) (fun b => b) (fun _ _ => false) (fun _ _ => false) (fun _ _ _ => false) (fun _ => false) (fun _ => false) (fun _ _ _ => false) (fun _ => false) (fun _ => false)
    (fun _ _ _ _ _ => false) false (fun _ _ _ => false) false (fun _ _ => false) (fun _ _ => false) (fun _ _ => ()) () (fun _ _ _ _ => ()) v) (fun _ _ _ => false) c
theorem retB_eq {c : C} (h : retB c = true) : ∃ hp nx, c = .ret (.bool true) hp nx := by
  cases c with
  | bad => cases h
  | panic v hp nx => cases h
  | ret v hp nx =>
    cases v <;> try cases h
    exact ⟨hp, nx, rfl⟩

/-- No function bears the one name that the model takes apart. -/
def namedF (l : List Func) : Bool := List.rec (motive := fun _ => Bool) true (fun fn _ ih => Bool.rec (motive := fun _ => Bool) ih false (fn.name == "runtime.NumGoroutine")) l
theorem named_of (h : namedF P.funcs.toList = true) : Named P := by
  have gen : ∀ l : List Func, namedF l = true → ∀ fn ∈ l, fn.name ≠ "runtime.NumGoroutine" := by
    intro l
    induction l with
    | nil => intro _ fn h; cases h
    | cons g l ih =>
      intro h fn hfn
      have e : namedF (g :: l) = cond (g.name == "runtime.NumGoroutine") false (namedF l) := brec _ _ _
      rw [e] at h
      cases hg : g.name == "runtime.NumGoroutine" with
      | true => rw [hg] at h; cases h
      | false =>
        rw [hg] at h
        rcases List.mem_cons.1 hfn with rfl | hm
        · intro h2; rw [h2] at hg; exact absurd hg (by decide)
        · exact ih h fn hm
  intro f fn hf _
  exact gen _ h fn (List.mem_of_getElem? (by rw [Array.getElem?_toList]; exact hf))

theorem fnS_of_run (hN : Named P) (hm : P.follows .mixedOrders = true) {O : Oracle} (hO : OracleS P O) {n : Nat} {f : FuncId} {fn : Func} {c : Code} (hf : P.funcs[f]? = some fn) (hb : fn.body = some c) {args : List Value} (hOf : ∀ s, O f args s = none)
    (h : retB ((engQ P O (n + 1)).call (.fn f args) .nil 0) = true) : ∃ s', FnS P f args empty (.ret (.bool true)) s' := by
  obtain ⟨hp, nx, h1⟩ := retB_eq h
  have h2 := engQ_eq P O (n + 1)
  have h3 : (toEng (engQ P O (n + 1))).call (.fn f args) empty = some (.ret (.bool true), ⟨hp, nx⟩) := by
    show toE ((engQ P O (n + 1)).call (.fn f args) .nil 0) = _
    rw [h1]; rfl
  rw [h2] at h3
  have h4 : callStep P O (eng P O n) (.fn f args) empty = some (.ret (.bool true), ⟨hp, nx⟩) := h3
  simp only [callStep, hOf] at h4
  exact ⟨_, run_calls hN hm hO hf hb h4⟩

/-- Nothing is known ahead. -/
theorem oracleS_none : OracleS P noOracle := by intro f args s e s' h; cases h

/-- One function without arguments that answers true. -/
def oneTrue (g : Nat) : Oracle := fun f args s => Bool.rec (motive := fun _ => Option (EndD × St)) none (List.rec (motive := fun _ => Option (EndD × St)) (some (.ret (.bool true), s)) (fun _ _ _ => none) args) (Nat.beq f g)
theorem oneTrue_sound {g : FuncId} {fn : Func} {c : Code} (hf : P.funcs[g]? = some fn) (hb : fn.body = some c) {s0 : St} (h : FnS P g [] empty (.ret (.bool true)) s0) : OracleS P (oneTrue g) := by
  intro f args s e s' ho
  unfold oneTrue at ho
  rw [brec] at ho
  cases hfg : Nat.beq f g with
  | false => rw [hfg] at ho; cases ho
  | true =>
    rw [hfg] at ho
    have := Nat.eq_of_beq_eq_true hfg
    subst this
    cases args with
    | cons a l => cases ho
    | nil =>
      injection ho with ho
      injection ho with h1 h2
      subst h1; subst h2
      exact ⟨⟨fn, c, hf, hb⟩, h.closed rfl rfl s⟩
theorem oneTrue_other {f g : FuncId} (h : Nat.beq f g = false) (args : List Value) (s : St) : oneTrue g f args s = none := by
  unfold oneTrue; rw [brec, h]; rfl
end Go.Hg
