/- Calls that take and give plain values: what they do from the empty state, they do from any. From a function's run to a call of the model. -/
import Derived.Test.YthlkmfeelhbhjaaGreatDoorHgSt
set_option linter.unusedVariables false
set_option linter.unusedSimpArgs false
namespace Go.Hg
variable {P : Program}

/-- A larger world that holds the same where names lead. -/
theorem Rel.grow {ρ : Env} {s : St} {w w' : World} (hs : Rel ρ s w) (hsz : w.heap.size ≤ w'.heap.size) (hw : ∀ b, b < w.heap.size → w'.heap[b]? = w.heap[b]?) : Rel ρ s w' where
  dom := hs.dom
  obj k o hk := let ⟨L, a, b⟩ := hs.obj k o hk; ⟨L, a, b.congr (hw _ (hs.wf _ _ a))⟩
  inj := hs.inj
  iter := by
    intro k m st seen hk
    obtain ⟨st0, es0, h1, h2, h3⟩ := hs.iter k m st seen hk
    refine ⟨st0, es0, h1, h2, fun h4 h5 L Lm hL hm => ?_⟩
    rw [hw _ (hs.wf _ _ hL), hw _ (hs.wf _ _ hm)]; exact h3 h4 h5 L Lm hL hm
  wf k L hk := Nat.lt_of_lt_of_le (hs.wf k L hk) hsz

def noneEnv : Env := fun _ => none
def empty : St := ⟨.nil, 0⟩

theorem rel_empty (w : World) : Rel noneEnv empty w where
  dom _ _ := ⟨rfl, Tr.get_nil _⟩
  obj k o h := by have : (Tr.nil : Tr Obj).get k = some o := h; simp at this
  inj k k' o o' L L' h := by have : (Tr.nil : Tr Obj).get k = some o := h; simp at this
  iter k m st seen h := by have : (Tr.nil : Tr Obj).get k = some (.iter (some m) st seen) := h; simp at this
  wf k L h := by cases h

/-- What a function does from the empty state: a contract of the model's, for plain arguments. -/
theorem FnS.calls {f : FuncId} {args : List Value} {e : EndD} {s' : St} (h : FnS P f args empty e s') (ha : args.all scalar = true) (he : scalar (valE e) = true) (w : World) :
    ∀ cs, ∃ w' fr, w.heap.size ≤ w'.heap.size ∧ (∀ b, b < w.heap.size → w'.heap[b]? = w.heap[b]?) ∧ w'.os = w.os ∧ w'.output = w.output ∧ w'.tape = w.tape ∧
      Steps P (lone (Frame.enter P f ⟨args⟩ .normal) cs w) (lone fr cs w') ∧ fr.fn = f ∧ fr.leaving P w' (endE e (valE e)) := by
  intro cs
  obtain ⟨ρ', w', fr, v', q1, q2, q3, q4, q5, q6, q7⟩ := h noneEnv w ⟨args⟩ (rel_empty w) (scalars_refl _ ha) cs
  have := scalar_eq q5 he
  subst this
  exact ⟨w', fr, q1.size, fun b hb => q1.keep b hb (fun k L hk => by cases hk), q1.os, q1.output, q1.tape, q6, q4, q7⟩

/-- Plain arguments, a plain answer: the state stands. -/
theorem FnS.closed {f : FuncId} {args : List Value} {e : EndD} {s' : St} (h : FnS P f args empty e s') (ha : args.all scalar = true) (he : scalar (valE e) = true) (s : St) : FnS P f args s e s := by
  intro ρ w args' hs hargs cs
  have : args' = ⟨args⟩ := Array.toList_inj.1 (args_eq ha hargs)
  subst this
  obtain ⟨w', fr, g1, g2, g3, g4, g5, g6, g7, g8⟩ := h.calls ha he w cs
  refine ⟨ρ, w', fr, valE e, ⟨Env.le_refl _, fun _ _ h => h, g1, fun b hb _ => g2 b hb, fun k L hk h0 => (by rw [hk] at h0; cases h0), fun k o L hk hL => .inr ⟨k, o, L, hk, hL, rfl⟩, g3, g4, g5⟩, hs.grow g1 g2, Nat.le_refl _, g7, scalar_refl ρ he, g6, g8⟩

/-- The same as the kit's contract. -/
theorem FnS.contract {f : FuncId} {args : List Value} {v : Value} {s' : St} (h : FnS P f args empty (.ret v) s') (ha : args.all scalar = true) (he : scalar v = true) (w : World) :
    Calls P f ⟨args⟩ w fun e w' => e = .returned v ∧ w.heap.size ≤ w'.heap.size ∧ (∀ b, b < w.heap.size → w'.heap[b]? = w.heap[b]?) ∧ w'.os = w.os ∧ w'.output = w.output ∧ w'.tape = w.tape := by
  intro cs
  obtain ⟨w', fr, g1, g2, g3, g4, g5, g6, g7, g8⟩ := h.calls ha he w cs
  exact ⟨.returned v, w', fr, ⟨rfl, g1, g2, g3, g4, g5⟩, g6, g7, g8⟩
end Go.Hg
