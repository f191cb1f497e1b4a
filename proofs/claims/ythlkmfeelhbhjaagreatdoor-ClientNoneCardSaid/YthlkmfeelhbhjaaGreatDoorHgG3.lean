/- Quick forms: rows of cells, stores, steps of a region. -/
import Derived.Test.YthlkmfeelhbhjaaGreatDoorHgG2
set_option linter.unusedVariables false
set_option linter.unusedSimpArgs false
namespace Go.Hg

abbrev CallT := TargetD → St → Option (EndD × St)
abbrev Kont := ActD → St → Res

/-- So many times the same. -/
noncomputable def replG (v : Value) (n : Nat) : Nat → Tr Value := Nat.rec (motive := fun _ => Nat → Tr Value) (fun _ => .nil)
  (fun _ ih m => Nat.rec (motive := fun _ => Tr Value) .nil (fun k _ => .node (some v) (ih (Nat.div (Nat.succ k) 2)) (ih (Nat.div k 2))) m) n
theorem evens_repl (v : Value) : ∀ n, evens (repl [v] n) = repl [v] ((n + 1) / 2) ∧ odds (repl [v] n) = repl [v] (n / 2) := by
  intro n
  induction n with
  | zero => exact ⟨rfl, rfl⟩
  | succ n ih =>
    have : repl [v] (n + 1) = v :: repl [v] n := rfl
    rw [this, evens_cons, odds_cons, ih.1, ih.2]
    exact ⟨by rw [show (n + 1 + 1) / 2 = n / 2 + 1 by omega]; rfl, rfl⟩
theorem repl_len (l : List Value) : ∀ n, (repl l n).length = n * l.length := by
  intro n
  induction n with
  | zero => simp [repl]
  | succ n ih => simp only [repl, List.length_append, ih]; rw [Nat.succ_mul, Nat.add_comm]
theorem replG_eq (v : Value) : ∀ (n m : Nat), m ≤ n → replG v n m = Tr.ofList (repl [v] m) := by
  intro n
  induction n with
  | zero => intro m h; cases m with
    | zero => rfl
    | succ m => omega
  | succ n ih =>
    intro m h
    cases m with
    | zero => rfl
    | succ k =>
      have e1 : replG v (n + 1) (k + 1) = .node (some v) (replG v n ((k + 1) / 2)) (replG v n (k / 2)) := rfl
      have e2 : Tr.ofList (repl [v] (k + 1)) = Tr.fill (.node (some v) .nil .nil) (2 * 0 + 1) (repl [v] k) := rfl
      rw [e1, e2, (fill_node _ _ _ _ 0).1, (evens_repl v k).1, (evens_repl v k).2, ih _ (by omega), ih _ (by omega)]; rfl

/-! ### New blocks -/
inductive FF where
  | mk (f : Tr Value → Option (Obj × (Nat → Value)))
noncomputable def FF.run (g : FF) : Tr Value → Option (Obj × (Nat → Value)) := FF.rec (motive := fun _ => Tr Value → Option (Obj × (Nat → Value))) (fun f => f) g
theorem freshD_regs (P : Program) (r : Tr Value) (nt : Nat) (ds : List Def) (op : Op) : freshD P ⟨r, nt, ds⟩ op = freshD P ⟨r, 0, []⟩ op := by
  unfold freshD
  simp only [eval_regs r nt ds, evals_regs r nt ds]
noncomputable def slowF (P : Program) (op : Op) : FF := .mk fun regs => freshD P ⟨regs, 0, []⟩ op
theorem slowF_eq (P : Program) (op : Op) (a : ActD) : (slowF P op).run a.regs = freshD P a op := (freshD_regs P a.regs a.nt a.defers op).symm
noncomputable def at0 (k : Nat) : Value := .pointer (some ⟨k, 0, none⟩)
noncomputable def boxO (v : Value) : Obj :=
  @Value.rec (fun _ => Obj) (fun _ => Unit) (fun _ => Unit) (fun _ => .cells 1 0 (.node (some v) .nil .nil)) (fun _ _ => .cells 1 0 (.node (some v) .nil .nil)) (fun _ _ => .cells 1 0 (.node (some v) .nil .nil)) (fun _ _ _ => .cells 1 0 (.node (some v) .nil .nil))
    (fun _ => .cells 1 0 (.node (some v) .nil .nil)) (fun _ => .cells 1 0 (.node (some v) .nil .nil)) (fun _ _ _ => .cells 1 0 (.node (some v) .nil .nil)) (fun _ => .cells 1 0 (.node (some v) .nil .nil)) (fun _ => .cells 1 0 (.node (some v) .nil .nil))
    (fun _ _ _ _ _ => .cells 1 0 (.node (some v) .nil .nil)) (.cells 1 0 (.node (some v) .nil .nil)) (fun _ _ _ => .cells 1 0 (.node (some v) .nil .nil)) (.cells 1 0 (.node (some v) .nil .nil)) (fun cs _ => .cells (lenF (arrL cs)) 0 (ofListF (arrL cs)))
    (fun _ _ => .cells 1 0 (.node (some v) .nil .nil)) (fun _ _ => ()) () (fun _ _ _ _ => ()) v
theorem boxO_eq (v : Value) : boxO v = .cells (cellsOf v).length 0 (Tr.ofList (cellsOf v)) := by
  cases v <;> try rfl
  rename_i cs
  show Obj.cells (lenF cs.toList) 0 (ofListF cs.toList) = Obj.cells cs.toList.length 0 (Tr.ofList cs.toList)
  rw [lenF_eq, ofListF_eq]
noncomputable def boxF (x : Operand) : FF := match getO x with
  | .mk g => .mk fun regs => Option.rec (motive := fun _ => Option (Obj × (Nat → Value))) none (fun v => some (boxO v, at0)) (g regs)

/-- A row of noughts of one cell each. -/
noncomputable def rowF (bytes : Nat) (z : Value) (l c : Int) : Option (Obj × (Nat → Value)) :=
  cond (decide (0 ≤ l) && decide (l ≤ c) && decide (bytes * c ≤ most) && decide (c ≤ most)) (some (.cells c.toNat 0 (replG z c.toNat c.toNat), fun k => .slice (some ⟨k, 0, none⟩) l.toNat c.toNat)) none
noncomputable def makeF (P : Program) (t : TypeId) (l c : Operand) : FF := match undQ P t with
  | some (.slice elem) => match szQ P elem, bytesQ P elem, zeroQ P elem with
    | some 1, some bytes, some z => match cellsOf z with
      | [z'] => match getO l, getO c with
        | .mk g, .mk h => .mk fun regs => match g regs, h regs with
          | some (.int .i64 l), some (.int .i64 c) => rowF bytes z' l c
          | _, _ => none
      | _ => slowF P (.makeSlice t l c)
    | _, _, _ => slowF P (.makeSlice t l c)
  | _ => slowF P (.makeSlice t l c)

noncomputable def compF (P : Program) (op : Op) : FF := match op with
  | .alloc t => .mk fun _ => freshD P ⟨.nil, 0, []⟩ (.alloc t)
  | .box _ x => boxF x
  | .makeSlice t l c => makeF P t l c
  | op => slowF P op

theorem compF_eq (P : Program) (op : Op) (a : ActD) : (compF P op).run a.regs = freshD P a op := by
  unfold compF
  split
  · rfl
  · rename_i t x
    simp only [freshD, ← getO_eq, boxF]
    cases getO x with
    | mk g =>
      show Option.rec (motive := fun _ => Option (Obj × (Nat → Value))) none (fun v => some (boxO v, at0)) (g a.regs) = match g a.regs with
        | some v => some (.cells (cellsOf v).length 0 (Tr.ofList (cellsOf v)), at0)
        | none => none
      cases g a.regs with
      | none => rfl
      | some v => simp only [boxO_eq]
  · rename_i t l c
    unfold makeF
    simp only [undQ_eq, szQ_eq, bytesQ_eq, zeroQ_eq]
    split
    · rename_i elem he
      split
      · rename_i bytes z hs hb hz
        split
        · rename_i z' hz'
          have h1 := getO_eq l a
          have h2 := getO_eq c a
          cases hg : getO l with
          | mk g => cases hh : getO c with
            | mk h =>
              rw [hg] at h1
              rw [hh] at h2
              have h1' : g a.regs = a.eval l := h1
              have h2' : h a.regs = a.eval c := h2
              show (match g a.regs, h a.regs with
                | some (.int .i64 l), some (.int .i64 c) => rowF bytes z' l c
                | _, _ => none) = _
              simp only [freshD, he, ← h1', ← h2']
              generalize g a.regs = ol
              generalize h a.regs = oc
              rcases ol with _ | vl
              · rfl
              · cases vl <;> try rfl
                rename_i kl l
                cases kl <;> try rfl
                rcases oc with _ | vc
                · rfl
                · cases vc <;> try rfl
                  rename_i kc c
                  cases kc <;> try rfl
                  simp only [hs, hb, hz, hz', rowF]
                  have e1 : Nat.beq [z'].length 1 = true := rfl
                  rw [e1, Bool.and_true, replG_eq _ _ _ (Nat.le_refl _), repl_len, List.length_singleton, Nat.mul_one]
        · exact slowF_eq _ _ _
      · exact slowF_eq _ _ _
    · exact slowF_eq _ _ _
  · exact slowF_eq _ _ _
end Go.Hg
