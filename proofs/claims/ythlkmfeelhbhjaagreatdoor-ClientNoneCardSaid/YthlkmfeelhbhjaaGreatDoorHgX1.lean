/- Is the program laid out as its types say, quickly. -/
import Derived.Test.YthlkmfeelhbhjaaGreatDoorHgX0
import GoSem.ClaimDataLaid
import GoSem.ClaimGoes
import GoSem.ClaimSevenParts
set_option linter.unusedVariables false
set_option linter.unusedSimpArgs false
noncomputable section
namespace Go.Hg
variable (P : Program)

def isVarQ (n t : Nat) : Bool := decide (t < n) && kindOk (undQ P t)
theorem isVarQ_eq (t : TypeId) : isVarQ P P.types.size t = isVar P t := by unfold isVarQ isVar; rw [undQ_eq]; rfl
def cellsQ (t : TypeId) : Nat := (szQ P t).getD 0
theorem cellsQ_eq (t : TypeId) : cellsQ P t = P.cellsOf t := by
  unfold cellsQ Program.cellsOf; rw [szQ_eq]; unfold szOf
  cases P.info? t <;> rfl
def rowFineQ (n : Nat) (t : TypeId) : Bool :=
  !isVarQ P n t ||
  match undQ P t with
  | some (.struct fs) => fs.toList.all (fun f => isVarQ P n f.type) && cellsQ P t == (fs.toList.map fun f => cellsQ P f.type).sum &&
      (List.range fs.toList.length).all fun j => match fs.toList[j]? with | some f => f.offset == ((fs.toList.take j).map fun f => cellsQ P f.type).sum | none => true
  | some (.array m e) => isVarQ P n e && cellsQ P t == m * cellsQ P e
  | some (.pointer e) => isVarQ P n e && cellsQ P t == 1
  | some (.slice e) => isVarQ P n e && cellsQ P t == 1
  | _ => cellsQ P t == 1
theorem rowFineQ_eq (t : TypeId) : rowFineQ P P.types.size t = rowFine P t := by
  unfold rowFineQ rowFine
  simp only [isVarQ_eq, cellsQ_eq, undQ_eq]
  have : und P t = P.underlying t := rfl
  rw [this]
  congr 1

/-- All numbers below n. -/
def allBelow (f : Nat → Bool) (n : Nat) : Bool := Nat.rec (motive := fun _ => Bool) true (fun k ih => Bool.rec (motive := fun _ => Bool) false ih (f k)) n
theorem allBelow_eq (f : Nat → Bool) (n : Nat) (h : allBelow f n = true) : (List.range n).all f = true := by
  induction n with
  | zero => rfl
  | succ n ih =>
    have e : allBelow f (n + 1) = cond (f n) (allBelow f n) false := brec _ _ _
    rw [e] at h
    rw [List.range_succ, List.all_append]
    cases hf : f n with
    | false => rw [hf] at h; cases h
    | true => rw [hf] at h; rw [ih h]; simp [hf]

theorem laidOut_of {n : Nat} (hn : lenF P.types.toList = n) (h1 : allBelow (rowFineQ P n) n = true) (h2 : allF (fun g : Global => Nat.ble (Nat.succ g.type) n) P.globals.toList = true)
    (h3 : allF (fun f : Func => allF (fun t => Nat.ble (Nat.succ t) n) f.params.toList) P.funcs.toList = true) : laidOutB P = true := by
  rw [lenF_eq, Array.length_toList] at hn
  subst hn
  have e1 := allBelow_eq _ _ h1
  have hf : (rowFineQ P P.types.size) = rowFine P := by funext t; exact rowFineQ_eq P t
  rw [hf] at e1
  have hd : ∀ a : Nat, Nat.ble (Nat.succ a) P.types.size = decide (a < P.types.size) := fun a => ble_le
  unfold laidOutB
  rw [e1, Bool.true_and]
  rw [allF_eq] at h2 h3
  simp only [hd] at h2
  rw [← Array.all_toList, h2, Bool.true_and, ← Array.all_toList]
  rw [List.all_eq_true] at h3 ⊢
  intro f hm
  have h4 := h3 f hm
  rw [allF_eq] at h4
  simp only [hd] at h4
  rw [← Array.all_toList]; exact h4

/-! ### No goroutine; a look -/
theorem goes_none (h : anyF Func.goes P.funcs.toList = false) (f : FuncId) : P.goes f = false := by
  rw [anyF_eq] at h
  have h2 : P.funcs.any Func.goes = false := by rw [← Array.any_toList]; exact h
  unfold Program.goes
  rw [h2, Bool.and_false, Bool.or_false]
  rw [List.any_eq_false] at h ⊢
  intro g _
  cases hg : P.funcs[g]? with
  | none => simp
  | some fn =>
    rw [Option.any_some]
    exact h fn (List.mem_of_getElem? (i := g) (by rw [Array.getElem?_toList]; exact hg))
theorem goesBy_of (h : anyF Func.goes P.funcs.toList = false) {c : OpenClaim} (hs : c.start = .entering) : c.goesBy P = false := by
  unfold OpenClaim.goesBy Program.goesAt Program.goesFrom
  rw [hs]
  cases P.funcNamed c.func with
  | none => rfl
  | some f => simp [goes_none P h f]

def lookQ (g : FuncId) : Bool := Option.rec (motive := fun _ => Bool) false (fun fn => Option.rec (motive := fun _ => Bool) false (fun c => c.looks P) fn.body) ((fnsT P).get g)
theorem looks_of {g : FuncId} (hg : Nat.ble (Nat.succ g) (lenF P.funcs.toList) = true) (h : lookQ P g = true) : P.looks [] = true := by
  unfold Program.looks
  rw [List.any_eq_true]
  refine ⟨g, ?_, ?_⟩
  · rw [lenF_eq, Array.length_toList] at hg
    exact List.mem_range.2 (Nat.le_of_ble_eq_true hg)
  · unfold lookQ at h
    rw [fnsT_eq] at h
    cases hf : P.funcs[g]? with
    | none => rw [hf] at h; cases h
    | some fn =>
      rw [hf] at h
      have h' : Option.rec (motive := fun _ => Bool) false (fun c => c.looks P) fn.body = true := h
      rw [Option.any_some]
      cases hb : fn.body with
      | none => rw [hb] at h'; cases h'
      | some c => rw [hb] at h'; simpa using h'
end Go.Hg
