/- What a function leads to, quickly: the closed facts of a row that go over the whole program. -/
import Derived.Test.YthlkmfeelhbhjaaGreatDoorHgG6
import GoSem.ClaimFn
import Derived.JoinedOf
set_option linter.unusedVariables false
set_option linter.unusedSimpArgs false
noncomputable section
namespace Go.Hg
variable (P : Program)

def leadQ (g : FuncId) : List FuncId := Option.rec (motive := fun _ => List FuncId) [] (fun fn => P.leadsTo fn) ((fnsT P).get g)
theorem leadQ_eq (g : FuncId) : leadQ P g = (P.funcs[g]?).elim [] P.leadsTo := by
  unfold leadQ; rw [fnsT_eq]; cases P.funcs[g]? <;> rfl
def appL {α : Type} (l m : List α) : List α := List.rec (motive := fun _ => List α) m (fun x _ ih => x :: ih) l
theorem appL_eq {α : Type} (l m : List α) : appL l m = l ++ m := by
  induction l with
  | nil => rfl
  | cons x l ih => exact congrArg (x :: ·) ih
def revL {α : Type} (l : List α) : List α → List α := List.rec (motive := fun _ => List α → List α) (fun m => m) (fun x _ ih m => ih (x :: m)) l
theorem revL_eq {α : Type} (l : List α) : ∀ m, revL l m = l.reverse ++ m := by
  induction l with
  | nil => intro m; rfl
  | cons x l ih => intro m; rw [List.reverse_cons, List.append_assoc]; exact ih (x :: m)

def closeQ (n : Nat) : List FuncId → Tr Unit → List FuncId → List FuncId :=
  Nat.rec (motive := fun _ => List FuncId → Tr Unit → List FuncId → List FuncId) (fun _ _ seen => revL seen [])
    (fun _ ih todo set seen => List.rec (motive := fun _ => List FuncId) (revL seen []) (fun f todo _ => Option.rec (motive := fun _ => List FuncId) (ih (appL (leadQ P f) todo) (set.put f (some ())) (f :: seen)) (fun _ => ih todo set seen) (set.get f)) todo) n

theorem closeQ_eq : ∀ (n : Nat) (todo : List FuncId) (set : Tr Unit) (seen : List FuncId), (∀ f, (set.get f).isSome = seen.contains f) → closeQ P n todo set seen = P.closureVia n todo seen := by
  intro n
  induction n with
  | zero => intro todo set seen _; show revL seen [] = _; rw [revL_eq, List.append_nil]; unfold Program.closureVia; rfl
  | succ n ih =>
    intro todo set seen h
    cases todo with
    | nil => show revL seen [] = _; rw [revL_eq, List.append_nil]; unfold Program.closureVia; rfl
    | cons f todo =>
      have h0 : closeQ P (n + 1) (f :: todo) set seen = match set.get f with
          | none => closeQ P n (appL (leadQ P f) todo) (set.put f (some ())) (f :: seen)
          | some _ => closeQ P n todo set seen := by
        show Option.rec (motive := fun _ => List FuncId) _ _ (set.get f) = _
        cases set.get f <;> rfl
      rw [h0]
      have hf := h f
      unfold Program.closureVia
      cases hg : set.get f with
      | some u =>
        rw [hg] at hf
        have hc : seen.contains f = true := hf.symm
        rw [if_pos hc]
        exact ih _ _ _ h
      | none =>
        rw [hg] at hf
        have hc : seen.contains f = false := hf.symm
        rw [if_neg (by rw [hc]; exact Bool.false_ne_true)]
        rw [← leadQ_eq, ← appL_eq]
        refine ih _ _ _ (fun j => ?_)
        rw [Tr.get_put]
        by_cases hj : j = f
        · subst hj; simp
        · rw [if_neg hj, h j]
          simp [List.contains_cons, hj]

def fuelQ (l : List Func) : Nat := List.rec (motive := fun _ => Nat) 0 (fun fn _ ih => Nat.add (Nat.add (lenF (P.leadsTo fn)) 1) ih) l
theorem fuelQ_eq (l : List Func) : fuelQ P l = (l.map fun g => (P.leadsTo g).length + 1).sum := by
  induction l with
  | nil => rfl
  | cons fn l ih =>
    rw [List.map_cons, List.sum_cons, ← ih, ← lenF_eq]; rfl
theorem closure_of {f : FuncId} {n : Nat} {L : List FuncId} (hn : fuelQ P P.funcs.toList = n) (h : closeQ P (1 + n) [f] .nil [] = L) : P.closure f = L := by
  unfold Program.closure
  rw [← fuelQ_eq, hn, ← h, closeQ_eq]
  intro g; rfl

/-! ### The facts, over a closure that is known -/
def mapQ {β : Type} (F : Func → Option β) (L : List FuncId) : List β :=
  List.rec (motive := fun _ => List β) [] (fun g _ ih => Option.rec (motive := fun _ => List β) ih (fun fn => Option.rec (motive := fun _ => List β) ih (fun b => b :: ih) (F fn)) ((fnsT P).get g)) L
theorem mapQ_eq {β : Type} (F : Func → Option β) (L : List FuncId) : mapQ P F L = L.filterMap fun g => (P.funcs[g]?).bind F := by
  induction L with
  | nil => rfl
  | cons g L ih =>
    have h0 : mapQ P F (g :: L) = match (fnsT P).get g with
        | none => mapQ P F L
        | some fn => match F fn with
          | none => mapQ P F L
          | some b => b :: mapQ P F L := by
      show Option.rec (motive := fun _ => List β) _ _ ((fnsT P).get g) = _
      cases (fnsT P).get g with
      | none => rfl
      | some fn =>
        show Option.rec (motive := fun _ => List β) (mapQ P F L) (fun b => b :: mapQ P F L) (F fn) = match F fn with
          | none => mapQ P F L
          | some b => b :: mapQ P F L
        cases F fn <;> rfl
    rw [h0, fnsT_eq, List.filterMap_cons, ih]
    cases P.funcs[g]? with
    | none => rfl
    | some fn =>
      simp only [Option.bind_some]
      cases F fn <;> rfl
def anyQ (F : Func → Bool) (L : List FuncId) : Bool :=
  List.rec (motive := fun _ => Bool) false (fun g _ ih => Option.rec (motive := fun _ => Bool) ih (fun fn => Bool.rec (motive := fun _ => Bool) ih true (F fn)) ((fnsT P).get g)) L
theorem anyQ_eq (F : Func → Bool) (L : List FuncId) : anyQ P F L = L.any fun g => (P.funcs[g]?).any F := by
  induction L with
  | nil => rfl
  | cons g L ih =>
    have h0 : anyQ P F (g :: L) = match (fnsT P).get g with
        | none => anyQ P F L
        | some fn => cond (F fn) true (anyQ P F L) := by
      show Option.rec (motive := fun _ => Bool) _ _ ((fnsT P).get g) = _
      cases (fnsT P).get g with
      | none => rfl
      | some fn => exact brec _ _ _
    rw [h0, fnsT_eq, List.any_cons, ih]
    cases P.funcs[g]? with
    | none => rfl
    | some fn =>
      simp only [Option.any_some]
      cases F fn <;> rfl
def flatQ {β : Type} (F : Func → List β) (L : List FuncId) : List β :=
  List.rec (motive := fun _ => List β) [] (fun g _ ih => Option.rec (motive := fun _ => List β) ih (fun fn => appL (F fn) ih) ((fnsT P).get g)) L
theorem flatQ_eq {β : Type} (F : Func → List β) (L : List FuncId) : flatQ P F L = L.flatMap fun g => (P.funcs[g]?).elim [] F := by
  induction L with
  | nil => rfl
  | cons g L ih =>
    have h0 : flatQ P F (g :: L) = match (fnsT P).get g with
        | none => flatQ P F L
        | some fn => appL (F fn) (flatQ P F L) := by
      show Option.rec (motive := fun _ => List β) _ _ ((fnsT P).get g) = _
      cases (fnsT P).get g <;> rfl
    rw [h0, fnsT_eq, List.flatMap_cons, ih]
    cases P.funcs[g]? with
    | none => rfl
    | some fn => exact appL_eq _ _

theorem inPlace_of {f : FuncId} {L : List FuncId} (hL : P.closure f = L) {l : List String} (h : mapQ P (fun fn => if fn.ours || fn.body.isNone || fn.name == "runtime.NumGoroutine" then some fn.name else none) L = l) : P.inPlace f = l := by
  unfold Program.inPlace; rw [hL, ← mapQ_eq, h]
theorem unfollowed_of {f : FuncId} {L : List FuncId} (hL : P.closure f = L) {b : Bool} (h : anyQ P (fun fn => match fn.body with | some c => c.unfollowed | none => entryCalls fn) L = b) : P.unfollowed f = b := by
  unfold Program.unfollowed; rw [hL, ← h, anyQ_eq]
  congr 1
theorem recurses_of {f : FuncId} (h : P.unfollowed f = true) : P.recurses f = true := by
  unfold Program.recurses; rw [h]; rfl
theorem varsNamed_of {f : FuncId} {L : List FuncId} (hL : P.closure f = L) {G : List Nat} (hG : flatQ P (fun fn => fn.body.elim [] Code.globalsNamed) L = G) {E : List String} (hE : mapQ P (fun fn => if fn.body.isNone then entryReads.lookup fn.name else none) L = E)
    {l : List String} (h : ((G.eraseDups).filterMap (fun g => (P.globals[g]?).map (·.name)) ++ E).eraseDups = l) : P.varsNamed f = l := by
  unfold Program.varsNamed
  rw [hL, ← mapQ_eq, hE, ← h, ← hG, flatQ_eq]
  have : (fun g : FuncId => ((P.funcs[g]?).bind (fun fn : Func => fn.body)).elim [] Code.globalsNamed) = fun g : FuncId => (P.funcs[g]?).elim [] (fun fn : Func => fn.body.elim [] Code.globalsNamed) := by
    funext g; cases P.funcs[g]? <;> rfl
  rw [this]
end Go.Hg
