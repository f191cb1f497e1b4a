/- Quick forms: code, calls. -/
import Derived.Test.YthlkmfeelhbhjaaGreatDoorHgG4
set_option linter.unusedVariables false
set_option linter.unusedSimpArgs false
noncomputable section
namespace Go.Hg

/-- The two faces of the quick interpreter. -/
structure EngR where
  ex : Bool → Code → KR
  call : CallR
def toEx (e : EngR) : Bool → Code → ActD → St → Res := fun r c a s => toD (e.ex r c a.regs a.nt a.defers s.heap s.next)
def toEng (e : EngR) : Eng := ⟨toEx e, toCall e.call⟩

section
variable (P : Program)

/-- A region's operations, one behind the other. -/
inductive RK where
  | mk (f : CallR → Bool → KR)
def RK.run (g : RK) : CallR → Bool → KR := RK.rec (motive := fun _ => CallR → Bool → KR) (fun f => f) g
def compOps (all l : List Oper) : RK := List.rec (motive := fun _ => RK) (.mk fun _ _ r nt ds hp nx => .norm r nt ds hp nx)
  (fun o _ ih => OF.rec (motive := fun _ => RK) (fun f => RK.rec (motive := fun _ => RK) (fun g => .mk fun call round => f call round (g call round)) ih) (compO P all o)) l

theorem opsR_eq (call : CallR) (round : Bool) (all l : List Oper) : ∀ (a : ActD) (s : St), toD ((compOps P all l).run call round a.regs a.nt a.defers s.heap s.next) = opsD P (toCall call) round all l a s := by
  induction l with
  | nil => intro a s; rfl
  | cons o l ih =>
    intro a s
    have h : (compOps P all (o :: l)).run call round = (compO P all o).run call round ((compOps P all l).run call round) := by
      have h0 : compOps P all (o :: l) = OF.rec (motive := fun _ => RK) (fun f => RK.rec (motive := fun _ => RK) (fun g => .mk fun call round => f call round (g call round)) (compOps P all l)) (compO P all o) := rfl
      rw [h0]
      cases compO P all o with
      | mk f => cases compOps P all l with
        | mk g => rfl
    have h2 : toK ((compOps P all l).run call round) = opsD P (toCall call) round all l := by funext a s; exact ih a s
    rw [h, compO_eq, opsD_cons, h2]

/-! ### Code -/
def seqR (z : R) (k : KR) : R := R.rec (motive := fun _ => R) .bad (fun r nt ds hp nx => k r nt ds hp nx) (fun _ _ _ _ _ _ => z) (fun _ _ _ _ _ _ => z) (fun _ _ _ _ _ => z) (fun _ _ _ _ _ _ => z) z
theorem seqR_eq (z : R) (k : KR) : toD (seqR z k) = match toD z with
  | some (.normal, a', s') => toK k a' s'
  | o => o := by cases z <;> rfl
def vBoolR (f : Bool → R) (x : Value) : R :=
  @Value.rec (fun _ => R) (fun _ => Unit) (fun _ => Unit) f (fun _ _ => .bad) (fun _ _ => .bad) (fun _ _ _ => .bad) (fun _ => .bad) (fun _ => .bad) (fun _ _ _ => .bad) (fun _ => .bad) (fun _ => .bad)
    (fun _ _ _ _ _ => .bad) .bad (fun _ _ _ => .bad) .bad (fun _ _ => .bad) (fun _ _ => .bad) (fun _ _ => ()) () (fun _ _ _ _ => ()) x
def blockR (id : Nat) (z : R) : R := R.rec (motive := fun _ => R) .bad (fun _ _ _ _ _ => z) (fun id' r nt ds hp nx => Bool.rec (motive := fun _ => R) z (.norm r nt ds hp nx) (Nat.beq id' id)) (fun _ _ _ _ _ _ => z) (fun _ _ _ _ _ => z) (fun _ _ _ _ _ _ => z) z
theorem blockR_eq (id : Nat) (z : R) : toD (blockR id z) = match toD z with
  | some (.exit id', a', s') => cond (Nat.beq id' id) (some (.normal, a', s')) (some (.exit id', a', s'))
  | o => o := by
  cases z <;> try rfl
  rename_i id' r nt ds hp nx
  show toD (Bool.rec (motive := fun _ => R) _ _ (Nat.beq id' id)) = cond (Nat.beq id' id) _ _
  rw [brec]
  cases Nat.beq id' id <;> rfl

variable (drawR : CallR → Bool → List Oper → KR)

/-- Code, made ready. -/
inductive CE where
  | mk (f : EngR → Bool → KR)
def compE (c : Code) : CE :=
  Code.rec (motive := fun _ => CE)
    (.mk fun _ _ rg nt ds hp nx => .norm rg nt ds hp nx)
    (fun _ ops draw => Bool.rec (motive := fun _ => CE) (RK.rec (motive := fun _ => CE) (fun f => .mk fun e r => f e.call r) (compOps P ops.toList ops.toList)) (.mk fun e r => drawR e.call r ops.toList) draw)
    (fun x y _ _ => .mk fun e r rg nt ds hp nx => seqR (e.ex r x rg nt ds hp nx) (e.ex r y))
    (fun c x y _ _ => G.rec (motive := fun _ => CE) (fun g => .mk fun e r rg nt ds hp nx => Option.rec (motive := fun _ => R) .bad (fun v => vBoolR (fun b => Bool.rec (motive := fun _ => R) (e.ex r y rg nt ds hp nx) (e.ex r x rg nt ds hp nx) b) v) (g rg)) (getO c))
    (fun id body _ => .mk fun e r rg nt ds hp nx => blockR id (e.ex r body rg nt ds hp nx))
    (fun body _ => .mk fun e r rg nt ds hp nx => seqR (e.ex r body rg nt ds hp nx) (e.ex r (.loop body)))
    (fun f ps as body _ _ => .mk fun e r rg nt ds hp nx => ofD (rangeFuncD (toCall e.call) r f ps as body ⟨rg, nt, ds⟩ ⟨hp, nx⟩))
    (fun id => .mk fun _ _ rg nt ds hp nx => .exit id rg nt ds hp nx)
    (fun body _ => .mk fun e r rg nt ds hp nx => ofD (scopeD (toEx e) body 1048576 r body ⟨rg, nt, ds⟩ ⟨hp, nx⟩))
    (fun _ => .mk fun _ _ rg nt ds hp nx => .norm rg nt ds hp nx)
    (fun l => .mk fun _ _ rg nt ds hp nx => .goto l rg nt ds hp nx)
    (.mk fun _ _ rg nt ds hp nx => .ret rg nt ds hp nx)
    (fun _ => .mk fun _ _ _ _ _ _ _ => .bad) c
def execR (e : EngR) (r : Bool) (c : Code) : KR := CE.rec (motive := fun _ => KR) (fun f => f e r) (compE P drawR c)

theorem execR_eq (hd : ∀ call round ops a s, toD (drawR call round ops a.regs a.nt a.defers s.heap s.next) = drawD P (toCall call) round ops a s) (e : EngR) (r : Bool) (c : Code) (a : ActD) (s : St) :
    toD (execR P drawR e r c a.regs a.nt a.defers s.heap s.next) = execStep P (toEng e) r c a s := by
  cases c with
  | skip => rfl
  | region id ops draw => cases draw with
    | false =>
      have h0 : execR P drawR e r (.region id ops false) = (compOps P ops.toList ops.toList).run e.call r := by
        show CE.rec (motive := fun _ => KR) (fun f => f e r) (RK.rec (motive := fun _ => CE) (fun f => .mk fun e r => f e.call r) (compOps P ops.toList ops.toList)) = _
        cases compOps P ops.toList ops.toList with
        | mk f => rfl
      rw [h0]
      exact opsR_eq P e.call r ops.toList ops.toList a s
    | true => exact hd e.call r ops.toList a s
  | seq x y => exact seqR_eq _ _
  | cond c x y =>
    have h0 : execR P drawR e r (.cond c x y) = CE.rec (motive := fun _ => KR) (fun f => f e r) (G.rec (motive := fun _ => CE) (fun g => .mk fun e r rg nt ds hp nx => Option.rec (motive := fun _ => R) .bad (fun v => vBoolR (fun b => Bool.rec (motive := fun _ => R) (e.ex r y rg nt ds hp nx) (e.ex r x rg nt ds hp nx) b) v) (g rg)) (getO c)) := rfl
    rw [h0]
    simp only [execStep, ← getO_eq c a]
    cases getO c with
    | mk g =>
      show toD (Option.rec (motive := fun _ => R) .bad (fun v => vBoolR (fun b => Bool.rec (motive := fun _ => R) (e.ex r y a.regs a.nt a.defers s.heap s.next) (e.ex r x a.regs a.nt a.defers s.heap s.next) b) v) (g a.regs)) = match g a.regs with
        | some (.bool b) => _root_.cond b (toEx e r x a s) (toEx e r y a s)
        | _ => none
      cases g a.regs with
      | none => rfl
      | some v => cases v <;> try rfl
                  rename_i b
                  cases b <;> rfl
  | block id body => exact blockR_eq _ _
  | loop body => exact seqR_eq _ _
  | rangeFunc f ps as body => exact toD_ofD _
  | exit id => rfl
  | scope body => exact toD_ofD _
  | label l => rfl
  | goto l => rfl
  | ret => rfl
  | refuse w => rfl

/-! ### Calls -/
inductive RF where
  | mk (f : Rg → Hp → Nat → Option Value)
def RF.run (g : RF) : Rg → Hp → Nat → Option Value := RF.rec (motive := fun _ => Rg → Hp → Nat → Option Value) (fun f => f) g

def tmpsR : List ResultVar → Option (List Operand)
  | [] => some []
  | .tmp t :: rs => match tmpsR rs with
    | some l => some (.tmp t :: l)
    | none => none
  | _ => none
def retL (l : List Value) : Option Value :=
  List.rec (motive := fun _ => Option Value) (some (.tuple ⟨[]⟩)) (fun v m _ => List.rec (motive := fun _ => Option Value) (some v) (fun w n _ => some (.tuple ⟨v :: w :: n⟩)) m) l
def resQ (fn : Func) : RF := match tmpsR fn.results.toList with
  | some l => match getS l with
    | .mk g => .mk fun r _ _ => Option.rec (motive := fun _ => Option Value) none (fun vs => retL vs) (g r)
  | none => .mk fun r hp nx => resultsD P fn ⟨r, 0, []⟩ ⟨hp, nx⟩
theorem tmpsR_eq (a : ActD) (s : St) : ∀ (rs : List ResultVar) (l : List Operand), tmpsR rs = some l → resultsL P a s rs = evals a l := by
  intro rs
  induction rs with
  | nil => intro l h; simp only [tmpsR, Option.some.injEq] at h; subst h; rfl
  | cons r rs ih =>
    intro l h
    cases r with
    | cell t ty => simp [tmpsR] at h
    | tmp t =>
      simp only [tmpsR] at h
      cases h2 : tmpsR rs with
      | none => simp [h2] at h
      | some l2 =>
        simp only [h2, Option.some.injEq] at h
        subst h
        simp only [resultsL, evals, ih l2 h2]
        rfl
theorem resultD_regs (r : Rg) (nt : Nat) (ds : List Def) (s : St) : ∀ rs, resultsL P ⟨r, nt, ds⟩ s rs = resultsL P ⟨r, 0, []⟩ s rs := by
  intro rs
  induction rs with
  | nil => rfl
  | cons x rs ih => cases x <;> simp only [resultsL, resultD, ih]
theorem resQ_eq (fn : Func) (a : ActD) (s : St) : (resQ P fn).run a.regs s.heap s.next = resultsD P fn a s := by
  unfold resQ
  split
  · rename_i l hl
    simp only [resultsD, tmpsR_eq P a s _ l hl, ← getS_eq]
    cases getS l with
    | mk g =>
      show Option.rec (motive := fun _ => Option Value) none (fun vs => retL vs) (g a.regs) = match g a.regs with
        | some [v] => some v
        | some vs => some (.tuple ⟨vs⟩)
        | none => none
      rcases g a.regs with _ | _ | ⟨v, _ | ⟨w, n⟩⟩ <;> rfl
  · show resultsD P fn ⟨a.regs, 0, []⟩ ⟨s.heap, s.next⟩ = _
    unfold resultsD
    rw [← resultD_regs P a.regs a.nt a.defers]

inductive CF where
  | no
  | ext (fn : Func)
  | mk (fn : Func) (c : Code) (nt : Nat) (r : Rg → Hp → Nat → Option Value)
def fnsT : Tr Func := ofListF P.funcs.toList
theorem fnsT_eq (f : FuncId) : (fnsT P).get f = P.funcs[f]? := by
  rw [fnsT, ofListF_eq, Tr.get_ofList, Array.getElem?_toList]
def compC (f : FuncId) : CF := match (fnsT P).get f with
  | some fn => match fn.body with
    | some c => match resQ P fn with
      | .mk r => .mk fn c fn.ntmps r
    | none => .ext fn
  | none => .no
def maxF (m n : Nat) : Nat := Bool.rec (motive := fun _ => Nat) m n (Nat.ble m n)
theorem maxF_eq (m n : Nat) : maxF m n = Nat.max m n := by
  unfold maxF; rw [brec, ble_le]
  by_cases h : m ≤ n
  · rw [decide_eq_true h]; exact (Nat.max_eq_right h).symm
  · rw [decide_eq_false h]; exact (Nat.max_eq_left (Nat.le_of_lt (Nat.lt_of_not_le h))).symm

def leaveR (e : EngR) (fn : Func) (res : Rg → Hp → Nat → Option Value) (r : Rg) (nt : Nat) (ds : List Def) (hp : Hp) (nx : Nat) : C :=
  List.rec (motive := fun _ => C) (Option.rec (motive := fun _ => C) .bad (fun v => .ret v hp nx) (res r hp nx)) (fun _ _ _ => ofE (leaveD P (toEx e) (toCall e.call) fn ⟨r, nt, ds⟩ ds .returning ⟨hp, nx⟩)) ds
theorem leaveR_eq (e : EngR) (fn : Func) (a : ActD) (s : St) : toE (leaveR P e fn (resQ P fn).run a.regs a.nt a.defers s.heap s.next) = leaveD P (toEx e) (toCall e.call) fn a a.defers .returning s := by
  obtain ⟨r, nt, ds⟩ := a
  unfold leaveR
  cases ds with
  | nil =>
    show toE (Option.rec (motive := fun _ => C) .bad (fun v => .ret v s.heap s.next) ((resQ P fn).run r s.heap s.next)) = _
    have := resQ_eq P fn ⟨r, nt, []⟩ s
    rw [this]
    simp only [leaveD]
    cases resultsD P fn ⟨r, nt, []⟩ s <;> rfl
  | cons d ds => exact toE_ofE _
def callR (e : EngR) (f : FuncId) (args : List Value) (hp : Hp) (nx : Nat) : C :=
  CF.rec (motive := fun _ => C) .bad
    (fun fn => Option.rec (motive := fun _ => C) .bad (fun v => .ret v hp nx) (extD fn args))
    (fun fn c nt res => R.rec (motive := fun _ => C) .bad (fun r nt ds hp nx => leaveR P e fn res r nt ds hp nx) (fun _ _ _ _ _ _ => .bad) (fun _ _ _ _ _ _ => .bad) (fun r nt ds hp nx => leaveR P e fn res r nt ds hp nx)
      (fun v r nt ds hp nx => ofE (leaveD P (toEx e) (toCall e.call) fn ⟨r, nt, ds⟩ ds (.panicking v) ⟨hp, nx⟩)) (e.ex false c (ofListF args) (maxF nt (lenF args)) [] hp nx)) (compC P f)
theorem callR_eq (e : EngR) (f : FuncId) (args : List Value) (s : St) : toE (callR P e f args s.heap s.next) = callFn P (toEx e) (toCall e.call) f args s := by
  unfold callR callFn compC
  rw [fnsT_eq]
  cases P.funcs[f]? with
  | none => rfl
  | some fn =>
    simp only
    cases hb : fn.body with
    | none =>
      show toE (Option.rec (motive := fun _ => C) .bad (fun v => .ret v s.heap s.next) (extD fn args)) = _
      simp only
      cases extD fn args <;> rfl
    | some c =>
      simp only
      cases hr : resQ P fn with
      | mk res =>
        have e2 : res = (resQ P fn).run := by rw [hr]; rfl
        subst e2
        show toE (R.rec (motive := fun _ => C) .bad (fun r nt ds hp nx => leaveR P e fn (resQ P fn).run r nt ds hp nx) (fun _ _ _ _ _ _ => .bad) (fun _ _ _ _ _ _ => .bad) (fun r nt ds hp nx => leaveR P e fn (resQ P fn).run r nt ds hp nx)
          (fun v r nt ds hp nx => ofE (leaveD P (toEx e) (toCall e.call) fn ⟨r, nt, ds⟩ ds (.panicking v) ⟨hp, nx⟩)) (e.ex false c (ofListF args) (maxF fn.ntmps (lenF args)) [] s.heap s.next)) = _
        have e3 : toEx e false c ⟨Tr.ofList args, Nat.max fn.ntmps args.length, []⟩ s = toD (e.ex false c (ofListF args) (maxF fn.ntmps (lenF args)) [] s.heap s.next) := by
          rw [ofListF_eq, maxF_eq, lenF_eq]; rfl
        rw [e3]
        cases e.ex false c (ofListF args) (maxF fn.ntmps (lenF args)) [] s.heap s.next with
        | bad => rfl
        | norm r nt ds hp nx => exact leaveR_eq P e fn ⟨r, nt, ds⟩ ⟨hp, nx⟩
        | exit id r nt ds hp nx => rfl
        | goto l r nt ds hp nx => rfl
        | ret r nt ds hp nx => exact leaveR_eq P e fn ⟨r, nt, ds⟩ ⟨hp, nx⟩
        | panic v r nt ds hp nx => exact toE_ofE _

/-! ### Rounds -/
def setPs (r : Rg) (nt : Nat) (ts : List Tmp) : List Value → Option Rg := List.rec (motive := fun _ => Rg → List Value → Option Rg)
  (fun r vs => List.rec (motive := fun _ => Option Rg) (some r) (fun _ _ _ => none) vs)
  (fun t _ ih r vs => List.rec (motive := fun _ => Option Rg) none (fun v vs _ => Bool.rec (motive := fun _ => Option Rg) none (ih (r.put t (some v)) vs) (Nat.ble (Nat.succ t) nt)) vs) ts r
theorem setPs_eq (nt : Nat) : ∀ (ts : List Tmp) (r : Rg) (vs : List Value), setPs r nt ts vs = setParams r nt ts vs := by
  intro ts
  induction ts with
  | nil => intro r vs; cases vs <;> rfl
  | cons t ts ih =>
    intro r vs
    cases vs with
    | nil => rfl
    | cons v vs =>
      show Bool.rec (motive := fun _ => Option Rg) none (setPs (r.put t (some v)) nt ts vs) (Nat.ble (Nat.succ t) nt) = _
      rw [brec, ih]; rfl
def onLoop (o : Option Obj) (f : LoopState → Option Code → Rg → Nat → List Tmp → Code → Code → C) : C :=
  Option.rec (motive := fun _ => C) .bad (fun ob => Obj.rec (motive := fun _ => C) (fun _ _ _ => .bad) (fun _ _ => .bad) (fun L => LoopD.rec (motive := fun _ => C) (fun st pe rg nt ps as bo => f st pe rg nt ps as bo) L) (fun _ _ _ => .bad) ob) o
def onReady (st : LoopState) (z : C) : C := match st with
  | .ready => z
  | _ => .bad
def endRoundR (l : Nat) (jump : Option Code) (hp : Hp) (nx : Nat) : C :=
  onLoop (hp.get l) (fun _ _ rg nt ps as bo => .ret (.bool jump.isNone) (hp.put l (some (.loop ⟨cond jump.isNone .ready .done, jump, rg, nt, ps, as, bo⟩))) nx)
def roundR (e : EngR) (l : Nat) (args : List Value) (hp : Hp) (nx : Nat) : C :=
  onLoop (hp.get l) (fun _ _ rg nt ps as bo => Option.rec (motive := fun _ => C) .bad (fun r => R.rec (motive := fun _ => C) .bad
    (fun r1 nt1 ds1 hp1 nx1 => onLoop (hp1.get l) (fun st pe rg' nt' ps' as' bo' => onReady st
      (R.rec (motive := fun _ => C) .bad (fun _ _ _ hp2 nx2 => endRoundR l none hp2 nx2) (fun id _ _ _ hp2 nx2 => endRoundR l (some (.exit id)) hp2 nx2) (fun t _ _ _ hp2 nx2 => endRoundR l (some (.goto t)) hp2 nx2)
        (fun _ _ _ hp2 nx2 => endRoundR l (some .ret) hp2 nx2) (fun _ _ _ _ _ _ => .bad)
        (e.ex true bo r1 nt1 ds1 (hp1.put l (some (.loop ⟨.busy, pe, rg', nt', ps', as', bo'⟩))) nx1))))
    (fun _ _ _ _ _ _ => .bad) (fun _ _ _ _ _ _ => .bad) (fun _ _ _ _ _ => .bad) (fun _ _ _ _ _ _ => .bad) (e.ex true as r nt [] hp nx)) (setPs rg nt ps args))
theorem endRoundR_eq (l : Nat) (jump : Option Code) (s : St) : toE (endRoundR l jump s.heap s.next) = endRoundD s l jump := by
  unfold endRoundR endRoundD loopAt onLoop
  cases s.heap.get l with
  | none => rfl
  | some o => cases o <;> rfl
theorem roundR_eq (e : EngR) (l : Nat) (args : List Value) (s : St) : toE (roundR e l args s.heap s.next) = roundD (toEx e) l args s := by
  unfold roundR roundD loopAt
  cases s.heap.get l with
  | none => rfl
  | some o =>
    cases o <;> try rfl
    rename_i L
    obtain ⟨st, pe, rg, nt, ps, as, bo⟩ := L
    show toE (Option.rec (motive := fun _ => C) .bad _ (setPs rg nt ps args)) = _
    rw [setPs_eq]
    simp only
    cases setParams rg nt ps args with
    | none => rfl
    | some r =>
      have e1 : toEx e true as ⟨r, nt, []⟩ s = toD (e.ex true as r nt [] s.heap s.next) := rfl
      simp only [e1]
      cases e.ex true as r nt [] s.heap s.next with
      | bad => rfl
      | exit id r nt ds hp nx => rfl
      | goto id r nt ds hp nx => rfl
      | ret r nt ds hp nx => rfl
      | panic v r nt ds hp nx => rfl
      | norm r1 nt1 ds1 hp1 nx1 =>
        show toE (onLoop (hp1.get l) _) = _
        simp only [toD]
        cases hp1.get l with
        | none => rfl
        | some o1 =>
          cases o1 <;> try rfl
          rename_i L1
          obtain ⟨st1, pe1, rg1, nt1', ps1, as1, bo1⟩ := L1
          cases st1 <;> try rfl
          have e2 : toEx e true bo ⟨r1, nt1, ds1⟩ (St.setObj ⟨hp1, nx1⟩ l (.loop ⟨.busy, pe1, rg1, nt1', ps1, as1, bo1⟩)) = toD (e.ex true bo r1 nt1 ds1 (hp1.put l (some (.loop ⟨.busy, pe1, rg1, nt1', ps1, as1, bo1⟩))) nx1) := rfl
          show toE (R.rec (motive := fun _ => C) .bad (fun _ _ _ hp2 nx2 => endRoundR l none hp2 nx2) (fun id _ _ _ hp2 nx2 => endRoundR l (some (.exit id)) hp2 nx2) (fun t _ _ _ hp2 nx2 => endRoundR l (some (.goto t)) hp2 nx2)
            (fun _ _ _ hp2 nx2 => endRoundR l (some .ret) hp2 nx2) (fun _ _ _ _ _ _ => .bad)
            (e.ex true bo r1 nt1 ds1 (hp1.put l (some (.loop ⟨.busy, pe1, rg1, nt1', ps1, as1, bo1⟩))) nx1)) = _
          simp only [e2]
          cases e.ex true bo r1 nt1 ds1 (hp1.put l (some (.loop ⟨.busy, pe1, rg1, nt1', ps1, as1, bo1⟩))) nx1 with
          | bad => rfl
          | norm r nt ds hp nx => exact endRoundR_eq l none ⟨hp, nx⟩
          | exit id r nt ds hp nx => exact endRoundR_eq l (some (.exit id)) ⟨hp, nx⟩
          | goto t r nt ds hp nx => exact endRoundR_eq l (some (.goto t)) ⟨hp, nx⟩
          | ret r nt ds hp nx => exact endRoundR_eq l (some .ret) ⟨hp, nx⟩
          | panic v r nt ds hp nx => rfl

def callStepR (O : Oracle) (e : EngR) (t : TargetD) (hp : Hp) (nx : Nat) : C :=
  TargetD.rec (motive := fun _ => C) (fun f args => Option.rec (motive := fun _ => C) (callR P e f args hp nx) (fun r => ofE (some r)) (O f args ⟨hp, nx⟩)) (fun l args => roundR e l args hp nx) t
theorem callStepR_eq (O : Oracle) (e : EngR) : toCall (callStepR P O e) = callStep P O (toEng e) := by
  funext t s
  cases t with
  | yield l args => exact roundR_eq e l args s
  | fn f args =>
    show toE (Option.rec (motive := fun _ => C) (callR P e f args s.heap s.next) (fun r => ofE (some r)) (O f args s)) = _
    simp only [callStep, toEng, ← callR_eq]
    cases O f args s with
    | none => rfl
    | some r => exact toE_ofE _

def engR (O : Oracle) (n : Nat) : EngR := Nat.rec (motive := fun _ => EngR) ⟨fun _ _ _ _ _ _ _ => .bad, fun _ _ _ => .bad⟩ (fun _ e => ⟨execR P drawR e, callStepR P O e⟩) n
theorem engR_eq (hd : ∀ call round ops a s, toD (drawR call round ops a.regs a.nt a.defers s.heap s.next) = drawD P (toCall call) round ops a s) (O : Oracle) : ∀ n, toEng (engR P drawR O n) = eng P O n := by
  intro n
  induction n with
  | zero => rfl
  | succ n ih =>
    have e1 : toEx (engR P drawR O (n + 1)) = execStep P (toEng (engR P drawR O n)) := by
      funext r c a s
      exact execR_eq P drawR hd (engR P drawR O n) r c a s
    have e2 : toCall (engR P drawR O (n + 1)).call = callStep P O (toEng (engR P drawR O n)) := callStepR_eq P O (engR P drawR O n)
    show (⟨toEx (engR P drawR O (n + 1)), toCall (engR P drawR O (n + 1)).call⟩ : Eng) = _
    rw [e1, e2, ih]; rfl
end
end Go.Hg
