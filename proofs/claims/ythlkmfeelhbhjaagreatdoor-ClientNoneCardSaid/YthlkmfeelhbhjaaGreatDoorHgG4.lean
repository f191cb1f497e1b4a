/- Quick forms: the state apart, ends of their own; the steps of a region in text order. -/
import Derived.Test.YthlkmfeelhbhjaaGreatDoorHgG3b
set_option linter.unusedVariables false
set_option linter.unusedSimpArgs false
noncomputable section
namespace Go.Hg

abbrev Rg := Tr Value
abbrev Hp := Tr Obj

inductive R where
  | bad
  | norm (r : Rg) (nt : Nat) (ds : List Def) (hp : Hp) (nx : Nat)
  | exit (id : Nat) (r : Rg) (nt : Nat) (ds : List Def) (hp : Hp) (nx : Nat)
  | goto (l : Nat) (r : Rg) (nt : Nat) (ds : List Def) (hp : Hp) (nx : Nat)
  | ret (r : Rg) (nt : Nat) (ds : List Def) (hp : Hp) (nx : Nat)
  | panic (v : Value) (r : Rg) (nt : Nat) (ds : List Def) (hp : Hp) (nx : Nat)
inductive C where
  | bad
  | ret (v : Value) (hp : Hp) (nx : Nat)
  | panic (v : Value) (hp : Hp) (nx : Nat)
inductive OutR where
  | bad
  | val (v : Value) (hp : Hp) (nx : Nat)
  | defer (d : Def)
  | panic (v : Value) (hp : Hp) (nx : Nat)

def toD : R → Res
  | .bad => none
  | .norm r nt ds hp nx => some (.normal, ⟨r, nt, ds⟩, ⟨hp, nx⟩)
  | .exit id r nt ds hp nx => some (.exit id, ⟨r, nt, ds⟩, ⟨hp, nx⟩)
  | .goto l r nt ds hp nx => some (.goto l, ⟨r, nt, ds⟩, ⟨hp, nx⟩)
  | .ret r nt ds hp nx => some (.ret, ⟨r, nt, ds⟩, ⟨hp, nx⟩)
  | .panic v r nt ds hp nx => some (.panic v, ⟨r, nt, ds⟩, ⟨hp, nx⟩)
def ofD : Res → R
  | none => .bad
  | some (.normal, a, s) => .norm a.regs a.nt a.defers s.heap s.next
  | some (.exit id, a, s) => .exit id a.regs a.nt a.defers s.heap s.next
  | some (.goto l, a, s) => .goto l a.regs a.nt a.defers s.heap s.next
  | some (.ret, a, s) => .ret a.regs a.nt a.defers s.heap s.next
  | some (.panic v, a, s) => .panic v a.regs a.nt a.defers s.heap s.next
theorem toD_ofD (z : Res) : toD (ofD z) = z := by
  rcases z with _ | ⟨x, a, s⟩
  · rfl
  · cases x <;> rfl
def toE : C → Option (EndD × St)
  | .bad => none
  | .ret v hp nx => some (.ret v, ⟨hp, nx⟩)
  | .panic v hp nx => some (.panic v, ⟨hp, nx⟩)
def ofE : Option (EndD × St) → C
  | none => .bad
  | some (.ret v, s) => .ret v s.heap s.next
  | some (.panic v, s) => .panic v s.heap s.next
theorem toE_ofE (z : Option (EndD × St)) : toE (ofE z) = z := by rcases z with _ | ⟨_ | _, s⟩ <;> rfl
def toO : OutR → Option OutD
  | .bad => none
  | .val v hp nx => some (.val v ⟨hp, nx⟩)
  | .defer d => some (.defer d)
  | .panic v hp nx => some (.panic v ⟨hp, nx⟩)
def ofO : Option OutD → OutR
  | none => .bad
  | some (.val v s) => .val v s.heap s.next
  | some (.defer d) => .defer d
  | some (.panic v s) => .panic v s.heap s.next
theorem toO_ofO (z : Option OutD) : toO (ofO z) = z := by rcases z with _ | _ | _ | _ <;> rfl

abbrev KR := Rg → Nat → List Def → Hp → Nat → R
abbrev CallR := TargetD → Hp → Nat → C
def toCall (c : CallR) : CallT := fun t s => toE (c t s.heap s.next)
def toK (k : KR) : Kont := fun a s => toD (k a.regs a.nt a.defers s.heap s.next)

section step
variable (P : Program)

/-- One operation of a region, and what comes behind it. -/
def stepD (call : CallT) (round : Bool) (all : List Oper) (o : Oper) (k : Kont) (a : ActD) (s : St) : Res :=
  match wantedD all a o with
  | some true => match operD P call round a s o with
    | some (.val v s') => match a.put o.dst v with
      | some a' => k a' s'
      | none => none
    | some (.defer d) => match ActD.put ⟨a.regs, a.nt, d :: a.defers⟩ o.dst undefD with
      | some a' => k a' s
      | none => none
    | some (.panic v s') => some (.panic v, a, s')
    | none => none
  | some false => match a.put o.dst undefD with
    | some a' => k a' s
    | none => none
  | none => none

theorem opsD_cons (call : CallT) (round : Bool) (all : List Oper) (o : Oper) (rest : List Oper) (a : ActD) (s : St) :
    opsD P call round all (o :: rest) a s = stepD P call round all o (opsD P call round all rest) a s := by
  simp only [opsD, stepD]
  rfl

inductive PF where
  | mk (f : Value → Rg → Nat → (Rg → R) → R)
def PF.run (g : PF) : Value → Rg → Nat → (Rg → R) → R := PF.rec (motive := fun _ => Value → Rg → Nat → (Rg → R) → R) (fun f => f) g
def putO (dst : Option Tmp) : PF := match dst with
  | none => .mk fun _ r _ k => k r
  | some d => match setC (pathOf d) with
    | .mk q => .mk fun v r nt k => Bool.rec (motive := fun _ => R) .bad (k (q v r)) (Nat.ble (Nat.succ d) nt)
theorem putO_eq (dst : Option Tmp) (v : Value) (a : ActD) (k : Rg → R) : toD ((putO dst).run v a.regs a.nt k) = match a.put dst v with
  | some a' => toD (k a'.regs)
  | none => none := by
  cases dst with
  | none => rfl
  | some d =>
    simp only [putO, setC_eq]
    show toD (Bool.rec (motive := fun _ => R) .bad (k (setP (pathOf d) v a.regs)) (Nat.ble (Nat.succ d) a.nt)) = _
    rw [brec, setP_of]
    simp only [ActD.put, Nat.blt]
    cases Nat.ble (d + 1) a.nt <;> rfl
theorem put_nt {a a' : ActD} {dst : Option Tmp} {v : Value} (h : a.put dst v = some a') : a'.nt = a.nt ∧ a'.defers = a.defers := by
  cases dst with
  | none => injection h with h; subst h; exact ⟨rfl, rfl⟩
  | some d =>
    simp only [ActD.put] at h
    cases hb : Nat.blt d a.nt with
    | false => rw [hb] at h; cases h
    | true => rw [hb] at h; simp only [cond_true, Option.some.injEq] at h; subst h; exact ⟨rfl, rfl⟩

inductive OF where
  | mk (f : CallR → Bool → KR → KR)
def OF.run (g : OF) : CallR → Bool → KR → KR := OF.rec (motive := fun _ => CallR → Bool → KR → KR) (fun f => f) g

/-! ### Stores -/
def stC (hp : Hp) (nx : Nat) (k off : Nat) (v : Value) : OutR :=
  Option.rec (motive := fun _ => OutR) .bad (fun ob => Obj.rec (motive := fun _ => OutR)
    (fun n g c => Option.rec (motive := fun _ => OutR) .bad (fun _ => .val undefD (hp.put k (some (.cells n g (c.put off (some v))))) nx) (c.get off)) (fun _ _ => .bad) (fun _ => .bad) (fun _ _ _ => .bad) ob) (hp.get k)
def outS (z : Option St) : Option OutD := match z with
  | some s' => some (.val undefD s')
  | none => none
theorem stC_eq (s : St) (k off : Nat) (v : Value) (h : oneCell v = true) : toO (stC s.heap s.next k off v) = outS (storeAtD s k off [v]) := by
  unfold stC
  simp only [storeAtD, St.cells]
  cases s.heap.get k with
  | none => rfl
  | some ob =>
    cases ob <;> try rfl
    rename_i n g c
    show toO (Option.rec (motive := fun _ => OutR) .bad _ (c.get off)) = _
    simp only [storeN, h]
    cases c.get off <;> rfl
def stA (hp : Hp) (nx : Nat) (v : Value) (fb : OutR) (ad : Addr) : OutR :=
  Addr.rec (motive := fun _ => OutR) (fun k off spot => Option.rec (motive := fun _ => OutR) (stC hp nx k off v) (fun _ => fb) spot) ad
def stP (hp : Hp) (nx : Nat) (v : Value) (fb : OutR) (p : Value) : OutR :=
  @Value.rec (fun _ => OutR) (fun _ => Unit) (fun _ => Unit) (fun _ => fb) (fun _ _ => fb) (fun _ _ => fb) (fun _ _ _ => fb) (fun _ => fb) (fun oa => Option.rec (motive := fun _ => OutR) fb (stA hp nx v fb) oa)
    (fun _ _ _ => fb) (fun _ => fb) (fun _ => fb) (fun _ _ _ _ _ => fb) fb (fun _ _ _ => fb) fb (fun _ _ => fb) (fun _ _ => fb) (fun _ _ => ()) () (fun _ _ _ _ => ()) p
def stV (hp : Hp) (nx : Nat) (fb : OutR) (p v : Value) : OutR :=
  @Value.rec (fun _ => OutR) (fun _ => Unit) (fun _ => Unit) (fun _ => stP hp nx v fb p) (fun _ _ => stP hp nx v fb p) (fun _ _ => fb) (fun _ _ _ => fb) (fun _ => stP hp nx v fb p) (fun _ => stP hp nx v fb p)
    (fun _ _ _ => stP hp nx v fb p) (fun _ => stP hp nx v fb p) (fun _ => fb) (fun _ _ _ _ _ => stP hp nx v fb p) (stP hp nx v fb p) (fun _ _ _ => stP hp nx v fb p) (stP hp nx v fb p) (fun _ _ => fb) (fun _ _ => fb) (fun _ _ => ()) () (fun _ _ _ _ => ()) v
theorem stP_eq {t : TypeId} (h : szOf P t = some 1) (s : St) (p v : Value) (h1 : oneCell v = true) (h2 : cellsOf v = [v]) (fb : OutR) (hfb : toO fb = outS (storeD P t p v s)) : toO (stP s.heap s.next v fb p) = outS (storeD P t p v s) := by
  cases p <;> try exact hfb
  rename_i oa
  rcases oa with _ | ⟨k, off, _ | sp⟩ <;> try exact hfb
  show toO (stC s.heap s.next k off v) = _
  rw [stC_eq s k off v h1]
  simp only [storeD, h, h2]
  rfl
theorem stV_eq {t : TypeId} (h : szOf P t = some 1) (s : St) (p v : Value) (fb : OutR) (hfb : toO fb = outS (storeD P t p v s)) : toO (stV s.heap s.next fb p v) = outS (storeD P t p v s) := by
  cases v <;> first | exact hfb | exact stP_eq P h s p _ rfl rfl fb hfb

/-! ### What an operation comes to -/
inductive XF where
  | mk (f : CallR → Bool → Rg → Nat → List Def → Hp → Nat → OutR)
def XF.run (g : XF) : CallR → Bool → Rg → Nat → List Def → Hp → Nat → OutR := XF.rec (motive := fun _ => CallR → Bool → Rg → Nat → List Def → Hp → Nat → OutR) (fun f => f) g
def endX (z : C) : OutR := C.rec (motive := fun _ => OutR) .bad (fun v hp nx => .val v hp nx) (fun v hp nx => .panic v hp nx) z
theorem endX_eq (z : C) : toO (endX z) = match toE z with
  | some (.ret v, s') => some (OutD.val v s')
  | some (.panic v, s') => some (.panic v s')
  | none => none := by cases z <;> rfl
def callXf (g : FuncId) (args : List Operand) : XF := match getS args with
  | .mk h => .mk fun call _ r _ _ hp nx => Option.rec (motive := fun _ => OutR) .bad (fun vs => endX (call (.fn g vs) hp nx)) (h r)
def callXv (f : Operand) (args : List Operand) : XF := match getO f, getS args with
  | .mk g, .mk h => .mk fun call _ r _ _ hp nx => Option.rec (motive := fun _ => OutR) .bad (fun fv => Option.rec (motive := fun _ => OutR) .bad (fun vs =>
      Option.rec (motive := fun _ => OutR) .bad (fun t => endX (call t hp nx)) (targetD fv vs)) (h r)) (g r)
def callX (f : Operand) (args : List Operand) : XF := match f with
  | .func g => callXf g args
  | f => callXv f args
def storeX (t : TypeId) (x y : Operand) : XF := match getO x, getO y with
  | .mk g, .mk h => match szQ P t with
    | some 1 => .mk fun _ _ r _ _ hp nx => Option.rec (motive := fun _ => OutR) .bad (fun u => Option.rec (motive := fun _ => OutR) .bad (fun v =>
      stV hp nx (ofO (outS (storeD P t u v ⟨hp, nx⟩))) u v) (h r)) (g r)
    | _ => .mk fun _ _ r _ _ hp nx => Option.rec (motive := fun _ => OutR) .bad (fun u => Option.rec (motive := fun _ => OutR) .bad (fun v =>
      ofO (outS (storeD P t u v ⟨hp, nx⟩))) (h r)) (g r)
def appO (z : Option (Value × St)) : OutR := Option.rec (motive := fun _ => OutR) .bad (fun q => Prod.rec (motive := fun _ => OutR) (fun w s' => St.rec (motive := fun _ => OutR) (fun hp nx => .val w hp nx) s') q) z
def appX (t : TypeId) (t2 : Option TypeId) (x y : Operand) : XF := match getO x, getO y, compA P t t2 with
  | .mk g, .mk h, .mk f => .mk fun _ _ r _ _ hp nx => Option.rec (motive := fun _ => OutR) .bad (fun u => Option.rec (motive := fun _ => OutR) .bad (fun v => appO (f u v hp nx)) (h r)) (g r)
def freshX (op : Op) : XF := match compF P op with
  | .mk l => .mk fun _ _ r _ _ hp nx => Option.rec (motive := fun _ => OutR) .bad (fun bf => Prod.rec (motive := fun _ => OutR) (fun b f => .val (f nx) (hp.put nx (some b)) (Nat.succ nx)) bf) (l r)
def slowX (o : Oper) : XF := .mk fun call round r nt ds hp nx => ofO (operD P (toCall call) round ⟨r, nt, ds⟩ ⟨hp, nx⟩ o)
/-- The operations but light ones. -/
def compX (o : Oper) : XF := match cls o.op with
  | 0 => slowX P o
  | 1 => freshX P o.op
  | _ => match o.op with
    | .call { callee := .value f, args, .. } => callX f args.toList
    | .store t x y => storeX P t x y
    | .call { callee := .builtin .append, args := ⟨[x, y]⟩, argTypes := ⟨t :: ts⟩ } => appX P t ts.head? x y
    | _ => slowX P o

theorem callX_eq (f : Operand) (args : List Operand) (call : CallR) (round : Bool) (a : ActD) (s : St) : toO ((callX f args).run call round a.regs a.nt a.defers s.heap s.next) =
    match a.eval f, evals a args with
      | some f, some vs => match targetD f vs with
        | some t => match toCall call t s with
          | some (.ret v, s') => some (.val v s')
          | some (.panic v, s') => some (.panic v s')
          | none => none
        | none => none
      | _, _ => none := by
  have gen : toO ((callXv f args).run call round a.regs a.nt a.defers s.heap s.next) =
    match a.eval f, evals a args with
      | some f, some vs => match targetD f vs with
        | some t => match toCall call t s with
          | some (.ret v, s') => some (.val v s')
          | some (.panic v, s') => some (.panic v s')
          | none => none
        | none => none
      | _, _ => none := by
    rw [← getO_eq f a, ← getS_eq args a]
    unfold callXv
    cases getO f with
    | mk g => cases getS args with
      | mk h =>
        show toO (Option.rec (motive := fun _ => OutR) .bad (fun fv => Option.rec (motive := fun _ => OutR) .bad (fun vs =>
          Option.rec (motive := fun _ => OutR) .bad (fun t => endX (call t s.heap s.next)) (targetD fv vs)) (h a.regs)) (g a.regs)) = match g a.regs, h a.regs with
            | some f, some vs => match targetD f vs with
              | some t => match toCall call t s with
                | some (.ret v, s') => some (.val v s')
                | some (.panic v, s') => some (.panic v s')
                | none => none
              | none => none
            | _, _ => none
        cases g a.regs with
        | none => rfl
        | some fv => cases h a.regs with
          | none => rfl
          | some vs =>
            simp only
            cases targetD fv vs with
            | none => rfl
            | some t => exact endX_eq _
  cases f with
  | func g =>
    have e0 : ∀ vs, targetD (.func (.func g) #[] #[]) vs = some (.fn g vs) := by intro vs; simp [targetD]
    have e1 : a.eval (.func g) = some (.func (.func g) #[] #[]) := rfl
    rw [e1, ← getS_eq args a]
    show toO ((callXf g args).run call round a.regs a.nt a.defers s.heap s.next) = _
    unfold callXf
    cases getS args with
    | mk h =>
      show toO (Option.rec (motive := fun _ => OutR) .bad (fun vs => endX (call (.fn g vs) s.heap s.next)) (h a.regs)) = match some (Value.func (.func g) #[] #[]), h a.regs with
        | some f, some vs => match targetD f vs with
          | some t => match toCall call t s with
            | some (.ret v, s') => some (.val v s')
            | some (.panic v, s') => some (.panic v s')
            | none => none
          | none => none
        | _, _ => none
      cases h a.regs with
      | none => rfl
      | some vs => simp only [e0]; exact endX_eq _
  | tmp t => exact gen
  | const v => exact gen
  | global v => exact gen

theorem operD_heavy (call : CallT) (round : Bool) (a : ActD) (s : St) (o : Oper) (hc0 : cls o.op = 0 → False) (hc1 : cls o.op = 1 → False) : operD P call round a s o = match o.op with
    | .call { callee := .value f, args, .. } =>
      match a.eval f, evals a args.toList with
      | some f, some vs => match targetD f vs with
        | some t => match call t s with
          | some (.ret v, s') => some (.val v s')
          | some (.panic v, s') => some (.panic v s')
          | none => none
        | none => none
      | _, _ => none
    | op => heavyD P round a s op := by
  unfold operD
  split
  · rename_i h; exact absurd h hc0
  · rename_i h; exact absurd h hc1
  · rfl

theorem compX_eq (o : Oper) (call : CallR) (round : Bool) (a : ActD) (s : St) : toO ((compX P o).run call round a.regs a.nt a.defers s.heap s.next) = operD P (toCall call) round a s o := by
  have slow : toO ((slowX P o).run call round a.regs a.nt a.defers s.heap s.next) = operD P (toCall call) round a s o := toO_ofO _
  unfold compX
  split
  · exact slow
  · rename_i hc
    have e1 : operD P (toCall call) round a s o = match freshD P a o.op with
        | some (b, f) => some (.val (f s.next) ⟨s.heap.set s.next b, s.next + 1⟩)
        | none => none := by simp only [operD, hc]; rfl
    rw [e1, ← compF_eq]
    unfold freshX
    cases compF P o.op with
    | mk l =>
      show toO (Option.rec (motive := fun _ => OutR) .bad _ (l a.regs)) = match l a.regs with
        | some (b, f) => some (.val (f s.next) ⟨s.heap.set s.next b, s.next + 1⟩)
        | none => none
      cases l a.regs with
      | none => rfl
      | some bf => rfl
  · rename_i c hc0 hc1
    rw [operD_heavy P (toCall call) round a s o hc0 hc1]
    split
    · rename_i f args ts ho
      rw [callX_eq, ho]
    · rename_i t x y ho
      simp only [ho, heavyD]
      rw [← getO_eq x a, ← getO_eq y a]
      unfold storeX
      cases getO x with
      | mk g => cases getO y with
        | mk h =>
          simp only [szQ_eq]
          have e2 : (match g a.regs, h a.regs with
              | some p, some v => match storeD P t p v s with
                | some s' => some (OutD.val undefD s')
                | none => none
              | _, _ => none) = match g a.regs, h a.regs with
              | some p, some v => outS (storeD P t p v s)
              | _, _ => none := by
            cases g a.regs with
            | none => rfl
            | some u => cases h a.regs with
              | none => rfl
              | some v => simp only [outS]
          show _ = (match g a.regs, h a.regs with
              | some p, some v => match storeD P t p v s with
                | some s' => some (OutD.val undefD s')
                | none => none
              | _, _ => none)
          rw [e2]
          split
          · rename_i hs
            show toO (Option.rec (motive := fun _ => OutR) .bad (fun u => Option.rec (motive := fun _ => OutR) .bad (fun v => stV s.heap s.next (ofO (outS (storeD P t u v ⟨s.heap, s.next⟩))) u v) (h a.regs)) (g a.regs)) = _
            cases g a.regs with
            | none => rfl
            | some u => cases h a.regs with
              | none => rfl
              | some v => exact stV_eq P hs s u v _ (toO_ofO _)
          · show toO (Option.rec (motive := fun _ => OutR) .bad (fun u => Option.rec (motive := fun _ => OutR) .bad (fun v => ofO (outS (storeD P t u v ⟨s.heap, s.next⟩))) (h a.regs)) (g a.regs)) = _
            cases g a.regs with
            | none => rfl
            | some u => cases h a.regs with
              | none => rfl
              | some v => exact toO_ofO _
    · rename_i x y t ts ho
      simp only [ho, heavyD, evals]
      rw [← getO_eq x a, ← getO_eq y a]
      unfold appX
      cases getO x with
      | mk g => cases getO y with
        | mk h =>
          have hA := fun u v => compA_eq P t ts.head? u v s
          cases hf : compA P t ts.head? with
          | mk f =>
            rw [hf] at hA
            show toO (Option.rec (motive := fun _ => OutR) .bad (fun u => Option.rec (motive := fun _ => OutR) .bad (fun v => appO ((AQ.mk f).run u v s.heap s.next)) (h a.regs)) (g a.regs)) =
                (match Builtin.append, t :: ts, (match g a.regs with
                    | some v => match (match h a.regs with
                      | some v => some [v]
                      | none => none) with
                      | some vs => some (v :: vs)
                      | none => none
                    | none => none) with
                  | .append, t :: ts, some [x, y] => match appendD P t ts.head? x y s with
                    | some (v, s') => some (OutD.val v s')
                    | none => none
                  | .copy, t :: _, some [x, y] => match copyD P t x y s with
                    | some (v, s') => some (.val v s')
                    | none => none
                  | .clear, t :: _, some [x] => match clearD P t x s with
                    | some s' => some (.val undefD s')
                    | none => none
                  | _, _, _ => none)
            simp only [hA]
            cases g a.regs with
            | none => rfl
            | some u => cases h a.regs with
              | none => rfl
              | some v =>
                simp only
                cases appendD P t ts.head? u v s with
                | none => rfl
                | some q => rfl
    · rw [← operD_heavy P (toCall call) round a s o hc0 hc1]; exact slow

/-! ### Steps -/
def lightK (o : Oper) : OF := match compL P o.op with
  | .mk l => match o.dst with
    | none => .mk fun _ _ k r nt ds hp nx => Option.rec (motive := fun _ => R) .bad (fun _ => k r nt ds hp nx) (l r hp nx)
    | some d => match setC (pathOf d) with
      | .mk q => .mk fun _ _ k r nt ds hp nx => Option.rec (motive := fun _ => R) .bad (fun v => Bool.rec (motive := fun _ => R) .bad (k (q v r) nt ds hp nx) (Nat.ble (Nat.succ d) nt)) (l r hp nx)
def heavyK (o : Oper) : OF := match compX P o, putO o.dst with
  | .mk x, .mk p => .mk fun call round k r nt ds hp nx => OutR.rec (motive := fun _ => R) .bad (fun v hp' nx' => p v r nt (fun r' => k r' nt ds hp' nx')) (fun d => p undefD r nt (fun r' => k r' nt (d :: ds) hp nx))
      (fun v hp' nx' => .panic v r nt ds hp' nx') (x call round r nt ds hp nx)
def slowK (all : List Oper) (o : Oper) : OF := .mk fun call round k r nt ds hp nx => ofD (stepD P (toCall call) round all o (toK k) ⟨r, nt, ds⟩ ⟨hp, nx⟩)
def plainK (o : Oper) : OF := match cls o.op with
  | 0 => lightK P o
  | _ => heavyK P o
/-- By the guard's value: y, or n. -/
def vGuard (want : Bool) (y n : R) (x : Value) : R :=
  @Value.rec (fun _ => R) (fun _ => Unit) (fun _ => Unit) (fun b => Bool.rec (motive := fun _ => R) (Bool.rec (motive := fun _ => R) y n want) (Bool.rec (motive := fun _ => R) n y want) b) (fun _ _ => n) (fun _ _ => n) (fun _ _ _ => n) (fun _ => n) (fun _ => n) (fun _ _ _ => n) (fun _ => n) (fun _ => n)
    (fun _ _ _ _ _ => n) n (fun _ _ _ => n) n (fun _ _ => n) (fun _ _ => n) (fun _ _ => ()) () (fun _ _ _ _ => ()) x
def guardK (t : Tmp) (want : Bool) (o : Oper) : OF := match plainK P o, getO (.tmp t), putO o.dst with
  | .mk f, .mk g, .mk p => .mk fun call round k r nt ds hp nx => Option.rec (motive := fun _ => R) .bad (fun v => vGuard want (f call round k r nt ds hp nx) (p undefD r nt (fun r' => k r' nt ds hp nx)) v) (g r)
/-- An operation, made ready. -/
def compO (all : List Oper) (o : Oper) : OF := match o.guard with
  | some (j, want) => match all[j]? with
    | some oj => match oj.dst with
      | some t => guardK P t want o
      | none => slowK P all o
    | none => slowK P all o
  | none => plainK P o

/-- One operation that is wanted. -/
def goD (call : CallT) (round : Bool) (o : Oper) (k : Kont) (a : ActD) (s : St) : Res := match operD P call round a s o with
    | some (.val v s') => match a.put o.dst v with
      | some a' => k a' s'
      | none => none
    | some (.defer d) => match ActD.put ⟨a.regs, a.nt, d :: a.defers⟩ o.dst undefD with
      | some a' => k a' s
      | none => none
    | some (.panic v s') => some (.panic v, a, s')
    | none => none

theorem plainK_eq (o : Oper) (call : CallR) (round : Bool) (k : KR) (a : ActD) (s : St) :
    toD ((plainK P o).run call round k a.regs a.nt a.defers s.heap s.next) = goD P (toCall call) round o (toK k) a s := by
  unfold plainK
  split
  · rename_i hc
    have e1 : operD P (toCall call) round a s o = match lightD P a s o.op with
        | some v => some (.val v s)
        | none => none := by
      simp only [operD, hc]
      cases lightD P a s o.op <;> rfl
    simp only [goD, e1]
    unfold lightK
    rw [← compL_eq]
    cases compL P o.op with
    | mk l =>
      cases hd : o.dst with
      | none =>
        show toD (Option.rec (motive := fun _ => R) .bad (fun _ => k a.regs a.nt a.defers s.heap s.next) (l a.regs s.heap s.next)) = _
        show _ = match (match l a.regs s.heap s.next with
          | some v => some (OutD.val v s)
          | none => none) with
          | some (.val v s') => toK k a s'
          | some (.defer d) => toK k ⟨a.regs, a.nt, d :: a.defers⟩ s
          | some (.panic v s') => some (.panic v, a, s')
          | none => none
        cases l a.regs s.heap s.next <;> rfl
      | some d =>
        simp only [setC_eq]
        show toD (Option.rec (motive := fun _ => R) .bad (fun v => Bool.rec (motive := fun _ => R) .bad (k (setP (pathOf d) v a.regs) a.nt a.defers s.heap s.next) (Nat.ble (Nat.succ d) a.nt)) (l a.regs s.heap s.next)) = _
        have e3 : (LF.mk l).run a.regs s.heap s.next = l a.regs s.heap s.next := rfl
        rw [e3]
        cases l a.regs s.heap s.next with
        | none => rfl
        | some v =>
          show toD (Bool.rec (motive := fun _ => R) .bad (k (setP (pathOf d) v a.regs) a.nt a.defers s.heap s.next) (Nat.ble (Nat.succ d) a.nt)) = _
          rw [brec, setP_of]
          simp only [ActD.put, Nat.blt]
          cases Nat.ble (d + 1) a.nt <;> rfl
  · rename_i c hc0
    simp only [goD]
    rw [← compX_eq]
    unfold heavyK
    cases compX P o with
    | mk x =>
      cases hp : putO o.dst with
      | mk p =>
        have hpe := putO_eq o.dst
        rw [hp] at hpe
        show toD (OutR.rec (motive := fun _ => R) .bad (fun v hp' nx' => (PF.mk p).run v a.regs a.nt (fun r' => k r' a.nt a.defers hp' nx')) (fun d => (PF.mk p).run undefD a.regs a.nt (fun r' => k r' a.nt (d :: a.defers) s.heap s.next))
          (fun v hp' nx' => .panic v a.regs a.nt a.defers hp' nx') (x call round a.regs a.nt a.defers s.heap s.next)) = _
        have e3 : (XF.mk x).run call round a.regs a.nt a.defers s.heap s.next = x call round a.regs a.nt a.defers s.heap s.next := rfl
        rw [e3]
        cases x call round a.regs a.nt a.defers s.heap s.next with
        | bad => rfl
        | val v hp' nx' =>
          refine (hpe v a _).trans ?_
          simp only [toO]
          cases hput : a.put o.dst v with
          | none => rfl
          | some a' => obtain ⟨h1, h2⟩ := put_nt hput; simp only [toK, h1, h2]
        | defer d =>
          refine (hpe undefD ⟨a.regs, a.nt, d :: a.defers⟩ _).trans ?_
          simp only [toO]
          cases hput : ActD.put ⟨a.regs, a.nt, d :: a.defers⟩ o.dst undefD with
          | none => rfl
          | some a' => obtain ⟨h1, h2⟩ := put_nt hput; simp only [toK, h1, h2]
        | panic v hp' nx' => rfl
theorem compO_eq (all : List Oper) (o : Oper) (call : CallR) (round : Bool) (k : KR) (a : ActD) (s : St) :
    toD ((compO P all o).run call round k a.regs a.nt a.defers s.heap s.next) = stepD P (toCall call) round all o (toK k) a s := by
  have slow : toD ((slowK P all o).run call round k a.regs a.nt a.defers s.heap s.next) = stepD P (toCall call) round all o (toK k) a s := toD_ofD _
  unfold compO
  split
  · rename_i j want hg
    split
    · rename_i oj hj
      split
      · rename_i t ht
        have e1 : stepD P (toCall call) round all o (toK k) a s = match a.regs.get t with
            | some (.bool b) => cond (b == want) (goD P (toCall call) round o (toK k) a s) (match a.put o.dst undefD with
              | some a' => toK k a' s
              | none => none)
            | some _ => match a.put o.dst undefD with
              | some a' => toK k a' s
              | none => none
            | none => none := by
          simp only [stepD, wantedD, hg, hj, ht]
          cases a.regs.get t with
          | none => rfl
          | some v => cases v <;> try rfl
                      rename_i b
                      cases b <;> cases want <;> rfl
        rw [e1]
        have hpl := plainK_eq P o call round k a s
        have hpe := putO_eq o.dst undefD a (fun r' => k r' a.nt a.defers s.heap s.next)
        have hpe' : toD ((putO o.dst).run undefD a.regs a.nt (fun r' => k r' a.nt a.defers s.heap s.next)) = match a.put o.dst undefD with
            | some a' => toK k a' s
            | none => none := by
          rw [hpe]
          cases hput : a.put o.dst undefD with
          | none => rfl
          | some a' => obtain ⟨h1, h2⟩ := put_nt hput; simp only [toK, h1, h2]
        have hgo := getO_eq (.tmp t) a
        unfold guardK
        cases hf : plainK P o with
        | mk f => cases hgg : getO (.tmp t) with
          | mk g => cases hp : putO o.dst with
            | mk p =>
              rw [hf] at hpl
              rw [hgg] at hgo
              rw [hp] at hpe'
              have hgo' : g a.regs = a.regs.get t := hgo
              show toD (Option.rec (motive := fun _ => R) .bad (fun v => vGuard want ((OF.mk f).run call round k a.regs a.nt a.defers s.heap s.next) ((PF.mk p).run undefD a.regs a.nt (fun r' => k r' a.nt a.defers s.heap s.next)) v) (g a.regs)) = _
              rw [hgo']
              cases a.regs.get t with
              | none => rfl
              | some v =>
                cases v <;> try exact hpe'
                rename_i b
                cases b <;> cases want <;> first | exact hpl | exact hpe'
      · exact slow
    · exact slow
  · rename_i hg
    have hw : wantedD all a o = some true := by simp only [wantedD, hg]
    rw [plainK_eq]
    simp only [stepD, hw, goD]
end step
end Go.Hg
