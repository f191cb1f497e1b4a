/- Quick forms: regions that draw their order. -/
import Derived.Test.YthlkmfeelhbhjaaGreatDoorHgG5
set_option linter.unusedVariables false
set_option linter.unusedSimpArgs false
noncomputable section
namespace Go.Hg

/-! ### Lists -/
def anyF {α : Type} (f : α → Bool) (l : List α) : Bool := List.rec (motive := fun _ => Bool) false (fun x _ ih => Bool.rec (motive := fun _ => Bool) ih true (f x)) l
def allF {α : Type} (f : α → Bool) (l : List α) : Bool := List.rec (motive := fun _ => Bool) true (fun x _ ih => Bool.rec (motive := fun _ => Bool) false ih (f x)) l
theorem anyF_eq {α : Type} (f : α → Bool) (l : List α) : anyF f l = l.any f := by
  induction l with
  | nil => rfl
  | cons x l ih =>
    refine (brec _ _ _).trans ?_
    rw [List.any_cons]
    cases f x with
    | true => rfl
    | false => exact ih
theorem allF_eq {α : Type} (f : α → Bool) (l : List α) : allF f l = l.all f := by
  induction l with
  | nil => rfl
  | cons x l ih =>
    refine (brec _ _ _).trans ?_
    rw [List.all_cons]
    cases f x with
    | true => exact ih
    | false => rfl
def snocF {α : Type} (l : List α) (v : α) : List α := List.rec (motive := fun _ => List α) [v] (fun x _ ih => x :: ih) l
theorem snocF_eq {α : Type} (l : List α) (v : α) : snocF l v = l ++ [v] := by
  induction l with
  | nil => rfl
  | cons x l ih => exact congrArg (x :: ·) ih

abbrev FrL := List (Nat × Nat × Obj)
abbrev LgL := List (Nat × Op × ActD × Value)

def flushF (pre cs : List Nat) (i : Nat) : Bool := anyF (fun c => has (nth pre c) i) cs
theorem flushF_eq (pre cs : List Nat) (i : Nat) : flushF pre cs i = flushed pre cs i := anyF_eq _ _
def notF (b : Bool) : Bool := Bool.rec (motive := fun _ => Bool) true false b
theorem notF_eq (b : Bool) : notF b = !b := by cases b <;> rfl

def heapAddF (keep : Nat → Bool) (l : FrL) : St → St := List.rec (motive := fun _ => St → St) (fun s => s) (fun e _ ih s => Prod.rec (motive := fun _ => St) (fun i q => Prod.rec (motive := fun _ => St) (fun k o =>
  Bool.rec (motive := fun _ => St) (ih s) (ih (St.rec (motive := fun _ => St) (fun heap next => ⟨heap.put k (some o), next⟩) s)) (keep i)) q) e) l
theorem heapAddF_eq (keep : Nat → Bool) (l : FrL) : ∀ s, heapAddF keep l s = heapAdd s keep l := by
  induction l with
  | nil => intro s; rfl
  | cons e l ih =>
    obtain ⟨i, k, o⟩ := e
    intro s
    refine (brec _ _ _).trans ?_
    simp only [heapAdd]
    cases keep i with
    | false => exact ih s
    | true =>
      exact ih _
def heapQ (pre cs : List Nat) (h : St) (fr : FrL) (m : Nat) : St :=
  heapAddF (fun i => Bool.rec (motive := fun _ => Bool) false (notF (flushF pre cs i)) (has m i)) fr h
theorem heapQ_eq (pre cs : List Nat) (h : St) (fr : FrL) (m : Nat) : heapQ pre cs h fr m = heapFor pre cs h fr m := by
  unfold heapQ heapFor
  rw [heapAddF_eq]
  congr 1
  funext i
  rw [brec, notF_eq, flushF_eq]
  cases has m i <;> rfl

/-! ### The log -/
def kn (k : IntKind) : Nat := IntKind.rec (motive := fun _ => Nat) 0 1 2 3 4 5 6 7 k
theorem kn_eq (j k : IntKind) : Nat.beq (kn j) (kn k) = decide (j = k) := by cases j <;> cases k <;> rfl
def beqVF (v w : Value) : Bool :=
  @Value.rec (fun _ => Bool) (fun _ => Unit) (fun _ => Unit)
    (fun b => @Value.rec (fun _ => Bool) (fun _ => Unit) (fun _ => Unit) (fun c => Bool.rec (motive := fun _ => Bool) (notF c) c b) (fun _ _ => false) (fun _ _ => false) (fun _ _ _ => false) (fun _ => false) (fun _ => false) (fun _ _ _ => false) (fun _ => false) (fun _ => false)
      (fun _ _ _ _ _ => false) false (fun _ _ _ => false) false (fun _ _ => false) (fun _ _ => false) (fun _ _ => ()) () (fun _ _ _ _ => ()) w)
    (fun j a => @Value.rec (fun _ => Bool) (fun _ => Unit) (fun _ => Unit) (fun _ => false) (fun k b => Bool.rec (motive := fun _ => Bool) false (eqI a b) (Nat.beq (kn j) (kn k))) (fun _ _ => false) (fun _ _ _ => false) (fun _ => false) (fun _ => false) (fun _ _ _ => false) (fun _ => false) (fun _ => false)
      (fun _ _ _ _ _ => false) false (fun _ _ _ => false) false (fun _ _ => false) (fun _ _ => false) (fun _ _ => ()) () (fun _ _ _ _ => ()) w)
    (fun _ _ => beqV 100 v w) (fun _ _ _ => beqV 100 v w) (fun _ => beqV 100 v w) (fun _ => beqV 100 v w) (fun _ _ _ => beqV 100 v w) (fun _ => beqV 100 v w) (fun _ => beqV 100 v w)
    (fun _ _ _ _ _ => beqV 100 v w) (beqV 100 v w) (fun _ _ _ => beqV 100 v w) (beqV 100 v w) (fun _ _ => beqV 100 v w) (fun _ _ => beqV 100 v w) (fun _ _ => ()) () (fun _ _ _ _ => ()) v
theorem beqVF_eq (v w : Value) : beqVF v w = beqV 100 v w := by
  cases v with
  | bool b => cases w <;> try rfl
              rename_i c
              cases b <;> cases c <;> rfl
  | int j a =>
    cases w <;> try rfl
    rename_i k b
    refine (brec _ _ _).trans ?_
    rw [kn_eq, eqI_eq]
    show cond (decide (j = k)) (decide (a = b)) false = (decide (j = k) && decide (a = b))
    cases decide (j = k) <;> rfl
  | _ => rfl

section
variable (P : Program)

def valF (z : Option Value) (w : Value) : Bool := Option.rec (motive := fun _ => Bool) false (fun v => beqVF v w) z
def logAt (pre cs : List Nat) (fr : FrL) (i : Nat) (op : Op) (regs : Tr Value) (w : Value) (h : St) (ck : List Nat) : Bool :=
  Bool.rec (motive := fun _ => Bool) true
    (Bool.rec (motive := fun _ => Bool) true (LF.rec (motive := fun _ => Bool) (fun l => valF (St.rec (motive := fun _ => Option Value) (fun hp nx => l regs hp nx) (heapQ pre ck h fr (nth pre i))) w) (compL P op)) (allF (fun c => notF (has (nth pre c) i)) ck))
    (allF (fun c => Bool.rec (motive := fun _ => Bool) true (anyF (Nat.beq c) ck) (has (nth pre i) c)) cs)
theorem logAt_eq (pre cs : List Nat) (fr : FrL) (e : Nat × Op × ActD × Value) (h : St) (ck : List Nat) : logAt P pre cs fr e.1 e.2.1 e.2.2.1.regs e.2.2.2 h ck =
    (!(cs.all (fun c => !has (nth pre e.1) c || ck.contains c) && ck.all (fun c => !has (nth pre c) e.1)) ||
    (match lightD P e.2.2.1 (heapFor pre ck h fr (nth pre e.1)) e.2.1 with
    | some v => beqV 100 v e.2.2.2
    | none => false)) := by
  have h1 : allF (fun c => Bool.rec (motive := fun _ => Bool) true (anyF (Nat.beq c) ck) (has (nth pre e.1) c)) cs = cs.all (fun c => !has (nth pre e.1) c || ck.contains c) := by
    rw [allF_eq]; congr 1; funext c
    rw [brec, anyF_eq]
    have : ck.any (Nat.beq c) = ck.contains c := by
      rw [List.contains_eq_any_beq]; congr 1; funext x; rw [beq_dec]; rfl
    rw [this]
    cases has (nth pre e.1) c <;> rfl
  have h2 : allF (fun c => notF (has (nth pre c) e.1)) ck = ck.all (fun c => !has (nth pre c) e.1) := by
    rw [allF_eq]; congr 1; funext c; exact notF_eq _
  have h3 : LF.rec (motive := fun _ => Bool) (fun l => valF (St.rec (motive := fun _ => Option Value) (fun hp nx => l e.2.2.1.regs hp nx) (heapQ pre ck h fr (nth pre e.1))) e.2.2.2) (compL P e.2.1) = (match lightD P e.2.2.1 (heapFor pre ck h fr (nth pre e.1)) e.2.1 with
      | some v => beqV 100 v e.2.2.2
      | none => false) := by
    rw [← compL_eq, ← heapQ_eq]
    cases compL P e.2.1 with
    | mk l =>
      show valF (l e.2.2.1.regs (heapQ pre ck h fr (nth pre e.1)).heap (heapQ pre ck h fr (nth pre e.1)).next) e.2.2.2 = match l e.2.2.1.regs (heapQ pre ck h fr (nth pre e.1)).heap (heapQ pre ck h fr (nth pre e.1)).next with
        | some v => beqV 100 v e.2.2.2
        | none => false
      cases l e.2.2.1.regs (heapQ pre ck h fr (nth pre e.1)).heap (heapQ pre ck h fr (nth pre e.1)).next with
      | none => rfl
      | some v => exact beqVF_eq _ _
  unfold logAt
  rw [h1, h2, h3, brec, brec]
  cases cs.all (fun c => !has (nth pre e.1) c || ck.contains c) <;> cases ck.all (fun c => !has (nth pre c) e.1) <;> rfl

def tailF (l : List Nat) : List Nat := List.rec (motive := fun _ => List Nat) [] (fun _ m _ => m) l
def logHs (pre cs : List Nat) (fr : FrL) (i : Nat) (op : Op) (regs : Tr Value) (w : Value) (hs : List St) : List Nat → Bool :=
  List.rec (motive := fun _ => List Nat → Bool) (fun _ => true) (fun h _ ih ck => Bool.rec (motive := fun _ => Bool) false (ih (tailF ck)) (logAt P pre cs fr i op regs w h ck)) hs
theorem logHs_eq (pre cs : List Nat) (fr : FrL) (e : Nat × Op × ActD × Value) (hs : List St) : ∀ ck, logHs P pre cs fr e.1 e.2.1 e.2.2.1.regs e.2.2.2 hs ck = logOk1 P pre cs fr (progress hs ck) e := by
  induction hs with
  | nil => intro ck; cases ck <;> rfl
  | cons h hs ih =>
    intro ck
    have e0 : logHs P pre cs fr e.1 e.2.1 e.2.2.1.regs e.2.2.2 (h :: hs) ck = cond (logAt P pre cs fr e.1 e.2.1 e.2.2.1.regs e.2.2.2 h ck) (logHs P pre cs fr e.1 e.2.1 e.2.2.1.regs e.2.2.2 hs (tailF ck)) false := brec _ _ _
    rw [e0]
    have e1 : tailF ck = ck.tail := by cases ck <;> rfl
    have e2 : progress (h :: hs) ck = (h, ck) :: progress hs ck.tail := rfl
    rw [logAt_eq, ih, e1, e2]
    simp only [logOk1, List.all_cons]
    generalize (!(cs.all (fun c => !has (nth pre e.1) c || ck.contains c) && ck.all (fun c => !has (nth pre c) e.1)) ||
      (match lightD P e.2.2.1 (heapFor pre ck h fr (nth pre e.1)) e.2.1 with
      | some v => beqV 100 v e.2.2.2
      | none => false)) = b
    cases b <;> rfl
def logF (pre : List Nat) (hs : List St) (cs : List Nat) (fr : FrL) (lg : LgL) : Bool :=
  List.rec (motive := fun _ => Bool) (allF (fun e => Prod.rec (motive := fun _ => Bool) (fun i q => Prod.rec (motive := fun _ => Bool) (fun op q => Prod.rec (motive := fun _ => Bool) (fun a w => logHs P pre cs fr i op a.regs w hs cs) q) q) e) lg)
    (fun _ t _ => List.rec (motive := fun _ => Bool) true (fun _ _ _ => allF (fun e => Prod.rec (motive := fun _ => Bool) (fun i q => Prod.rec (motive := fun _ => Bool) (fun op q => Prod.rec (motive := fun _ => Bool) (fun a w => logHs P pre cs fr i op a.regs w hs cs) q) q) e) lg) t) hs
theorem logF_eq (pre : List Nat) (d : DrS) : logF P pre d.hs d.cs d.fr d.lg = logOk P pre d := by
  have gen : allF (fun e => Prod.rec (motive := fun _ => Bool) (fun i q => Prod.rec (motive := fun _ => Bool) (fun op q => Prod.rec (motive := fun _ => Bool) (fun a w => logHs P pre d.cs d.fr i op a.regs w d.hs d.cs) q) q) e) d.lg =
      d.lg.all (logOk1 P pre d.cs d.fr (progress d.hs d.cs)) := by
    rw [allF_eq]; congr 1; funext e
    exact logHs_eq P pre d.cs d.fr e d.hs d.cs
  unfold logOk logF
  obtain ⟨a, hs, cs, fr, lg⟩ := d
  rcases hs with _ | ⟨h, _ | ⟨h2, t⟩⟩
  · exact gen
  · rfl
  · exact gen

/-! ### Steps -/
abbrev DK := Rg → List St → List Nat → FrL → LgL → R
inductive DF where
  | mk (f : CallR → Bool → Nat → Nat → List Def → DK → DK)
def DF.run (g : DF) : CallR → Bool → Nat → Nat → List Def → DK → DK :=
  DF.rec (motive := fun _ => CallR → Bool → Nat → Nat → List Def → DK → DK) (fun f => f) g

def goOn (k : DK) : Option DrR → Res
  | some (.go d) => toD (k d.a.regs d.hs d.cs d.fr d.lg)
  | some (.stop x a s) => some (x, a, s)
  | none => none

def slowDr (ops : List Oper) (pre : List Nat) (i : Nat) (o : Oper) (rest : List (Nat × Oper)) : DF :=
  .mk fun call round base nt ds k r hs cs fr lg => ofD (goOn k (drawStep P (toCall call) round ops pre base i o rest ⟨⟨r, nt, ds⟩, hs, cs, fr, lg⟩))
def lightDr (pre : List Nat) (i : Nat) (o : Oper) : DF := match compL P o.op, putO o.dst, reads o.op with
  | .mk l, .mk p, true => .mk fun _ _ _ nt ds k r hs cs fr lg => List.rec (motive := fun _ => R) .bad (fun h _ _ => St.rec (motive := fun _ => R) (fun hp nx =>
      Option.rec (motive := fun _ => R) .bad (fun v => p v r nt (fun r' => k r' hs cs fr ((i, o.op, ⟨r, nt, ds⟩, v) :: lg))) (l r hp nx)) (heapQ pre cs h fr (nth pre i))) hs
  | .mk l, .mk p, false => .mk fun _ _ _ nt ds k r hs cs fr lg => List.rec (motive := fun _ => R) .bad (fun h _ _ => St.rec (motive := fun _ => R) (fun hp nx =>
      Option.rec (motive := fun _ => R) .bad (fun v => p v r nt (fun r' => k r' hs cs fr lg)) (l r hp nx)) (heapQ pre cs h fr (nth pre i))) hs
def freshDr (i : Nat) (o : Oper) : DF := match compF P o.op, putO o.dst with
  | .mk l, .mk p => .mk fun _ _ base nt ds k r hs cs fr lg => List.rec (motive := fun _ => R) .bad (fun _ _ _ => Option.rec (motive := fun _ => R) .bad (fun bf => Prod.rec (motive := fun _ => R) (fun b f =>
      p (f (Nat.add base i)) r nt (fun r' => k r' hs cs (snocF fr (i, Nat.add base i, b)) lg)) bf) (l r)) hs
def chainDr (ops : List Oper) (pre : List Nat) (i : Nat) (o : Oper) (rest : List (Nat × Oper)) : DF := match compX P o, putO o.dst with
  | .mk x, .mk p => .mk fun call round _ nt ds k r hs cs fr lg => List.rec (motive := fun _ => R) .bad (fun h _ _ => Bool.rec (motive := fun _ => R) .bad
      (St.rec (motive := fun _ => R) (fun hp nx => OutR.rec (motive := fun _ => R) .bad (fun v hp' nx' => p v r nt (fun r' => k r' (⟨hp', nx'⟩ :: hs) (i :: cs) fr lg)) (fun _ => .bad)
        (fun v hp' nx' => Bool.rec (motive := fun _ => R) .bad (.panic v (eraseL r (allDsts ops)) nt ds hp' nx') (logOk P pre ⟨⟨r, nt, ds⟩, hs, cs, fr, lg⟩ && harmless pre i rest)) (x call round r nt ds hp nx)) (heapQ pre cs h fr (nth pre i)))
      (allF (fun c => has (nth pre i) c) cs)) hs
def compD1 (ops : List Oper) (pre : List Nat) (i : Nat) (o : Oper) (rest : List (Nat × Oper)) : DF := match o.guard with
  | some _ => slowDr P ops pre i o rest
  | none => match cls o.op with
    | 0 => lightDr P pre i o
    | 1 => freshDr P i o
    | _ => chainDr P ops pre i o rest

theorem put_go (dst : Option Tmp) (p : Value → Rg → Nat → (Rg → R) → R) (hp : putO dst = .mk p) (v : Value) (a : ActD) (f : ActD → DrS) (hf : ∀ a', (f a').a = a') (k : DK) (hk : ∀ a' a'' : ActD, (f a').hs = (f a'').hs ∧ (f a').cs = (f a'').cs ∧ (f a').fr = (f a'').fr ∧ (f a').lg = (f a'').lg) :
    toD (p v a.regs a.nt (fun r' => k r' (f a).hs (f a).cs (f a).fr (f a).lg)) = goOn k (match a.put dst v with
      | some a' => some (.go (f a'))
      | none => none) := by
  have h := putO_eq dst v a (fun r' => k r' (f a).hs (f a).cs (f a).fr (f a).lg)
  rw [hp] at h
  refine h.trans ?_
  cases a.put dst v with
  | none => rfl
  | some a' =>
    obtain ⟨h1, h2, h3, h4⟩ := hk a a'
    simp only [goOn, hf, h1, h2, h3, h4]

theorem compD1_eq (ops : List Oper) (pre : List Nat) (i : Nat) (o : Oper) (rest : List (Nat × Oper)) (call : CallR) (round : Bool) (base : Nat) (k : DK) (a : ActD) (hs : List St) (cs : List Nat) (fr : FrL) (lg : LgL) :
    toD ((compD1 P ops pre i o rest).run call round base a.nt a.defers k a.regs hs cs fr lg) = goOn k (drawStep P (toCall call) round ops pre base i o rest ⟨a, hs, cs, fr, lg⟩) := by
  unfold compD1
  split
  · exact toD_ofD _
  · rename_i hg
    have hw : wantedD ops a o = some true := by simp only [wantedD, hg]
    split
    · rename_i hc
      have hl := fun s => compL_eq P o.op a s
      unfold lightDr
      cases hl0 : compL P o.op with
      | mk l =>
        rw [hl0] at hl
        have hl' : ∀ s : St, l a.regs s.heap s.next = lightD P a s o.op := hl
        cases hp : putO o.dst with
        | mk p =>
          cases hs with
          | nil =>
            simp only [drawStep, hw]
            cases reads o.op <;> rfl
          | cons h t =>
            simp only [drawStep, hw, hc]
            cases hr : reads o.op with
            | false =>
              show toD (Option.rec (motive := fun _ => R) .bad (fun v => p v a.regs a.nt (fun r' => k r' (h :: t) cs fr lg)) (l a.regs (heapQ pre cs h fr (nth pre i)).heap (heapQ pre cs h fr (nth pre i)).next)) = _
              rw [hl', heapQ_eq]
              cases lightD P a (heapFor pre cs h fr (nth pre i)) o.op with
              | none => rfl
              | some v => exact put_go o.dst p hp v a (fun a' => ⟨a', h :: t, cs, fr, lg⟩) (fun _ => rfl) k (fun _ _ => ⟨rfl, rfl, rfl, rfl⟩)
            | true =>
              show toD (Option.rec (motive := fun _ => R) .bad (fun v => p v a.regs a.nt (fun r' => k r' (h :: t) cs fr ((i, o.op, a, v) :: lg))) (l a.regs (heapQ pre cs h fr (nth pre i)).heap (heapQ pre cs h fr (nth pre i)).next)) = _
              rw [hl', heapQ_eq]
              cases lightD P a (heapFor pre cs h fr (nth pre i)) o.op with
              | none => rfl
              | some v => exact put_go o.dst p hp v a (fun a' => ⟨a', h :: t, cs, fr, (i, o.op, a, v) :: lg⟩) (fun _ => rfl) k (fun _ _ => ⟨rfl, rfl, rfl, rfl⟩)
    · rename_i hc
      have hl := compF_eq P o.op a
      unfold freshDr
      cases hl0 : compF P o.op with
      | mk l =>
        rw [hl0] at hl
        have hl' : l a.regs = freshD P a o.op := hl
        cases hp : putO o.dst with
        | mk p =>
          cases hs with
          | nil => simp only [drawStep, hw]; rfl
          | cons h t =>
            simp only [drawStep, hw, hc]
            show toD (Option.rec (motive := fun _ => R) .bad (fun bf => Prod.rec (motive := fun _ => R) (fun b f =>
              p (f (Nat.add base i)) a.regs a.nt (fun r' => k r' (h :: t) cs (snocF fr (i, Nat.add base i, b)) lg)) bf) (l a.regs)) = _
            rw [hl']
            cases freshD P a o.op with
            | none => rfl
            | some bf =>
              obtain ⟨b, f⟩ := bf
              simp only [snocF_eq]
              exact put_go o.dst p hp (f (base + i)) a (fun a' => ⟨a', h :: t, cs, fr ++ [(i, base + i, b)], lg⟩) (fun _ => rfl) k (fun _ _ => ⟨rfl, rfl, rfl, rfl⟩)
    · rename_i c hc0 hc1
      have e0 : ∀ h t, drawStep P (toCall call) round ops pre base i o rest ⟨a, h :: t, cs, fr, lg⟩ = drawChain P (toCall call) round ops pre i o rest h ⟨a, h :: t, cs, fr, lg⟩ := by
        intro h t
        simp only [drawStep, hw]
        try rfl
      have hx := fun s => compX_eq P o call round a s
      unfold chainDr
      cases hl0 : compX P o with
      | mk x =>
        rw [hl0] at hx
        have hx' : ∀ s : St, toO (x call round a.regs a.nt a.defers s.heap s.next) = operD P (toCall call) round a s o := hx
        cases hp : putO o.dst with
        | mk p =>
          cases hs with
          | nil => simp only [drawStep, hw]; rfl
          | cons h t =>
            rw [e0]
            show toD (Bool.rec (motive := fun _ => R) .bad
              (OutR.rec (motive := fun _ => R) .bad (fun v hp' nx' => p v a.regs a.nt (fun r' => k r' (⟨hp', nx'⟩ :: h :: t) (i :: cs) fr lg)) (fun _ => .bad)
                (fun v hp' nx' => Bool.rec (motive := fun _ => R) .bad (.panic v (eraseL a.regs (allDsts ops)) a.nt a.defers hp' nx') (logOk P pre ⟨a, h :: t, cs, fr, lg⟩ && harmless pre i rest)) (x call round a.regs a.nt a.defers (heapQ pre cs h fr (nth pre i)).heap (heapQ pre cs h fr (nth pre i)).next))
              (allF (fun c => has (nth pre i) c) cs)) = _
            rw [allF_eq, brec]
            unfold drawChain
            simp only
            cases cs.all fun c => has (nth pre i) c with
            | false => rfl
            | true =>
              simp only [cond_true]
              rw [← heapQ_eq, ← hx']
              cases x call round a.regs a.nt a.defers (heapQ pre cs h fr (nth pre i)).heap (heapQ pre cs h fr (nth pre i)).next with
              | bad => rfl
              | val v hp' nx' => exact put_go o.dst p hp v a (fun a' => ⟨a', ⟨hp', nx'⟩ :: h :: t, i :: cs, fr, lg⟩) (fun _ => rfl) k (fun _ _ => ⟨rfl, rfl, rfl, rfl⟩)
              | defer d => rfl
              | panic v hp' nx' =>
                show toD (Bool.rec (motive := fun _ => R) .bad (.panic v (eraseL a.regs (allDsts ops)) a.nt a.defers hp' nx') (logOk P pre ⟨a, h :: t, cs, fr, lg⟩ && harmless pre i rest)) = _
                simp only [toO]
                rw [brec]
                cases logOk P pre ⟨a, h :: t, cs, fr, lg⟩ && harmless pre i rest <;> rfl

theorem drawStep_nt {call : CallT} {round : Bool} {ops : List Oper} {pre : List Nat} {base i : Nat} {o : Oper} {rest : List (Nat × Oper)} {d d' : DrS} (h : drawStep P call round ops pre base i o rest d = some (.go d')) :
    d'.a.nt = d.a.nt ∧ d'.a.defers = d.a.defers := by
  unfold drawStep at h
  split at h
  · split at h
    · split at h
      · split at h
        · rename_i hp; injection h with h; injection h with h; subst h; exact put_nt hp
        · cases h
      · cases h
    · split at h
      · split at h
        · rename_i hp; injection h with h; injection h with h; subst h; exact put_nt hp
        · cases h
      · cases h
    · unfold drawChain at h
      cases hc : d.cs.all fun c => has (nth pre i) c with
      | false => rw [hc] at h; cases h
      | true =>
        rw [hc, cond_true] at h
        split at h
        · split at h
          · rename_i hp; injection h with h; injection h with h; subst h; exact put_nt hp
          · cases h
        · cases h
        · cases hl : logOk P pre d && harmless pre i rest with
          | false => rw [hl] at h; cases h
          | true => rw [hl] at h; cases h
        · cases h
  · split at h
    · rename_i hp; injection h with h; injection h with h; subst h; exact put_nt hp
    · cases h
  · cases h

def compDs (ops : List Oper) (pre : List Nat) (l : List (Nat × Oper)) : List DF :=
  List.rec (motive := fun _ => List DF) [] (fun e rest ih => Prod.rec (motive := fun _ => List DF) (fun i o => compD1 P ops pre i o rest :: ih) e) l
def endDr (pre : List Nat) (nt : Nat) (ds : List Def) : DK := fun r hs cs fr lg => List.rec (motive := fun _ => R) .bad (fun h _ _ => Bool.rec (motive := fun _ => R) .bad
  (St.rec (motive := fun _ => R) (fun hp nx => .norm r nt ds hp nx) (heapAddF (fun i => notF (flushF pre cs i)) fr h)) (logF P pre hs cs fr lg)) hs
def runDr (pre : List Nat) (call : CallR) (round : Bool) (base nt : Nat) (ds : List Def) (l : List DF) : DK :=
  List.rec (motive := fun _ => DK) (endDr P pre nt ds) (fun d _ ih => DF.rec (motive := fun _ => DK) (fun f => f call round base nt ds ih) d) l
theorem runDr_eq (ops : List Oper) (pre : List Nat) (call : CallR) (round : Bool) (base : Nat) (l : List (Nat × Oper)) : ∀ (a : ActD) (hs : List St) (cs : List Nat) (fr : FrL) (lg : LgL),
    toD (runDr P pre call round base a.nt a.defers (compDs P ops pre l) a.regs hs cs fr lg) = drawGo P (toCall call) round ops pre base l ⟨a, hs, cs, fr, lg⟩ := by
  induction l with
  | nil =>
    intro a hs cs fr lg
    cases hs with
    | nil => rfl
    | cons h t =>
      show toD (Bool.rec (motive := fun _ => R) .bad (.norm a.regs a.nt a.defers (heapAddF (fun i => notF (flushF pre cs i)) fr h).heap (heapAddF (fun i => notF (flushF pre cs i)) fr h).next) (logF P pre (h :: t) cs fr lg)) = _
      have e1 := logF_eq P pre ⟨a, h :: t, cs, fr, lg⟩
      simp only at e1
      rw [brec, e1, heapAddF_eq]
      simp only [drawGo]
      have e2 : (fun i => notF (flushF pre cs i)) = fun i => !flushed pre cs i := by funext i; rw [notF_eq, flushF_eq]
      rw [e2]
      cases logOk P pre ⟨a, h :: t, cs, fr, lg⟩ <;> rfl
  | cons e l ih =>
    obtain ⟨i, o⟩ := e
    intro a hs cs fr lg
    have h1 : runDr P pre call round base a.nt a.defers (compDs P ops pre ((i, o) :: l)) a.regs hs cs fr lg = (compD1 P ops pre i o l).run call round base a.nt a.defers (runDr P pre call round base a.nt a.defers (compDs P ops pre l)) a.regs hs cs fr lg := by
      show DF.rec (motive := fun _ => DK) (fun f => f call round base a.nt a.defers (runDr P pre call round base a.nt a.defers (compDs P ops pre l))) (compD1 P ops pre i o l) a.regs hs cs fr lg = _
      cases compD1 P ops pre i o l with
      | mk f => rfl
    rw [h1, compD1_eq]
    simp only [drawGo]
    cases hd : drawStep P (toCall call) round ops pre base i o l ⟨a, hs, cs, fr, lg⟩ with
    | none => rfl
    | some z => cases z with
      | go d =>
        obtain ⟨n1, n2⟩ := drawStep_nt P hd
        simp only at n1 n2
        simp only [goOn, ← n1, ← n2]
        exact ih d.a d.hs d.cs d.fr d.lg
      | stop x a s => rfl

def okDr (ops : List Oper) : Bool := Bool.rec (motive := fun _ => Bool) false (pairsOk ops (presL ops []) (numbered 0 ops)) (edgesOk (numbered 0 ops))
def drawR (call : CallR) (round : Bool) (ops : List Oper) : KR := fun r nt ds hp nx =>
  Bool.rec (motive := fun _ => R) .bad (runDr P (presL ops []) call round nx nt ds (compDs P ops (presL ops []) (numbered 0 ops)) r [⟨hp, Nat.add nx (lenF ops)⟩] [] [] []) (okDr ops)
theorem drawR_eq (call : CallR) (round : Bool) (ops : List Oper) (a : ActD) (s : St) : toD (drawR P call round ops a.regs a.nt a.defers s.heap s.next) = drawD P (toCall call) round ops a s := by
  unfold drawR drawD okDr
  rw [brec, brec]
  simp only
  have h := runDr_eq P ops (presL ops []) call round s.next (numbered 0 ops) a [⟨s.heap, s.next + ops.length⟩] [] [] []
  rw [← h, lenF_eq]
  cases edgesOk (numbered 0 ops) <;> cases pairsOk ops (presL ops []) (numbered 0 ops) <;> rfl
end

/-- The quick interpreter. -/
def engQ (P : Program) (O : Oracle) (n : Nat) : EngR := engR P (drawR P) O n
theorem engQ_eq (P : Program) (O : Oracle) (n : Nat) : toEng (engQ P O n) = eng P O n := engR_eq P (drawR P) (drawR_eq P) O n
end Go.Hg
