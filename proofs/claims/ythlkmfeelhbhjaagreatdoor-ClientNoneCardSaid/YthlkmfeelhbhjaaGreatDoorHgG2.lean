/- Quick forms of the light operations. -/
import Derived.Test.YthlkmfeelhbhjaaGreatDoorHgF1
set_option linter.unusedVariables false
set_option linter.unusedSimpArgs false
namespace Go.Hg

inductive LF where
  | mk (f : Tr Value → Tr Obj → Nat → Option Value)
noncomputable def LF.run (g : LF) : Tr Value → Tr Obj → Nat → Option Value := LF.rec (motive := fun _ => Tr Value → Tr Obj → Nat → Option Value) (fun f => f) g

/-! ### Loads -/
noncomputable def ldC (hp : Tr Obj) (k off : Nat) : Option Value :=
  Option.rec (motive := fun _ => Option Value) none (fun ob => Obj.rec (motive := fun _ => Option Value) (fun _ _ c => c.get off) (fun _ _ => none) (fun _ => none) (fun _ _ _ => none) ob) (hp.get k)
noncomputable def ldA (hp : Tr Obj) (ad : Addr) : Option Value :=
  Addr.rec (motive := fun _ => Option Value) (fun k off spot => Option.rec (motive := fun _ => Option Value) (ldC hp k off) (fun _ => none) spot) ad
noncomputable def ldS (hp : Tr Obj) (p : Value) : Option Value := vPtr none (fun oa => Option.rec (motive := fun _ => Option Value) none (fun ad => ldA hp ad) oa) p

theorem ldC_eq (s : St) (k off : Nat) : ldC s.heap k off = match s.cells k with
  | some (_, _, c) => c.get off
  | none => none := by
  unfold ldC St.cells
  cases s.heap.get k with
  | none => rfl
  | some o => cases o <;> rfl
theorem ldS_eq {P : Program} {t : TypeId} (h : aggT P t = some false) (s : St) (p : Value) : ldS s.heap p = loadD P t p s := by
  cases p <;> try rfl
  rename_i oa
  rcases oa with _ | ⟨k, off, _ | sp⟩
  · rfl
  · show ldC s.heap k off = _
    simp only [ldC_eq, loadD, h]
    cases s.cells k <;> rfl
  · rfl

/-! ### Elements -/
noncomputable def idxA (size : Nat) (k off len : Nat) (i : Int) : Option Value :=
  Int.rec (motive := fun _ => Option Value) (fun n => Bool.rec (motive := fun _ => Option Value) none (some (.pointer (some ⟨k, Nat.add off (Nat.mul n size), none⟩))) (Nat.ble (Nat.succ n) len)) (fun _ => none) i
noncomputable def idxS (size : Nat) (fb : Option Value) (u j : Value) : Option Value :=
  vInt fb (fun _ i => vSlice fb (fun oa len _ => Option.rec (motive := fun _ => Option Value) fb
    (fun ad => Addr.rec (motive := fun _ => Option Value) (fun k off spot => Option.rec (motive := fun _ => Option Value) (idxA size k off len i) (fun _ => fb) spot) ad) oa) u) j

theorem idxS_eq {P : Program} {t e : TypeId} {size : Nat} (h : und P t = some (.slice e)) (hs : szOf P e = some size) (u j : Value) : idxS size (indexAddrD P t u j) u j = indexAddrD P t u j := by
  cases j <;> try rfl
  rename_i kk i
  cases u <;> try rfl
  rename_i oa len cap
  rcases oa with _ | ⟨k, off, _ | sp⟩ <;> try rfl
  show idxA size k off len i = _
  simp only [indexAddrD, h, hs]
  cases i with
  | ofNat n =>
    show Bool.rec (motive := fun _ => Option Value) _ _ _ = _
    rw [brec, ble_le]
    have e1 : (decide (0 ≤ Int.ofNat n) && decide (Int.ofNat n < (len : Int))) = decide (n.succ ≤ len) := by
      have : decide (0 ≤ Int.ofNat n) = true := by simp
      rw [this, Bool.true_and]
      exact decide_eq_decide.2 (by simp only [Int.ofNat_eq_natCast]; omega)
    rw [e1]; rfl
  | negSucc n => rfl

/-! ### Operations -/
theorem eval_regs (r : Tr Value) (nt : Nat) (ds : List Def) : ActD.eval ⟨r, nt, ds⟩ = ActD.eval ⟨r, 0, []⟩ := by funext x; cases x <;> rfl
theorem evals_regs (r : Tr Value) (nt : Nat) (ds : List Def) : evals ⟨r, nt, ds⟩ = evals ⟨r, 0, []⟩ := by
  funext l
  induction l with
  | nil => rfl
  | cons x xs ih => simp only [evals, ih, eval_regs r nt ds]
theorem lightD_regs (P : Program) (r : Tr Value) (nt : Nat) (ds : List Def) (s : St) (op : Op) : lightD P ⟨r, nt, ds⟩ s op = lightD P ⟨r, 0, []⟩ s op := by
  unfold lightD
  simp only [eval_regs r nt ds, evals_regs r nt ds]

noncomputable def slowL (P : Program) (op : Op) : LF := .mk fun regs hp nx => lightD P ⟨regs, 0, []⟩ ⟨hp, nx⟩ op
theorem slowL_eq (P : Program) (op : Op) (a : ActD) (s : St) : (slowL P op).run a.regs s.heap s.next = lightD P a s op := (lightD_regs P a.regs a.nt a.defers s op).symm

/-- An operation with one value. -/
noncomputable def oneL (x : Operand) (F : Value → Tr Obj → Nat → Option Value) : LF := match getO x with
  | .mk g => .mk fun regs hp nx => Option.rec (motive := fun _ => Option Value) none (fun v => F v hp nx) (g regs)
theorem oneL_eq (x : Operand) (F : Value → Tr Obj → Nat → Option Value) (a : ActD) (s : St) : (oneL x F).run a.regs s.heap s.next = match a.eval x with
  | some v => F v s.heap s.next
  | none => none := by
  rw [← getO_eq x a]
  unfold oneL
  cases getO x with
  | mk g =>
    show Option.rec (motive := fun _ => Option Value) none _ (g a.regs) = _
    show _ = match g a.regs with
      | some v => F v s.heap s.next
      | none => none
    cases g a.regs <;> rfl
/-- An operation with two values. -/
noncomputable def twoL (x y : Operand) (F : Value → Value → Tr Obj → Nat → Option Value) : LF := match getO x, getO y with
  | .mk g, .mk h => .mk fun regs hp nx => Option.rec (motive := fun _ => Option Value) none (fun v => Option.rec (motive := fun _ => Option Value) none (fun w => F v w hp nx) (h regs)) (g regs)
theorem twoL_eq (x y : Operand) (F : Value → Value → Tr Obj → Nat → Option Value) (a : ActD) (s : St) : (twoL x y F).run a.regs s.heap s.next = match a.eval x, a.eval y with
  | some v, some w => F v w s.heap s.next
  | _, _ => none := by
  rw [← getO_eq x a, ← getO_eq y a]
  unfold twoL
  cases getO x with
  | mk g => cases getO y with
    | mk h =>
      show Option.rec (motive := fun _ => Option Value) none _ (g a.regs) = _
      show _ = match g a.regs, h a.regs with
        | some v, some w => F v w s.heap s.next
        | _, _ => none
      cases g a.regs <;> cases h a.regs <;> rfl

noncomputable def binL (P : Program) (o : BinOp) (t : TypeId) (x y : Operand) : LF := match undQ P t with
  | some (.int K) => match wrapK K, isK K with
    | .mk W, .mk tk => match binK o K W (modK K) K.bits tk (binD P o t x y) with
      | .mk F => twoL x y (fun u v _ _ => F u v)
  | _ => twoL x y (fun u v _ _ => binD P o t x y u v)
theorem binL_eq (P : Program) (o : BinOp) (t : TypeId) (x y : Operand) (a : ActD) (s : St) : (binL P o t x y).run a.regs s.heap s.next = match a.eval x, a.eval y with
  | some u, some v => binD P o t x y u v
  | _, _ => none := by
  have h0 := twoL_eq x y (fun u v _ _ => binD P o t x y u v) a s
  unfold binL
  rw [undQ_eq]
  split
  · rename_i K hK
    have h1 : ∀ W tk, wrapK K = .mk W → isK K = .mk tk → ∀ F, binK o K W (modK K) K.bits tk (binD P o t x y) = .mk F → F = binD P o t x y := by
      intro W tk hW htk F hF
      funext u v
      have := binK_eq P t x y o K u v
      rw [hW, htk] at this
      have e1 : (WF.mk W).run = W := rfl
      have e2 : (TK.mk tk).run = tk := rfl
      rw [e1, e2, hF] at this
      exact this
    cases hW : wrapK K with
    | mk W => cases htk : isK K with
      | mk tk =>
        simp only
        cases hF : binK o K W (modK K) K.bits tk (binD P o t x y) with
        | mk F => rw [h1 W tk hW htk F hF]; exact h0
  · exact h0

noncomputable def loadL (P : Program) (t : TypeId) (x : Operand) : LF := match aggQ P t with
  | some false => oneL x (fun p hp _ => ldS hp p)
  | _ => oneL x (fun p hp nx => loadD P t p ⟨hp, nx⟩)
noncomputable def idxL (P : Program) (t : TypeId) (x i : Operand) : LF := match undQ P t with
  | some (.slice e) => match szQ P e with
    | some size => twoL x i (fun u j _ _ => idxS size (indexAddrD P t u j) u j)
    | none => twoL x i (fun u j _ _ => indexAddrD P t u j)
  | _ => twoL x i (fun u j _ _ => indexAddrD P t u j)

noncomputable def unB (o : UnOp) (u : Value) : Option Value := match o with
  | .not => vBool (unD .not u) (fun b => some (.bool (Bool.rec (motive := fun _ => Bool) true false b))) u
  | o => unD o u
theorem unB_eq (o : UnOp) (u : Value) : unB o u = unD o u := by
  cases o <;> try rfl
  cases u <;> try rfl
  rename_i b
  cases b <;> rfl

noncomputable def convI (K : IntKind) (W : Int → Int) (fb : Option Value) (u : Value) : Option Value := vInt fb (fun _ n => some (.int K (W n))) u
noncomputable def convL (P : Program) (src dst : TypeId) (x : Operand) : LF := match undQ P src, undQ P dst with
  | some _, some (.int K) => match wrapK K with
    | .mk W => oneL x (fun w hp nx => convI K W (convD P src dst w ⟨hp, nx⟩) w)
  | _, _ => oneL x (fun w hp nx => convD P src dst w ⟨hp, nx⟩)

noncomputable def fldA (fo : Nat) (fb : Option Value) (u : Value) : Option Value :=
  vPtr fb (fun oa => Option.rec (motive := fun _ => Option Value) fb (fun ad => Addr.rec (motive := fun _ => Option Value) (fun k off spot => Option.rec (motive := fun _ => Option Value)
    (some (.pointer (some ⟨k, Nat.add off fo, none⟩))) (fun _ => fb) spot) ad) oa) u
/-- Where a field lies. -/
noncomputable def fieldAt (P : Program) (t : TypeId) (f : Nat) : Option Nat := match undQ P t with
  | some (.struct fs) => match fs.toList[f]? with
    | some f => match szQ P f.type with
      | some (_ + 1) => some f.offset
      | _ => none
    | none => none
  | _ => none
noncomputable def fldL (P : Program) (t : TypeId) (x : Operand) (f : Nat) : LF := match fieldAt P t f with
  | some fo => oneL x (fun u _ _ => fldA fo (fieldAddrD P t u f) u)
  | none => oneL x (fun u _ _ => fieldAddrD P t u f)
theorem fldA_eq {P : Program} {t : TypeId} {f fo : Nat} (h : fieldAt P t f = some fo) (u : Value) : fldA fo (fieldAddrD P t u f) u = fieldAddrD P t u f := by
  cases u <;> try rfl
  rename_i oa
  rcases oa with _ | ⟨k, off, _ | sp⟩ <;> try rfl
  show some (Value.pointer (some ⟨k, off + fo, none⟩)) = _
  unfold fieldAt at h
  simp only [undQ_eq, szQ_eq] at h
  unfold fieldAddrD
  split at h
  · rename_i fs hfs
    rw [hfs]
    simp only
    split at h
    · rename_i ff hff
      rw [hff]
      simp only
      split at h
      · rename_i n hn
        rw [hn]; injection h with h; subst h; rfl
      · cases h
    · cases h
  · cases h

noncomputable def lenS (fb : Option Value) (u : Value) : Option Value := vSlice fb (fun _ n _ => some (.int .i64 (.ofNat n))) u
noncomputable def lenL (P : Program) (t : TypeId) (x : Operand) : LF := match undQ P t with
  | some (.slice _) => oneL x (fun u hp nx => lenS (lenBD P t u ⟨hp, nx⟩) u)
  | _ => oneL x (fun u hp nx => lenBD P t u ⟨hp, nx⟩)

noncomputable def pickL (c x y : Operand) : LF := match getO c, getO x, getO y with
  | .mk c, .mk x, .mk y => .mk fun regs _ _ => Option.rec (motive := fun _ => Option Value) none (fun v => vBool none (fun b => Bool.rec (motive := fun _ => Option Value) (y regs) (x regs) b) v) (c regs)

noncomputable def movL (x : Operand) : LF := match getO x with
  | .mk g => .mk fun regs _ _ => g regs

def extrD (i : Nat) (u : Value) : Option Value := match u with
  | .tuple vs => vs.toList[i]?
  | _ => none

/-- The list's element at a number. -/
noncomputable def nthV (l : List Value) : Nat → Option Value :=
  List.rec (motive := fun _ => Nat → Option Value) (fun _ => none) (fun v _ ih n => Nat.rec (motive := fun _ => Option Value) (some v) (fun m _ => ih m) n) l
theorem nthV_eq (l : List Value) : ∀ n, nthV l n = l[n]? := by
  induction l with
  | nil => intro n; rfl
  | cons v l ih => intro n; cases n with
    | zero => rfl
    | succ n => exact ih n
noncomputable def arrL (a : Array Value) : List Value := Array.rec (motive := fun _ => List Value) (fun l => l) a
noncomputable def extrF (i : Nat) (u : Value) : Option Value :=
  @Value.rec (fun _ => Option Value) (fun _ => Unit) (fun _ => Unit) (fun _ => none) (fun _ _ => none) (fun _ _ => none) (fun _ _ _ => none) (fun _ => none) (fun _ => none) (fun _ _ _ => none) (fun _ => none) (fun _ => none)
    (fun _ _ _ _ _ => none) none (fun _ _ _ => none) none (fun _ _ => none) (fun vs _ => nthV (arrL vs) i) (fun _ _ => ()) () (fun _ _ _ _ => ()) u
theorem extrF_eq (i : Nat) (u : Value) : extrF i u = extrD i u := by
  cases u <;> try rfl
  exact nthV_eq _ _

/-- Values of operands. -/
inductive GS where
  | mk (f : Tr Value → Option (List Value))
noncomputable def GS.run (g : GS) : Tr Value → Option (List Value) := GS.rec (motive := fun _ => Tr Value → Option (List Value)) (fun f => f) g
noncomputable def getS : List Operand → GS
  | [] => .mk fun _ => some []
  | x :: xs => match getO x, getS xs with
    | .mk g, .mk h => .mk fun regs => Option.rec (motive := fun _ => Option (List Value)) none (fun v => Option.rec (motive := fun _ => Option (List Value)) none (fun vs => some (v :: vs)) (h regs)) (g regs)
theorem getS_eq (l : List Operand) (a : ActD) : (getS l).run a.regs = evals a l := by
  induction l with
  | nil => rfl
  | cons x xs ih =>
    simp only [evals, ← ih, ← getO_eq x a, getS]
    cases getO x with
    | mk g => cases getS xs with
      | mk h =>
        show Option.rec (motive := fun _ => Option (List Value)) none (fun v => Option.rec (motive := fun _ => Option (List Value)) none (fun vs => some (v :: vs)) (h a.regs)) (g a.regs) = match g a.regs with
          | some v => match h a.regs with
            | some vs => some (v :: vs)
            | none => none
          | none => none
        cases g a.regs <;> cases h a.regs <;> rfl

noncomputable def funcL (f : FuncId) (u v : List Operand) : LF := match getS u, getS v with
  | .mk g, .mk h => .mk fun regs _ _ => Option.rec (motive := fun _ => Option Value) none (fun us => Option.rec (motive := fun _ => Option Value) none (fun vs => some (.func (.func f) ⟨us⟩ ⟨vs⟩)) (h regs)) (g regs)

/-- A bound of a slice expression. -/
inductive BG where
  | mk (f : Tr Value → Option (Option Value))
noncomputable def BG.run (g : BG) : Tr Value → Option (Option Value) := BG.rec (motive := fun _ => Tr Value → Option (Option Value)) (fun f => f) g
noncomputable def bndO (x : Option Operand) : BG := match x with
  | none => .mk fun _ => some none
  | some o => match getO o with
    | .mk g => .mk fun regs => Option.rec (motive := fun _ => Option (Option Value)) none (fun v => some (some v)) (g regs)
theorem bndO_eq (x : Option Operand) (a : ActD) : (bndO x).run a.regs = match x with
  | none => some none
  | some o => match a.eval o with
    | some v => some (some v)
    | none => none := by
  cases x with
  | none => rfl
  | some o =>
    simp only [← getO_eq o a, bndO]
    cases getO o with
    | mk g =>
      show Option.rec (motive := fun _ => Option (Option Value)) none _ (g a.regs) = match g a.regs with
        | some v => some (some v)
        | none => none
      cases g a.regs <;> rfl
noncomputable def sliceL (P : Program) (t : TypeId) (x : Operand) (l h m : Option Operand) : LF := match getO x, bndO l, bndO h, bndO m with
  | .mk g, .mk l, .mk h, .mk m => .mk fun regs hp nx => Option.rec (motive := fun _ => Option Value) none (fun x => Option.rec (motive := fun _ => Option Value) none (fun l =>
      Option.rec (motive := fun _ => Option Value) none (fun h => Option.rec (motive := fun _ => Option Value) none (fun m => sliceD P t x l h m ⟨hp, nx⟩) (m regs)) (h regs)) (l regs)) (g regs)

/-- The light operations, made ready. -/
noncomputable def compL (P : Program) (op : Op) : LF := match op with
  | .move x | .assign x => movL x
  | .pick c x y => pickL c x y
  | .load t x => loadL P t x
  | .binOp o t x y _ => binL P o t x y
  | .unOp o _ x => oneL x (fun u _ _ => unB o u)
  | .convert u v x => convL P u v x
  | .fieldAddr t x f => fldL P t x f
  | .field t x f => oneL x (fun u _ _ => fieldD P t u f)
  | .indexAddr t x i => idxL P t x i
  | .index t x i => twoL x i (fun u j _ _ => indexD P t u j)
  | .extract x i => oneL x (fun u _ _ => extrF i u)
  | .makeFunc (.func f) u v => funcL f u.toList v.toList
  | .slice t x l h m => sliceL P t x l h m
  | .call { callee := .builtin .len, args := ⟨[x]⟩, argTypes := ⟨t :: _⟩ } => lenL P t x
  | op => slowL P op

theorem compL_eq (P : Program) (op : Op) (a : ActD) (s : St) : (compL P op).run a.regs s.heap s.next = lightD P a s op := by
  unfold compL
  split
  · rename_i x
    show (movL x).run a.regs s.heap s.next = a.eval x
    rw [← getO_eq x a]; unfold movL
    cases getO x; rfl
  · rename_i x
    show (movL x).run a.regs s.heap s.next = a.eval x
    rw [← getO_eq x a]; unfold movL
    cases getO x; rfl
  · rename_i c x y
    simp only [lightD, ← getO_eq, pickL]
    cases getO c with
    | mk c => cases getO x with
      | mk x => cases getO y with
        | mk y =>
          show Option.rec (motive := fun _ => Option Value) none _ (c a.regs) = match c a.regs with
            | some (.bool b) => cond b (x a.regs) (y a.regs)
            | _ => none
          cases c a.regs with
          | none => rfl
          | some v => cases v <;> try rfl
                      rename_i b; cases b <;> rfl
  · rename_i t x
    simp only [lightD, loadL, aggQ_eq]
    split
    · rename_i h
      rw [oneL_eq]
      simp only [ldS_eq h]
      cases a.eval x <;> rfl
    · exact oneL_eq _ _ _ _
  · exact binL_eq _ _ _ _ _ _ _
  · rename_i o t x
    rw [oneL_eq]
    simp only [lightD, unB_eq]
    cases a.eval x <;> rfl
  · rename_i u v x
    simp only [lightD, convL, undQ_eq]
    split
    · rename_i h1 h2
      rename_i K
      cases hW : wrapK K with
      | mk W =>
        simp only
        rw [oneL_eq]
        have : ∀ w, convI K W (convD P u v w s) w = convD P u v w s := by
          intro w
          cases w <;> try rfl
          rename_i j n
          have e : W n = K.wrap n := by rw [← wrapK_eq, hW]; rfl
          show some (Value.int K (W n)) = _
          simp only [convD, h1, h2, e]
        simp only [this]
        cases a.eval x <;> rfl
    · exact oneL_eq _ _ _ _
  · rename_i t x f
    simp only [lightD, fldL]
    split
    · rename_i fo h
      rw [oneL_eq]
      simp only [fldA_eq h]
      cases a.eval x <;> rfl
    · exact oneL_eq _ _ _ _
  · rw [oneL_eq]; rfl
  · rename_i t x i
    simp only [lightD, idxL, undQ_eq, szQ_eq]
    split
    · rename_i e h
      split
      · rename_i size hs
        rw [twoL_eq]
        simp only [idxS_eq h hs]
        cases a.eval x <;> cases a.eval i <;> rfl
      · exact twoL_eq _ _ _ _ _
    · exact twoL_eq _ _ _ _ _
  · rw [twoL_eq]; rfl
  · rename_i x i
    rw [oneL_eq]
    simp only [lightD, extrF_eq]
    cases a.eval x with
    | none => rfl
    | some v => cases v <;> rfl
  · rename_i f u v
    simp only [lightD, ← getS_eq, funcL]
    cases getS u.toList with
    | mk g => cases getS v.toList with
      | mk h =>
        show Option.rec (motive := fun _ => Option Value) none (fun us => Option.rec (motive := fun _ => Option Value) none (fun vs => some (.func (.func f) ⟨us⟩ ⟨vs⟩)) (h a.regs)) (g a.regs) = match g a.regs, h a.regs with
          | some us, some vs => some (.func (.func f) ⟨us⟩ ⟨vs⟩)
          | _, _ => none
        cases g a.regs <;> cases h a.regs <;> rfl
  · rename_i t x l h m
    have hl := bndO_eq l a
    have hh := bndO_eq h a
    have hm := bndO_eq m a
    have hx := getO_eq x a
    have : (sliceL P t x l h m).run a.regs s.heap s.next = match (getO x).run a.regs, (bndO l).run a.regs, (bndO h).run a.regs, (bndO m).run a.regs with
        | some x, some l, some h, some m => sliceD P t x l h m s
        | _, _, _, _ => none := by
      unfold sliceL
      cases getO x with
      | mk g => cases bndO l with
        | mk l => cases bndO h with
          | mk h => cases bndO m with
            | mk m =>
              show Option.rec (motive := fun _ => Option Value) none (fun x => Option.rec (motive := fun _ => Option Value) none (fun l =>
      Option.rec (motive := fun _ => Option Value) none (fun h => Option.rec (motive := fun _ => Option Value) none (fun m => sliceD P t x l h m s) (m a.regs)) (h a.regs)) (l a.regs)) (g a.regs) = match g a.regs, l a.regs, h a.regs, m a.regs with
                | some x, some l, some h, some m => sliceD P t x l h m s
                | _, _, _, _ => none
              cases g a.regs <;> cases l a.regs <;> cases h a.regs <;> cases m a.regs <;> rfl
    rw [this, hx, hl, hh, hm]
    simp only [lightD]
    cases l <;> cases h <;> cases m <;> rfl
  · rename_i x t ts
    simp only [lightD, evals, lenL, undQ_eq]
    split
    · rename_i e h
      rw [oneL_eq]
      have : ∀ u, lenS (lenBD P t u s) u = lenBD P t u s := by
        intro u
        cases u <;> try rfl
        simp only [lenBD, h]; rfl
      simp only [this]
      cases a.eval x <;> rfl
    · rw [oneL_eq]
      cases a.eval x <;> rfl
  · exact slowL_eq _ _ _ _
end Go.Hg
