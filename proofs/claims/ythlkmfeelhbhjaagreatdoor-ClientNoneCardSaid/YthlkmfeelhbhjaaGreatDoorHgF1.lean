/- Quick forms of the interpreter's operations that only reckon and read: closures, made once for each operation. -/
import Derived.Test.YthlkmfeelhbhjaaGreatDoorHgF0b
set_option linter.unusedVariables false
set_option linter.unusedSimpArgs false
namespace Go.Hg

abbrev Res := Option (ExitD × ActD × St)

inductive G where
  | mk (f : Tr Value → Option Value)
noncomputable def G.run (g : G) : Tr Value → Option Value := G.rec (motive := fun _ => Tr Value → Option Value) (fun f => f) g

noncomputable def getO (x : Operand) : G := match x with
  | .tmp t => match getC (pathOf t) with
    | .mk g => .mk g
  | .const v => cond (plainV v) (.mk fun _ => some v) (.mk fun _ => none)
  | .func f => .mk fun _ => some (.func (.func f) #[] #[])
  | .global _ => .mk fun _ => none

theorem getO_eq (x : Operand) (a : ActD) : (getO x).run a.regs = a.eval x := by
  cases x with
  | tmp t =>
    simp only [getO, getC_eq]
    exact getP_of t a.regs
  | const v =>
    show G.run (cond (plainV v) _ _) a.regs = cond (plainV v) (some v) none
    cases plainV v <;> rfl
  | func f => rfl
  | global g => rfl

/-! ### Values by kind -/
noncomputable def vInt (d : Option Value) (f : IntKind → Int → Option Value) (x : Value) : Option Value :=
  @Value.rec (fun _ => Option Value) (fun _ => Unit) (fun _ => Unit) (fun _ => d) f (fun _ _ => d) (fun _ _ _ => d) (fun _ => d) (fun _ => d) (fun _ _ _ => d) (fun _ => d) (fun _ => d)
    (fun _ _ _ _ _ => d) d (fun _ _ _ => d) d (fun _ _ => d) (fun _ _ => d) (fun _ _ => ()) () (fun _ _ _ _ => ()) x
noncomputable def vBool (d : Option Value) (f : Bool → Option Value) (x : Value) : Option Value :=
  @Value.rec (fun _ => Option Value) (fun _ => Unit) (fun _ => Unit) f (fun _ _ => d) (fun _ _ => d) (fun _ _ _ => d) (fun _ => d) (fun _ => d) (fun _ _ _ => d) (fun _ => d) (fun _ => d)
    (fun _ _ _ _ _ => d) d (fun _ _ _ => d) d (fun _ _ => d) (fun _ _ => d) (fun _ _ => ()) () (fun _ _ _ _ => ()) x
noncomputable def vPtr (d : Option Value) (f : Option Addr → Option Value) (x : Value) : Option Value :=
  @Value.rec (fun _ => Option Value) (fun _ => Unit) (fun _ => Unit) (fun _ => d) (fun _ _ => d) (fun _ _ => d) (fun _ _ _ => d) (fun _ => d) f (fun _ _ _ => d) (fun _ => d) (fun _ => d)
    (fun _ _ _ _ _ => d) d (fun _ _ _ => d) d (fun _ _ => d) (fun _ _ => d) (fun _ _ => ()) () (fun _ _ _ _ => ()) x
noncomputable def vSlice (d : Option Value) (f : Option Addr → Nat → Nat → Option Value) (x : Value) : Option Value :=
  @Value.rec (fun _ => Option Value) (fun _ => Unit) (fun _ => Unit) (fun _ => d) (fun _ _ => d) (fun _ _ => d) (fun _ _ _ => d) (fun _ => d) (fun _ => d) f (fun _ => d) (fun _ => d)
    (fun _ _ _ _ _ => d) d (fun _ _ _ => d) d (fun _ _ => d) (fun _ _ => d) (fun _ _ => ()) () (fun _ _ _ _ => ()) x
noncomputable def bindV (o : Option Value) (f : Value → Option Value) : Option Value := Option.rec (motive := fun _ => Option Value) none f o
theorem bindV_eq (o : Option Value) (f : Value → Option Value) : bindV o f = match o with
  | some v => f v
  | none => none := by cases o <;> rfl

/-- Is it this kind? -/
inductive TK where
  | mk (f : IntKind → Bool)
noncomputable def isK (k : IntKind) : TK := match k with
  | .i8 => .mk (IntKind.rec true false false false false false false false)
  | .i16 => .mk (IntKind.rec false true false false false false false false)
  | .i32 => .mk (IntKind.rec false false true false false false false false)
  | .i64 => .mk (IntKind.rec false false false true false false false false)
  | .u8 => .mk (IntKind.rec false false false false true false false false)
  | .u16 => .mk (IntKind.rec false false false false false true false false)
  | .u32 => .mk (IntKind.rec false false false false false false true false)
  | .u64 => .mk (IntKind.rec false false false false false false false true)
noncomputable def TK.run (t : TK) : IntKind → Bool := TK.rec (motive := fun _ => IntKind → Bool) (fun f => f) t
theorem isK_eq {k j : IntKind} (h : (isK k).run j = true) : j = k := by cases k <;> cases j <;> first | rfl | cases h

/-! ### Two numbers -/
/-- Two numbers of one kind: F; else fb. -/
noncomputable def twoInts (tk : IntKind → Bool) (F : Int → Int → Option Value) (fb : Value → Value → Option Value) (x y : Value) : Option Value :=
  vInt (fb x y) (fun j a => vInt (fb x y) (fun k b => Bool.rec (motive := fun _ => Option Value) (fb x y) (Bool.rec (motive := fun _ => Option Value) (fb x y) (F a b) (tk k)) (tk j)) y) x

theorem twoInts_eq {K : IntKind} {F : Int → Int → Option Value} {fb : Value → Value → Option Value} (h : ∀ a b, F a b = fb (.int K a) (.int K b)) (x y : Value) : twoInts (isK K).run F fb x y = fb x y := by
  unfold twoInts
  cases x <;> try rfl
  rename_i j a
  cases y <;> try rfl
  rename_i k b
  show Bool.rec (motive := fun _ => Option Value) _ (Bool.rec (motive := fun _ => Option Value) _ _ _) _ = _
  rw [brec, brec]
  cases hj : (isK K).run j with
  | false => rfl
  | true => cases hk : (isK K).run k with
    | false => rfl
    | true => rw [isK_eq hj, isK_eq hk]; exact h a b

/-- A number moved by a number of any kind: F; else fb. -/
noncomputable def shInts (tk : IntKind → Bool) (F : Int → Int → Option Value → Option Value) (fb : Value → Value → Option Value) (x y : Value) : Option Value :=
  vInt (fb x y) (fun j a => vInt (fb x y) (fun _ b => Bool.rec (motive := fun _ => Option Value) (fb x y) (F a b (fb x y)) (tk j)) y) x

theorem shInts_eq {K : IntKind} {F : Int → Int → Option Value → Option Value} {fb : Value → Value → Option Value} (h : ∀ a k b, F a b (fb (.int K a) (.int k b)) = fb (.int K a) (.int k b)) (x y : Value) :
    shInts (isK K).run F fb x y = fb x y := by
  unfold shInts
  cases x <;> try rfl
  rename_i j a
  cases y <;> try rfl
  rename_i k b
  show Bool.rec (motive := fun _ => Option Value) _ _ _ = _
  rw [brec]
  cases hj : (isK K).run j with
  | false => rfl
  | true => rw [isK_eq hj]; exact h a k b

/-- What a pair of numbers comes to that are none below 0. -/
noncomputable def nats (F : Nat → Nat → Option Value) (fb : Int → Int → Option Value) (a b : Int) : Option Value :=
  Int.rec (motive := fun _ => Option Value) (fun m => Int.rec (motive := fun _ => Option Value) (fun n => F m n) (fun _ => fb a b) b) (fun _ => fb a b) a
theorem nats_eq {F : Nat → Nat → Option Value} {fb : Int → Int → Option Value} (h : ∀ m n : Nat, F m n = fb (.ofNat m) (.ofNat n)) (a b : Int) : nats F fb a b = fb a b := by
  cases a <;> cases b <;> first | exact h _ _ | rfl

section ints
variable (P : Program) (t : TypeId) (xo yo : Operand)

theorem pureV_int (k : IntKind) (n : Int) : pureV (.pure (.int k n)) = some (.int k n) := rfl
theorem pureV_bool (b : Bool) : pureV (.pure (.bool b)) = some (.bool b) := rfl

theorem bin_add (K : IntKind) (a b : Int) : binD P .add t xo yo (.int K a) (.int K b) = some (.int K (K.wrap (a + b))) := by
  simp only [binD, binOp, ne_eq, not_true, if_false, Op.intArith]; exact pureV_int _ _
theorem bin_sub (K : IntKind) (a b : Int) : binD P .sub t xo yo (.int K a) (.int K b) = some (.int K (K.wrap (a - b))) := by
  simp only [binD, binOp, ne_eq, not_true, if_false, Op.intArith]; exact pureV_int _ _
theorem bin_mul (K : IntKind) (a b : Int) : binD P .mul t xo yo (.int K a) (.int K b) = some (.int K (K.wrap (a * b))) := by
  simp only [binD, binOp, ne_eq, not_true, if_false, Op.intArith]; exact pureV_int _ _
theorem bin_eql (K : IntKind) (a b : Int) : binD P .eql t xo yo (.int K a) (.int K b) = some (.bool (a == b)) := by
  simp only [binD, binOp, ne_eq, not_true, if_false, Op.intCmp]; exact pureV_bool _
theorem bin_neq (K : IntKind) (a b : Int) : binD P .neq t xo yo (.int K a) (.int K b) = some (.bool (a != b)) := by
  simp only [binD, binOp, ne_eq, not_true, if_false, Op.intCmp]; exact pureV_bool _
theorem bin_lss (K : IntKind) (a b : Int) : binD P .lss t xo yo (.int K a) (.int K b) = some (.bool (decide (a < b))) := by
  simp only [binD, binOp, ne_eq, not_true, if_false, Op.intCmp]; exact pureV_bool _
theorem bin_leq (K : IntKind) (a b : Int) : binD P .leq t xo yo (.int K a) (.int K b) = some (.bool (decide (a ≤ b))) := by
  simp only [binD, binOp, ne_eq, not_true, if_false, Op.intCmp]; exact pureV_bool _
theorem bin_gtr (K : IntKind) (a b : Int) : binD P .gtr t xo yo (.int K a) (.int K b) = some (.bool (decide (a > b))) := by
  simp only [binD, binOp, ne_eq, not_true, if_false, Op.intCmp]; exact pureV_bool _
theorem bin_geq (K : IntKind) (a b : Int) : binD P .geq t xo yo (.int K a) (.int K b) = some (.bool (decide (a ≥ b))) := by
  simp only [binD, binOp, ne_eq, not_true, if_false, Op.intCmp]; exact pureV_bool _
theorem bin_quo (K : IntKind) (m n : Nat) : binD P .quo t xo yo (.int K (.ofNat m)) (.int K (.ofNat (n + 1))) = some (.int K (K.wrap (.ofNat (m / (n + 1))))) := by
  have h : ¬ ((Int.ofNat (n + 1)) = 0) := by intro h; cases h
  simp only [binD, binOp, ne_eq, not_true, if_false, Op.intDiv, h]; exact pureV_int _ _
theorem bin_rem (K : IntKind) (m n : Nat) : binD P .rem t xo yo (.int K (.ofNat m)) (.int K (.ofNat (n + 1))) = some (.int K (.ofNat (m % (n + 1)))) := by
  have h : ¬ ((Int.ofNat (n + 1)) = 0) := by intro h; cases h
  simp only [binD, binOp, ne_eq, not_true, if_false, Op.intDiv, h]; exact pureV_int _ _
theorem ofInt_nat (w m : Nat) : (BitVec.ofInt w (.ofNat m)).toNat = m % 2 ^ w := by
  rw [Int.ofNat_eq_natCast, BitVec.ofInt_natCast, BitVec.toNat_ofNat]
theorem bin_xor (K : IntKind) (m n : Nat) : binD P .xor t xo yo (.int K (.ofNat m)) (.int K (.ofNat n)) = some (.int K (K.wrap (.ofNat (Nat.xor (m % modK K) (n % modK K))))) := by
  simp only [binD, binOp, ne_eq, not_true, if_false, Op.intBits]
  refine (pureV_int _ _).trans ?_
  rw [BitVec.toNat_xor, ofInt_nat, ofInt_nat]; rfl
theorem bin_and (K : IntKind) (m n : Nat) : binD P .and t xo yo (.int K (.ofNat m)) (.int K (.ofNat n)) = some (.int K (K.wrap (.ofNat (Nat.land (m % modK K) (n % modK K))))) := by
  simp only [binD, binOp, ne_eq, not_true, if_false, Op.intBits]
  refine (pureV_int _ _).trans ?_
  rw [BitVec.toNat_and, ofInt_nat, ofInt_nat]; rfl
theorem bin_or (K : IntKind) (m n : Nat) : binD P .or t xo yo (.int K (.ofNat m)) (.int K (.ofNat n)) = some (.int K (K.wrap (.ofNat (Nat.lor (m % modK K) (n % modK K))))) := by
  simp only [binD, binOp, ne_eq, not_true, if_false, Op.intBits]
  refine (pureV_int _ _).trans ?_
  rw [BitVec.toNat_or, ofInt_nat, ofInt_nat]; rfl

noncomputable def minN (b w : Nat) : Nat := Bool.rec (motive := fun _ => Nat) w b (Nat.ble b w)
theorem minN_eq (b w : Nat) : minN b w = min b w := by
  unfold minN; rw [brec, ble_le]
  by_cases h : b ≤ w
  · rw [decide_eq_true h, Nat.min_eq_left h]; rfl
  · rw [decide_eq_false h, Nat.min_eq_right (by omega)]; rfl
theorem bin_shl (K k : IntKind) (m n : Nat) : binD P .shl t xo yo (.int K (.ofNat m)) (.int k (.ofNat n)) = some (.int K (K.wrap (.ofNat (m * 2 ^ minN n K.bits)))) := by
  have h : ¬ ((Int.ofNat n) < 0) := by simp
  simp only [binD, binOp, Op.shift, h, if_false]
  refine (pureV_int _ _).trans ?_
  rw [minN_eq]; simp only [Int.ofNat_eq_natCast, Int.natCast_mul, Int.natCast_pow, Int.toNat_natCast]; rfl
theorem bin_shr (K k : IntKind) (m n : Nat) : binD P .shr t xo yo (.int K (.ofNat m)) (.int k (.ofNat n)) = some (.int K (.ofNat (m / 2 ^ minN n K.bits))) := by
  have h : ¬ ((Int.ofNat n) < 0) := by simp
  simp only [binD, binOp, Op.shift, h, if_false]
  refine (pureV_int _ _).trans ?_
  rw [minN_eq]
  have : ((2 : Int) ^ (min (Int.ofNat n).toNat K.bits)) = ((2 ^ min n K.bits : Nat) : Int) := by
    simp only [Int.ofNat_eq_natCast, Int.toNat_natCast, Int.natCast_pow]; rfl
  rw [this]
  have h2 : (Int.ofNat m).fdiv ((2 ^ min n K.bits : Nat) : Int) = Int.ofNat (m / 2 ^ min n K.bits) := by
    rw [Int.ofNat_eq_natCast, Int.ofNat_eq_natCast, Int.natCast_ediv, Int.fdiv_eq_ediv_of_nonneg _ (Int.natCast_nonneg _)]
  rw [h2]

inductive BF where
  | mk (f : Value → Value → Option Value)
noncomputable def BF.run (g : BF) : Value → Value → Option Value := BF.rec (motive := fun _ => Value → Value → Option Value) (fun f => f) g

/-- The value of an operation on two numbers of a known kind. -/
noncomputable def binK (op : BinOp) (K : IntKind) (W : Int → Int) (M w : Nat) (tk : IntKind → Bool) (fb : Value → Value → Option Value) : BF := match op with
  | .add => .mk (twoInts tk (fun a b => some (.int K (W (addI a b)))) fb)
  | .sub => .mk (twoInts tk (fun a b => some (.int K (W (subI a b)))) fb)
  | .mul => .mk (twoInts tk (fun a b => some (.int K (W (mulI a b)))) fb)
  | .quo => .mk (twoInts tk (nats (fun m n => Nat.rec (motive := fun _ => Option Value) (fb (.int K (.ofNat m)) (.int K (.ofNat n))) (fun _ _ => some (.int K (W (.ofNat (Nat.div m n))))) n) (fun a b => fb (.int K a) (.int K b))) fb)
  | .rem => .mk (twoInts tk (nats (fun m n => Nat.rec (motive := fun _ => Option Value) (fb (.int K (.ofNat m)) (.int K (.ofNat n))) (fun _ _ => some (.int K (.ofNat (Nat.mod m n)))) n) (fun a b => fb (.int K a) (.int K b))) fb)
  | .xor => .mk (twoInts tk (nats (fun m n => some (.int K (W (.ofNat (Nat.xor (Nat.mod m M) (Nat.mod n M)))))) (fun a b => fb (.int K a) (.int K b))) fb)
  | .and => .mk (twoInts tk (nats (fun m n => some (.int K (W (.ofNat (Nat.land (Nat.mod m M) (Nat.mod n M)))))) (fun a b => fb (.int K a) (.int K b))) fb)
  | .or => .mk (twoInts tk (nats (fun m n => some (.int K (W (.ofNat (Nat.lor (Nat.mod m M) (Nat.mod n M)))))) (fun a b => fb (.int K a) (.int K b))) fb)
  | .eql => .mk (twoInts tk (fun a b => some (.bool (eqI a b))) fb)
  | .neq => .mk (twoInts tk (fun a b => some (.bool (Bool.rec (motive := fun _ => Bool) true false (eqI a b)))) fb)
  | .lss => .mk (twoInts tk (fun a b => some (.bool (ltI a b))) fb)
  | .leq => .mk (twoInts tk (fun a b => some (.bool (leI a b))) fb)
  | .gtr => .mk (twoInts tk (fun a b => some (.bool (ltI b a))) fb)
  | .geq => .mk (twoInts tk (fun a b => some (.bool (leI b a))) fb)
  | .shl => .mk (shInts tk (fun a b d => nats (fun m n => some (.int K (W (.ofNat (Nat.mul m (Nat.pow 2 (minN n w))))))) (fun _ _ => d) a b) fb)
  | .shr => .mk (shInts tk (fun a b d => nats (fun m n => some (.int K (.ofNat (Nat.div m (Nat.pow 2 (minN n w)))))) (fun _ _ => d) a b) fb)
  | _ => .mk fb

theorem binK_eq (op : BinOp) (K : IntKind) (x y : Value) :
    (binK op K (wrapK K).run (modK K) K.bits (isK K).run (binD P op t xo yo)).run x y = binD P op t xo yo x y := by
  cases op with
  | add => exact twoInts_eq (fun a b => by rw [bin_add, wrapK_eq, addI_eq]) x y
  | sub => exact twoInts_eq (fun a b => by rw [bin_sub, wrapK_eq, subI_eq]) x y
  | mul => exact twoInts_eq (fun a b => by rw [bin_mul, wrapK_eq, mulI_eq]) x y
  | quo => exact twoInts_eq (fun a b => nats_eq (fb := fun a b => binD P .quo t xo yo (.int K a) (.int K b)) (fun m n => by
      cases n with
      | zero => rfl
      | succ n => rw [bin_quo, ← wrapK_eq]; rfl) a b) x y
  | rem => exact twoInts_eq (fun a b => nats_eq (fb := fun a b => binD P .rem t xo yo (.int K a) (.int K b)) (fun m n => by
      cases n with
      | zero => rfl
      | succ n => rw [bin_rem]; rfl) a b) x y
  | xor => exact twoInts_eq (fun a b => nats_eq (fb := fun a b => binD P .xor t xo yo (.int K a) (.int K b)) (fun m n => by rw [bin_xor, ← wrapK_eq]; rfl) a b) x y
  | and => exact twoInts_eq (fun a b => nats_eq (fb := fun a b => binD P .and t xo yo (.int K a) (.int K b)) (fun m n => by rw [bin_and, ← wrapK_eq]; rfl) a b) x y
  | or => exact twoInts_eq (fun a b => nats_eq (fb := fun a b => binD P .or t xo yo (.int K a) (.int K b)) (fun m n => by rw [bin_or, ← wrapK_eq]; rfl) a b) x y
  | eql => exact twoInts_eq (fun a b => by rw [bin_eql, eqI_eq]; rfl) x y
  | neq => exact twoInts_eq (fun a b => by
      rw [bin_neq, eqI_eq, brec]
      show some (Value.bool (cond (decide (a = b)) false true)) = some (Value.bool (!decide (a = b)))
      cases decide (a = b) <;> rfl) x y
  | lss => exact twoInts_eq (fun a b => by rw [bin_lss, ltI_eq]) x y
  | leq => exact twoInts_eq (fun a b => by rw [bin_leq, leI_eq]) x y
  | gtr => exact twoInts_eq (fun a b => by rw [bin_gtr, ltI_eq]) x y
  | geq => exact twoInts_eq (fun a b => by rw [bin_geq, leI_eq]) x y
  | shl =>
    refine shInts_eq (F := fun a b d => nats (fun m n => some (.int K ((wrapK K).run (.ofNat (Nat.mul m (Nat.pow 2 (minN n K.bits))))))) (fun _ _ => d) a b) (fun a k b => ?_) x y
    cases a <;> cases b <;> first | rfl | (rw [bin_shl, ← wrapK_eq]; rfl)
  | shr =>
    refine shInts_eq (F := fun a b d => nats (fun m n => some (.int K (.ofNat (Nat.div m (Nat.pow 2 (minN n K.bits)))))) (fun _ _ => d) a b) (fun a k b => ?_) x y
    cases a <;> cases b <;> first | rfl | (rw [bin_shr]; rfl)
  | andNot => rfl
end ints
end Go.Hg
