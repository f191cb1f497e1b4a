/- Quick forms of what the interpreter does, for the kernel: recursors alone, nothing under a match. Numbers, tries. -/
import Derived.Test.YthlkmfeelhbhjaaGreatDoorHgS0
set_option linter.unusedVariables false
set_option linter.unusedSimpArgs false
namespace Go.Hg

/-! ### Paths in tries -/
theorem brec {β : Type} (b : Bool) (x y : β) : Bool.rec (motive := fun _ => β) x y b = cond b y x := by cases b <;> rfl

inductive Pth where
  | e
  | l (p : Pth)
  | r (p : Pth)

noncomputable def getP (p : Pth) : Tr Value → Option Value :=
  Pth.rec (motive := fun _ => Tr Value → Option Value)
    (fun t => Tr.rec (motive := fun _ => Option Value) none (fun v _ _ _ _ => v) t)
    (fun _ ih t => Tr.rec (motive := fun _ => Option Value) none (fun _ l _ _ _ => ih l) t)
    (fun _ ih t => Tr.rec (motive := fun _ => Option Value) none (fun _ _ r _ _ => ih r) t) p

noncomputable def setP (p : Pth) (v : Value) : Tr Value → Tr Value :=
  Pth.rec (motive := fun _ => Tr Value → Tr Value)
    (fun t => Tr.rec (motive := fun _ => Tr Value) (.node (some v) .nil .nil) (fun _ l r _ _ => .node (some v) l r) t)
    (fun _ ih t => Tr.rec (motive := fun _ => Tr Value) (.node none (ih .nil) .nil) (fun w l r _ _ => .node w (ih l) r) t)
    (fun _ ih t => Tr.rec (motive := fun _ => Tr Value) (.node none .nil (ih .nil)) (fun w l r _ _ => .node w l (ih r)) t) p

def pathF : Nat → Nat → Pth
  | 0, _ => .e
  | f + 1, k => match k with
    | 0 => .e
    | k + 1 => cond (Nat.beq (Nat.mod k 2) 0) (.l (pathF f (Nat.div k 2))) (.r (pathF f (Nat.div k 2)))

def pathOf (k : Nat) : Pth := pathF (k + 1) k

theorem pathF_succ (f k : Nat) : pathF (f + 1) (k + 1) = if k % 2 = 0 then .l (pathF f (k / 2)) else .r (pathF f (k / 2)) := Tr.bc _ _ _
theorem getP_pathF : ∀ (f k : Nat) (t : Tr Value), k < f → getP (pathF f k) t = t.get k := by
  intro f
  induction f with
  | zero => intro k t h; omega
  | succ f ih =>
    intro k t h
    cases k with
    | zero => cases t <;> rfl
    | succ k =>
      have hk : k / 2 < f := by omega
      rw [pathF_succ]
      cases t with
      | nil => simp only [Tr.get_nil]; split <;> rfl
      | node v l r =>
        rw [Tr.get_node_succ, ← ih _ l hk, ← ih _ r hk]
        split <;> rfl

theorem getP_of (k : Nat) (t : Tr Value) : getP (pathOf k) t = t.get k := getP_pathF _ _ _ (Nat.lt_succ_self _)

theorem setP_nil : ∀ (f k : Nat) (v : Value), k < f → setP (pathF f k) v .nil = Tr.putG f k (some v) := by
  intro f
  induction f with
  | zero => intro k v h; omega
  | succ f ih =>
    intro k v h
    cases k with
    | zero => rfl
    | succ k =>
      rw [pathF_succ, Tr.putG_succ, ← ih _ v (by omega)]
      split <;> rfl

theorem putG_more {α : Type} : ∀ (f g k : Nat) (o : Option α), k < f → k < g → Tr.putG f k o = Tr.putG g k o := by
  intro f
  induction f with
  | zero => intro g k o h; omega
  | succ f ih =>
    intro g k o h h'
    cases g with
    | zero => omega
    | succ g =>
      cases k with
      | zero => rfl
      | succ k => rw [Tr.putG_succ, Tr.putG_succ, ih g _ o (by omega) (by omega)]

theorem setP_pathF : ∀ (f k : Nat) (v : Value) (t : Tr Value), k < f → setP (pathF f k) v t = t.set k v := by
  intro f
  induction f with
  | zero => intro k v t h; omega
  | succ f ih =>
    intro k v t h
    cases t with
    | nil =>
      rw [setP_nil _ _ _ h]
      exact putG_more _ _ _ _ h (Nat.lt_succ_self _)
    | node w l r =>
      cases k with
      | zero => rfl
      | succ k =>
        have hk : k / 2 < f := by omega
        rw [pathF_succ]
        show _ = Tr.put (.node w l r) (k + 1) (some v)
        rw [Tr.put_node_succ]
        have h1 := ih _ v l hk
        have h2 := ih _ v r hk
        unfold Tr.set at h1 h2
        rw [← h1, ← h2]
        split <;> rfl

theorem setP_of (k : Nat) (v : Value) (t : Tr Value) : setP (pathOf k) v t = t.set k v := setP_pathF _ _ _ _ (Nat.lt_succ_self _)

/-- The way into a trie, as one function. -/
inductive GC where
  | mk (g : Tr Value → Option Value)
noncomputable def getC (p : Pth) : GC := Pth.rec (motive := fun _ => GC)
  (.mk fun t => Tr.rec (motive := fun _ => Option Value) none (fun v _ _ _ _ => v) t)
  (fun _ ih => GC.rec (motive := fun _ => GC) (fun g => .mk fun t => Tr.rec (motive := fun _ => Option Value) none (fun _ l _ _ _ => g l) t) ih)
  (fun _ ih => GC.rec (motive := fun _ => GC) (fun g => .mk fun t => Tr.rec (motive := fun _ => Option Value) none (fun _ _ r _ _ => g r) t) ih) p
theorem getC_eq (p : Pth) : getC p = .mk (getP p) := by
  induction p with
  | e => rfl
  | l p ih =>
    have h : getC (.l p) = GC.rec (motive := fun _ => GC) (fun g => .mk fun t => Tr.rec (motive := fun _ => Option Value) none (fun _ l _ _ _ => g l) t) (getC p) := rfl
    rw [h, ih]; rfl
  | r p ih =>
    have h : getC (.r p) = GC.rec (motive := fun _ => GC) (fun g => .mk fun t => Tr.rec (motive := fun _ => Option Value) none (fun _ _ r _ _ => g r) t) (getC p) := rfl
    rw [h, ih]; rfl
inductive SC where
  | mk (g : Value → Tr Value → Tr Value)
noncomputable def setC (p : Pth) : SC := Pth.rec (motive := fun _ => SC)
  (.mk fun v t => Tr.rec (motive := fun _ => Tr Value) (.node (some v) .nil .nil) (fun _ l r _ _ => .node (some v) l r) t)
  (fun _ ih => SC.rec (motive := fun _ => SC) (fun g => .mk fun v t => Tr.rec (motive := fun _ => Tr Value) (.node none (g v .nil) .nil) (fun w l r _ _ => .node w (g v l) r) t) ih)
  (fun _ ih => SC.rec (motive := fun _ => SC) (fun g => .mk fun v t => Tr.rec (motive := fun _ => Tr Value) (.node none .nil (g v .nil)) (fun w l r _ _ => .node w l (g v r)) t) ih) p
theorem setC_eq (p : Pth) : setC p = .mk (fun v t => setP p v t) := by
  induction p with
  | e => rfl
  | l p ih =>
    have h : setC (.l p) = SC.rec (motive := fun _ => SC) (fun g => .mk fun v t => Tr.rec (motive := fun _ => Tr Value) (.node none (g v .nil) .nil) (fun w l r _ _ => .node w (g v l) r) t) (setC p) := rfl
    rw [h, ih]; rfl
  | r p ih =>
    have h : setC (.r p) = SC.rec (motive := fun _ => SC) (fun g => .mk fun v t => Tr.rec (motive := fun _ => Tr Value) (.node none .nil (g v .nil)) (fun w l r _ _ => .node w l (g v r)) t) (setC p) := rfl
    rw [h, ih]; rfl

/-! ### Numbers -/
noncomputable def addI (x y : Int) : Int :=
  Int.rec (motive := fun _ => Int) (fun m => Int.rec (motive := fun _ => Int) (fun n => .ofNat (Nat.add m n)) (fun n => Int.add (.ofNat m) (.negSucc n)) y) (fun m => Int.add (.negSucc m) y) x
noncomputable def subI (x y : Int) : Int :=
  Int.rec (motive := fun _ => Int) (fun m => Int.rec (motive := fun _ => Int) (fun n => Bool.rec (motive := fun _ => Int) (Int.sub (.ofNat m) (.ofNat n)) (.ofNat (Nat.sub m n)) (Nat.ble n m))
    (fun n => Int.sub (.ofNat m) (.negSucc n)) y) (fun m => Int.sub (.negSucc m) y) x
noncomputable def mulI (x y : Int) : Int :=
  Int.rec (motive := fun _ => Int) (fun m => Int.rec (motive := fun _ => Int) (fun n => .ofNat (Nat.mul m n)) (fun n => Int.mul (.ofNat m) (.negSucc n)) y) (fun m => Int.mul (.negSucc m) y) x

theorem addI_eq (x y : Int) : addI x y = x + y := by cases x <;> cases y <;> rfl
theorem ble_le {m n : Nat} : Nat.ble m n = decide (m ≤ n) := by
  by_cases h : m ≤ n
  · rw [decide_eq_true h]; exact Nat.ble_eq_true_of_le h
  · rw [decide_eq_false h]; cases h2 : Nat.ble m n with
    | false => rfl
    | true => exact absurd (Nat.le_of_ble_eq_true h2) h
theorem subI_eq (x y : Int) : subI x y = x - y := by
  cases x with
  | negSucc m => rfl
  | ofNat m => cases y with
    | negSucc n => rfl
    | ofNat n =>
      refine (brec _ _ _).trans ?_
      cases h : Nat.ble n m with
      | false => rfl
      | true =>
        have h1 : n ≤ m := Nat.le_of_ble_eq_true h
        show Int.ofNat (m - n) = Int.ofNat m - Int.ofNat n
        simp only [Int.ofNat_eq_natCast]; omega
theorem mulI_eq (x y : Int) : mulI x y = x * y := by cases x <;> cases y <;> rfl

/-- The numbers of a kind: how many there are; half of them where it has a sign, else none. -/
def modK (k : IntKind) : Nat := 2 ^ k.bits
def halfK (k : IntKind) : Nat := 2 ^ (k.bits - 1)

/-- wrap, by two literals. -/
noncomputable def wrapU (k : IntKind) (M : Nat) (x : Int) : Int :=
  Int.rec (motive := fun _ => Int) (fun n => .ofNat (Nat.mod n M)) (fun n => k.wrap (.negSucc n)) x
noncomputable def wrapS (k : IntKind) (H : Nat) (x : Int) : Int :=
  Int.rec (motive := fun _ => Int) (fun n => Bool.rec (motive := fun _ => Int) (k.wrap (.ofNat n)) (.ofNat n) (Nat.ble (Nat.succ n) H))
    (fun n => Bool.rec (motive := fun _ => Int) (k.wrap (.negSucc n)) (.negSucc n) (Nat.ble (Nat.succ n) H)) x

theorem wrapU_eq {k : IntKind} (h : k.signed = false) (x : Int) : wrapU k (modK k) x = k.wrap x := by
  cases x with
  | negSucc n => rfl
  | ofNat n =>
    show Int.ofNat (n % 2 ^ k.bits) = _
    simp only [IntKind.wrap, h, Bool.false_and, Bool.false_eq_true, if_false, Int.ofNat_eq_natCast, Int.natCast_emod, Int.natCast_pow]
    rfl

theorem wrapS_eq {k : IntKind} (h : k.signed = true) (x : Int) : wrapS k (halfK k) x = k.wrap x := by
  have hb : ∀ {n : Nat}, Nat.ble (Nat.succ n) (halfK k) = true → n < halfK k := fun h => Nat.le_of_ble_eq_true h
  cases x with
  | ofNat n =>
    refine (brec _ _ _).trans ?_
    cases h2 : Nat.ble (Nat.succ n) (halfK k) with
    | false => rfl
    | true =>
      have h3 := hb h2
      show Int.ofNat n = _
      cases k <;> simp_all [IntKind.wrap, IntKind.signed, IntKind.bits, halfK] <;> omega
  | negSucc n =>
    refine (brec _ _ _).trans ?_
    cases h2 : Nat.ble (Nat.succ n) (halfK k) with
    | false => rfl
    | true =>
      have h3 := hb h2
      show Int.negSucc n = _
      rw [Int.negSucc_eq]
      cases k with
      | u8 => cases h
      | u16 => cases h
      | u32 => cases h
      | u64 => cases h
      | i8 =>
        have h4 : n < 128 := h3
        have e : IntKind.wrap .i8 (-((n : Int) + 1)) = if ((-((n : Int) + 1)) % 256 ≥ 128) then (-((n : Int) + 1)) % 256 - 256 else (-((n : Int) + 1)) % 256 := by
          show (if (true && decide ((-((n : Int) + 1)) % 256 ≥ 128)) = true then (-((n : Int) + 1)) % 256 - 256 else (-((n : Int) + 1)) % 256) = _
          rw [Bool.true_and]
          by_cases h5 : (-((n : Int) + 1)) % 256 ≥ 128
          · rw [decide_eq_true h5, if_pos rfl, if_pos h5]
          · rw [decide_eq_false h5, if_neg Bool.false_ne_true, if_neg h5]
        rw [e]; split <;> omega
      | i16 =>
        have h4 : n < 32768 := h3
        have e : IntKind.wrap .i16 (-((n : Int) + 1)) = if ((-((n : Int) + 1)) % 65536 ≥ 32768) then (-((n : Int) + 1)) % 65536 - 65536 else (-((n : Int) + 1)) % 65536 := by
          show (if (true && decide ((-((n : Int) + 1)) % 65536 ≥ 32768)) = true then (-((n : Int) + 1)) % 65536 - 65536 else (-((n : Int) + 1)) % 65536) = _
          rw [Bool.true_and]
          by_cases h5 : (-((n : Int) + 1)) % 65536 ≥ 32768
          · rw [decide_eq_true h5, if_pos rfl, if_pos h5]
          · rw [decide_eq_false h5, if_neg Bool.false_ne_true, if_neg h5]
        rw [e]; split <;> omega
      | i32 =>
        have h4 : n < 2147483648 := h3
        have e : IntKind.wrap .i32 (-((n : Int) + 1)) = if ((-((n : Int) + 1)) % 4294967296 ≥ 2147483648) then (-((n : Int) + 1)) % 4294967296 - 4294967296 else (-((n : Int) + 1)) % 4294967296 := by
          show (if (true && decide ((-((n : Int) + 1)) % 4294967296 ≥ 2147483648)) = true then (-((n : Int) + 1)) % 4294967296 - 4294967296 else (-((n : Int) + 1)) % 4294967296) = _
          rw [Bool.true_and]
          by_cases h5 : (-((n : Int) + 1)) % 4294967296 ≥ 2147483648
          · rw [decide_eq_true h5, if_pos rfl, if_pos h5]
          · rw [decide_eq_false h5, if_neg Bool.false_ne_true, if_neg h5]
        rw [e]; split <;> omega
      | i64 =>
        have h4 : n < 9223372036854775808 := h3
        have e : IntKind.wrap .i64 (-((n : Int) + 1)) = if ((-((n : Int) + 1)) % 18446744073709551616 ≥ 9223372036854775808) then (-((n : Int) + 1)) % 18446744073709551616 - 18446744073709551616 else (-((n : Int) + 1)) % 18446744073709551616 := by
          show (if (true && decide ((-((n : Int) + 1)) % 18446744073709551616 ≥ 9223372036854775808)) = true then (-((n : Int) + 1)) % 18446744073709551616 - 18446744073709551616 else (-((n : Int) + 1)) % 18446744073709551616) = _
          rw [Bool.true_and]
          by_cases h5 : (-((n : Int) + 1)) % 18446744073709551616 ≥ 9223372036854775808
          · rw [decide_eq_true h5, if_pos rfl, if_pos h5]
          · rw [decide_eq_false h5, if_neg Bool.false_ne_true, if_neg h5]
        rw [e]; split <;> omega

/-- wrap of a kind, chosen ahead. -/
inductive WF where
  | mk (f : Int → Int)
noncomputable def wrapK (k : IntKind) : WF := IntKind.rec (motive := fun _ => WF)
  (.mk (wrapS .i8 128)) (.mk (wrapS .i16 32768)) (.mk (wrapS .i32 2147483648)) (.mk (wrapS .i64 9223372036854775808))
  (.mk (wrapU .u8 256)) (.mk (wrapU .u16 65536)) (.mk (wrapU .u32 4294967296)) (.mk (wrapU .u64 18446744073709551616)) k
noncomputable def WF.run (w : WF) : Int → Int := WF.rec (motive := fun _ => Int → Int) (fun f => f) w
theorem wrapK_eq (k : IntKind) (x : Int) : (wrapK k).run x = k.wrap x := by
  cases k
  · exact wrapS_eq (k := .i8) rfl x
  · exact wrapS_eq (k := .i16) rfl x
  · exact wrapS_eq (k := .i32) rfl x
  · exact wrapS_eq (k := .i64) rfl x
  · exact wrapU_eq (k := .u8) rfl x
  · exact wrapU_eq (k := .u16) rfl x
  · exact wrapU_eq (k := .u32) rfl x
  · exact wrapU_eq (k := .u64) rfl x

noncomputable def eqI (x y : Int) : Bool :=
  Int.rec (motive := fun _ => Bool) (fun m => Int.rec (motive := fun _ => Bool) (fun n => Nat.beq m n) (fun _ => false) y)
    (fun m => Int.rec (motive := fun _ => Bool) (fun _ => false) (fun n => Nat.beq m n) y) x
noncomputable def ltI (x y : Int) : Bool :=
  Int.rec (motive := fun _ => Bool) (fun m => Int.rec (motive := fun _ => Bool) (fun n => Nat.ble (Nat.succ m) n) (fun _ => false) y)
    (fun m => Int.rec (motive := fun _ => Bool) (fun _ => true) (fun n => Nat.ble (Nat.succ n) m) y) x
noncomputable def leI (x y : Int) : Bool :=
  Int.rec (motive := fun _ => Bool) (fun m => Int.rec (motive := fun _ => Bool) (fun n => Nat.ble m n) (fun _ => false) y)
    (fun m => Int.rec (motive := fun _ => Bool) (fun _ => true) (fun n => Nat.ble n m) y) x

theorem beq_dec (m n : Nat) : Nat.beq m n = decide (m = n) := by
  by_cases h : m = n
  · rw [decide_eq_true h]; exact Nat.beq_eq ▸ h
  · rw [decide_eq_false h]; cases h2 : Nat.beq m n with
    | false => rfl
    | true => exact absurd (Nat.eq_of_beq_eq_true h2) h
theorem eqI_eq (x y : Int) : eqI x y = decide (x = y) := by
  cases x <;> cases y
  · show Nat.beq _ _ = _; rw [beq_dec]; simp; omega
  · show false = _; symm; exact decide_eq_false (by intro h; cases h)
  · show false = _; symm; exact decide_eq_false (by intro h; cases h)
  · show Nat.beq _ _ = _; rw [beq_dec]; simp
theorem ltI_eq (x y : Int) : ltI x y = decide (x < y) := by
  cases x <;> cases y
  · show Nat.ble _ _ = _; rw [ble_le]; simp; omega
  · show false = _; symm; exact decide_eq_false (by simp [Int.negSucc_eq]; omega)
  · show true = _; symm; exact decide_eq_true (by simp [Int.negSucc_eq]; omega)
  · show Nat.ble _ _ = _; rw [ble_le]; simp [Int.negSucc_eq]; omega
theorem leI_eq (x y : Int) : leI x y = decide (x ≤ y) := by
  cases x <;> cases y
  · show Nat.ble _ _ = _; rw [ble_le]; simp
  · show false = _; symm; exact decide_eq_false (by simp [Int.negSucc_eq]; omega)
  · show true = _; symm; exact decide_eq_true (by simp [Int.negSucc_eq]; omega)
  · show Nat.ble _ _ = _; rw [ble_le]; simp [Int.negSucc_eq]
end Go.Hg
