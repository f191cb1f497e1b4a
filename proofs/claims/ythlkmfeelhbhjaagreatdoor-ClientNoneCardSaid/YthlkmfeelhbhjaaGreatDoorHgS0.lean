/- What the interpreter's states stand for in the model: the relation, and its plain laws. -/
import Derived.Test.YthlkmfeelhbhjaaGreatDoorHgD1
import Derived.Calls
import Derived.AtR
set_option linter.unusedVariables false
set_option linter.unusedSimpArgs false
namespace Go.Hg

/-! ### Tries -/
namespace Tr
variable {α : Type}

@[simp] theorem get_nil (k : Nat) : (nil : Tr α).get k = none := rfl
@[simp] theorem get_node_zero (v : Option α) (l r : Tr α) : (node v l r).get 0 = v := rfl
theorem brc {β : Type} (b : Bool) (x y : β) : Bool.rec (motive := fun _ => β) x y b = cond b y x := by cases b <;> rfl
theorem bc {β : Type} (k : Nat) (x y : β) : cond (Nat.beq (Nat.mod k 2) 0) x y = if k % 2 = 0 then x else y := by
  have h : Nat.beq (Nat.mod k 2) 0 = decide (k % 2 = 0) := by
    have : Nat.mod k 2 = k % 2 := rfl
    rw [this]
    cases h2 : k % 2 <;> rfl
  rw [h]
  by_cases h3 : k % 2 = 0 <;> simp [h3]
theorem get_node_succ (v : Option α) (l r : Tr α) (k : Nat) : (node v l r).get (k + 1) = if k % 2 = 0 then l.get (k / 2) else r.get (k / 2) := (brc _ _ _).trans (bc _ _ _)
theorem putG_succ (f k : Nat) (o : Option α) : putG (f + 1) (k + 1) o = if k % 2 = 0 then .node none (putG f (k / 2) o) .nil else .node none .nil (putG f (k / 2) o) := (brc _ _ _).trans (bc _ _ _)
theorem put_node_succ (v : Option α) (l r : Tr α) (k : Nat) (o : Option α) : put (node v l r) (k + 1) o = if k % 2 = 0 then .node v (put l (k / 2) o) r else .node v l (put r (k / 2) o) := (brc _ _ _).trans (bc _ _ _)

theorem get_putG (f : Nat) : ∀ (k j : Nat) (o : Option α), k < f → (putG f k o).get j = if j = k then o else none := by
  induction f with
  | zero => intro k j o h; omega
  | succ f ih =>
    intro k j o h
    cases k with
    | zero => cases j with
      | zero => rfl
      | succ j =>
        have : putG (f + 1) 0 o = .node o .nil .nil := rfl
        rw [this, get_node_succ]; simp only [get_nil, ite_self]; rw [if_neg (Nat.succ_ne_zero j)]
    | succ k =>
      have hk : k / 2 < f := by omega
      rw [putG_succ]
      cases j with
      | zero => split <;> (rw [get_node_zero, if_neg (by omega)])
      | succ j =>
        by_cases h1 : k % 2 = 0 <;> by_cases h2 : j % 2 = 0 <;> simp only [h1, if_true, if_false, get_node_succ, h2, ih _ _ _ hk, get_nil] <;> (repeat' split) <;> first | rfl | omega

theorem get_put (t : Tr α) : ∀ (k j : Nat) (o : Option α), (t.put k o).get j = if j = k then o else t.get j := by
  induction t with
  | nil => intro k j o; rw [get_nil]; exact get_putG _ _ _ _ (Nat.lt_succ_self _)
  | node v l r ihl ihr =>
    intro k j o
    cases k with
    | zero => cases j with
      | zero => rfl
      | succ j =>
        have : put (node v l r) 0 o = .node o l r := rfl
        rw [this, get_node_succ, get_node_succ, if_neg (Nat.succ_ne_zero j)]
    | succ k =>
      rw [put_node_succ]
      cases j with
      | zero => split <;> (rw [if_neg (by omega)]; rfl)
      | succ j =>
        by_cases h1 : k % 2 = 0 <;> by_cases h2 : j % 2 = 0 <;> simp only [h1, if_true, if_false, get_node_succ, h2, ihl, ihr] <;> (repeat' split) <;> first | rfl | omega
theorem get_set (t : Tr α) (k j : Nat) (v : α) : (t.set k v).get j = if j = k then some v else t.get j := get_put _ _ _ _
@[simp] theorem get_set_same (t : Tr α) (k : Nat) (v : α) : (t.set k v).get k = some v := by simp [get_set]

theorem get_fill (l : List α) : ∀ (t : Tr α) (i j : Nat), (fill t i l).get j = if i ≤ j ∧ j < i + l.length then l[j - i]? else t.get j := by
  induction l with
  | nil => intro t i j; simp only [fill]; rw [if_neg (by simp)]
  | cons v vs ih =>
    intro t i j
    simp only [fill, ih, get_set, List.length_cons, Nat.succ_eq_add_one]
    by_cases h : j = i
    · subst h
      rw [if_neg (by omega), if_pos rfl, if_pos (by omega)]; simp
    · by_cases h2 : i ≤ j ∧ j < i + (vs.length + 1)
      · rw [if_pos (by omega), if_pos h2]
        obtain ⟨m, rfl⟩ : ∃ m, j = i + 1 + m := ⟨j - (i + 1), by omega⟩
        simp [show i + 1 + m - (i + 1) = m by omega, show i + 1 + m - i = m + 1 by omega]
      · rw [if_neg (by omega), if_neg h, if_neg h2]

theorem get_ofList (l : List α) (j : Nat) : (ofList l).get j = l[j]? := by
  simp only [ofList, get_fill, get_nil, Nat.zero_le, true_and, Nat.zero_add, Nat.sub_zero]
  split
  · rfl
  · rw [List.getElem?_eq_none (by omega)]
end Tr

/-! ### What a name stands for -/
structure Loc where
  block : Nat
  base : Nat
  size : Nat
  grow : Nat
  room : Nat

abbrev Env := Nat → Option Loc

def Env.le (ρ ρ' : Env) : Prop := ∀ k L, ρ k = some L → ρ' k = some L
theorem Env.le_refl (ρ : Env) : ρ.le ρ := fun _ _ h => h
theorem Env.le_trans {ρ₁ ρ₂ ρ₃ : Env} (h : ρ₁.le ρ₂) (h' : ρ₂.le ρ₃) : ρ₁.le ρ₃ := fun k L hk => h' k L (h k L hk)

/-- A value of the interpreter's, and one of the model's. -/
inductive VR (ρ : Env) : Value → Value → Prop
  | bool (b : Bool) : VR ρ (.bool b) (.bool b)
  | int (k : IntKind) (n : Int) : VR ρ (.int k n) (.int k n)
  | string (b : ByteArray) : VR ρ (.string b) (.string b)
  | nilFunc : VR ρ .nilFunc .nilFunc
  | nilIface : VR ρ .nilIface .nilIface
  | nilPtr : VR ρ (.pointer none) (.pointer none)
  | ptr {k : Nat} {L : Loc} (off : Nat) (h : ρ k = some L) : VR ρ (.pointer (some ⟨k, off, none⟩)) (.pointer (some ⟨L.block, L.base + off, none⟩))
  | nilSlice (l c : Nat) : VR ρ (.slice none l c) (.slice none l c)
  | slice {k : Nat} {L : Loc} (off len cap cap' : Nat) (h : ρ k = some L) (hle : cap ≤ cap') (h0 : L.grow = 0 → cap' = cap)
      (ht : cap' = cap ∨ off + cap * L.grow = L.size) (hr : L.grow ≠ 0 → L.base + off + cap' * L.grow ≤ L.room) :
      VR ρ (.slice (some ⟨k, off, none⟩) len cap) (.slice (some ⟨L.block, L.base + off, none⟩) len cap')
  | sliceEnd {k : Nat} {L : Loc} (off off' : Nat) (h : ρ k = some L) : VR ρ (.slice (some ⟨k, off, none⟩) 0 0) (.slice (some ⟨L.block, off', none⟩) 0 0)
  | nilMap : VR ρ (.map none) (.map none)
  | map {k : Nat} {L : Loc} (h : ρ k = some L) : VR ρ (.map (some k)) (.map (some L.block))
  | func (f : FuncId) {a a' b b' : Array Value} (ha : a.size = a'.size) (hb : b.size = b'.size)
      (h : ∀ (i : Nat) (v v' : Value), a[i]? = some v → a'[i]? = some v' → VR ρ v v') (h' : ∀ (i : Nat) (v v' : Value), b[i]? = some v → b'[i]? = some v' → VR ρ v v') :
      VR ρ (.func (.func f) a b) (.func (.func f) a' b')
  | yield {k : Nat} {L : Loc} (h : ρ k = some L) : VR ρ (.func (.yield k) #[] #[]) (.func (.yield L.block) #[] #[])
  | iface (t : TypeId) {v v' : Value} (h : VR ρ v v') : VR ρ (.iface t v) (.iface t v')
  | agg {a a' : Array Value} (ha : a.size = a'.size) (h : ∀ (i : Nat) (v v' : Value), a[i]? = some v → a'[i]? = some v' → VR ρ v v') : VR ρ (.agg a) (.agg a')
  | tuple {a a' : Array Value} (ha : a.size = a'.size) (h : ∀ (i : Nat) (v v' : Value), a[i]? = some v → a'[i]? = some v' → VR ρ v v') : VR ρ (.tuple a) (.tuple a')

theorem VR.mono {ρ ρ' : Env} (hle : ρ.le ρ') {v v' : Value} (h : VR ρ v v') : VR ρ' v v' := by
  induction h with
  | bool b => exact .bool b
  | int k n => exact .int k n
  | string b => exact .string b
  | nilFunc => exact .nilFunc
  | nilIface => exact .nilIface
  | nilPtr => exact .nilPtr
  | ptr off h => exact .ptr off (hle _ _ h)
  | nilSlice l c => exact .nilSlice l c
  | slice off len cap cap' h hl h0 ht hr => exact .slice off len cap cap' (hle _ _ h) hl h0 ht hr
  | sliceEnd off off' h => exact .sliceEnd off off' (hle _ _ h)
  | nilMap => exact .nilMap
  | map h => exact .map (hle _ _ h)
  | func f ha hb _ _ ih ih' => exact .func f ha hb ih ih'
  | yield h => exact .yield (hle _ _ h)
  | iface t _ ih => exact .iface t ih
  | agg ha _ ih => exact .agg ha ih
  | tuple ha _ ih => exact .tuple ha ih

/-! ### Lists of values -/
def VRL (ρ : Env) (l l' : List Value) : Prop := l.length = l'.length ∧ ∀ (i : Nat) (v v' : Value), l[i]? = some v → l'[i]? = some v' → VR ρ v v'

theorem VRL.nil {ρ : Env} : VRL ρ [] [] := ⟨rfl, fun i v v' h => by simp at h⟩
theorem VRL.cons {ρ : Env} {v v' : Value} {l l' : List Value} (h : VR ρ v v') (hl : VRL ρ l l') : VRL ρ (v :: l) (v' :: l') := by
  refine ⟨by simp [hl.1], fun i x x' hx hx' => ?_⟩
  cases i with
  | zero => simp at hx hx'; subst hx; subst hx'; exact h
  | succ i => simp at hx hx'; exact hl.2 i x x' hx hx'
theorem VRL.head {ρ : Env} {v v' : Value} {l l' : List Value} (h : VRL ρ (v :: l) (v' :: l')) : VR ρ v v' := h.2 0 v v' rfl rfl
theorem VRL.tail {ρ : Env} {v v' : Value} {l l' : List Value} (h : VRL ρ (v :: l) (v' :: l')) : VRL ρ l l' :=
  ⟨by simpa using h.1, fun i x x' hx hx' => h.2 (i + 1) x x' (by simpa using hx) (by simpa using hx')⟩
theorem VRL.mono {ρ ρ' : Env} (hle : ρ.le ρ') {l l' : List Value} (h : VRL ρ l l') : VRL ρ' l l' := ⟨h.1, fun i v v' a b => (h.2 i v v' a b).mono hle⟩
theorem VRL.cases_nil {ρ : Env} {l' : List Value} (h : VRL ρ [] l') : l' = [] := by have := h.1; simpa using this.symm
theorem VRL.cases_cons {ρ : Env} {v : Value} {l l' : List Value} (h : VRL ρ (v :: l) l') : ∃ v' m, l' = v' :: m ∧ VR ρ v v' ∧ VRL ρ l m := by
  cases l' with
  | nil => have := h.1; simp at this
  | cons v' m => exact ⟨v', m, rfl, h.head, h.tail⟩
theorem VRL.append {ρ : Env} {a a' b b' : List Value} (h : VRL ρ a a') (h' : VRL ρ b b') : VRL ρ (a ++ b) (a' ++ b') := by
  refine ⟨by simp [h.1, h'.1], fun i v v' hv hv' => ?_⟩
  rw [List.getElem?_append] at hv hv'
  rw [h.1] at hv
  split at hv
  · rename_i hi; rw [if_pos hi] at hv'; exact h.2 i v v' hv hv'
  · rename_i hi; rw [if_neg hi] at hv'; exact h'.2 _ v v' hv hv'
theorem VRL.take {ρ : Env} {a a' : List Value} (n : Nat) (h : VRL ρ a a') : VRL ρ (a.take n) (a'.take n) := by
  refine ⟨by simp [h.1], fun i v v' hv hv' => ?_⟩
  rw [List.getElem?_take] at hv hv'
  split at hv
  · rename_i hi; rw [if_pos hi] at hv'; exact h.2 i v v' hv hv'
  · cases hv
theorem VRL.drop {ρ : Env} {a a' : List Value} (n : Nat) (h : VRL ρ a a') : VRL ρ (a.drop n) (a'.drop n) := by
  refine ⟨by simp [h.1], fun i v v' hv hv' => ?_⟩
  rw [List.getElem?_drop] at hv hv'
  exact h.2 _ v v' hv hv'
theorem VRL.get {ρ : Env} {a a' : List Value} {i : Nat} {v : Value} (h : VRL ρ a a') (hv : a[i]? = some v) : ∃ v', a'[i]? = some v' ∧ VR ρ v v' := by
  have hi : i < a'.length := by rw [← h.1]; exact (List.getElem?_eq_some_iff.1 hv).1
  exact ⟨a'[i], List.getElem?_eq_getElem hi, h.2 i v _ hv (List.getElem?_eq_getElem hi)⟩

theorem VR.agg' {ρ : Env} {a a' : Array Value} (h : VRL ρ a.toList a'.toList) : VR ρ (.agg a) (.agg a') :=
  .agg (by simpa using h.1) fun i v v' hv hv' => h.2 i v v' (by simpa using hv) (by simpa using hv')
theorem VR.tuple' {ρ : Env} {a a' : Array Value} (h : VRL ρ a.toList a'.toList) : VR ρ (.tuple a) (.tuple a') :=
  .tuple (by simpa using h.1) fun i v v' hv hv' => h.2 i v v' (by simpa using hv) (by simpa using hv')
theorem VR.func' {ρ : Env} (f : FuncId) {a a' b b' : Array Value} (h : VRL ρ a.toList a'.toList) (h' : VRL ρ b.toList b'.toList) : VR ρ (.func (.func f) a b) (.func (.func f) a' b') :=
  .func f (by simpa using h.1) (by simpa using h'.1) (fun i v v' hv hv' => h.2 i v v' (by simpa using hv) (by simpa using hv')) (fun i v v' hv hv' => h'.2 i v v' (by simpa using hv) (by simpa using hv'))
theorem VR.of_agg {ρ : Env} {a : Array Value} {x : Value} (h : VR ρ (.agg a) x) : ∃ a', x = .agg a' ∧ VRL ρ a.toList a'.toList := by
  cases h with
  | agg ha h => exact ⟨_, rfl, by simpa using ha, fun i v v' hv hv' => h i v v' (by simpa using hv) (by simpa using hv')⟩
theorem VR.of_tuple {ρ : Env} {a : Array Value} {x : Value} (h : VR ρ (.tuple a) x) : ∃ a', x = .tuple a' ∧ VRL ρ a.toList a'.toList := by
  cases h with
  | tuple ha h => exact ⟨_, rfl, by simpa using ha, fun i v v' hv hv' => h i v v' (by simpa using hv) (by simpa using hv')⟩
theorem VR.of_func {ρ : Env} {f : FuncId} {a b : Array Value} {x : Value} (h : VR ρ (.func (.func f) a b) x) :
    ∃ a' b', x = .func (.func f) a' b' ∧ VRL ρ a.toList a'.toList ∧ VRL ρ b.toList b'.toList := by
  cases h with
  | func f ha hb h h' => exact ⟨_, _, rfl, ⟨by simpa using ha, fun i v v' hv hv' => h i v v' (by simpa using hv) (by simpa using hv')⟩,
      ⟨by simpa using hb, fun i v v' hv hv' => h' i v v' (by simpa using hv) (by simpa using hv')⟩⟩

theorem scalar_eq {ρ : Env} {v v' : Value} (h : VR ρ v v') (hs : scalar v = true) : v' = v := by
  cases h <;> first | rfl | simp [scalar] at hs

theorem scalar_refl (ρ : Env) {v : Value} (hs : scalar v = true) : VR ρ v v := by
  cases v with
  | bool b => exact .bool b
  | int k n => exact .int k n
  | string b => exact .string b
  | pointer a => cases a with
    | none => exact .nilPtr
    | some a => simp [scalar] at hs
  | slice a l c => cases a with
    | none => exact .nilSlice l c
    | some a => simp [scalar] at hs
  | map a => cases a with
    | none => exact .nilMap
    | some a => simp [scalar] at hs
  | nilFunc => exact .nilFunc
  | nilIface => exact .nilIface
  | _ => simp [scalar] at hs

theorem scalars_refl (ρ : Env) : ∀ {l : List Value}, l.all scalar = true → VRL ρ l l
  | [], _ => .nil
  | v :: l, h => by
    simp at h
    exact .cons (scalar_refl ρ h.1) (scalars_refl ρ (by simpa using h.2))

theorem plain_refl (ρ : Env) {v : Value} (hs : plainV v = true) : VR ρ v v := by
  cases v with
  | agg cs => exact .agg' (scalars_refl ρ hs)
  | tuple cs => exact .tuple' (scalars_refl ρ hs)
  | _ => exact scalar_refl ρ hs

theorem cells_rel {ρ : Env} {v v' : Value} (h : VR ρ v v') : VRL ρ (cellsOf v) v'.cells.toList := by
  cases h with
  | agg ha h => exact ⟨by simpa [cellsOf, Value.cells] using ha, fun i v v' hv hv' => h i v v' (by simpa [cellsOf] using hv) (by simpa [Value.cells] using hv')⟩
  | _ =>
    first
      | (simp only [cellsOf, Value.cells]; refine .cons ?_ .nil; first
          | exact .bool _ | exact .int _ _ | exact .string _ | exact .nilFunc | exact .nilIface | exact .nilPtr | exact .nilSlice _ _ | exact .nilMap
          | exact .ptr _ ‹_› | exact .slice _ _ _ _ ‹_› ‹_› ‹_› ‹_› ‹_› | exact .sliceEnd _ _ ‹_› | exact .map ‹_› | exact .func _ ‹_› ‹_› ‹_› ‹_› | exact .yield ‹_› | exact .iface _ ‹_› | exact .tuple ‹_› ‹_›)

theorem oneCell_rel {ρ : Env} {v v' : Value} (h : VR ρ v v') : oneCell v' = oneCell v := by cases h <;> rfl

/-! ### Registers -/
def RegsR (ρ : Env) (r : Tr Value) (tmps : Array Value) : Prop := ∀ t v, r.get t = some v → ∃ v', tmps[t]? = some v' ∧ VR ρ v v'

theorem RegsR.mono {ρ ρ' : Env} (hle : ρ.le ρ') {r : Tr Value} {tmps : Array Value} (h : RegsR ρ r tmps) : RegsR ρ' r tmps := fun t v ht =>
  let ⟨v', a, b⟩ := h t v ht; ⟨v', a, b.mono hle⟩

theorem RegsR.set {ρ : Env} {r : Tr Value} {tmps : Array Value} (h : RegsR ρ r tmps) {d : Nat} (hd : d < tmps.size) {v v' : Value} (hv : VR ρ v v') :
    RegsR ρ (r.set d v) (tmps.setIfInBounds d v') := by
  intro t x hx
  rw [Tr.get_set] at hx
  split at hx
  · rename_i ht; subst ht; injection hx with hx; subst hx
    exact ⟨v', by simp [hd], hv⟩
  · rename_i ht
    obtain ⟨x', a, b⟩ := h t x hx
    exact ⟨x', by rw [Array.getElem?_setIfInBounds_ne (by omega)]; exact a, b⟩
end Go.Hg
