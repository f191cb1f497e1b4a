/- Quick forms: a trie of a list; the tables of types. -/
import Derived.Test.YthlkmfeelhbhjaaGreatDoorHgF0
set_option linter.unusedVariables false
set_option linter.unusedSimpArgs false
namespace Go.Hg

/-! ### A trie of a list, halves laid when asked for -/
/-- The elements at the even places, and at the odd ones. -/
noncomputable def evens {α : Type} (l : List α) : List α := List.rec (motive := fun _ => Bool → List α) (fun _ => [])
  (fun v _ ih b => Bool.rec (motive := fun _ => List α) (ih true) (v :: ih false) b) l true
noncomputable def odds {α : Type} (l : List α) : List α := List.rec (motive := fun _ => Bool → List α) (fun _ => [])
  (fun v _ ih b => Bool.rec (motive := fun _ => List α) (ih true) (v :: ih false) b) l false
theorem evens_nil {α : Type} : evens ([] : List α) = [] := rfl
theorem odds_nil {α : Type} : odds ([] : List α) = [] := rfl
theorem evens_cons {α : Type} (v : α) (l : List α) : evens (v :: l) = v :: odds l := rfl
theorem odds_cons {α : Type} (v : α) (l : List α) : odds (v :: l) = evens l := rfl

noncomputable def ofListG {α : Type} (n : Nat) : List α → Tr α := Nat.rec (motive := fun _ => List α → Tr α) (fun _ => .nil)
  (fun _ ih l => List.rec (motive := fun _ => Tr α) .nil (fun v m _ => .node (some v) (ih (evens m)) (ih (odds m))) l) n
noncomputable def lenF {α : Type} (l : List α) : Nat := List.rec (motive := fun _ => Nat) 0 (fun _ _ n => Nat.succ n) l
theorem lenF_eq {α : Type} (l : List α) : lenF l = l.length := by
  induction l with
  | nil => rfl
  | cons v l ih => exact congrArg Nat.succ ih

theorem fill_node {α : Type} (l : List α) : ∀ (w : Option α) (L R : Tr α) (j : Nat),
    (Tr.fill (.node w L R) (2 * j + 1) l = .node w (Tr.fill L j (evens l)) (Tr.fill R j (odds l))) ∧ (Tr.fill (.node w L R) (2 * j + 2) l = .node w (Tr.fill L (j + 1) (odds l)) (Tr.fill R j (evens l))) := by
  induction l with
  | nil => intro w L R j; exact ⟨rfl, rfl⟩
  | cons v l ih =>
    intro w L R j
    have h1 : (Tr.node w L R).set (2 * j + 1) v = .node w (L.set j v) R := by
      show Tr.put (.node w L R) (2 * j + 1) (some v) = _
      rw [Tr.put_node_succ, if_pos (by omega), show 2 * j / 2 = j by omega]; rfl
    have h2 : (Tr.node w L R).set (2 * j + 2) v = .node w L (R.set j v) := by
      show Tr.put (.node w L R) (2 * j + 1 + 1) (some v) = _
      rw [Tr.put_node_succ, if_neg (by omega), show (2 * j + 1) / 2 = j by omega]; rfl
    constructor
    · show Tr.fill ((Tr.node w L R).set (2 * j + 1) v) (Nat.succ (2 * j + 1)) l = _
      rw [h1, evens_cons, odds_cons]; exact (ih w (L.set j v) R j).2
    · show Tr.fill ((Tr.node w L R).set (2 * j + 2) v) (Nat.succ (2 * j + 2)) l = _
      rw [h2, evens_cons, odds_cons]; exact (ih w L (R.set j v) (j + 1)).1

theorem evens_len {α : Type} (l : List α) : (evens l).length ≤ l.length ∧ (odds l).length ≤ l.length := by
  induction l with
  | nil => exact ⟨Nat.le_refl _, Nat.le_refl _⟩
  | cons v l ih => rw [evens_cons, odds_cons]; simp only [List.length_cons]; omega

theorem ofListG_eq {α : Type} : ∀ (n : Nat) (l : List α), l.length ≤ n → ofListG n l = Tr.ofList l := by
  intro n
  induction n with
  | zero => intro l h; cases l with
    | nil => rfl
    | cons v l => simp at h
  | succ n ih =>
    intro l h
    cases l with
    | nil => rfl
    | cons v l =>
      simp only [List.length_cons] at h
      have e1 : ofListG (n + 1) (v :: l) = .node (some v) (ofListG n (evens l)) (ofListG n (odds l)) := rfl
      have e2 : Tr.ofList (v :: l) = Tr.fill (.node (some v) .nil .nil) (2 * 0 + 1) l := rfl
      have := evens_len l
      rw [e1, e2, (fill_node l _ _ _ 0).1, ih _ (by omega), ih _ (by omega)]; rfl
noncomputable def ofListF {α : Type} (l : List α) : Tr α := ofListG (lenF l) l
theorem ofListF_eq {α : Type} (l : List α) : ofListF l = Tr.ofList l := ofListG_eq _ _ (by rw [lenF_eq]; exact Nat.le_refl _)


/-! ### Types -/
noncomputable def typesT (P : Program) : Tr TypeInfo := ofListF P.types.toList
noncomputable def infoQ (P : Program) (t : TypeId) : Option TypeInfo := Option.rec (motive := fun _ => Option TypeInfo) (P.info? t) (fun i => some i) ((typesT P).get t)
theorem infoQ_eq (P : Program) (t : TypeId) : infoQ P t = P.info? t := by
  unfold infoQ
  rw [typesT, ofListF_eq, Tr.get_ofList]
  cases h : P.types.toList[t]? with
  | none => rfl
  | some i =>
    have h1 : P.types[t]? = some i := by rw [← Array.getElem?_toList]; exact h
    have h2 : t < P.types.size := by
      rcases Nat.lt_or_ge t P.types.size with h3 | h3
      · exact h3
      · rw [Array.getElem?_eq_none h3] at h1; cases h1
    show some i = Tables.info? P.toTables t
    unfold Tables.info?
    rw [if_pos h2, h1]
noncomputable def descQ (P : Program) (d : TypeDesc) : Option TypeDesc := match d with
  | .named _ u => match infoQ P u with
    | some i => some i.desc
    | none => none
  | d => some d
noncomputable def undQ (P : Program) (t : TypeId) : Option TypeDesc := match infoQ P t with
  | some i => descQ P i.desc
  | none => none
theorem undQ_eq (P : Program) (t : TypeId) : undQ P t = und P t := by
  unfold undQ und Program.underlying
  rw [infoQ_eq]
  rcases h : P.info? t with _ | ⟨d, s, sz, b, hp⟩
  · rfl
  · cases d <;> try rfl
    rename_i n u
    simp only [descQ, infoQ_eq]
    cases P.info? u <;> rfl
noncomputable def szQ (P : Program) (t : TypeId) : Option Nat := match infoQ P t with
  | some i => some i.size
  | none => none
theorem szQ_eq (P : Program) (t : TypeId) : szQ P t = szOf P t := by
  unfold szQ szOf; rw [infoQ_eq]; cases P.info? t <;> rfl
noncomputable def bytesQ (P : Program) (t : TypeId) : Option Nat := match infoQ P t with
  | some i => some i.bytes
  | none => none
theorem bytesQ_eq (P : Program) (t : TypeId) : bytesQ P t = bytesOf' P t := by
  unfold bytesQ bytesOf'; rw [infoQ_eq]; cases P.info? t <;> rfl
noncomputable def zeroQ (P : Program) (t : TypeId) : Option Value := match infoQ P t with
  | some i => match i.zero with
    | some z => cond (plainV z) (some z) none
    | none => none
  | none => none
theorem zeroQ_eq (P : Program) (t : TypeId) : zeroQ P t = zeroOf P t := by
  unfold zeroQ zeroOf; rw [infoQ_eq]
  cases P.info? t with
  | none => rfl
  | some i => simp only; cases i.zero <;> rfl
noncomputable def aggQ (P : Program) (t : TypeId) : Option Bool := match undQ P t with
  | some (.struct _) | some (.array _ _) => some true
  | some _ => some false
  | none => none
theorem aggQ_eq (P : Program) (t : TypeId) : aggQ P t = aggT P t := by
  unfold aggQ aggT; rw [undQ_eq]; rfl
end Go.Hg
