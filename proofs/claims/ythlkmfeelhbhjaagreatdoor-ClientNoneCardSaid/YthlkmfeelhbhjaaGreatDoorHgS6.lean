/- Every operation that reckons and reads: what the interpreter has of it is what the model has. -/
import Derived.Test.YthlkmfeelhbhjaaGreatDoorHgS5
set_option linter.unusedVariables false
set_option linter.unusedSimpArgs false
namespace Go.Hg
variable {P : Program} {ρ : Env} {s : St} {w : World}

/-! ### Operands -/
theorem eval_sound {a : ActD} {ar : Act} (hr : RegsR ρ a.regs ar.tmps) {x : Operand} {v : Value} (h : a.eval x = some v) : VR ρ v (ar.eval x) := by
  cases x with
  | tmp t =>
    obtain ⟨v', h1, h2⟩ := hr t v h
    have : ar.eval (.tmp t) = v' := by simp [Act.eval, Array.getD_eq_getD_getElem?, h1]
    rw [this]; exact h2
  | const c =>
    simp only [ActD.eval] at h
    cases hp : plainV c with
    | false => rw [hp] at h; cases h
    | true => rw [hp] at h; injection h with h; subst h; exact plain_refl ρ hp
  | global g => cases h
  | func f => simp only [ActD.eval] at h; injection h with h; subst h; exact .func' f .nil .nil

theorem evals_sound {a : ActD} {ar : Act} (hr : RegsR ρ a.regs ar.tmps) : ∀ {xs : List Operand} {vs : List Value}, evals a xs = some vs → VRL ρ vs (xs.map ar.eval)
  | [], vs, h => by simp only [evals] at h; injection h with h; subst h; exact .nil
  | x :: xs, vs, h => by
    simp only [evals] at h
    cases h1 : a.eval x with
    | none => rw [h1] at h; cases h
    | some v =>
      rw [h1] at h; simp only at h
      cases h2 : evals a xs with
      | none => rw [h2] at h; cases h
      | some us => rw [h2] at h; injection h with h; subst h; exact .cons (eval_sound hr h1) (evals_sound hr h2)

/-! ### Aggregates -/
inductive PR (ρ : Env) : List (Nat × Value) → List (Nat × Value) → Prop
  | nil : PR ρ [] []
  | cons (i : Nat) {v v' : Value} {l l' : List (Nat × Value)} (h : VR ρ v v') (hl : PR ρ l l') : PR ρ ((i, v) :: l) ((i, v') :: l')

theorem parts_sound {a : ActD} {ar : Act} (hr : RegsR ρ a.regs ar.tmps) : ∀ {ps : List (Nat × Operand)} {vs : List Value}, evals a (ps.map (·.2)) = some vs →
    PR ρ ((ps.map (·.1)).zip vs) (ps.map fun p => (p.1, ar.eval p.2))
  | [], vs, h => by simp only [List.map_nil, evals] at h; injection h with h; subst h; exact .nil
  | p :: ps, vs, h => by
    simp only [List.map_cons, evals] at h
    cases h1 : a.eval p.2 with
    | none => rw [h1] at h; cases h
    | some v =>
      rw [h1] at h; simp only at h
      cases h2 : evals a (ps.map (·.2)) with
      | none => rw [h2] at h; cases h
      | some us => rw [h2] at h; injection h with h; subst h; exact .cons _ (eval_sound hr h1) (parts_sound hr h2)

theorem foldl_sets (off : Nat) : ∀ (l : List Value) (k : Nat) (cs : Array Value) (m : Nat),
    ((l.zipIdx k).foldl (fun cs (p : Value × Nat) => cs.setIfInBounds (off + p.2) p.1) cs)[m]? = if off + k ≤ m ∧ m < off + k + l.length ∧ m < cs.size then l[m - (off + k)]? else cs[m]?
  | [], k, cs, m => by rw [if_neg (by simp; omega)]; rfl
  | v :: l, k, cs, m => by
    simp only [List.zipIdx_cons, List.foldl_cons, foldl_sets off l (k + 1), List.length_cons, Array.size_setIfInBounds, Array.getElem?_setIfInBounds]
    by_cases h1 : off + (k + 1) ≤ m ∧ m < off + (k + 1) + l.length ∧ m < cs.size
    · rw [if_pos h1, if_pos (by omega)]
      obtain ⟨q, hq⟩ : ∃ q, m - (off + k) = q + 1 := ⟨m - (off + k) - 1, by omega⟩
      rw [hq, List.getElem?_cons_succ]; congr 1; omega
    · rw [if_neg h1]
      by_cases h2 : off + k = m
      · subst h2
        by_cases h3 : off + k < cs.size
        · rw [if_pos rfl, if_pos h3, if_pos (by omega)]; simp
        · rw [if_pos rfl, if_neg h3, if_neg (by omega), Array.getElem?_eq_none (by omega)]
      · rw [if_neg h2]
        by_cases h3 : off + k ≤ m ∧ m < off + k + (l.length + 1) ∧ m < cs.size
        · omega
        · rw [if_neg h3]

theorem splice_get (l vs : List Value) (off m : Nat) (h : off + vs.length ≤ l.length) : (splice l off vs)[m]? = if off ≤ m ∧ m < off + vs.length then vs[m - off]? else l[m]? := by
  have ht : (List.take off l).length = off := by simp; omega
  unfold splice
  by_cases h1 : m < off
  · rw [if_neg (by omega), List.getElem?_append_left (by simp; omega), List.getElem?_append_left (by omega), List.getElem?_take, if_pos h1]
  · by_cases h2 : m < off + vs.length
    · rw [if_pos (by omega), List.getElem?_append_left (by simp; omega), List.getElem?_append_right (by omega), ht]
    · rw [if_neg (by omega), List.getElem?_append_right (by simp; omega), List.getElem?_drop]
      congr 1; simp; omega

theorem sets_splice (off : Nat) (l : List Value) (cs : Array Value) (h : off + l.length ≤ cs.size) :
    ((l.zipIdx 0).foldl (fun cs (p : Value × Nat) => cs.setIfInBounds (off + p.2) p.1) cs).toList = splice cs.toList off l := by
  apply List.ext_getElem?
  intro m
  rw [Array.getElem?_toList, foldl_sets, splice_get _ _ _ _ (by simpa using h)]
  simp only [Nat.add_zero, Array.getElem?_toList]
  by_cases h1 : off ≤ m ∧ m < off + l.length
  · rw [if_pos h1, if_pos (by omega)]
  · rw [if_neg h1, if_neg (by omega)]

theorem splice_rel {l l' vs vs' : List Value} (h : VRL ρ l l') (hv : VRL ρ vs vs') (off : Nat) : VRL ρ (splice l off vs) (splice l' off vs') := by
  unfold splice
  rw [← hv.1]
  exact ((h.take off).append hv).append (h.drop _)

theorem fill_sound {place place' : Nat → Option (Nat × Nat)} (hp : ∀ i p, place i = some p → place' i = some p) :
    ∀ {parts parts' : List (Nat × Value)} {cells l : List Value} {cells' : Array Value}, PR ρ parts parts' → VRL ρ cells cells'.toList → fillD place cells parts = some l →
      ∃ l', Instr.fill place' cells' parts' = some l' ∧ VRL ρ l l'.toList := by
  intro parts parts' cells l cells' hpr
  induction hpr generalizing cells cells' with
  | nil => intro hc h; simp only [fillD] at h; injection h with h; subst h; exact ⟨cells', rfl, hc⟩
  | cons i hv hl ih =>
    rename_i v v' ps ps'
    intro hc h
    simp only [fillD] at h
    cases h1 : place i with
    | none => rw [h1] at h; cases h
    | some p =>
      obtain ⟨off, size⟩ := p
      rw [h1] at h; simp only at h
      cases hb : (Nat.beq (cellsOf v).length size && Nat.ble (off + size) cells.length) with
      | false => rw [hb] at h; cases h
      | true =>
        rw [hb] at h; simp only [cond_true] at h
        rw [Bool.and_eq_true] at hb
        have hb1 := Nat.eq_of_beq_eq_true hb.1
        have hb2 := Nat.le_of_ble_eq_true hb.2
        have hcr := cells_rel hv
        have hsz : v'.cells.size = size := by rw [← hb1, hcr.1]; simp
        have hle : off + v'.cells.toList.length ≤ cells'.size := by
          have := hc.1; simp at this ⊢; omega
        have hne : ¬ (v'.cells.size ≠ size ∨ off + v'.cells.size > cells'.size) := by simp at hle; omega
        simp only [Instr.fill, hp _ _ h1]
        have hcond : (decide (v'.cells.size ≠ size) || decide (off + v'.cells.size > cells'.size)) = false := by
          simp at hle ⊢; exact ⟨hsz, by omega⟩
        have hz : v'.cells.zipIdx.foldl (fun cs (x : Value × Nat) => cs.setIfInBounds (off + x.2) x.1) cells' = ((v'.cells.toList.zipIdx 0).foldl (fun cs (p : Value × Nat) => cs.setIfInBounds (off + p.2) p.1) cells') := by
          rw [← Array.foldl_toList, Array.toList_zipIdx]
        rw [if_neg (by simpa using hne)]
        simp only [hz]
        refine ih ?_ h
        rw [sets_splice _ _ _ hle]
        exact splice_rel hc hcr off

theorem run_mapM {α β : Type} (f : α → Sem β) : ∀ (l : List α) (l' : List β), l'.length = l.length → (∀ (i : Nat) x y, l[i]? = some x → l'[i]? = some y → (f x).run P w = .ok y w) → (l.mapM f).run P w = .ok l' w
  | [], l', hl, _ => by have : l' = [] := by simpa using hl
                        subst this; rfl
  | x :: l, l', hl, h => by
    cases l' with
    | nil => simp at hl
    | cons y l' =>
      rw [List.mapM_cons]
      simp only [Sem.run_bind, h 0 x y rfl rfl, Result.andThen_ok]
      rw [run_mapM f l l' (by simpa using hl) (fun i a b p q => h (i + 1) a b (by simpa using p) (by simpa using q))]
      rfl

theorem run_amapM {α β : Type} (f : α → Sem β) (a : Array α) (l' : List β) (hl : l'.length = a.size) (h : ∀ (i : Nat) x y, a[i]? = some x → l'[i]? = some y → (f x).run P w = .ok y w) :
    (a.mapM f).run P w = .ok l'.toArray w := by
  rw [Array.mapM_eq_mapM_toList]
  simp only [Sem.run_map]
  rw [run_mapM f a.toList l' (by simpa using hl) (fun i x y p q => h i x y (by simpa using p) q)]
  rfl

theorem build_sound {t : TypeId} {parts parts' : List (Nat × Value)} {v : Value} (hp : PR ρ parts parts') (h : buildD P t parts = some v) :
    ∃ v', (Instr.build t parts'.toArray).run P w = .ok v' w ∧ VR ρ v v' := by
  unfold buildD at h
  split at h
  · rename_i z fs hz hu
    cases hall : (fs.toList.all fun f => (szOf P f.type).isSome) with
    | false => rw [hall] at h; cases h
    | true =>
      rw [hall] at h; simp only [cond_true] at h
      split at h
      · rename_i l hf
        injection h with h; subst h
        have hall' : ∀ f ∈ fs.toList, (szOf P f.type).isSome = true := List.all_eq_true.1 hall
        let places : List (Nat × Nat) := fs.toList.map fun f => (f.offset, (szOf P f.type).getD 0)
        have hm : (fs.mapM fun (f : Field) => do pure (f.offset, ← sizeOf f.type) : Sem (Array (Nat × Nat))).run P w = .ok places.toArray w := by
          refine run_amapM _ fs places (by simp [places]) (fun i f y hf hy => ?_)
          have hf' : fs.toList[i]? = some f := by simpa using hf
          have hmem : f ∈ fs.toList := List.mem_of_getElem? hf'
          simp only [places, List.getElem?_map, hf', Option.map_some, Option.some.injEq] at hy
          subst hy
          obtain ⟨n, hn⟩ := Option.isSome_iff_exists.1 (hall' f hmem)
          simp [run_szOf hn, hn]
        have hpl : ∀ (i : Nat) (p : Nat × Nat), (match fs.toList[i]? with
            | some (f : Field) => match szOf P f.type with
              | some n => some (f.offset, n)
              | none => none
            | none => none) = some p → places.toArray[i]? = some p := by
          intro i p hi
          cases hfi : fs.toList[i]? with
          | none => rw [hfi] at hi; cases hi
          | some f =>
            rw [hfi] at hi; simp only at hi
            cases hn : szOf P f.type with
            | none => rw [hn] at hi; cases hi
            | some n => rw [hn] at hi; injection hi with hi; subst hi; simp [places, hfi, hn]
        obtain ⟨l', h1, h2⟩ := fill_sound hpl hp (cells_rel (zero_refl (ρ := ρ) hz)) hf
        refine ⟨.agg l', ?_, .agg' h2⟩
        simp only [Instr.build, Sem.run_bind, run_zeroOf hz, run_und hu, Result.andThen_ok, hm, h1, Sem.run_pure]
      · cases h
  · rename_i z n elem hz hu
    cases hs : szOf P elem with
    | none => rw [hs] at h; cases h
    | some size =>
      rw [hs] at h; simp only at h
      split at h
      · rename_i l hf
        injection h with h; subst h
        obtain ⟨l', h1, h2⟩ := fill_sound (place' := fun i => some (i * size, size)) (fun i p h => h) hp (cells_rel (zero_refl (ρ := ρ) hz)) hf
        refine ⟨.agg l', ?_, .agg' h2⟩
        simp only [Instr.build, Sem.run_bind, run_zeroOf hz, run_und hu, Result.andThen_ok, run_szOf hs, h1, Sem.run_pure]
      · cases h
  · cases h

/-! ### Least and greatest -/
theorem extreme_sound {isMax : Bool} : ∀ {vs vs' : List Value} {x v : Value}, VRL ρ vs vs' → (∃ k n, x = .int k n) → extremeD isMax x vs = some v →
    (vs'.foldlM (if isMax then Builtin.max2 else Builtin.min2) x).run P w = .ok v w ∧ ∃ k n, v = .int k n
  | [], vs', x, v, hl, hx, h => by
    have := hl.cases_nil; subst this
    simp only [extremeD] at h; injection h with h; subst h
    exact ⟨rfl, hx⟩
  | y :: vs, vs', x, v, hl, hx, h => by
    obtain ⟨k, n, rfl⟩ := hx
    obtain ⟨y', m, rfl, h1, h2⟩ := hl.cases_cons
    cases y <;> simp only [extremeD] at h <;> first | cases h | skip
    rename_i k' n'
    cases h1
    rw [List.foldlM_cons]
    cases isMax
    · simp only [Bool.false_eq_true, if_false, Builtin.min2, Sem.run_bind, Sem.run_pure, Result.andThen_ok, cond_false] at h ⊢
      have := extreme_sound (isMax := false) h2 ⟨k, _, rfl⟩ h
      simpa using this
    · simp only [if_true, Builtin.max2, Sem.run_bind, Sem.run_pure, Result.andThen_ok, cond_true] at h ⊢
      have := extreme_sound (isMax := true) h2 ⟨k, _, rfl⟩ h
      simpa using this
end Go.Hg
