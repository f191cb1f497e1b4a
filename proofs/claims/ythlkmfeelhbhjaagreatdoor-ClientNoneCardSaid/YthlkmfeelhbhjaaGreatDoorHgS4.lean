/- The operations that reckon and read, on: operators, conversions, maps, aggregates. -/
import Derived.Test.YthlkmfeelhbhjaaGreatDoorHgS3
set_option linter.unusedVariables false
set_option linter.unusedSimpArgs false
namespace Go.Hg
variable {P : Program} {ρ : Env} {s : St} {w : World}

/-! ### Equality -/
/-- What stands for a value of a type in a row of cells. -/
def mkV (P : Program) (t : TypeId) (l : List Value) : Value :=
  match aggT P t with
  | some true => .agg ⟨l⟩
  | _ => l.headD undefD

theorem run_part_seg {t : TypeId} {n : Nat} (cs : Array Value) (off : Nat) (hs : szOf P t = some n) (ha : (aggT P t).isSome) (hn : aggT P t = some false → n = 1) (hle : off + n ≤ cs.size) :
    (part t cs off).run P w = .ok (mkV P t (seg cs.toList off n)) w := by
  unfold mkV seg
  cases hag : aggT P t with
  | none => rw [hag] at ha; cases ha
  | some b =>
    cases b with
    | true =>
      simp only [part, Sem.run_bind, run_aggT hag, Result.andThen_ok, if_true, run_szOf hs, Sem.run_pure]
      congr 2
      apply Array.toList_inj.1
      simp [Array.toList_extract, List.extract_eq_take_drop]
    | false =>
      have hn1 := hn hag; subst hn1
      have hg : cs[off]? = some cs[off] := Array.getElem?_eq_getElem (by omega)
      simp only [part, Sem.run_bind, run_aggT hag, Result.andThen_ok, Bool.false_eq_true, if_false, hg, Sem.run_pure]
      have : (cs.toList.drop off).take 1 = [cs[off]] := by
        rw [List.drop_eq_getElem_cons (by simpa using (show off < cs.size by omega))]; simp
      rw [this]; rfl

theorem seg_rel {xs xs' : List Value} (h : VRL ρ xs xs') (off n : Nat) : VRL ρ (seg xs off n) (seg xs' off n) := (h.drop off).take n

theorem seg_length {xs : List Value} {off n : Nat} (h : off + n ≤ xs.length) : (seg xs off n).length = n := by
  simp [seg]; omega

theorem eqT_agg {d : Nat} {t : TypeId} {xs ys : List Value} {b : Bool} (h : eqT P d t xs ys = some b) : (aggT P t).isSome ∧ (aggT P t = some false → xs.length = 1) := by
  cases d with
  | zero => simp [eqT] at h
  | succ d =>
    unfold eqT at h
    unfold aggT
    split at h
    · rename_i hu; rw [hu]; refine ⟨rfl, fun _ => ?_⟩; split at h
      · rfl
      · cases h
    · rename_i hu; rw [hu]; refine ⟨rfl, fun _ => ?_⟩; split at h
      · rfl
      · cases h
    · rename_i hu; rw [hu]; refine ⟨rfl, fun _ => ?_⟩; split at h
      · rfl
      · cases h
    · rename_i hu; rw [hu]; exact ⟨rfl, by simp⟩
    · rename_i hu; rw [hu]; exact ⟨rfl, by simp⟩
    · cases h

theorem eqFs_sound {d z : Nat} (ih : ∀ (t : TypeId) (xs ys xs' ys' : List Value) (b : Bool), eqT P d t xs ys = some b → VRL ρ xs xs' → VRL ρ ys ys' → (Op.equalIn z t (mkV P t xs') (mkV P t ys')).run P w = .ok b w)
    {xs ys xs' ys' : List Value} (hx : VRL ρ xs xs') (hy : VRL ρ ys ys') : ∀ (fs : List Field) (b : Bool), eqFs P (eqT P d) xs ys fs = some b → (Op.eqFields z ⟨xs'⟩ ⟨ys'⟩ fs).run P w = .ok b w
  | [], b, h => by simp only [eqFs] at h; injection h with h; subst h; rfl
  | f :: fs, b, h => by
    simp only [eqFs] at h
    cases hn : f.name == "_" with
    | true => rw [hn] at h; cases h
    | false =>
      rw [hn] at h; simp only [cond_false] at h
      have hne : f.name ≠ "_" := by simpa using hn
      cases hs : szOf P f.type with
      | none => rw [hs] at h; cases h
      | some k =>
        rw [hs] at h; simp only at h
        cases hb : (Nat.ble (f.offset + k) xs.length && Nat.ble (f.offset + k) ys.length) with
        | false => rw [hb] at h; cases h
        | true =>
          rw [hb] at h; simp only [cond_true] at h
          rw [Bool.and_eq_true] at hb
          have hb1 := Nat.le_of_ble_eq_true hb.1
          have hb2 := Nat.le_of_ble_eq_true hb.2
          cases hg : eqT P d f.type (seg xs f.offset k) (seg ys f.offset k) with
          | none => rw [hg] at h; cases h
          | some r =>
            obtain ⟨a1, a2⟩ := eqT_agg hg
            rw [seg_length hb1] at a2
            have p1 := run_part_seg (P := P) (w := w) ⟨xs'⟩ f.offset hs a1 a2 (by simpa [← hx.1] using hb1)
            have p2 := run_part_seg (P := P) (w := w) ⟨ys'⟩ f.offset hs a1 a2 (by simpa [← hy.1] using hb2)
            have p3 := ih _ _ _ _ _ _ hg (seg_rel hx _ _) (seg_rel hy _ _)
            simp only [Op.eqFields, hne, ne_eq, not_false_eq_true, if_true, Sem.run_bind, p1, p2, p3, Result.andThen_ok]
            rw [hg] at h
            cases r with
            | true => simp only at h; simpa using eqFs_sound ih hx hy fs b h
            | false => simp only at h; injection h with h; subst h; simp

theorem eqIs_sound {d z k : Nat} {e : TypeId} (hs : szOf P e = some k) (hc : P.cellsOf e = k)
    (ih : ∀ (t : TypeId) (xs ys xs' ys' : List Value) (b : Bool), eqT P d t xs ys = some b → VRL ρ xs xs' → VRL ρ ys ys' → (Op.equalIn z t (mkV P t xs') (mkV P t ys')).run P w = .ok b w)
    {xs ys xs' ys' : List Value} (hx : VRL ρ xs xs') (hy : VRL ρ ys ys') : ∀ (m i : Nat) (b : Bool), eqIs (eqT P d e) k xs ys i m = some b → (Op.eqItems z e (P.cellsOf e) ⟨xs'⟩ ⟨ys'⟩ (List.range' i m)).run P w = .ok b w
  | 0, i, b, h => by simp only [eqIs] at h; injection h with h; subst h; rfl
  | m + 1, i, b, h => by
    simp only [eqIs] at h
    cases hb : (Nat.ble (i * k + k) xs.length && Nat.ble (i * k + k) ys.length) with
    | false => rw [hb] at h; cases h
    | true =>
      rw [hb] at h; simp only [cond_true] at h
      rw [Bool.and_eq_true] at hb
      have hb1 := Nat.le_of_ble_eq_true hb.1
      have hb2 := Nat.le_of_ble_eq_true hb.2
      cases hg : eqT P d e (seg xs (i * k) k) (seg ys (i * k) k) with
      | none => rw [hg] at h; cases h
      | some r =>
        obtain ⟨a1, a2⟩ := eqT_agg hg
        rw [seg_length hb1] at a2
        have p1 := run_part_seg (P := P) (w := w) ⟨xs'⟩ (i * k) hs a1 a2 (by simpa [← hx.1] using hb1)
        have p2 := run_part_seg (P := P) (w := w) ⟨ys'⟩ (i * k) hs a1 a2 (by simpa [← hy.1] using hb2)
        have p3 := ih _ _ _ _ _ _ hg (seg_rel hx _ _) (seg_rel hy _ _)
        simp only [List.range'_succ, Op.eqItems, hc, Sem.run_bind, p1, p2, p3, Result.andThen_ok]
        rw [hg] at h
        have hrec := eqIs_sound hs hc ih hx hy m (i + 1) b
        rw [hc] at hrec
        cases r with
        | true => simp only at h; simpa using hrec h
        | false => simp only at h; injection h with h; subst h; simp

theorem cellsOf_sz {t : TypeId} {k : Nat} (h : szOf P t = some k) : P.cellsOf t = k ∧ ∃ i, P.info? t = some i := by
  unfold szOf at h
  cases hi : P.info? t with
  | none => rw [hi] at h; cases h
  | some i => rw [hi] at h; injection h with h; exact ⟨by simp [Program.cellsOf, hi, h], i, rfl⟩

theorem eqT_sound : ∀ (d z : Nat) (t : TypeId) (xs ys xs' ys' : List Value) (b : Bool), d ≤ z → eqT P d t xs ys = some b → VRL ρ xs xs' → VRL ρ ys ys' → (Op.equalIn z t (mkV P t xs') (mkV P t ys')).run P w = .ok b w := by
  intro d
  induction d with
  | zero => intro z t xs ys xs' ys' b _ h; simp [eqT] at h
  | succ d ih =>
    intro z t xs ys xs' ys' b hz h hx hy
    obtain ⟨z, rfl⟩ : ∃ z', z = z' + 1 := ⟨z - 1, by omega⟩
    have ih' : ∀ (t : TypeId) (xs ys xs' ys' : List Value) (b : Bool), eqT P d t xs ys = some b → VRL ρ xs xs' → VRL ρ ys ys' → (Op.equalIn z t (mkV P t xs') (mkV P t ys')).run P w = .ok b w :=
      fun t xs ys xs' ys' b => ih z t xs ys xs' ys' b (by omega)
    unfold eqT at h
    split at h
    · rename_i hu
      split at h
      · rename_i a c
        obtain ⟨_, _, rfl, h1, h2⟩ := hx.cases_cons; have := h2.cases_nil; subst this; cases h1
        obtain ⟨_, _, rfl, h1, h2⟩ := hy.cases_cons; have := h2.cases_nil; subst this; cases h1
        injection h with h; subst h
        have : aggT P t = some false := by unfold aggT; rw [hu]
        simp only [mkV, this, List.headD_cons]
        exact run_equalIn_bool' _ _ _ _ _ hu
      · cases h
    · rename_i kk hu
      split at h
      · rename_i j a k c
        obtain ⟨_, _, rfl, h1, h2⟩ := hx.cases_cons; have := h2.cases_nil; subst this; cases h1
        obtain ⟨_, _, rfl, h1, h2⟩ := hy.cases_cons; have := h2.cases_nil; subst this; cases h1
        by_cases hjk : j = k
        · subst hjk; simp at h; subst h
          have : aggT P t = some false := by unfold aggT; rw [hu]
          simp only [mkV, this, List.headD_cons]
          rw [run_equalIn_int _ _ _ _ _ _ _ hu]
        · simp [hjk] at h
      · cases h
    · rename_i hu
      split at h
      · rename_i a c
        obtain ⟨_, _, rfl, h1, h2⟩ := hx.cases_cons; have := h2.cases_nil; subst this; cases h1
        obtain ⟨_, _, rfl, h1, h2⟩ := hy.cases_cons; have := h2.cases_nil; subst this; cases h1
        injection h with h; subst h
        have : aggT P t = some false := by unfold aggT; rw [hu]
        simp only [mkV, this, List.headD_cons]
        rw [run_equalIn_string _ _ _ _ _ hu, ← beq_toListBytes]
      · cases h
    · rename_i fs hu
      cases hst : P.stoodInHeld t with
      | true => rw [hst] at h; cases h
      | false =>
        rw [hst] at h; simp only [cond_false] at h
        have : aggT P t = some true := by unfold aggT; rw [hu]
        simp only [mkV, this]
        have hf : P.fieldsOf t = fs := by simp [Program.fieldsOf, hu]
        rw [run_equalIn_struct _ _ _ _ _ (by rw [hf]; exact hu) hst, hf]
        exact eqFs_sound ih' hx hy fs.toList b h
    · rename_i n e hu
      cases hs : szOf P e with
      | none => rw [hs] at h; cases h
      | some k =>
        rw [hs] at h; simp only at h
        have : aggT P t = some true := by unfold aggT; rw [hu]
        simp only [mkV, this]
        obtain ⟨hc, i, hi⟩ := cellsOf_sz hs
        rw [run_equalIn_array _ _ _ _ hu hi, List.range_eq_range']
        exact eqIs_sound hs hc ih' hx hy n 0 b h
    · cases h

theorem eqGuard_agg {op : BinOp} {t : TypeId} {xo yo : Operand} {a b : Array Value} (h : P.eqGuardType P.depth t = false) : (eqGuard op t xo yo (.agg a) (.agg b)).run P w = .ok () w :=
  run_eqGuard_agg w op t xo yo a b h

theorem eqD_sound {t : TypeId} {x x' y y' : Value} {b : Bool} (hx : VR ρ x x') (hy : VR ρ y y') (h : eqD P t x y = some b) :
    (Op.equal t x' y').run P w = .ok b w ∧ (∀ op xo yo, (eqGuard op t xo yo x' y').run P w = .ok () w) := by
  obtain ⟨z, hz, hz20⟩ : ∃ z, Op.maxDepth = z + 1 ∧ 20 ≤ z + 1 := ⟨9999, rfl, by omega⟩
  unfold Op.equal
  rw [hz]
  clear hz
  have g0 : ∀ (op : BinOp) (xo yo : Operand) (a c : Value), (a = .nilIface → c = .nilIface → False) → ((∃ u, a = .agg u) → (∃ u, c = .agg u) → False) → (eqGuard op t xo yo a c).run P w = .ok () w := by
    intro op xo yo a c h1 h2
    cases op <;> simp only [eqGuard] <;> (try rfl) <;> (cases a <;> cases c <;> first | rfl | exact (h1 rfl rfl).elim | exact (h2 ⟨_, rfl⟩ ⟨_, rfl⟩).elim)
  unfold eqD at h
  split at h <;> rename_i hu
  · cases hx; cases hy; injection h with h; subst h
    exact ⟨run_equalIn_bool' _ _ _ _ _ hu, fun op xo yo => g0 op xo yo _ _ (by simp) (by simp)⟩
  · rename_i j a k c
    cases hx; cases hy
    by_cases hjk : j = k
    · subst hjk; simp at h; subst h
      exact ⟨run_equalIn_int _ _ _ _ _ _ _ hu, fun op xo yo => g0 op xo yo _ _ (by simp) (by simp)⟩
    · simp [hjk] at h
  · cases hx; cases hy; injection h with h; subst h
    exact ⟨by rw [run_equalIn_string _ _ _ _ _ hu, ← beq_toListBytes], fun op xo yo => g0 op xo yo _ _ (by simp) (by simp)⟩
  · cases hx; cases hy <;> (injection h with h; subst h; exact ⟨by simp only [Op.equalIn, Sem.run_bind, run_und hu, Result.andThen_ok, Sem.run_pure, Option.isNone_none, Option.isNone_some], fun op xo yo => g0 op xo yo _ _ (by simp) (by simp)⟩)
  · cases hx; cases hy; injection h with h; subst h; exact ⟨by simp only [Op.equalIn, Sem.run_bind, run_und hu, Result.andThen_ok, Sem.run_pure, Option.isNone_none, Option.isNone_some], fun op xo yo => g0 op xo yo _ _ (by simp) (by simp)⟩
  · cases hx; cases hy; injection h with h; subst h; exact ⟨by simp only [Op.equalIn, Sem.run_bind, run_und hu, Result.andThen_ok, Sem.run_pure, Option.isNone_none, Option.isNone_some], fun op xo yo => g0 op xo yo _ _ (by simp) (by simp)⟩
  · cases hx; cases hy; injection h with h; subst h; exact ⟨by simp only [Op.equalIn, Sem.run_bind, run_und hu, Result.andThen_ok, Sem.run_pure, Option.isNone_none, Option.isNone_some], fun op xo yo => g0 op xo yo _ _ (by simp) (by simp)⟩
  · cases hx; cases hy <;> (injection h with h; subst h; exact ⟨by simp only [Op.equalIn, Sem.run_bind, run_und hu, Result.andThen_ok, Sem.run_pure, Option.isNone_none, Option.isNone_some], fun op xo yo => g0 op xo yo _ _ (by simp) (by simp)⟩)
  · cases hx <;> cases hy <;> (injection h with h; subst h; exact ⟨by simp only [Op.equalIn, Sem.run_bind, run_und hu, Result.andThen_ok, Sem.run_pure, Option.isNone_none, Option.isNone_some], fun op xo yo => g0 op xo yo _ _ (by simp) (by simp)⟩)
  · cases hx; cases hy <;> (injection h with h; subst h; exact ⟨by simp only [Op.equalIn, Sem.run_bind, run_und hu, Result.andThen_ok, Sem.run_pure, Option.isNone_none, Option.isNone_some], fun op xo yo => g0 op xo yo _ _ (by simp) (by simp)⟩)
  · cases hx; cases hy; injection h with h; subst h; exact ⟨by simp only [Op.equalIn, Sem.run_bind, run_und hu, Result.andThen_ok, Sem.run_pure, Option.isNone_none, Option.isNone_some], fun op xo yo => g0 op xo yo _ _ (by simp) (by simp)⟩
  · cases hx; cases hy; injection h with h; subst h; exact ⟨by simp only [Op.equalIn, Sem.run_bind, run_und hu, Result.andThen_ok, Sem.run_pure, Option.isNone_none, Option.isNone_some], fun op xo yo => g0 op xo yo _ _ (by simp) (by simp)⟩
  · cases hx; cases hy <;> (injection h with h; subst h; exact ⟨by simp only [Op.equalIn, Sem.run_bind, run_und hu, Result.andThen_ok, Sem.run_pure, Option.isNone_none, Option.isNone_some], fun op xo yo => g0 op xo yo _ _ (by simp) (by simp)⟩)
  · cases hx <;> cases hy <;> (injection h with h; subst h; exact ⟨by simp only [Op.equalIn, Sem.run_bind, run_und hu, Result.andThen_ok, Sem.run_pure, Option.isNone_none, Option.isNone_some], fun op xo yo => g0 op xo yo _ _ (by simp) (by simp)⟩)
  all_goals first
    | (obtain ⟨a', rfl, ha⟩ := hx.of_agg
       obtain ⟨b', rfl, hb⟩ := hy.of_agg
       unfold aggEq at h
       cases hg : P.eqGuardType P.depth t with
       | true => rw [hg] at h; cases h
       | false =>
         rw [hg] at h; simp only [cond_false] at h
         have hag : aggT P t = some true := by
           unfold und at hu; unfold aggT; rw [hu]
         have := eqT_sound (ρ := ρ) (w := w) 20 (z + 1) t _ _ _ _ b hz20 h ha hb
         simp only [mkV, hag] at this
         exact ⟨this, fun op xo yo => eqGuard_agg hg⟩)
    | cases h
end Go.Hg
