/- Every operation that reckons and reads. -/
import Derived.Test.YthlkmfeelhbhjaaGreatDoorHgS6
set_option linter.unusedVariables false
set_option linter.unusedSimpArgs false
namespace Go.Hg
variable {P : Program} {ρ : Env} {s : St} {w : World}

theorem oevals {a : ActD} {ar : Act} (hr : RegsR ρ a.regs ar.tmps) {o : Option Operand} {r : Option Value} (h : (match o with
    | none => some none
    | some o => match a.eval o with
      | some v => some (some v)
      | none => none : Option (Option Value)) = some r) : OVR ρ r (o.map ar.eval) := by
  cases o with
  | none => simp only at h; injection h with h; subst h; exact .inl ⟨rfl, rfl⟩
  | some x =>
    simp only at h
    cases hx : a.eval x with
    | none => rw [hx] at h; cases h
    | some v => rw [hx] at h; injection h with h; subst h; exact .inr ⟨v, _, rfl, rfl, eval_sound hr hx⟩

theorem light_sound (hs : Rel ρ s w) {a : ActD} {ar : Act} (hr : RegsR ρ a.regs ar.tmps) {o : Oper} {v : Value} (h : lightD P a s o.op = some v) :
    ∃ v', (execOp ar.eval o).run P w = .ok (.value v') w ∧ VR ρ v v' := by
  have lift : ∀ (m : Sem Value), (∃ v', m.run P w = .ok v' w ∧ VR ρ v v') → ∃ v', ((do pure (Next.value (← m))) : Sem Next).run P w = .ok (.value v') w ∧ VR ρ v v' := by
    rintro m ⟨v', h1, h2⟩
    exact ⟨v', by simp [h1], h2⟩
  obtain ⟨dst, op, ty, pos, after, guard⟩ := o
  simp only at h
  cases op with
  | move x => simp only [lightD] at h; exact ⟨_, rfl, eval_sound hr h⟩
  | assign x => simp only [lightD] at h; exact ⟨_, rfl, eval_sound hr h⟩
  | pick c x y =>
    simp only [lightD] at h
    split at h
    · rename_i b hc
      have hcv := eval_sound hr hc
      generalize hg : ar.eval c = cv at hcv
      cases hcv
      cases b
      · simp only [cond_false] at h; exact ⟨ar.eval y, by simp [execOp, hg, asBool], eval_sound hr h⟩
      · simp only [cond_true] at h; exact ⟨ar.eval x, by simp [execOp, hg, asBool], eval_sound hr h⟩
    · cases h
  | load t x =>
    simp only [lightD] at h
    cases hx : a.eval x with
    | none => rw [hx] at h; cases h
    | some p => rw [hx] at h; exact lift _ (load_sound hs (eval_sound hr hx) h)
  | nilCheck x =>
    simp only [lightD] at h
    split at h
    · rename_i p hx
      injection h with h; subst h
      have := eval_sound hr hx
      generalize hg : ar.eval x = xv at this
      cases this with
      | ptr off hL => exact ⟨_, by simp only [execOp, hg]; rfl, .ptr off hL⟩
    · rename_i f u c hx
      injection h with h; subst h
      have := eval_sound hr hx
      generalize hg : ar.eval x = xv at this
      obtain ⟨u', c', rfl, h1, h2⟩ := this.of_func
      exact ⟨_, by simp only [execOp, hg]; rfl, .func' f h1 h2⟩
    · rename_i f u c hx
      injection h with h; subst h
      have := eval_sound hr hx
      generalize hg : ar.eval x = xv at this
      cases this with
      | yield hL => exact ⟨_, by simp only [execOp, hg]; rfl, .yield hL⟩
    · cases h
  | binOp o t x y yt =>
    simp only [lightD] at h
    cases hx : a.eval x with
    | none => rw [hx] at h; cases h
    | some u =>
      cases hy : a.eval y with
      | none => rw [hx, hy] at h; cases h
      | some u2 =>
        rw [hx, hy] at h
        exact lift _ (bin_sound (eval_sound hr hx) (eval_sound hr hy) h)
  | unOp o t x =>
    simp only [lightD] at h
    cases hx : a.eval x with
    | none => rw [hx] at h; cases h
    | some u => rw [hx] at h; exact lift _ (un_sound (eval_sound hr hx) h)
  | convert t u x =>
    simp only [lightD] at h
    cases hx : a.eval x with
    | none => rw [hx] at h; cases h
    | some u => rw [hx] at h; exact lift _ (conv_sound hs (eval_sound hr hx) h)
  | makeInterface t x =>
    simp only [lightD] at h
    split at h
    · cases h
    · rename_i d y hni hu hx
      injection h with h; subst h
      refine lift _ ⟨.iface t (ar.eval x), ?_, .iface t (eval_sound hr hx)⟩
      simp only [Instr.makeInterface, Sem.run_bind, run_und hu, Result.andThen_ok]
      cases d <;> first | exact (hni _ hu).elim | rfl
    · cases h
  | makeFunc fn u c =>
    cases fn <;> simp only [lightD] at h <;> first | cases h | skip
    rename_i f
    split at h
    · rename_i us cs h1 h2
      injection h with h; subst h
      refine lift _ ⟨_, rfl, .func' f ?_ ?_⟩
      · have := evals_sound hr h1; simpa using this
      · have := evals_sound hr h2; simpa using this
    · cases h
  | slice t x l hh m =>
    simp only [lightD] at h
    split at h
    · rename_i x0 l0 h0 m0 hx hl hhh hm
      exact lift _ (slice_sound hs (eval_sound hr hx) (oevals hr hl) (oevals hr hhh) (oevals hr hm) h)
    · cases h
  | fieldAddr t x f =>
    simp only [lightD] at h
    cases hx : a.eval x with
    | none => rw [hx] at h; cases h
    | some u => rw [hx] at h; exact lift _ (fieldAddr_sound (eval_sound hr hx) h)
  | field t x f =>
    simp only [lightD] at h
    cases hx : a.eval x with
    | none => rw [hx] at h; cases h
    | some u => rw [hx] at h; exact lift _ (field_sound (eval_sound hr hx) h)
  | indexAddr t x i =>
    simp only [lightD] at h
    cases hx : a.eval x with
    | none => rw [hx] at h; cases h
    | some u =>
      cases hy : a.eval i with
      | none => rw [hx, hy] at h; cases h
      | some u2 => rw [hx, hy] at h; exact lift _ (indexAddr_sound (eval_sound hr hx) (eval_sound hr hy) h)
  | index t x i =>
    simp only [lightD] at h
    cases hx : a.eval x with
    | none => rw [hx] at h; cases h
    | some u =>
      cases hy : a.eval i with
      | none => rw [hx, hy] at h; cases h
      | some u2 => rw [hx, hy] at h; exact lift _ (index_sound (eval_sound hr hx) (eval_sound hr hy) h)
  | lookup t x i ok =>
    simp only [lightD] at h
    cases hx : a.eval x with
    | none => rw [hx] at h; cases h
    | some u =>
      cases hy : a.eval i with
      | none => rw [hx, hy] at h; cases h
      | some u2 => rw [hx, hy] at h; exact lift _ (lookup_sound hs (eval_sound hr hx) (eval_sound hr hy) h)
  | extract x i =>
    simp only [lightD] at h
    split at h
    · rename_i vs hx
      have := eval_sound hr hx
      generalize hg : ar.eval x = xv at this
      obtain ⟨vs', rfl, h1⟩ := this.of_tuple
      obtain ⟨v', h2, h3⟩ := h1.get h
      have h2' : vs'[i]? = some v' := by simpa using h2
      exact lift _ ⟨v', by simp [Instr.extract, hg, h2'], h3⟩
    · cases h
  | typeAssert x xt t ok =>
    simp only [lightD] at h
    cases hx : a.eval x with
    | none => rw [hx] at h; cases h
    | some u => rw [hx] at h; exact lift _ (typeAssert_sound (eval_sound hr hx) h)
  | sliceToArrayPointer t x =>
    simp only [lightD] at h
    split at h
    · rename_i n e p len cap hu hx
      cases hb : (Nat.ble n len && Nat.blt 0 n) with
      | false => rw [hb] at h; cases h
      | true =>
        rw [hb] at h; simp only [cond_true] at h; injection h with h; subst h
        rw [Bool.and_eq_true] at hb
        have hb1 := Nat.le_of_ble_eq_true hb.1
        have hb2 : 0 < n := Nat.le_of_ble_eq_true hb.2
        have := eval_sound hr hx
        generalize hg : ar.eval x = xv at this
        cases this with
        | nilSlice => exact lift _ ⟨.pointer none, by simp [Instr.arrayAt, run_und hu, hg]; omega, .nilPtr⟩
        | slice off _ _ cap' hL _ _ _ _ => exact lift _ ⟨_, by simp [Instr.arrayAt, run_und hu, hg]; omega, .ptr off hL⟩
        | sliceEnd off off' hL => omega
    · cases h
  | build t ps =>
    simp only [lightD] at h
    cases hx : evals a (ps.toList.map (·.2)) with
    | none => rw [hx] at h; cases h
    | some vs =>
      rw [hx] at h
      have hp := parts_sound hr hx
      obtain ⟨v', h1, h2⟩ := build_sound (w := w) hp h
      refine lift _ ⟨v', ?_, h2⟩
      rw [← h1]
      congr 2
      apply Array.toList_inj.1
      simp
  | call c =>
    obtain ⟨callee, args, argTypes⟩ := c
    cases callee with
    | value f => simp [lightD] at h
    | invoke r m => simp [lightD] at h
    | builtin b =>
      have hargs : ∀ x xs, evals a args.toList = some (x :: xs) → ∃ x' xs', args.toList.map ar.eval = x' :: xs' ∧ VR ρ x x' ∧ VRL ρ xs xs' := by
        intro x xs hx
        have := evals_sound hr hx
        obtain ⟨x', xs', h1, h2, h3⟩ := this.cases_cons
        exact ⟨x', xs', h1, h2, h3⟩
      have hres : (execOp ar.eval ⟨dst, .call ⟨.builtin b, args, argTypes⟩, ty, pos, after, guard⟩) =
          builtin b argTypes ty (args.map fun | .const _ => true | _ => false) (args.map ar.eval) := rfl
      rw [hres]
      have h0 : ∀ x' xs', args.toList.map ar.eval = x' :: xs' → (args.map ar.eval)[0]? = some x' := by
        intro x' xs' he
        have : (args.map ar.eval).toList = x' :: xs' := by simpa using he
        rw [← Array.getElem?_toList, this]; rfl
      have ht0 : ∀ t ts, argTypes.toList = t :: ts → argTypes[0]? = some t := by
        intro t ts he; rw [← Array.getElem?_toList, he]; rfl
      cases b <;> simp only [lightD] at h <;> first | cases h | skip
      · split at h
        · rename_i t ts x xs ht hx
          obtain ⟨x', xs', he, hv, hl⟩ := hargs x xs hx
          exact lift _ (capB_sound hs hv (ht0 _ _ ht) (h0 _ _ he) h)
        · cases h
      · split at h
        · rename_i t ts x xs ht hx
          obtain ⟨x', xs', he, hv, hl⟩ := hargs x xs hx
          exact lift _ (lenB_sound hs hv (ht0 _ _ ht) (h0 _ _ he) h)
        · cases h
      · split at h
        · rename_i x xs hx
          obtain ⟨x', xs', he, hv, hl⟩ := hargs x xs hx
          split at h
          · rename_i k n
            cases hv
            obtain ⟨h1, k', n', rfl⟩ := extreme_sound (P := P) (w := w) (isMax := true) hl ⟨_, _, rfl⟩ h
            refine lift _ ⟨_, ?_, .int _ _⟩
            have : (args.map ar.eval).toList = .int k n :: xs' := by simpa using he
            simp only [Builtin.max_, this]
            exact h1
          · cases h
        · cases h
      · split at h
        · rename_i x xs hx
          obtain ⟨x', xs', he, hv, hl⟩ := hargs x xs hx
          split at h
          · rename_i k n
            cases hv
            obtain ⟨h1, k', n', rfl⟩ := extreme_sound (P := P) (w := w) (isMax := false) hl ⟨_, _, rfl⟩ h
            refine lift _ ⟨_, ?_, .int _ _⟩
            have : (args.map ar.eval).toList = .int k n :: xs' := by simpa using he
            simp only [Builtin.min_, this]
            exact h1
          · cases h
        · cases h
  | _ => simp [lightD] at h
end Go.Hg
