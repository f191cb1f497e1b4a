/- The heavy operations, joined. -/
import Derived.Test.YthlkmfeelhbhjaaGreatDoorHgSd
set_option linter.unusedVariables false
set_option linter.unusedSimpArgs false
namespace Go.Hg
variable {P : Program} {ρ : Env} {s : St} {w : World}

/-- A deferred call. -/
def DefCallR (ρ : Env) (d : Def) (D : Deferred) : Prop := ∃ g l captured, d = .call g l ∧ D.target = .fn (.func g) captured ∧ VRL ρ l (D.args.toList ++ captured.toList)

def HeavyR (P : Program) (ρ : Env) (s : St) (w : World) (round : Bool) (o : Oper) (m : Sem Next) : OutD → Prop
  | .val v s' => (∀ c, o.op ≠ .defer c) ∧ DoesR P ρ s s' w m v
  | .defer d => round = false ∧ ∃ D, m.run P w = .ok (.defer D) w ∧ DefCallR ρ d D
  | .panic v s' => (∀ c, o.op ≠ .defer c) ∧ s' = s ∧ ∃ v', VR ρ v v' ∧ m.run P w = .halt (.panic v') w

theorem target_sound {f f' : Value} {args args' : List Value} {t : TargetD} (hf : VR ρ f f') (ha : VRL ρ args args') (h : targetD f args = some t) :
    ∃ fn first captured, f' = .func fn first captured ∧ ((∃ g l, t = .fn g l ∧ fn = .func g ∧ VRL ρ l (first.toList ++ args' ++ captured.toList)) ∨ (∃ k L, t = .yield k args ∧ ρ k = some L ∧ fn = .yield L.block ∧ first = #[] ∧ captured = #[])) := by
  unfold targetD at h
  split at h
  · rename_i g first captured
    injection h with h; subst h
    obtain ⟨a', b', rfl, h1, h2⟩ := hf.of_func
    exact ⟨_, a', b', rfl, .inl ⟨g, _, rfl, rfl, (h1.append ha).append h2⟩⟩
  · rename_i k
    injection h with h; subst h
    cases hf with
    | yield hL => exact ⟨_, _, _, rfl, .inr ⟨_, _, rfl, hL, rfl, rfl, rfl⟩⟩
  · cases h

theorem DoesR.ofV {s' : St} {m : Sem Value} {v : Value} (h : DoesV P ρ s s' w m v) : DoesR P ρ s s' w (do pure (Next.value (← m))) v := by
  obtain ⟨ρ', w', v', h1, h2, h3, h4, h5⟩ := h
  exact ⟨⟨ρ', w', v', .inl (by simp [h1]), h2, h3, h4, h5⟩⟩

theorem DoesR.ofU {s' : St} {m : Sem Unit} (h : ∃ w', m.run P w = .ok () w' ∧ Fr s.next s s' ρ ρ w w' ∧ Rel ρ s' w' ∧ s'.next = s.next) : DoesR P ρ s s' w (do m; pure Next.skip) undefD := by
  obtain ⟨w', h1, h2, h3, h4⟩ := h
  exact ⟨⟨ρ, w', undef, .inr ⟨by simp [h1], rfl⟩, h2, h3, undef_rel, by omega⟩⟩

theorem heavy_sound (hs : Rel ρ s w) {a : ActD} {ar : Act} (hr : RegsR ρ a.regs ar.tmps) {round : Bool} {o : Oper} {out : OutD} (h : heavyD P round a s o.op = some out) : HeavyR P ρ s w round o (execOp ar.eval o) out := by
  obtain ⟨dst, op, ty, pos, after, guard⟩ := o
  simp only at h
  cases op with
  | store t x y =>
    simp only [heavyD] at h
    split at h
    · rename_i p v hx hy
      cases hst : storeD P t p v s with
      | none => rw [hst] at h; cases h
      | some s' =>
        rw [hst] at h; injection h with h; subst h
        exact ⟨fun c h => (by cases h), DoesR.ofU (store_sound hs (eval_sound hr hx) (eval_sound hr hy) hst)⟩
    · cases h
  | mapUpdate t m k v =>
    simp only [heavyD] at h
    split at h
    · rename_i m' k' v' hm hk hv
      cases hst : mapUpdateD P t m' k' v' s with
      | none => rw [hst] at h; cases h
      | some s' =>
        rw [hst] at h; injection h with h; subst h
        exact ⟨fun c h => (by cases h), DoesR.ofU (mapUpdate_sound hs (eval_sound hr hm) (eval_sound hr hk) (eval_sound hr hv) hst)⟩
    · cases h
  | insert t m k v =>
    simp only [heavyD] at h
    split at h
    · rename_i m' k' v' hm hk hv
      cases hst : mapUpdateD P t m' k' v' s with
      | none => rw [hst] at h; cases h
      | some s' =>
        rw [hst] at h; injection h with h; subst h
        exact ⟨fun c h => (by cases h), DoesR.ofU (mapUpdate_sound hs (eval_sound hr hm) (eval_sound hr hk) (eval_sound hr hv) hst)⟩
    · cases h
  | range t x =>
    simp only [heavyD] at h
    split at h
    · rename_i a1 b1 hu hx
      injection h with h; subst h
      exact ⟨fun c h => (by cases h), DoesR.ofV (range_sound hs ⟨_, _, hu⟩ (eval_sound hr hx) (fun k h => by cases h))⟩
    · rename_i a1 b1 m hu hx
      split at h
      · rename_i st es hg
        injection h with h; subst h
        exact ⟨fun c h => (by cases h), DoesR.ofV (range_sound hs ⟨_, _, hu⟩ (eval_sound hr hx) (fun k h => by injection h with h; subst h; exact ⟨_, hg⟩))⟩
      · cases h
    · cases h
  | next it isS =>
    cases isS with
    | true => simp [heavyD] at h
    | false =>
      simp only [heavyD] at h
      split at h
      · rename_i v hv
        split at h
        · rename_i r s' hn
          injection h with h; subst h
          obtain ⟨w', v', h1, h2, h3, h4, h5⟩ := next_sound (P := P) (ty := ty) hs (eval_sound hr hv) hn
          exact ⟨fun c h => (by cases h), DoesR.ofV ⟨ρ, w', v', h1, h2, h3, h4, by omega⟩⟩
        · cases h
      · cases h
  | entry it =>
    simp only [heavyD] at h
    split at h
    · rename_i v hv
      split at h
      · rename_i r hn
        injection h with h; subst h
        obtain ⟨v', h1, h2⟩ := entry_sound (P := P) hs (eval_sound hr hv) hn
        exact ⟨fun c h => (by cases h), DoesR.ofV ⟨ρ, w, v', h1, .refl _ _ _ _, hs, h2, Nat.le_refl _⟩⟩
      · cases h
    · cases h
  | panic x =>
    simp only [heavyD] at h
    split at h
    · rename_i t v hv
      injection h with h; subst h
      have he := eval_sound hr hv
      refine ⟨fun c h => (by cases h), rfl, ar.eval x, he, ?_⟩
      generalize hg : ar.eval x = x' at he
      cases he
      simp [execOp, hg, Instr.panic]
    · cases h
  | defer c =>
    obtain ⟨callee, args, argTypes⟩ := c
    cases callee with
    | builtin b => simp [heavyD] at h
    | invoke r m => simp [heavyD] at h
    | value f =>
      simp only [heavyD] at h
      cases round with
      | true => cases h
      | false =>
        simp only [cond_false] at h
        split at h
        · rename_i fv vs hf hvs
          split at h
          · rename_i g l ht
            · injection h with h; subst h
              obtain ⟨fn, first, captured, he, hc⟩ := target_sound (eval_sound hr hf) (evals_sound hr hvs) ht
              rcases hc with ⟨g', l', e1, e2, e3⟩ | ⟨k, L, e1, _⟩
              · injection e1 with e1 e4; subst e1; subst e4; subst e2
                refine ⟨rfl, ⟨.fn (.func g) captured, first ++ args.map ar.eval⟩, ?_, g, l, captured, rfl, rfl, ?_⟩
                · simp [execOp, resolve, he, Deferred.ofValue]
                · simpa using e3
              · cases e1
          · cases h
        · cases h
  | call c =>
    obtain ⟨callee, args, argTypes⟩ := c
    cases callee with
    | value f => simp [heavyD] at h
    | invoke r m => simp [heavyD] at h
    | builtin b =>
      have hres : (execOp ar.eval ⟨dst, .call ⟨.builtin b, args, argTypes⟩, ty, pos, after, guard⟩) =
          builtin b argTypes ty (args.map fun | .const _ => true | _ => false) (args.map ar.eval) := rfl
      rw [hres]
      have hnd : ∀ c, (Op.call ⟨.builtin b, args, argTypes⟩) ≠ .defer c := fun c h => by cases h
      have hargs : ∀ (xs : List Value), evals a args.toList = some xs → VRL ρ xs (args.map ar.eval).toList := by
        intro xs hx
        have := evals_sound hr hx
        simpa using this
      have get : ∀ (xs : List Value) (i : Nat) (x : Value), evals a args.toList = some xs → xs[i]? = some x → ∃ x', (args.map ar.eval)[i]? = some x' ∧ VR ρ x x' := by
        intro xs i x hx hi
        obtain ⟨x', h1, h2⟩ := (hargs xs hx).get hi
        exact ⟨x', by rw [← Array.getElem?_toList]; exact h1, h2⟩
      have ht0 : ∀ (t : TypeId) (ts : List TypeId), argTypes.toList = t :: ts → argTypes[0]? = some t ∧ argTypes[1]? = ts.head? := by
        intro t ts he; rw [← Array.getElem?_toList, ← Array.getElem?_toList, he]; exact ⟨rfl, by cases ts <;> rfl⟩
      simp only [heavyD] at h
      split at h
      · rename_i t ts x y ht hx
        obtain ⟨x', hx1, hx2⟩ := get _ 0 x hx rfl
        obtain ⟨y', hy1, hy2⟩ := get _ 1 y hx rfl
        split at h
        · rename_i v s' hap
          injection h with h; subst h
          rw [← (ht0 _ _ ht).2] at hap
          exact ⟨hnd, DoesR.ofV (append_sound hs hx2 hy2 (ht0 _ _ ht).1 hx1 hy1 hap)⟩
        · cases h
      · rename_i t ts x y ht hx
        obtain ⟨x', hx1, hx2⟩ := get _ 0 x hx rfl
        obtain ⟨y', hy1, hy2⟩ := get _ 1 y hx rfl
        split at h
        · rename_i v s' hap
          injection h with h; subst h
          obtain ⟨w', h1, h2, h3, h4, h5⟩ := copy_sound (P := P) (ty := ty) hs hx2 hy2 (ht0 _ _ ht).1 hx1 hy1 hap
          exact ⟨hnd, DoesR.ofV ⟨ρ, w', v, h1, h2, h3, h4, by omega⟩⟩
        · cases h
      · rename_i t ts x ht hx
        obtain ⟨x', hx1, hx2⟩ := get _ 0 x hx rfl
        split at h
        · rename_i s' hap
          injection h with h; subst h
          obtain ⟨w', h1, h2, h3, h4⟩ := clear_sound (P := P) (ty := ty) hs hx2 (ht0 _ _ ht).1 hx1 hap
          exact ⟨hnd, DoesR.ofV ⟨ρ, w', undef, h1, h2, h3, undef_rel, by omega⟩⟩
        · cases h
      · cases h
  | _ => simp [heavyD] at h
end Go.Hg
