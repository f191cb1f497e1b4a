/- The interpreter looks at an operation's operands alone. -/
import Derived.Test.YthlkmfeelhbhjaaGreatDoorHgSm
set_option linter.unusedVariables false
set_option linter.unusedSimpArgs false
namespace Go.Hg
variable {P : Program}

theorem evals_congr {a a' : ActD} : ∀ {xs : List Operand}, (∀ x ∈ xs, a.eval x = a'.eval x) → evals a xs = evals a' xs
  | [], _ => rfl
  | x :: xs, h => by
    simp only [evals]
    rw [h x (by simp), evals_congr (fun y hy => h y (by simp [hy]))]

theorem lightD_congr {a a' : ActD} {s : St} {op : Op} (h : ∀ x ∈ opndsOf op, a.eval x = a'.eval x) : lightD P a s op = lightD P a' s op := by
  cases op with
  | slice t x l hh m =>
    have hx := h x (by simp [opndsOf])
    cases l <;> cases hh <;> cases m <;>
      (simp only [opndsOf, Option.toList_none, Option.toList_some, List.append_nil, List.nil_append, List.cons_append, List.mem_cons, List.not_mem_nil, or_false, forall_eq_or_imp, forall_eq] at h
       simp only [lightD, h])
  | makeFunc fn u v =>
    have h1 : evals a u.toList = evals a' u.toList := evals_congr fun x hx => h x (by simp [opndsOf] at hx ⊢; exact .inl hx)
    have h2 : evals a v.toList = evals a' v.toList := evals_congr fun x hx => h x (by simp [opndsOf] at hx ⊢; exact .inr hx)
    cases fn <;> simp only [lightD, h1, h2]
  | build t ps =>
    have h1 : evals a (ps.toList.map (·.2)) = evals a' (ps.toList.map (·.2)) := evals_congr fun x hx => h x (by simpa [opndsOf] using hx)
    simp only [lightD, h1]
  | call c =>
    obtain ⟨callee, args, ts⟩ := c
    have h1 : evals a args.toList = evals a' args.toList := evals_congr fun x hx => h x (by simp [opndsOf] at hx ⊢; exact .inr hx)
    cases callee with
    | builtin b => cases b <;> simp only [lightD, h1]
    | _ => simp only [lightD]
  | _ => first
    | rfl
    | (simp only [opndsOf, List.mem_cons, List.not_mem_nil, or_false, forall_eq_or_imp, forall_eq] at h
       simp only [lightD, h])

theorem lightD_noread {a : ActD} {s s' : St} {op : Op} (h : reads op = false) : lightD P a s op = lightD P a s' op := by
  cases op with
  | call c =>
    obtain ⟨callee, args, ts⟩ := c
    cases callee with
    | builtin b => cases b <;> first | (simp [reads] at h; done) | simp only [lightD]
    | _ => simp only [lightD]
  | makeFunc fn u v => cases fn <;> simp only [lightD]
  | _ => first | (simp [reads] at h; done) | simp only [lightD]

theorem freshD_congr {a a' : ActD} {op : Op} (h : ∀ x ∈ opndsOf op, a.eval x = a'.eval x) : freshD P a op = freshD P a' op := by
  cases op with
  | buildSlice t n ps =>
    have h1 : evals a (ps.toList.map (·.2)) = evals a' (ps.toList.map (·.2)) := evals_congr fun x hx => h x (by simpa [opndsOf] using hx)
    simp only [freshD, h1]
  | makeMap t r =>
    cases r with
    | none => simp only [freshD]
    | some r => simp only [freshD, h r (by simp [opndsOf])]
  | _ => first
    | rfl
    | (simp only [opndsOf, List.mem_cons, List.not_mem_nil, or_false, forall_eq_or_imp, forall_eq] at h
       simp only [freshD, h])

theorem heavyD_congr {a a' : ActD} {s : St} {r : Bool} {op : Op} (h : ∀ x ∈ opndsOf op, a.eval x = a'.eval x) : heavyD P r a s op = heavyD P r a' s op := by
  cases op with
  | call c =>
    obtain ⟨callee, args, ts⟩ := c
    have h1 : evals a args.toList = evals a' args.toList := evals_congr fun x hx => h x (by simp [opndsOf] at hx ⊢; exact .inr hx)
    cases callee with
    | builtin b => simp only [heavyD, h1]
    | _ => simp only [heavyD]
  | defer c =>
    obtain ⟨callee, args, ts⟩ := c
    have h1 : evals a args.toList = evals a' args.toList := evals_congr fun x hx => h x (by simp [opndsOf] at hx ⊢; exact .inr hx)
    cases callee with
    | value f => simp only [heavyD, h1, h f (by simp [opndsOf])]
    | _ => simp only [heavyD]
  | next it isS => cases isS <;> simp only [heavyD]; rw [h it (by simp [opndsOf])]
  | _ => first
    | rfl
    | (simp only [opndsOf, List.mem_cons, List.not_mem_nil, or_false, forall_eq_or_imp, forall_eq] at h
       simp only [heavyD, h])

theorem operD_congr {call : TargetD → St → Option (EndD × St)} {a a' : ActD} {s : St} {r : Bool} {o : Oper} (h : ∀ x ∈ opndsOf o.op, a.eval x = a'.eval x) : operD P call r a s o = operD P call r a' s o := by
  obtain ⟨dst, op, ty, pos, after, guard⟩ := o
  simp only at h
  unfold operD
  simp only [lightD_congr h, freshD_congr h]
  split
  · rfl
  · rfl
  · split
    · rename_i f args ts _ _
      have h1 : evals a args.toList = evals a' args.toList := evals_congr fun x hx => h x (by simp [opndsOf] at hx ⊢; exact .inr hx)
      rw [h1, h f (by simp [opndsOf])]
    · exact heavyD_congr h

/-- Registers, but for some. -/
noncomputable def keepR (r : Tr Value) : List Nat → Tr Value
  | [] => .nil
  | t :: ts => (keepR r ts).put t (r.get t)

theorem keepR_get (r : Tr Value) (t : Nat) : ∀ ts : List Nat, (keepR r ts).get t = if t ∈ ts then r.get t else none
  | [] => by simp [keepR]
  | u :: ts => by
    simp only [keepR, Tr.get_put, keepR_get r t ts]
    by_cases e : t = u
    · subst e; simp
    · simp [e]

theorem mem_tmpsOf {t : Tmp} : ∀ {l : List Operand}, Operand.tmp t ∈ l → t ∈ tmpsOf l
  | [], h => by simp at h
  | x :: l, h => by
    rcases List.mem_cons.1 h with rfl | h
    · simp [tmpsOf]
    · have := mem_tmpsOf h
      cases x <;> simp [tmpsOf, this]

noncomputable def keepA (a : ActD) (op : Op) : ActD := ⟨keepR a.regs (tmpsOf (opndsOf op)), a.nt, a.defers⟩

theorem keepA_eval (a : ActD) (op : Op) : ∀ x ∈ opndsOf op, a.eval x = (keepA a op).eval x := by
  intro x hx
  cases x with
  | tmp t =>
    simp only [ActD.eval, keepA, keepR_get]
    rw [if_pos (mem_tmpsOf hx)]
  | _ => rfl

theorem eraseL_get (r : Tr Value) (t : Nat) : ∀ ts : List Nat, (eraseL r ts).get t = if t ∈ ts then none else r.get t
  | [] => by simp [eraseL]
  | u :: ts => by
    have := eraseL_get (r.put u none) t ts
    simp only [eraseL, this, Tr.get_put]
    by_cases e : t = u
    · subst e; simp
    · simp [e]
end Go.Hg
