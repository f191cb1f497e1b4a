/- An operation in the order of the text, as steps. -/
import Derived.Test.YthlkmfeelhbhjaaGreatDoorHgSf
set_option linter.unusedVariables false
set_option linter.unusedSimpArgs false
namespace Go.Hg
variable {P : Program} {ρ : Env} {s : St} {w : World}

theorem cond_some {α : Type} {q : Bool} {x : Option α} {y : α} (h : cond q x none = some y) : q = true ∧ x = some y := by
  cases q
  · cases h
  · exact ⟨rfl, h⟩

theorem fresh_not_iter {a : ActD} {op : Op} {b : Obj} {f : Nat → Value} (h : freshD P a op = some (b, f)) : ∀ m st seen, b ≠ .iter m st seen := by
  intro m st seen e
  subst e
  cases op <;> simp only [freshD] at h <;> (repeat' split at h) <;> first
    | (cases h; done)
    | (simp at h; done)
    | skip
  · have := (cond_some h).2
    simp at this

theorem fresh_rel (hs : Rel ρ s w) {a : ActD} {ar : Act} (hr : RegsR ρ a.regs ar.tmps) {o : Oper} {b : Obj} {f : Nat → Value} (h : freshD P a o.op = some (b, f))
    {k nx : Nat} (hk : ρ k = none) (hkh : s.heap.get k = none) (hnx : s.next ≤ nx) (hkn : k < nx) :
    ∃ X v' L, (execOp ar.eval o).run P w = .ok (.value v') (push w X) ∧ L.block = w.heap.size ∧ Rel (ρ.ext k L) ⟨s.heap.set k b, nx⟩ (push w X) ∧ VR (ρ.ext k L) (f k) v' := by
  obtain ⟨X, v', L, h1, h2, h3⟩ := (fresh_sound (P := P) (w := w) hr h).out
  obtain ⟨h4, h5⟩ := h3 k hk
  exact ⟨X, v', L, h1, h2, hs.lay hk hkh hnx hkn (by rw [push_size]; omega) (by omega) (by rw [push_size]; omega) (fun b hb => push_old w X hb) h4 (fun m st seen e => (fresh_not_iter h _ _ _ e).elim), h5⟩

theorem cls_not_defer {op : Op} (h : cls op = 0 ∨ cls op = 1) : ∀ c, op ≠ .defer c := by
  rintro c rfl
  rcases h with h | h <;> simp [cls] at h

def OperR (P : Program) (ρ : Env) (s : St) (w : World) (b : Frame) (ar : Act) (k : List Item) (cs : List Frame) (ops : Array Oper) (i : Nat) (rest : List Nat) (o : Oper) : OutD → Prop
  | .val v s' => ∃ ρ' w' v', Fr s.next s s' ρ ρ' w w' ∧ Rel ρ' s' w' ∧ VR ρ' v v' ∧ s.next ≤ s'.next ∧
      Steps P (lone (b.atR ar (.inRegion ops (i :: rest) :: k)) cs w) (lone (b.atR (ar.put o.dst v') (.inRegion ops rest :: k)) cs w')
  | .defer d => b.roundOf = none ∧ ∃ D, DefCallR ρ d D ∧
      Steps P (lone (b.atR ar (.inRegion ops (i :: rest) :: k)) cs w) (lone (b.atR ({ ar with defers := D :: ar.defers }.put o.dst undef) (.inRegion ops rest :: k)) cs w)
  | .panic v s' => ∃ ρ' w' v', Fr s.next s s' ρ ρ' w w' ∧ Rel ρ' s' w' ∧ VR ρ' v v' ∧ s.next ≤ s'.next ∧
      Steps P (lone (b.atR ar (.inRegion ops (i :: rest) :: k)) cs w) (lone { b.atR ar (.inRegion ops (i :: rest) :: k) with mode := .panicking [{ v := v', recovered := false }] } cs w')

theorem heavy_steps (hs : Rel ρ s w) {a : ActD} {b : Frame} {ar : Act} (hr : RegsR ρ a.regs ar.tmps) {k : List Item} {cs : List Frame} {ops : Array Oper} {i : Nat} {rest : List Nat} {o : Oper} {r : Bool} {out : OutD}
    (ho : ops[i]? = some o) (hw : Region.wanted o (yielded ops ar.tmps) = true) (hb : b.roundOf.isSome = r) (h : heavyD P r a s o.op = some out) : OperR P ρ s w b ar k cs ops i rest o out := by
  have hh := heavy_sound (P := P) hs hr h
  cases out with
  | val v s' =>
    obtain ⟨hnd, ⟨ρ', w', v', h1, h2, h3, h4, h5⟩⟩ := hh
    refine ⟨ρ', w', v', h2, h3, h4, h5, ?_⟩
    rcases h1 with h1 | ⟨h1, rfl⟩
    · exact .one (step_value ho hw hnd h1)
    · exact .one (step_skip ho hw hnd h1)
  | defer d =>
    obtain ⟨rfl, D, h1, h2⟩ := hh
    have hb' : b.roundOf = none := by simpa using hb
    exact ⟨hb', D, h2, .one (step_defer ho hw hb' h1)⟩
  | panic v s' =>
    obtain ⟨hnd, rfl, v', h1, h2⟩ := hh
    exact ⟨ρ, w, v', .refl _ _ _ _, hs, h1, Nat.le_refl _, .one (step_panic ho hw hnd h2)⟩

theorem call_steps {call : TargetD → St → Option (EndD × St)} (hc : CallS P call) (hs : Rel ρ s w) {a : ActD} {b : Frame} {ar : Act} (hr : RegsR ρ a.regs ar.tmps) {k : List Item} {cs : List Frame} {ops : Array Oper} {i : Nat} {rest : List Nat} {o : Oper}
    (ho : ops[i]? = some o) (hw : Region.wanted o (yielded ops ar.tmps) = true) {f : Operand} {args : Array Operand} {ts : Array TypeId} (hop : o.op = .call ⟨.value f, args, ts⟩) {fv : Value} {vs : List Value} (hf : a.eval f = some fv)
    (hvs : evals a args.toList = some vs) {t : TargetD} (ht : targetD fv vs = some t) {e : EndD} {s' : St} (hcall : call t s = some (e, s')) :
    OperR P ρ s w b ar k cs ops i rest o (match e with
      | .ret v => .val v s'
      | .panic v => .panic v s') := by
  have hnd : ∀ c, o.op ≠ .defer c := by intro c hh; rw [hop] at hh; cases hh
  obtain ⟨fn, first, captured, he, htt⟩ := target_sound (eval_sound hr hf) (evals_sound hr hvs) ht
  have hexec : execOp ar.eval o = invoke (.fn fn captured) (first ++ args.map ar.eval) := by
    unfold execOp
    rw [hop]
    simp only [resolve, he, Deferred.ofValue]
    rfl
  have htr : TargetR ρ t (.fn fn captured) (first ++ args.map ar.eval) := by
    rcases htt with ⟨g, l, rfl, rfl, hl⟩ | ⟨kk, L, rfl, hL, rfl, rfl, rfl⟩
    · exact ⟨captured, rfl, by simpa using hl⟩
    · exact ⟨L, hL, rfl, by have := evals_sound hr hvs; simpa using this⟩
  obtain ⟨ρ', w', h1, h2, h3, h4⟩ := hc t s e s' hcall ρ w _ _ hs htr (b.atR ar (.inRegion ops (i :: rest) :: k)) cs
  rw [← hexec] at h4
  cases e with
  | ret v =>
    obtain ⟨v', hv, hrun⟩ := h4
    refine ⟨ρ', w', v', h1, h2, hv, h3, ?_⟩
    rcases hrun with hrun | ⟨nx, fr, w1, r1, r2, r3⟩
    · exact .one (step_value ho hw hnd hrun)
    · rw [finish_op ho] at r3
      exact .head (step_enter ho hw hnd r2 r1) r3
  | panic v =>
    obtain ⟨v', hv, nx, fr, w1, r1, r2, r3⟩ := h4
    refine ⟨ρ', w', v', h1, h2, hv, h3, ?_⟩
    rw [Frame.raise_atR] at r3
    exact .head (step_enter ho hw hnd r2 r1) r3

theorem oper_sound {call : TargetD → St → Option (EndD × St)} (hc : CallS P call) (hs : Rel ρ s w) {a : ActD} {b : Frame} {ar : Act} (hr : RegsR ρ a.regs ar.tmps) {k : List Item} {cs : List Frame} {ops : Array Oper} {i : Nat} {rest : List Nat} {o : Oper} {r : Bool} {out : OutD}
    (ho : ops[i]? = some o) (hw : Region.wanted o (yielded ops ar.tmps) = true) (hb : b.roundOf.isSome = r) (h : operD P call r a s o = some out) : OperR P ρ s w b ar k cs ops i rest o out := by
  unfold operD at h
  split at h
  · rename_i hcl
    split at h
    · rename_i v hl
      injection h with h; subst h
      obtain ⟨v', h1, h2⟩ := light_sound (P := P) hs hr hl
      exact ⟨ρ, w, v', .refl _ _ _ _, hs, h2, Nat.le_refl _, .one (step_value ho hw (cls_not_defer (.inl hcl)) h1)⟩
    · cases h
  · rename_i hcl
    split at h
    · rename_i bo f hf
      simp only [St.new] at h
      injection h with h; subst h
      obtain ⟨d1, d2⟩ := hs.dom s.next (Nat.le_refl _)
      obtain ⟨X, v', L, h1, h2, h3, h4⟩ := fresh_rel (P := P) hs hr hf d1 d2 (Nat.le_succ _) (Nat.lt_succ_self _)
      exact ⟨_, _, v', fr_push _ X d1 (Nat.le_refl _) h2, h3, h4, Nat.le_succ _, .one (step_value ho hw (cls_not_defer (.inr hcl)) h1)⟩
    · cases h
  · split at h
    · rename_i f args ts hop
      split at h
      · rename_i fv vs hf hvs
        split at h
        · rename_i t ht
          split at h
          · rename_i v s' hcall
            injection h with h; subst h
            exact call_steps hc hs hr ho hw hop hf hvs ht hcall
          · rename_i v s' hcall
            injection h with h; subst h
            exact call_steps hc hs hr ho hw hop hf hvs ht hcall
          · cases h
        · cases h
      · cases h
    · exact heavy_steps hs hr ho hw hb h

/-! ### Regions in the order of their text -/
/-- How code ends, as steps. -/
def Reach (P : Program) (ρ' : Env) (m : Machine) (b : Frame) (k : List Item) (cs : List Frame) (ar' : Act) (w' : World) : ExitD → Prop
  | .normal => Steps P m (lone (b.atR ar' k) cs w')
  | .exit id => ∃ k1, exitTo id k1 = exitTo id k ∧ Steps P m (lone (b.atR ar' (.code (.exit id) :: k1)) cs w')
  | .goto l => ∃ k1, gotoIn l k1 = gotoIn l k ∧ Steps P m (lone (b.atR ar' (.code (.goto l) :: k1)) cs w')
  | .ret => ∃ k1, Steps P m (lone (b.atR ar' (.code .ret :: k1)) cs w')
  | .panic v => ∃ k1 v', VR ρ' v v' ∧ Steps P m (lone { b.atR ar' k1 with mode := .panicking [{ v := v', recovered := false }] } cs w')

theorem Reach.of_steps {ρ' : Env} {m m1 : Machine} {b : Frame} {k : List Item} {cs : List Frame} {ar' : Act} {w' : World} {x : ExitD} (h : Steps P m m1) (hr : Reach P ρ' m1 b k cs ar' w' x) : Reach P ρ' m b k cs ar' w' x := by
  cases x with
  | normal => exact Steps.trans h hr
  | exit id => obtain ⟨k1, h1, h2⟩ := hr; exact ⟨k1, h1, Steps.trans h h2⟩
  | goto l => obtain ⟨k1, h1, h2⟩ := hr; exact ⟨k1, h1, Steps.trans h h2⟩
  | ret => obtain ⟨k1, h2⟩ := hr; exact ⟨k1, Steps.trans h h2⟩
  | panic v => obtain ⟨k1, v', h1, h2⟩ := hr; exact ⟨k1, v', h1, Steps.trans h h2⟩

/-- What running something is to do. m: the machine ahead. -/
def Runs (P : Program) (m : Machine) (ρ : Env) (s : St) (w : World) (lo : Nat) (b : Frame) (k : List Item) (cs : List Frame) (x : ExitD) (a' : ActD) (s' : St) : Prop :=
  ∃ ρ' w' ar', Fr s.next s s' ρ ρ' w w' ∧ Rel ρ' s' w' ∧ ActR ρ' w' lo a' ar' ∧ s.next ≤ s'.next ∧ Reach P ρ' m b k cs ar' w' x

theorem Runs.of_steps {m m1 : Machine} {lo : Nat} {b : Frame} {k : List Item} {cs : List Frame} {x : ExitD} {a' : ActD} {s1 s' : St} {ρ1 : Env} {w1 : World} (h : Steps P m m1) (hf : Fr s.next s s1 ρ ρ1 w w1) (hn : s.next ≤ s1.next)
    (hr : Runs P m1 ρ1 s1 w1 lo b k cs x a' s') : Runs P m ρ s w lo b k cs x a' s' := by
  obtain ⟨ρ', w', ar', h1, h2, h3, h4, h5⟩ := hr
  exact ⟨ρ', w', ar', hf.trans h1 hn, h2, h3, by omega, h5.of_steps h⟩

theorem ops_sound {call : TargetD → St → Option (EndD × St)} (hc : CallS P call) {r : Bool} {ops : Array Oper} {x : ExitD} {a' : ActD} {s' : St} {b : Frame} {k : List Item} {cs : List Frame} {lo : Nat} (hb : b.roundOf.isSome = r) :
    ∀ (l : List Oper) (n : Nat) (a : ActD) (ar : Act) (ρ : Env) (s : St) (w : World), ops.toList.drop n = l → opsD P call r ops.toList l a s = some (x, a', s') → Rel ρ s w → ActR ρ w lo a ar → lo ≤ w.heap.size →
      Runs P (lone (b.atR ar (.inRegion ops ((List.range ops.size).drop n) :: k)) cs w) ρ s w lo b k cs x a' s'
  | [], n, a, ar, ρ, s, w, hl, h, hs, ha, hlo => by
    simp only [opsD] at h
    simp only [Option.some.injEq, Prod.mk.injEq] at h
    obtain ⟨rfl, rfl, rfl⟩ := h
    have hn : ops.size ≤ n := by simpa using hl
    have : (List.range ops.size).drop n = [] := by simp [hn]
    rw [this]
    exact ⟨ρ, w, ar, .refl _ _ _ _, hs, ha, Nat.le_refl _, .one stepR_region_end⟩
  | o :: l, n, a, ar, ρ, s, w, hl, h, hs, ha, hlo => by
    have hn : n < ops.size := by
      have := congrArg List.length hl
      simp at this
      omega
    have ho : ops[n]? = some o := by
      rw [← Array.getElem?_toList]
      have := congrArg (·[0]?) hl
      simpa using this
    have hl' : ops.toList.drop (n + 1) = l := by rw [← List.drop_drop, hl]; rfl
    have hdr : (List.range ops.size).drop n = n :: (List.range ops.size).drop (n + 1) := by
      rw [List.drop_eq_getElem_cons (by simpa using hn)]; simp
    rw [hdr]
    simp only [opsD] at h
    split at h
    · rename_i hwd
      have hw := wanted_sound (opsA := ops) rfl ha.regs hwd
      split at h
      · rename_i v s1 hop
        obtain ⟨ρ1, w1, v', h1, h2, h3, h4, h5⟩ := oper_sound (k := k) (cs := cs) (rest := (List.range ops.size).drop (n + 1)) hc hs ha.regs ho hw hb hop
        split at h
        · rename_i a1 hput
          have ha1 := (ha.mono h1).put hput h3
          exact Runs.of_steps h5 h1 h4 (ops_sound hc hb l (n + 1) a1 _ ρ1 s1 w1 hl' h h2 ha1 (Nat.le_trans hlo h1.size))
        · cases h
      · rename_i d hop
        obtain ⟨hb0, D, h1, h2⟩ := oper_sound (k := k) (cs := cs) (rest := (List.range ops.size).drop (n + 1)) hc hs ha.regs ho hw hb hop
        split at h
        · rename_i a1 hput
          have ha0 : ActR ρ w lo ⟨a.regs, a.nt, d :: a.defers⟩ { ar with defers := D :: ar.defers } := ⟨ha.size, ha.regs, .call h1 ha.defs⟩
          have ha1 := ha0.put hput undef_rel
          exact Runs.of_steps h2 (.refl _ _ _ _) (Nat.le_refl _) (ops_sound hc hb l (n + 1) a1 _ ρ s w hl' h hs ha1 hlo)
        · cases h
      · rename_i v s1 hop
        simp only [Option.some.injEq, Prod.mk.injEq] at h
        obtain ⟨rfl, rfl, rfl⟩ := h
        obtain ⟨ρ1, w1, v', h1, h2, h3, h4, h5⟩ := oper_sound (k := k) (cs := cs) (rest := (List.range ops.size).drop (n + 1)) hc hs ha.regs ho hw hb hop
        exact ⟨ρ1, w1, ar, h1, h2, ha.mono h1, h4, _, v', h3, h5⟩
      · cases h
    · rename_i hwd
      have hw := wanted_sound (opsA := ops) rfl ha.regs hwd
      split at h
      · rename_i a1 hput
        have ha1 := ha.put hput undef_rel
        have hst := stepR_op_skip (P := P) (b := b) (a := ar) (k := k) (cs := cs) (w := w) (ops := ops) (i := n) (rest := (List.range ops.size).drop (n + 1)) (by rw [ho]; simpa using hw)
        have e : (ops[n]?).bind (·.dst) = o.dst := by rw [ho]; rfl
        rw [e] at hst
        exact Runs.of_steps (.one hst) (.refl _ _ _ _) (Nat.le_refl _) (ops_sound hc hb l (n + 1) a1 _ ρ s w hl' h hs ha1 hlo)
      · cases h
    · cases h
end Go.Hg
