/- Operations as steps of the machine. -/
import Derived.Test.YthlkmfeelhbhjaaGreatDoorHgSe
set_option linter.unusedVariables false
set_option linter.unusedSimpArgs false
namespace Go.Hg
variable {P : Program} {ρ : Env} {s : St} {w : World}

/-- Deferred calls. Marks lie in [lo, hi), the younger the higher. -/
inductive DefsR (ρ : Env) (w : World) (lo : Nat) : Nat → List Def → List Deferred → Prop
  | nil (hi : Nat) : DefsR ρ w lo hi [] []
  | call {hi : Nat} {d : Def} {D : Deferred} {ds : List Def} {Ds : List Deferred} (h : DefCallR ρ d D) (t : DefsR ρ w lo hi ds Ds) : DefsR ρ w lo hi (d :: ds) (D :: Ds)
  | mark {hi r : Nat} {args : Array Value} {ds : List Def} {Ds : List Deferred} (h1 : lo ≤ r) (h2 : r < hi) (h3 : w.heap[r]? = some (.deferred (some []))) (h4 : ∀ k L, ρ k = some L → L.block ≠ r)
      (t : DefsR ρ w lo r ds Ds) : DefsR ρ w lo hi (.mark :: ds) ({ target := .collected r, args } :: Ds)

theorem DefsR.high {lo hi hi' : Nat} {ds : List Def} {Ds : List Deferred} (h : DefsR ρ w lo hi ds Ds) (hle : hi ≤ hi') : DefsR ρ w lo hi' ds Ds := by
  induction h generalizing hi' with
  | nil => exact .nil _
  | call h t ih => exact .call h (ih hle)
  | mark h1 h2 h3 h4 t ih => exact .mark h1 (by omega) h3 h4 t

theorem DefCallR.mono {ρ' : Env} (hle : ρ.le ρ') {d : Def} {D : Deferred} (h : DefCallR ρ d D) : DefCallR ρ' d D := by
  obtain ⟨g, l, c, h1, h2, h3⟩ := h
  exact ⟨g, l, c, h1, h2, h3.mono hle⟩

theorem Fr.out {n : Nat} {s s' : St} {ρ' : Env} {w' : World} (hf : Fr n s s' ρ ρ' w w') {r : Nat} (hr : r < w.heap.size) (h : ∀ k L, ρ k = some L → L.block ≠ r) : ∀ k L, ρ' k = some L → L.block ≠ r := by
  intro k L hk e
  cases h0 : ρ k with
  | some L0 =>
    have := hf.le k L0 h0
    rw [hk] at this; injection this with this; subst this
    exact h k L h0 e
  | none =>
    rcases hf.new k L hk h0 with h1 | ⟨k0, L0, h1, h2⟩
    · omega
    · exact h k0 L0 h1 (by omega)

theorem DefsR.mono {n lo hi : Nat} {s s' : St} {ρ' : Env} {w' : World} (hf : Fr n s s' ρ ρ' w w') {ds : List Def} {Ds : List Deferred} (h : DefsR ρ w lo hi ds Ds) (hle : hi ≤ w.heap.size) : DefsR ρ' w' lo hi ds Ds := by
  induction h with
  | nil => exact .nil _
  | call h t ih => exact .call (h.mono hf.le) (ih hle)
  | mark h1 h2 h3 h4 t ih => exact .mark h1 h2 (by rw [hf.keep _ (by omega) h4]; exact h3) (hf.out (by omega) h4) (ih (by omega))

structure ActR (ρ : Env) (w : World) (lo : Nat) (a : ActD) (ar : Act) : Prop where
  size : ar.tmps.size = a.nt
  regs : RegsR ρ a.regs ar.tmps
  defs : DefsR ρ w lo w.heap.size a.defers ar.defers

theorem ActR.mono {n lo : Nat} {s s' : St} {ρ' : Env} {w' : World} (hf : Fr n s s' ρ ρ' w w') {a : ActD} {ar : Act} (h : ActR ρ w lo a ar) : ActR ρ' w' lo a ar :=
  ⟨h.size, h.regs.mono hf.le, (h.defs.mono hf (Nat.le_refl _)).high hf.size⟩

theorem ActR.put {lo : Nat} {a a' : ActD} {ar : Act} (h : ActR ρ w lo a ar) {dst : Option Tmp} {v v' : Value} (hp : a.put dst v = some a') (hv : VR ρ v v') : ActR ρ w lo a' (ar.put dst v') := by
  cases dst with
  | none => simp only [ActD.put] at hp; injection hp with hp; subst hp; exact h
  | some d =>
    simp only [ActD.put] at hp
    cases hd : Nat.blt d a.nt with
    | false => rw [hd] at hp; cases hp
    | true =>
      rw [hd] at hp; simp only [cond_true] at hp; injection hp with hp; subst hp
      have hd' : d < a.nt := Nat.le_of_ble_eq_true hd
      exact ⟨by simp [Act.put, h.size], h.regs.set (by rw [h.size]; exact hd') hv, h.defs⟩

theorem wanted_sound {opsA : Array Oper} {ops : List Oper} (ho : opsA.toList = ops) {a : ActD} {tmps : Array Value} (hr : RegsR ρ a.regs tmps) {o : Oper} {b : Bool} (h : wantedD ops a o = some b) :
    Region.wanted o (yielded opsA tmps) = b := by
  subst ho
  unfold wantedD at h
  unfold Region.wanted
  split at h
  · rename_i hg; rw [hg]; injection h
  · rename_i j want hg
    rw [hg]; simp only
    unfold yielded
    split at h
    · rename_i oj hj
      have hj' : opsA[j]? = some oj := by rw [← Array.getElem?_toList]; exact hj
      split at h
      · rename_i t ht
        have e : ((opsA[j]?).bind (·.dst)).bind (tmps[·]?) = tmps[t]? := by rw [hj']; simp [ht]
        rw [e]
        split at h
        · rename_i x hx
          obtain ⟨v', h1, h2⟩ := hr t _ hx
          cases h2
          rw [h1]
          simp only [Option.some.injEq] at h
          rw [← h]
          cases x <;> cases want <;> rfl
        · rename_i v hne hx
          obtain ⟨v', h1, h2⟩ := hr t _ hx
          simp only [Option.some.injEq] at h
          rw [← h, h1]
          cases v' <;> first | rfl | skip
          cases h2
          exact (hne _ rfl).elim
        · cases h
      · rename_i ht
        injection h with h; subst h
        have e : ((opsA[j]?).bind (·.dst)).bind (tmps[·]?) = none := by rw [hj']; simp [ht]
        rw [e]; rfl
    · rename_i hj
      injection h with h; subst h
      have hj' : opsA[j]? = none := by rw [← Array.getElem?_toList]; exact hj
      have e : ((opsA[j]?).bind (·.dst)).bind (tmps[·]?) = none := by rw [hj']; rfl
      rw [e]; rfl

/-! ### Steps -/
section steps
variable {b : Frame} {ar : Act} {k : List Item} {cs : List Frame} {ops : Array Oper} {i : Nat} {rest : List Nat} {o : Oper}

theorem finish_op (ho : ops[i]? = some o) (v : Value) : (b.atR ar (.inRegion ops (i :: rest) :: k)).finish v = b.atR (ar.put o.dst v) (.inRegion ops rest :: k) := by
  rw [Frame.finish_atR, ho]; rfl

theorem step_value (ho : ops[i]? = some o) (hw : Region.wanted o (yielded ops ar.tmps) = true) (hnd : ∀ c, o.op ≠ .defer c) {v : Value} {w' : World} (hr : (execOp ar.eval o).run P w = .ok (.value v) w') :
    step P (lone (b.atR ar (.inRegion ops (i :: rest) :: k)) cs w) = .next (lone (b.atR (ar.put o.dst v) (.inRegion ops rest :: k)) cs w') := by
  rw [← finish_op ho]
  exact step_lone_go (by rw [stepGR_op ho hw, Oper.semAt_eq _ _ _ hnd]; simp [stepG.apply, hr])

theorem step_skip (ho : ops[i]? = some o) (hw : Region.wanted o (yielded ops ar.tmps) = true) (hnd : ∀ c, o.op ≠ .defer c) {w' : World} (hr : (execOp ar.eval o).run P w = .ok .skip w') :
    step P (lone (b.atR ar (.inRegion ops (i :: rest) :: k)) cs w) = .next (lone (b.atR (ar.put o.dst undef) (.inRegion ops rest :: k)) cs w') := by
  rw [← finish_op ho]
  exact step_lone_go (by rw [stepGR_op ho hw, Oper.semAt_eq _ _ _ hnd]; simp [stepG.apply, hr])

theorem step_panic (ho : ops[i]? = some o) (hw : Region.wanted o (yielded ops ar.tmps) = true) (hnd : ∀ c, o.op ≠ .defer c) {v : Value} {w' : World} (hr : (execOp ar.eval o).run P w = .halt (.panic v) w') :
    step P (lone (b.atR ar (.inRegion ops (i :: rest) :: k)) cs w) = .next (lone { b.atR ar (.inRegion ops (i :: rest) :: k) with mode := .panicking [{ v, recovered := false }] } cs w') := by
  rw [← Frame.raise_atR]
  exact step_lone_go (by rw [stepGR_op ho hw, Oper.semAt_eq _ _ _ hnd]; simp [stepG.apply, hr])

theorem step_defer (ho : ops[i]? = some o) (hw : Region.wanted o (yielded ops ar.tmps) = true) (hb : b.roundOf = none) {d : Deferred} {w' : World} (hr : (execOp ar.eval o).run P w = .ok (.defer d) w') :
    step P (lone (b.atR ar (.inRegion ops (i :: rest) :: k)) cs w) = .next (lone (b.atR ({ ar with defers := d :: ar.defers }.put o.dst undef) (.inRegion ops rest :: k)) cs w') := by
  have e : ({ b.atR ar (.inRegion ops (i :: rest) :: k) with defers := d :: ar.defers } : Frame).finish undef = b.atR ({ ar with defers := d :: ar.defers }.put o.dst undef) (.inRegion ops rest :: k) := by
    have := finish_op (b := b) (ar := { ar with defers := d :: ar.defers }) (rest := rest) (k := k) ho undef
    exact this
  refine step_lone_go ?_
  rw [stepGR_op ho hw, hb, Oper.semAt_none]
  simp only [stepG.apply, Sem.runT_eq, hr, GStep.bare_after]
  exact congrArg (fun fr => GStep.go { frame := fr, callers := cs, status := .running, dying := none } w') e

/-- A frame that a call lays. -/
inductive Entry (P : Program) : Next → Frame → Prop
  | enter (f : FuncId) (args : Array Value) : Entry P (.enter f args) (Frame.enter P f args .normal)
  | round (l : Nat) (f : FuncId) (tmps : Array Value) (assign body : Code) : Entry P (.round l f tmps assign body) (Frame.round l f tmps assign body .normal)

theorem step_enter (ho : ops[i]? = some o) (hw : Region.wanted o (yielded ops ar.tmps) = true) (hnd : ∀ c, o.op ≠ .defer c) {nx : Next} {fr : Frame} (he : Entry P nx fr) {w' : World} (hr : (execOp ar.eval o).run P w = .ok nx w') :
    step P (lone (b.atR ar (.inRegion ops (i :: rest) :: k)) cs w) = .next (lone fr (b.atR ar (.inRegion ops (i :: rest) :: k) :: cs) w') := by
  refine step_lone_go ?_
  rw [stepGR_op ho hw, Oper.semAt_eq _ _ _ hnd]
  cases he <;> simp [stepG.apply, hr, Frame.atR]
end steps

/-! ### What calls are to do -/
def EndR (P : Program) (ρ' : Env) (w w' : World) (m : Sem Next) (c : Frame) (cs : List Frame) : EndD → Prop
  | .ret v => ∃ v', VR ρ' v v' ∧ (m.run P w = .ok (.value v') w' ∨ ∃ nx fr w1, m.run P w = .ok nx w1 ∧ Entry P nx fr ∧ Steps P (lone fr (c :: cs) w1) (lone (c.finish v') cs w'))
  | .panic v => ∃ v', VR ρ' v v' ∧ ∃ nx fr w1, m.run P w = .ok nx w1 ∧ Entry P nx fr ∧ Steps P (lone fr (c :: cs) w1) (lone (c.raise [{ v := v', recovered := false }]) cs w')

def TargetR (ρ : Env) (t : TargetD) (tgt : Target) (args : Array Value) : Prop :=
  match t with
  | .fn g l => ∃ captured, tgt = .fn (.func g) captured ∧ VRL ρ l (args ++ captured).toList
  | .yield k l => ∃ L, ρ k = some L ∧ tgt = .fn (.yield L.block) #[] ∧ VRL ρ l args.toList

def CallS (P : Program) (call : TargetD → St → Option (EndD × St)) : Prop :=
  ∀ t s e s', call t s = some (e, s') → ∀ ρ w tgt args, Rel ρ s w → TargetR ρ t tgt args → ∀ c cs,
    ∃ ρ' w', Fr s.next s s' ρ ρ' w w' ∧ Rel ρ' s' w' ∧ s.next ≤ s'.next ∧ EndR P ρ' w w' (invoke tgt args) c cs e
end Go.Hg
