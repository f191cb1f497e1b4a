/- Leaving a function: results, deferred calls. -/
import Derived.Test.YthlkmfeelhbhjaaGreatDoorHgSh
set_option linter.unusedVariables false
set_option linter.unusedSimpArgs false
namespace Go.Hg
variable {P : Program}

section
variable {ρ : Env} {s : St} {w : World}

def resF (tmps : Array Value) : ResultVar → Sem Value
  | .tmp t => pure (tmps.getD t undef)
  | .cell a t => do loadVar t (← asAddr (tmps.getD a undef))

theorem results_eq (fn : Func) (tmps : Array Value) : results fn tmps = (do let vs ← fn.results.mapM (resF tmps); pure (if h : vs.size = 1 then vs[0] else .tuple vs)) := rfl

theorem result_sound (hs : Rel ρ s w) {a : ActD} {tmps : Array Value} (hr : RegsR ρ a.regs tmps) {r : ResultVar} {v : Value} (h : resultD P a s r = some v) :
    ∃ v', (resF tmps r).run P w = .ok v' w ∧ VR ρ v v' := by
  cases r with
  | tmp t =>
    simp only [resultD] at h
    obtain ⟨v', h1, h2⟩ := hr t v h
    exact ⟨v', by simp [resF, Array.getD_eq_getD_getElem?, h1], h2⟩
  | cell t ty =>
    simp only [resultD] at h
    split at h
    · rename_i p hp
      obtain ⟨p', h1, h2⟩ := hr t p hp
      obtain ⟨v', h3, h4⟩ := load_sound (P := P) hs h2 h
      refine ⟨v', ?_, h4⟩
      have e : tmps.getD t undef = p' := by simp [Array.getD_eq_getD_getElem?, h1]
      simp only [resF, e]
      unfold loadD at h
      split at h
      · cases h2
        simp only [Instr.loadAt, Instr.sureAddr, asAddr] at h3 ⊢
        exact h3
      · cases h
    · cases h

theorem resultsL_sound (hs : Rel ρ s w) {a : ActD} {tmps : Array Value} (hr : RegsR ρ a.regs tmps) : ∀ {rs : List ResultVar} {vs : List Value}, resultsL P a s rs = some vs →
    ∃ vs', VRL ρ vs vs' ∧ vs'.length = rs.length ∧ ∀ (i : Nat) r v', rs[i]? = some r → vs'[i]? = some v' → (resF tmps r).run P w = .ok v' w
  | [], vs, h => by
    simp only [resultsL] at h; injection h with h; subst h
    exact ⟨[], .nil, rfl, fun i r v' h => by simp at h⟩
  | r :: rs, vs, h => by
    simp only [resultsL] at h
    split at h
    · rename_i v hv
      split at h
      · rename_i vs1 hvs
        injection h with h; subst h
        obtain ⟨v', h1, h2⟩ := result_sound (P := P) hs hr hv
        obtain ⟨vs', h3, h4, h5⟩ := resultsL_sound hs hr hvs
        refine ⟨v' :: vs', .cons h2 h3, by simp [h4], fun i r0 x h6 h7 => ?_⟩
        cases i with
        | zero => simp at h6 h7; subst h6; subst h7; exact h1
        | succ i => exact h5 i r0 x (by simpa using h6) (by simpa using h7)
      · cases h
    · cases h

theorem results_sound (hs : Rel ρ s w) {fn : Func} {a : ActD} {tmps : Array Value} (hr : RegsR ρ a.regs tmps) {v : Value} (h : resultsD P fn a s = some v) :
    ∃ v', (results fn tmps).run P w = .ok v' w ∧ VR ρ v v' := by
  unfold resultsD at h
  rw [results_eq]
  split at h
  · rename_i v0 hv
    injection h with h; subst h
    obtain ⟨vs', h1, h2, h3⟩ := resultsL_sound (P := P) hs hr hv
    obtain ⟨v', m, rfl, h4, h5⟩ := h1.cases_cons
    have := h5.cases_nil; subst this
    refine ⟨v', ?_, h4⟩
    simp only [Sem.run_bind, run_amapM _ fn.results [v'] (by simpa using h2) (fun i x y p q => h3 i x y (by simpa using p) q), Result.andThen_ok, Sem.run_pure]
    simp
  · rename_i vs hne hv
    injection h with h; subst h
    obtain ⟨vs', h1, h2, h3⟩ := resultsL_sound (P := P) hs hr hv
    refine ⟨.tuple ⟨vs'⟩, ?_, .tuple' h1⟩
    have hl : vs'.toArray.size ≠ 1 := by
      intro e
      have e' : vs.length = 1 := by rw [h1.1]; simpa using e
      obtain ⟨x, hx⟩ := List.length_eq_one_iff.1 e'
      exact hne x hx
    simp only [Sem.run_bind, run_amapM _ fn.results vs' (by simpa using h2) (fun i x y p q => h3 i x y (by simpa using p) q), Result.andThen_ok, Sem.run_pure]
    rw [dif_neg hl]
  · cases h

/-- A world that holds other things where no name leads. -/
theorem Rel.off (hs : Rel ρ s w) {w' : World} (hsz : w'.heap.size = w.heap.size) (hw : ∀ k L, ρ k = some L → w'.heap[L.block]? = w.heap[L.block]?) : Rel ρ s w' where
  dom := hs.dom
  obj k o hk := let ⟨L, a, b⟩ := hs.obj k o hk; ⟨L, a, b.congr (hw _ _ a)⟩
  inj := hs.inj
  iter := by
    intro k m st seen hk
    obtain ⟨st0, es0, h1, h2, h3⟩ := hs.iter k m st seen hk
    refine ⟨st0, es0, h1, h2, fun h4 h5 L Lm hL hm => ?_⟩
    rw [hw _ _ hL, hw _ _ hm]; exact h3 h4 h5 L Lm hL hm
  wf k L hk := by rw [hsz]; exact hs.wf k L hk

theorem Fr.mark {n : Nat} {ρ0 : Env} {w0 : World} {s0 : St} (hf : Fr n s0 s ρ0 ρ w0 w) {r : Nat} (hr : w0.heap.size ≤ r) (o : Go.Obj) : Fr n s0 s ρ0 ρ w0 (wput w r o) where
  le := hf.le
  fresh := hf.fresh
  size := by rw [wput_size]; exact hf.size
  keepL b hb hno := by rw [wput_other _ (by omega)]; exact hf.keepL b hb hno
  live := hf.live
  new := hf.new
  os := hf.os
  output := hf.output
  tape := hf.tape

theorem run_take {r : Nat} (h : w.heap[r]? = some (.deferred (some []))) : (Instr.takeDeferred r).run P w = .ok [] (wput w r (.deferred none)) := by
  simp [Instr.takeDeferred, getObj, setObj, Sem.run, h, wput]

inductive ModeR (ρ : Env) : ModeD → FrameMode → Prop
  | returning : ModeR ρ .returning .returning
  | panicking {v v' : Value} (h : VR ρ v v') : ModeR ρ (.panicking v) (.panicking [{ v := v', recovered := false }])
  | recovered {v v' : Value} (h : VR ρ v v') : ModeR ρ (.recovered v) (.panicking [{ v := v', recovered := true }])

theorem ModeR.mono {ρ' : Env} (hle : ρ.le ρ') {u : ModeD} {md : FrameMode} (h : ModeR ρ u md) : ModeR ρ' u md := by
  cases h with
  | returning => exact .returning
  | panicking h => exact .panicking (h.mono hle)
  | recovered h => exact .recovered (h.mono hle)

theorem DefsR.put {lo hi r : Nat} {ds : List Def} {Ds : List Deferred} (o : Go.Obj) (h : DefsR ρ w lo hi ds Ds) (hr : hi ≤ r) : DefsR ρ (wput w r o) lo hi ds Ds := by
  induction h with
  | nil => exact .nil _
  | call h t ih => exact .call h (ih hr)
  | mark h1 h2 h3 h4 t ih => exact .mark h1 h2 (by rw [wput_other _ (by omega)]; exact h3) h4 (ih (by omega))

/-! ### Deferred functions -/
/-- What a part of a deferred function does; the frame that deferred it waits below. -/
def RunsS (P : Program) (m : Machine) (ρ : Env) (s : St) (w : World) (lo : Nat) (b : Frame) (k : List Item) (base : Frame) (cs : List Frame) (x : ExitD) (a' : ActD) (u' : ModeD) (s' : St) : Prop :=
  ∃ ρ' w' ar' md', Fr s.next s s' ρ ρ' w w' ∧ Rel ρ' s' w' ∧ ActR ρ' w' lo a' ar' ∧ s.next ≤ s'.next ∧ ModeR ρ' u' md' ∧ Reach P ρ' m b k ({ base with mode := md' } :: cs) ar' w' x

theorem RunsS.of_steps {m m1 : Machine} {lo : Nat} {b : Frame} {k : List Item} {base : Frame} {cs : List Frame} {x : ExitD} {a' : ActD} {u' : ModeD} {s1 s' : St} {ρ1 : Env} {w1 : World} (h : Steps P m m1) (hf : Fr s.next s s1 ρ ρ1 w w1) (hn : s.next ≤ s1.next)
    (hr : RunsS P m1 ρ1 s1 w1 lo b k base cs x a' u' s') : RunsS P m ρ s w lo b k base cs x a' u' s' := by
  obtain ⟨ρ', w', ar', md', h1, h2, h3, h4, h5, h6⟩ := hr
  exact ⟨ρ', w', ar', md', hf.trans h1 hn, h2, h3, by omega, h5, h6.of_steps h⟩

theorem RunsS.cut {m : Machine} {lo : Nat} {b : Frame} {k k' : List Item} {base : Frame} {cs : List Frame} {x : ExitD} {a' : ActD} {u' : ModeD} {s' : St} (h : RunsS P m ρ s w lo b k' base cs x a' u' s') (hx : x ≠ .normal)
    (he : ∀ id, x = .exit id → exitTo id k' = exitTo id k) (hg : ∀ l, x = .goto l → gotoIn l k' = gotoIn l k) : RunsS P m ρ s w lo b k base cs x a' u' s' := by
  obtain ⟨ρ', w', ar', md', h1, h2, h3, h4, h5, h6⟩ := h
  exact ⟨ρ', w', ar', md', h1, h2, h3, h4, h5, h6.cut hx he hg⟩

theorem is_recover {op : Op} (h : isRecover op = true) : ∃ args ts, op = .call ⟨.builtin .recover, args, ts⟩ := by
  unfold isRecover at h
  split at h
  · exact ⟨_, _, rfl⟩
  · cases h

section rec
variable {b : Frame} {ar : Act} {k : List Item} {cs : List Frame} {ops : Array Oper} {i : Nat} {rest : List Nat} {o : Oper} {base : Frame}

theorem step_recover (ho : ops[i]? = some o) (hw : Region.wanted o (yielded ops ar.tmps) = true) (hop : isRecover o.op = true) (hb : b.roundOf = none) (hk : b.kind = .deferred) {v : Value} :
    step P (lone (b.atR ar (.inRegion ops (i :: rest) :: k)) ({ base with mode := .panicking [{ v, recovered := false }] } :: cs) w) =
      .next (lone (b.atR (ar.put o.dst v) (.inRegion ops rest :: k)) ({ base with mode := .panicking [{ v, recovered := true }] } :: cs) w) := by
  obtain ⟨args, ts, hop⟩ := is_recover hop
  have hr : (execOp ar.eval o).run P w = .ok .recover w := by unfold execOp; rw [hop]; rfl
  rw [← finish_op ho]
  refine step_lone_go ?_
  rw [stepGR_op ho hw, Oper.semAt_eq _ _ _ (fun c e => by rw [hop] at e; cases e)]
  simp [stepG.apply, hr, Frame.atR, hb, tryRecover, hk]

theorem step_recover_nil (ho : ops[i]? = some o) (hw : Region.wanted o (yielded ops ar.tmps) = true) (hop : isRecover o.op = true) (hb : b.roundOf = none) (hk : b.kind = .deferred)
    (hm : base.mode = .returning ∨ ∃ v, base.mode = .panicking [{ v, recovered := true }]) :
    step P (lone (b.atR ar (.inRegion ops (i :: rest) :: k)) (base :: cs) w) = .next (lone (b.atR (ar.put o.dst .nilIface) (.inRegion ops rest :: k)) (base :: cs) w) := by
  obtain ⟨args, ts, hop⟩ := is_recover hop
  have hr : (execOp ar.eval o).run P w = .ok .recover w := by unfold execOp; rw [hop]; rfl
  rw [← finish_op ho]
  refine step_lone_go ?_
  rw [stepGR_op ho hw, Oper.semAt_eq _ _ _ (fun c e => by rw [hop] at e; cases e)]
  rcases hm with hm | ⟨v, hm⟩ <;> simp [stepG.apply, hr, Frame.atR, hb, tryRecover, hk, hm]
end rec

theorem opsS_sound {call : TargetD → St → Option (EndD × St)} (hc : CallS P call) {ops : Array Oper} {x : ExitD} {a' : ActD} {u' : ModeD} {s' : St} {b : Frame} {k : List Item} {base : Frame} {cs : List Frame} {lo : Nat} (hb : b.roundOf = none) (hk : b.kind = .deferred) :
    ∀ (l : List Oper) (n : Nat) (a : ActD) (u : ModeD) (ar : Act) (md : FrameMode) (ρ : Env) (s : St) (w : World), ops.toList.drop n = l → opsS P call ops.toList l a u s = some (x, a', u', s') → Rel ρ s w → ActR ρ w lo a ar → lo ≤ w.heap.size → ModeR ρ u md →
      RunsS P (lone (b.atR ar (.inRegion ops ((List.range ops.size).drop n) :: k)) ({ base with mode := md } :: cs) w) ρ s w lo b k base cs x a' u' s'
  | [], n, a, u, ar, md, ρ, s, w, hl, h, hs, ha, hlo, hm => by
    simp only [opsS] at h
    simp only [Option.some.injEq, Prod.mk.injEq] at h
    obtain ⟨rfl, rfl, rfl, rfl⟩ := h
    have hn : ops.size ≤ n := by simpa using hl
    have : (List.range ops.size).drop n = [] := by simp [hn]
    rw [this]
    exact ⟨ρ, w, ar, md, .refl _ _ _ _, hs, ha, Nat.le_refl _, hm, .one stepR_region_end⟩
  | o :: l, n, a, u, ar, md, ρ, s, w, hl, h, hs, ha, hlo, hm => by
    have hn : n < ops.size := by
      have := congrArg List.length hl
      simp at this
      omega
    have ho : ops[n]? = some o := by
      rw [← Array.getElem?_toList]
      have := congrArg (·[0]?) hl
      simpa using this
    have hl' : ops.toList.drop (n + 1) = l := by rw [← List.drop_drop, hl]; rfl
    have hdr : (List.range ops.size).drop n = n :: (List.range ops.size).drop (n + 1) := by
      rw [List.drop_eq_getElem_cons (by simpa using hn)]; simp
    rw [hdr]
    simp only [opsS] at h
    split at h
    · rename_i hwd
      have hw := wanted_sound (opsA := ops) rfl ha.regs hwd
      cases hrec : isRecover o.op with
      | true =>
        rw [hrec] at h; simp only [cond_true] at h
        split at h
        · rename_i v
          split at h
          · rename_i a1 hput
            cases hm with
            | panicking hv =>
              have ha1 := ha.put hput hv
              exact RunsS.of_steps (.one (step_recover ho hw hrec hb hk)) (.refl _ _ _ _) (Nat.le_refl _) (opsS_sound hc hb hk l (n + 1) a1 _ _ _ ρ s w hl' h hs ha1 hlo (.recovered hv))
          · cases h
        · rename_i hne
          split at h
          · rename_i a1 hput
            have ha1 := ha.put hput .nilIface
            have hst := step_recover_nil (P := P) (w := w) (k := k) (cs := cs) (rest := (List.range ops.size).drop (n + 1)) (base := { base with mode := md }) ho hw hrec hb hk (by
              cases hm with
              | returning => exact .inl rfl
              | panicking h => exact (hne _ rfl).elim
              | recovered h => exact .inr ⟨_, rfl⟩)
            exact RunsS.of_steps (.one hst) (.refl _ _ _ _) (Nat.le_refl _) (opsS_sound hc hb hk l (n + 1) a1 _ _ _ ρ s w hl' h hs ha1 hlo hm)
          · cases h
      | false =>
        rw [hrec] at h; simp only [cond_false] at h
        have hb' : b.roundOf.isSome = false := by rw [hb]; rfl
        split at h
        · rename_i v s1 hop
          obtain ⟨ρ1, w1, v', h1, h2, h3, h4, h5⟩ := oper_sound (k := k) (cs := { base with mode := md } :: cs) (rest := (List.range ops.size).drop (n + 1)) hc hs ha.regs ho hw hb' hop
          split at h
          · rename_i a1 hput
            have ha1 := (ha.mono h1).put hput h3
            exact RunsS.of_steps h5 h1 h4 (opsS_sound hc hb hk l (n + 1) a1 _ _ _ ρ1 s1 w1 hl' h h2 ha1 (Nat.le_trans hlo h1.size) (hm.mono h1.le))
          · cases h
        · cases h
        · rename_i v s1 hop
          simp only [Option.some.injEq, Prod.mk.injEq] at h
          obtain ⟨rfl, rfl, rfl, rfl⟩ := h
          obtain ⟨ρ1, w1, v', h1, h2, h3, h4, h5⟩ := oper_sound (k := k) (cs := { base with mode := md } :: cs) (rest := (List.range ops.size).drop (n + 1)) hc hs ha.regs ho hw hb' hop
          exact ⟨ρ1, w1, ar, md, h1, h2, ha.mono h1, h4, hm.mono h1.le, _, v', h3, h5⟩
        · cases h
    · rename_i hwd
      have hw := wanted_sound (opsA := ops) rfl ha.regs hwd
      split at h
      · rename_i a1 hput
        have ha1 := ha.put hput undef_rel
        have hst := stepR_op_skip (P := P) (b := b) (a := ar) (k := k) (cs := { base with mode := md } :: cs) (w := w) (ops := ops) (i := n) (rest := (List.range ops.size).drop (n + 1)) (by rw [ho]; simpa using hw)
        have e : (ops[n]?).bind (·.dst) = o.dst := by rw [ho]; rfl
        rw [e] at hst
        exact RunsS.of_steps (.one hst) (.refl _ _ _ _) (Nat.le_refl _) (opsS_sound hc hb hk l (n + 1) a1 _ _ _ ρ s w hl' h hs ha1 hlo hm)
      · cases h
    · cases h
end
end Go.Hg
