/- Deferred functions, and what a function does on leaving. -/
import Derived.Test.YthlkmfeelhbhjaaGreatDoorHgSi
set_option linter.unusedVariables false
set_option linter.unusedSimpArgs false
namespace Go.Hg
variable {P : Program}

section
variable {ρ : Env} {s : St} {w : World}

theorem Runs.toS {m : Machine} {lo : Nat} {b : Frame} {k : List Item} {base : Frame} {cs : List Frame} {md : FrameMode} {x : ExitD} {a' : ActD} {u : ModeD} {s' : St} (h : Runs P m ρ s w lo b k ({ base with mode := md } :: cs) x a' s') (hm : ModeR ρ u md) :
    RunsS P m ρ s w lo b k base cs x a' u s' := by
  obtain ⟨ρ', w', ar', h1, h2, h3, h4, h5⟩ := h
  exact ⟨ρ', w', ar', md, h1, h2, h3, h4, hm.mono h1.le, h5⟩

theorem execS_sound {ex : Bool → Code → ActD → St → Option (ExitD × ActD × St)} {call : TargetD → St → Option (EndD × St)} (he : ExS P ex) (hc : CallS P call) {b : Frame} {base : Frame} {cs : List Frame} {lo : Nat} (hb : b.roundOf = none) (hk : b.kind = .deferred) :
    ∀ (c : Code) (x : ExitD) (a a' : ActD) (u u' : ModeD) (s s' : St) (ar : Act) (md : FrameMode) (ρ : Env) (w : World) (k : List Item), execS P ex call c a u s = some (x, a', u', s') → Rel ρ s w → ActR ρ w lo a ar → lo ≤ w.heap.size → ModeR ρ u md →
      RunsS P (lone (b.atR ar (.code c :: k)) ({ base with mode := md } :: cs) w) ρ s w lo b k base cs x a' u' s' := by
  have hb' : b.roundOf.isSome = false := by rw [hb]; rfl
  intro c
  have other : ∀ (c : Code) (x : ExitD) (a a' : ActD) (u u' : ModeD) (s s' : St) (ar : Act) (md : FrameMode) (ρ : Env) (w : World) (k : List Item), (match ex false c a s with
      | some (x, a', s') => some (x, a', u, s')
      | none => none) = some (x, a', u', s') → Rel ρ s w → ActR ρ w lo a ar → lo ≤ w.heap.size → ModeR ρ u md →
      RunsS P (lone (b.atR ar (.code c :: k)) ({ base with mode := md } :: cs) w) ρ s w lo b k base cs x a' u' s' := by
    intro c x a a' u u' s s' ar md ρ w k h hs ha hlo hm
    split at h
    · rename_i x1 a1 s1 hex
      simp only [Option.some.injEq, Prod.mk.injEq] at h
      obtain ⟨rfl, rfl, rfl, rfl⟩ := h
      exact (he _ _ _ _ _ _ _ hex _ ρ w lo b ar k ({ base with mode := md } :: cs) (.code c) hb' hs ha hlo).toS hm
    · cases h
  induction c with
  | seq c1 c2 ih1 ih2 =>
    intro x a a' u u' s s' ar md ρ w k h hs ha hlo hm
    simp only [execS] at h
    split at h
    · rename_i a1 u1 s1 hex
      obtain ⟨ρ1, w1, ar1, md1, h1, h2, h3, h4, h5, h6⟩ := ih1 _ _ _ _ _ _ _ ar md ρ w (.code c2 :: k) hex hs ha hlo hm
      exact RunsS.of_steps (.head stepR_seq h6) h1 h4 (ih2 _ _ _ _ _ _ _ ar1 md1 ρ1 w1 k h h2 h3 (Nat.le_trans hlo h1.size) h5)
    · rename_i hnn
      have hr := ih1 _ _ _ _ _ _ _ ar md ρ w (.code c2 :: k) h hs ha hlo hm
      refine RunsS.of_steps (.one stepR_seq) (.refl _ _ _ _) (Nat.le_refl _) (hr.cut (fun e => ?_) (fun _ _ => rfl) (fun _ _ => rfl))
      subst e
      exact hnn a' u' s' h
  | cond cc c1 c2 ih1 ih2 =>
    intro x a a' u u' s s' ar md ρ w k h hs ha hlo hm
    simp only [execS] at h
    split at h
    · rename_i hcv
      have hv := eval_sound ha.regs hcv
      generalize hg : ar.eval cc = cv at hv
      cases hv
      exact RunsS.of_steps (.one (stepR_cond hg)) (.refl _ _ _ _) (Nat.le_refl _) (ih1 _ _ _ _ _ _ _ ar md ρ w k h hs ha hlo hm)
    · rename_i hcv
      have hv := eval_sound ha.regs hcv
      generalize hg : ar.eval cc = cv at hv
      cases hv
      exact RunsS.of_steps (.one (stepR_cond hg)) (.refl _ _ _ _) (Nat.le_refl _) (ih2 _ _ _ _ _ _ _ ar md ρ w k h hs ha hlo hm)
    · cases h
  | region id ops draw =>
    cases draw with
    | true => intro x a a' u u' s s' ar md ρ w k h; simp only [execS] at h; exact other _ _ _ _ _ _ _ _ _ _ _ _ _ h
    | false =>
      intro x a a' u u' s s' ar md ρ w k h hs ha hlo hm
      simp only [execS] at h
      exact RunsS.of_steps (.one stepR_region) (.refl _ _ _ _) (Nat.le_refl _) (opsS_sound hc hb hk ops.toList 0 a u ar md ρ s w rfl h hs ha hlo hm)
  | _ => intro x a a' u u' s s' ar md ρ w k h; simp only [execS] at h; exact other _ _ _ _ _ _ _ _ _ _ _ _ _ h

/-- No bodied function bears the one name that the machine treats apart. -/
def Named (P : Program) : Prop := ∀ (f : Nat) (fn : Func), P.funcs[f]? = some fn → fn.body.isSome = true → fn.name ≠ "runtime.NumGoroutine"

theorem run_callFunc (hN : Named P) {f : FuncId} {fn : Func} {c : Code} (hf : P.funcs[f]? = some fn) (hb : fn.body = some c) (args : Array Value) : (callFunc f args).run P w = .ok (.enter f args) w := by
  have hn := hN f fn hf (by rw [hb]; rfl)
  simp [callFunc, hf, hb, hn]

noncomputable def actOf (fn : Func) (args : List Value) : ActD := ⟨Tr.ofList args, Nat.max fn.ntmps args.length, []⟩
def tmpsOf' (fn : Func) (args : Array Value) : Array Value := args ++ Array.replicate (fn.ntmps - args.size) undef

theorem act_start {fn : Func} {args : List Value} {args' : Array Value} (h : VRL ρ args args'.toList) (lo : Nat) : ActR ρ w lo (actOf fn args) { tmps := tmpsOf' fn args', defers := [] } := by
  have hl : args.length = args'.size := by simpa using h.1
  refine ⟨?_, fun t v ht => ?_, .nil _⟩
  · simp only [tmpsOf', actOf, Array.size_append, Array.size_replicate, hl]
    show _ = max _ _
    omega
  · rw [actOf, Tr.get_ofList] at ht
    obtain ⟨v', h1, h2⟩ := h.get ht
    refine ⟨v', ?_, h2⟩
    have hlt := (List.getElem?_eq_some_iff.1 ht).1
    simp only [tmpsOf']
    rw [Array.getElem?_append_left (by omega)]
    simpa using h1

theorem enter_eq {f : FuncId} {fn : Func} {c : Code} (hf : P.funcs[f]? = some fn) (hb : fn.body = some c) (args : Array Value) (kind : CallKind) :
    Frame.enter P f args kind = ({ (default : Frame) with fn := f, kind := kind }).atR { tmps := tmpsOf' fn args, defers := [] } [.code c] := by
  simp [Frame.enter, Frame.atR, hf, hb, tmpsOf']
  rfl

theorem step_unwind_mark {fr : Frame} {cs : List Frame} {r : Nat} {args : Array Value} {Ds : List Deferred} (hm : fr.mode ≠ .run) (hd : fr.defers = { target := .collected r, args } :: Ds) (hr : w.heap[r]? = some (.deferred (some []))) :
    step P (lone fr cs w) = .next (lone { fr with defers := Ds } cs (wput w r (.deferred none))) := by
  refine step_lone_go ?_
  have hrt := run_take (P := P) hr
  cases hmode : fr.mode with
  | run => exact (hm hmode).elim
  | returning => simp [stepG, hmode, unwind, hd, Sem.runT_eq, hrt]
  | panicking c => simp [stepG, hmode, unwind, hd, Sem.runT_eq, hrt]

theorem step_unwind_call (hN : Named P) {fr : Frame} {cs : List Frame} {g : FuncId} {captured : Array Value} {D : Deferred} {Ds : List Deferred} {fn : Func} {c : Code} (hm : fr.mode ≠ .run) (hd : fr.defers = D :: Ds) (hD : D.target = .fn (.func g) captured)
    (hf : P.funcs[g]? = some fn) (hb : fn.body = some c) :
    step P (lone fr cs w) = .next (lone (Frame.enter P g (D.args ++ captured) .deferred) ({ fr with defers := Ds } :: cs) w) := by
  obtain ⟨tgt, dargs⟩ := D
  simp only at hD; subst hD
  refine step_lone_go ?_
  have hrun := run_callFunc (w := w) hN hf hb (dargs ++ captured)
  cases hmode : fr.mode with
  | run => exact (hm hmode).elim
  | returning => simp [stepG, hmode, unwind, hd, callDeferred, invoke, Sem.runT_eq, hrun]
  | panicking c => simp [stepG, hmode, unwind, hd, callDeferred, invoke, Sem.runT_eq, hrun]

/-- What the return of a deferred function makes of the mode of the frame below. -/
def settleF (md : FrameMode) : FrameMode := match md with
  | .panicking ({ recovered := true, .. } :: older) => (match older.dropWhile (!·.goexit) with
    | [] => .returning
    | rest => .panicking rest)
  | _ => md

theorem defs_nil {lo hi : Nat} {Ds : List Deferred} (h : DefsR ρ w lo hi [] Ds) : Ds = [] := by cases h; rfl

/-- A deferred function returns: what it recovered is settled. -/
theorem step_deferred_return {b : Frame} {base : Frame} {md : FrameMode} {ar : Act} {k : List Item} {cs : List Frame} {fn : Func} {v : Value} {u : ModeD} (hk : b.kind = .deferred) (hf : P.funcs[b.fn]? = some fn) (hd : ar.defers = [])
    (hr : (results fn ar.tmps).run P w = .ok v w) (hm : ModeR ρ u md) :
    step P (lone { b.atR ar k with mode := .returning } ({ base with mode := md } :: cs) w) = .next (lone { base with mode := settleF md } cs w) := by
  refine step_lone_go ?_
  cases hm <;> simp [stepG, unwind, Frame.atR, hd, hf, hr, doReturn, hk, Sem.runT_eq, settleF]

theorem settle_mode {u : ModeD} {md : FrameMode} (hm : ModeR ρ u md) : ModeR ρ (settleD u) (settleF md) := by
  cases hm with
  | returning => exact .returning
  | panicking h => exact .panicking h
  | recovered h => exact .returning

theorem step_deferred_panic {b : Frame} {base : Frame} {ar : Act} {k : List Item} {cs : List Frame} {fn : Func} {chain : List PanicEntry} (hf : P.funcs[b.fn]? = some fn) (hd : ar.defers = []) (hm : base.mode = .returning) :
    step P (lone { b.atR ar k with mode := .panicking chain } (base :: cs) w) = .next (lone { base with mode := .panicking chain } cs w) := by
  refine step_lone_go ?_
  simp [stepG, unwind, Frame.atR, hd, Frame.catches, hf, Frame.raise, hm]

theorem deferD_sound (hN : Named P) {ex : Bool → Code → ActD → St → Option (ExitD × ActD × St)} {call : TargetD → St → Option (EndD × St)} (he : ExS P ex) (hc : CallS P call) {g : FuncId} {l : List Value} {u u' : ModeD} {s' : St}
    (h : deferD P ex call g l u s = some (u', s')) (hs : Rel ρ s w) {fr : Frame} {cs : List Frame} {captured : Array Value} {D : Deferred} {Ds : List Deferred} {md : FrameMode} (hm : ModeR ρ u md) (hmode : fr.mode = md) (hd : fr.defers = D :: Ds) (hD : D.target = .fn (.func g) captured)
    (hl : VRL ρ l (D.args.toList ++ captured.toList)) :
    ∃ ρ' w' md', Fr s.next s s' ρ ρ' w w' ∧ Rel ρ' s' w' ∧ s.next ≤ s'.next ∧ ModeR ρ' u' md' ∧ Steps P (lone fr cs w) (lone { fr with defers := Ds, mode := md' } cs w') := by
  unfold deferD at h
  split at h
  · rename_i fn hf
    split at h
    · rename_i c hb
      have hmr : fr.mode ≠ .run := by rw [hmode]; intro e; subst e; cases hm
      have hfirst := step_unwind_call (w := w) (cs := cs) hN hmr hd hD hf hb
      rw [enter_eq hf hb] at hfirst
      split at h
      · rename_i x a' u1 s1 hex
        have hl' : VRL ρ l (D.args ++ captured).toList := by simpa using hl
        have hact : ActR ρ w w.heap.size (actOf fn l) { tmps := tmpsOf' fn (D.args ++ captured), defers := [] } := act_start hl' _
        have hbase : ({ fr with defers := Ds } : Frame) = { ({ fr with defers := Ds } : Frame) with mode := md } := by rw [← hmode]
        rw [hbase] at hfirst
        obtain ⟨ρ1, w1, ar1, md1, h1, h2, h3, h4, h5, h6⟩ := execS_sound he hc (b := { (default : Frame) with fn := g, kind := .deferred }) (base := { fr with defers := Ds }) (cs := cs) rfl rfl c _ _ _ _ _ _ _ _ md ρ w [] hex hs hact (Nat.le_refl _) hm
        split at h
        · rename_i hdf
          have hd0 : ar1.defers = [] := by
            have := h3.defs
            rw [hdf] at this
            exact defs_nil this
          have hret : ∀ kk v', (results fn ar1.tmps).run P w1 = .ok v' w1 → step P (lone { ({ (default : Frame) with fn := g, kind := .deferred } : Frame).atR ar1 kk with mode := .returning } ({ ({ fr with defers := Ds } : Frame) with mode := md1 } :: cs) w1) =
              .next (lone { ({ fr with defers := Ds } : Frame) with mode := settleF md1 } cs w1) := fun kk v' hr => step_deferred_return rfl hf hd0 hr h5
          split at h
          · split at h
            · rename_i v hv
              simp only [Option.some.injEq, Prod.mk.injEq] at h
              obtain ⟨rfl, rfl⟩ := h
              obtain ⟨v', r1, _⟩ := results_sound (P := P) h2 h3.regs hv
              exact ⟨ρ1, w1, _, h1, h2, h4, settle_mode h5, .head hfirst (Steps.trans h6 (.head (stepR_end rfl) (.one (hret _ v' r1))))⟩
            · cases h
          · split at h
            · rename_i v hv
              simp only [Option.some.injEq, Prod.mk.injEq] at h
              obtain ⟨rfl, rfl⟩ := h
              obtain ⟨v', r1, _⟩ := results_sound (P := P) h2 h3.regs hv
              obtain ⟨k1, h7⟩ := h6
              exact ⟨ρ1, w1, _, h1, h2, h4, settle_mode h5, .head hfirst (Steps.trans h7 (.head (stepR_ret rfl) (.one (hret _ v' r1))))⟩
            · cases h
          · split at h
            · rename_i v
              simp only [Option.some.injEq, Prod.mk.injEq] at h
              obtain ⟨rfl, rfl⟩ := h
              obtain ⟨k1, v', h7, h8⟩ := h6
              cases h5
              exact ⟨ρ1, w1, _, h1, h2, h4, .panicking h7, .head hfirst (Steps.trans h8 (.one (step_deferred_panic hf hd0 rfl)))⟩
            · cases h
          · cases h
        · cases h
      · cases h
    · cases h
  · cases h

def valE : EndD → Value
  | .ret v => v
  | .panic v => v
def endE : EndD → Value → Ending
  | .ret _, v' => .returned v'
  | .panic _, v' => .panicked [{ v := v', recovered := false }]

/-- All that a frame does behind its code. w0: the world at its start. -/
theorem leaveD_sound (hN : Named P) {ex : Bool → Code → ActD → St → Option (ExitD × ActD × St)} {call : TargetD → St → Option (EndD × St)} (he : ExS P ex) (hc : CallS P call) {fn : Func} {a : ActD} {e : EndD} {s' : St} {n : Nat} {s0 : St} {ρ0 : Env} {w0 : World} {b : Frame} {k : List Item} {cs : List Frame}
    (hf : P.funcs[b.fn]? = some fn) (hk : b.kind = .normal) :
    ∀ (ds : List Def) (u : ModeD) (s : St) (ar : Act) (md : FrameMode) (ρ : Env) (w : World), leaveD P ex call fn a ds u s = some (e, s') → n ≤ s.next → Fr n s0 s ρ0 ρ w0 w → Rel ρ s w → RegsR ρ a.regs ar.tmps → DefsR ρ w w0.heap.size w.heap.size ds ar.defers → ModeR ρ u md →
      ∃ ρ' w' fr v', Fr n s0 s' ρ0 ρ' w0 w' ∧ Rel ρ' s' w' ∧ s.next ≤ s'.next ∧ fr.fn = b.fn ∧ VR ρ' (valE e) v' ∧ Steps P (lone { b.atR ar k with mode := md } cs w) (lone fr cs w') ∧ fr.leaving P w' (endE e v')
  | [], u, s, ar, md, ρ, w, h, hn, hfr, hs, hr, hds, hm => by
    have hd0 : ar.defers = [] := defs_nil hds
    cases hm with
    | returning =>
      simp only [leaveD] at h
      split at h
      · rename_i v hv
        simp only [Option.some.injEq, Prod.mk.injEq] at h
        obtain ⟨rfl, rfl⟩ := h
        obtain ⟨v', r1, r2⟩ := results_sound (P := P) hs hr hv
        exact ⟨ρ, w, { b.atR ar k with mode := .returning }, v', hfr, hs, Nat.le_refl _, rfl, r2, Steps.refl _ _, rfl, hd0, hk, fn, hf, r1⟩
      · cases h
    | panicking hv =>
      simp only [leaveD, Option.some.injEq, Prod.mk.injEq] at h
      obtain ⟨rfl, rfl⟩ := h
      exact ⟨ρ, w, { b.atR ar k with mode := _ }, _, hfr, hs, Nat.le_refl _, rfl, hv, Steps.refl _ _, rfl, hd0, fn, hf⟩
    | recovered hv => simp [leaveD] at h
  | .mark :: ds, u, s, ar, md, ρ, w, h, hn, hfr, hs, hr, hds, hm => by
    simp only [leaveD] at h
    have hmr : md ≠ .run := by intro e; subst e; cases hm
    generalize har : ar.defers = Ds at hds
    cases hds with
    | call h1 t => obtain ⟨_, _, _, e1, _⟩ := h1; cases e1
    | mark h1 h2 h3 h4 t =>
      rename_i r args Ds
      have hst := step_unwind_mark (P := P) (fr := { b.atR ar k with mode := md }) (cs := cs) hmr har h3
      have hfr' := hfr.mark h1 (.deferred none)
      have hs' := hs.off (w' := wput w r (.deferred none)) (wput_size _ _ _) (fun k L hk => wput_other _ (h4 k L hk))
      obtain ⟨ρ', w', fr, v', q1, q2, q3, q4, q5, q6, q7⟩ := leaveD_sound hN he hc hf hk ds u s { ar with defers := Ds } md ρ _ h hn hfr' hs' hr ((t.put _ (Nat.le_refl _)).high (by rw [wput_size]; omega)) hm
      exact ⟨ρ', w', fr, v', q1, q2, q3, q4, q5, .head hst q6, q7⟩
  | .call g l :: ds, u, s, ar, md, ρ, w, h, hn, hfr, hs, hr, hds, hm => by
    simp only [leaveD] at h
    split at h
    · rename_i u1 s1 hdef
      generalize har : ar.defers = Ds at hds
      cases hds with
      | call h1 t =>
        rename_i D Ds
        obtain ⟨g', l', captured, e1, e2, e3⟩ := h1
        injection e1 with e1 e4; subst e1; subst e4
        obtain ⟨ρ1, w1, md1, p1, p2, p3, p4, p5⟩ := deferD_sound hN he hc hdef hs (fr := { b.atR ar k with mode := md }) (cs := cs) hm rfl har e2 e3
        obtain ⟨ρ', w', fr, v', q1, q2, q3, q4, q5, q6, q7⟩ := leaveD_sound hN he hc hf hk ds u1 s1 { ar with defers := Ds } md1 ρ1 w1 h (by omega) (hfr.trans p1 hn) p2 (hr.mono p1.le) ((t.mono p1 (Nat.le_refl _)).high p1.size) p4
        exact ⟨ρ', w', fr, v', q1, q2, by omega, q4, q5, p5.trans q6, q7⟩
    · cases h
end
end Go.Hg
