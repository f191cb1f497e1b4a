/- Calls: functions with a text, functions without, rounds of a range over a function. -/
import Derived.Test.YthlkmfeelhbhjaaGreatDoorHgSj
import Derived.Laws.Externs
set_option linter.unusedVariables false
set_option linter.unusedSimpArgs false
namespace Go.Hg
variable {P : Program}

/-- A function, called with these arguments at this state, ends so. -/
def FnS (P : Program) (f : FuncId) (args : List Value) (s : St) (e : EndD) (s' : St) : Prop :=
  ∀ ρ w (args' : Array Value), Rel ρ s w → VRL ρ args args'.toList → ∀ cs, ∃ ρ' w' fr v', Fr s.next s s' ρ ρ' w w' ∧ Rel ρ' s' w' ∧ s.next ≤ s'.next ∧ fr.fn = f ∧ VR ρ' (valE e) v' ∧
    Steps P (lone (Frame.enter P f args' .normal) cs w) (lone fr cs w') ∧ fr.leaving P w' (endE e v')

def OracleS (P : Program) (O : Oracle) : Prop := ∀ f args s e s', O f args s = some (e, s') → (∃ fn c, P.funcs[f]? = some fn ∧ fn.body = some c) ∧ FnS P f args s e s'

theorem extR_rows (n : String) (hn : n = "internal/bytealg.IndexByteString" ∨ n = "internal/bytealg.CountString") : (Extern.allGenericRows.lookup n).isNone = true ∧ (Extern.allTypedRows.lookup n).isNone = true := by
  rcases hn with rfl | rfl
  · exact ⟨by kernel_rfl, by kernel_rfl⟩
  · exact ⟨by kernel_rfl, by kernel_rfl⟩
theorem ext_row1 : Extern.allRows.lookup "internal/bytealg.IndexByteString" = some Extern.BytealgIndexByte.indexByte := by kernel_rfl
theorem ext_row2 : Extern.allRows.lookup "internal/bytealg.CountString" = some Extern.BytealgCount.count := by kernel_rfl

theorem ext_find {fn : Func} {n : String} (hn : n = "internal/bytealg.IndexByteString" ∨ n = "internal/bytealg.CountString") (h : fn.name = n) {e : Array Value → Sem Value} (he : Extern.allRows.lookup n = some e) : Extern.find fn = some e := by
  obtain ⟨h1, h2⟩ := extR_rows n hn
  unfold Extern.find
  simp only [h, Option.isNone_iff_eq_none.1 h1, Option.isNone_iff_eq_none.1 h2, he]
  rfl

theorem args_eq {ρ : Env} : ∀ {l l' : List Value}, l.all scalar = true → VRL ρ l l' → l' = l
  | [], l', _, h => h.cases_nil
  | v :: l, l', h, hv => by
    obtain ⟨v', m, rfl, h1, h2⟩ := hv.cases_cons
    simp only [List.all_cons, Bool.and_eq_true] at h
    rw [scalar_eq h1 h.1, args_eq h.2 h2]

theorem ext_sound {ρ : Env} {w : World} {f : FuncId} {fn : Func} {args : List Value} {v : Value} (hf : P.funcs[f]? = some fn) (hb : fn.body = none) (h : extD fn args = some v) {args' : Array Value} (ha : VRL ρ args args'.toList) :
    (callFunc f args').run P w = .ok (.value v) w ∧ VR ρ v v := by
  unfold extD at h
  obtain ⟨h0, h⟩ := cond_some h
  rw [Bool.and_eq_true] at h0
  have hn : Extern.findNext fn = none := Option.isNone_iff_eq_none.1 h0.1
  have hargs : args' = ⟨args⟩ := by
    apply Array.toList_inj.1; exact args_eq h0.2 ha
  subst hargs
  have hbn : fn.body.isNone = true := by rw [hb]; rfl
  cases h1 : fn.name == "internal/bytealg.IndexByteString" with
  | true =>
    rw [h1] at h; simp only [cond_true] at h
    have hname : fn.name = "internal/bytealg.IndexByteString" := by simpa using h1
    obtain ⟨h2, h3⟩ := pureV_sound (P := P) (ρ := ρ) (w := w) h
    rw [run_callFunc_extern hf (by rw [hname]; rfl) hbn hn (ext_find (.inl rfl) hname ext_row1), h2]
    exact ⟨rfl, h3⟩
  | false =>
    rw [h1] at h; simp only [cond_false] at h
    obtain ⟨h4, h⟩ := cond_some h
    have hname : fn.name = "internal/bytealg.CountString" := by simpa using h4
    obtain ⟨h2, h3⟩ := pureV_sound (P := P) (ρ := ρ) (w := w) h
    rw [run_callFunc_extern hf (by rw [hname]; rfl) hbn hn (ext_find (.inr rfl) hname ext_row2), h2]
    exact ⟨rfl, h3⟩

theorem callFn_body (hN : Named P) {ex : Bool → Code → ActD → St → Option (ExitD × ActD × St)} {call : TargetD → St → Option (EndD × St)} (he : ExS P ex) (hc : CallS P call) {f : FuncId} {fn : Func} {c : Code} (hf : P.funcs[f]? = some fn) (hb : fn.body = some c)
    {args : List Value} {s s' : St} {e : EndD} (h : callFn P ex call f args s = some (e, s')) : FnS P f args s e s' := by
  intro ρ w args' hs ha cs
  unfold callFn at h
  rw [hf] at h; simp only at h
  rw [hb] at h; simp only at h
  split at h
  · rename_i x a' s1 hex
    have hact : ActR ρ w w.heap.size (actOf fn args) { tmps := tmpsOf' fn args', defers := [] } := act_start ha _
    obtain ⟨ρ1, w1, ar1, h1, h2, h3, h4, h5⟩ := he _ _ _ _ _ _ _ hex _ ρ w w.heap.size { (default : Frame) with fn := f, kind := .normal } _ [] cs (.code c) rfl hs hact (Nat.le_refl _)
    rw [enter_eq hf hb]
    have fin : ∀ (m : Machine) (kk : List Item) (md : FrameMode) (u : ModeD), Steps P m (lone { ({ (default : Frame) with fn := f, kind := .normal } : Frame).atR ar1 kk with mode := md } cs w1) → ModeR ρ1 u md →
        leaveD P ex call fn a' a'.defers u s1 = some (e, s') → ∃ ρ' w' fr v', Fr s.next s s' ρ ρ' w w' ∧ Rel ρ' s' w' ∧ s.next ≤ s'.next ∧ fr.fn = f ∧ VR ρ' (valE e) v' ∧ Steps P m (lone fr cs w') ∧ fr.leaving P w' (endE e v') := by
      intro m kk md u hst hm hl
      obtain ⟨ρ', w', fr, v', q1, q2, q3, q4, q5, q6, q7⟩ := leaveD_sound hN he hc (b := { (default : Frame) with fn := f, kind := .normal }) (k := kk) (cs := cs) hf rfl a'.defers u s1 ar1 md ρ1 w1 hl h4 h1 h2 h3.regs h3.defs hm
      exact ⟨ρ', w', fr, v', q1, q2, by omega, q4, q5, hst.trans q6, q7⟩
    split at h
    · exact fin _ [] .returning .returning (Steps.trans h5 (.one (stepR_end rfl))) .returning h
    · obtain ⟨k1, h6⟩ := h5
      exact fin _ _ .returning .returning (Steps.trans h6 (.one (stepR_ret rfl))) .returning h
    · obtain ⟨k1, v', h6, h7⟩ := h5
      exact fin _ k1 _ _ h7 (.panicking h6) h
    · cases h
  · cases h

/-- A function's run as a call. -/
theorem FnS.end (hN : Named P) {f : FuncId} {fn : Func} {c : Code} (hf : P.funcs[f]? = some fn) (hb : fn.body = some c) {args : List Value} {s s' : St} {e : EndD} (h : FnS P f args s e s') {ρ : Env} {w : World} {args' captured : Array Value} (hs : Rel ρ s w)
    (ha : VRL ρ args (args' ++ captured).toList) (c : Frame) (cs : List Frame) :
    ∃ ρ' w', Fr s.next s s' ρ ρ' w w' ∧ Rel ρ' s' w' ∧ s.next ≤ s'.next ∧ EndR P ρ' w w' (invoke (.fn (.func f) captured) args') c cs e := by
  obtain ⟨ρ', w', fr, v', q1, q2, q3, q4, q5, q6, q7⟩ := h ρ w _ hs ha (c :: cs)
  have hrun := run_callFunc (w := w) hN hf hb (args' ++ captured)
  refine ⟨ρ', w', q1, q2, q3, ?_⟩
  cases e with
  | ret v => exact ⟨v', q5, .inr ⟨_, _, w, hrun, .enter f _, q6.trans (.one (step_leave_returned q7))⟩⟩
  | panic v => exact ⟨v', q5, _, _, w, hrun, .enter f _, q6.trans (.one (step_leave_panicked q7))⟩

/-! ### Rounds -/
theorem setParams_sound {ρ : Env} : ∀ {ts : List Tmp} {vs vs' : List Value} {r r' : Tr Value} {nt : Nat} {tmps : Array Value}, setParams r nt ts vs = some r' → RegsR ρ r tmps → tmps.size = nt → VRL ρ vs vs' →
    vs'.length = ts.length ∧ RegsR ρ r' ((ts.zip vs').foldl (fun tmps (t, a) => tmps.setIfInBounds t a) tmps) ∧ ((ts.zip vs').foldl (fun tmps (t, a) => tmps.setIfInBounds t a) tmps).size = nt
  | [], [], vs', r, r', nt, tmps, h, hr, hsz, hv => by
    simp only [setParams] at h; injection h with h; subst h
    have := hv.cases_nil; subst this
    exact ⟨rfl, hr, hsz⟩
  | [], v :: vs, vs', r, r', nt, tmps, h, hr, hsz, hv => by simp [setParams] at h
  | t :: ts, [], vs', r, r', nt, tmps, h, hr, hsz, hv => by simp [setParams] at h
  | t :: ts, v :: vs, vs', r, r', nt, tmps, h, hr, hsz, hv => by
    simp only [setParams] at h
    obtain ⟨hlt, h⟩ := cond_some h
    have hlt' : t < nt := Nat.le_of_ble_eq_true hlt
    obtain ⟨v', m, rfl, h1, h2⟩ := hv.cases_cons
    obtain ⟨g1, g2, g3⟩ := setParams_sound (tmps := tmps.setIfInBounds t v') h (hr.set (by rw [hsz]; exact hlt') h1) (by simpa using hsz) h2
    exact ⟨by simp [g1], g2, g3⟩

section
variable {ρ : Env} {s : St} {w : World}

theorem loop_of (hs : Rel ρ s w) {l : Nat} {D : LoopD} {L : Loc} (h : loopAt s l = some D) (hL : ρ l = some L) : s.heap.get l = some (.loop D) ∧ ∃ r, w.heap[L.block]? = some (.loop r) ∧ LoopR ρ D r := by
  unfold loopAt at h
  cases hg : s.heap.get l with
  | none => rw [hg] at h; cases h
  | some o =>
    rw [hg] at h
    cases o <;> simp only at h <;> try cases h
    obtain ⟨L', a, b⟩ := hs.obj _ _ hg
    rw [hL] at a; injection a with a; subst a
    exact ⟨rfl, b⟩

theorem run_getLoop {b : Nat} {r : Loop} (h : w.heap[b]? = some (.loop r)) : (Instr.getLoop b).run P w = .ok r w := by
  simp [Instr.getLoop, getObj, Sem.run, h]
theorem run_setLoop {b : Nat} {r : Loop} (o : Go.Obj) (h : w.heap[b]? = some (.loop r)) : (setObj b o).run P w = .ok () (wput w b o) := by
  simp [setObj, Sem.run, h, wput]

theorem fr_loop (n : Nat) {k : Nat} {L : Loc} {ob : Obj} (r' : Loop) (o' : Obj) (hg : s.heap.get k = some ob) (hL : ρ k = some L) : Fr n s (s.setObj k o') ρ ρ w (wput w L.block (.loop r')) := fr_put n _ o' hg hL

/-- A loop's record, written. -/
theorem loop_put (hs : Rel ρ s w) {l : Nat} {D D' : LoopD} {L : Loc} {r' : Loop} (hg : s.heap.get l = some (.loop D)) (hL : ρ l = some L) (hr : LoopR ρ D' r') : Rel ρ (s.setObj l (.loop D')) (wput w L.block (.loop r')) := by
  have hlt := hs.wf l L hL
  exact hs.change hg hL (wput_size _ _ _) (fun b hb => wput_other _ hb) ⟨r', wput_same _ hlt, hr⟩ (IterR.plain hs hg hL rfl rfl (fun b hb => wput_other _ hb))

theorem endRound_sound (hs : Rel ρ s w) {l : Nat} {L : Loc} (hL : ρ l = some L) {j : Option Code} {e : EndD} {s' : St} (h : endRoundD s l j = some (e, s')) :
    ∃ w', (Instr.endRound L.block j).run P w = .ok (.bool j.isNone) w' ∧ Fr s.next s s' ρ ρ w w' ∧ Rel ρ s' w' ∧ s'.next = s.next ∧ e = .ret (.bool j.isNone) := by
  unfold endRoundD at h
  split at h
  · rename_i D hD
    simp only [Option.some.injEq, Prod.mk.injEq] at h
    obtain ⟨rfl, rfl⟩ := h
    obtain ⟨hg, r, hb, hr⟩ := loop_of hs hD hL
    refine ⟨wput w L.block (.loop { r with state := if j.isNone then .ready else .done, pending := j }), ?_, fr_loop _ _ _ hg hL, loop_put hs hg hL ?_, rfl, rfl⟩
    · simp only [Instr.endRound, Sem.run_bind, run_getLoop hb, Result.andThen_ok, run_setLoop _ hb, Sem.run_pure]
    · exact { hr with state := by cases j <;> rfl, pending := rfl }
  · cases h

theorem round_eq (l : Nat) (f : FuncId) (tmps : Array Value) (assign body : Code) :
    Frame.round l f tmps assign body .normal = ({ (default : Frame) with fn := f, kind := .normal, roundOf := some l }).atR { tmps, defers := [] } [.code assign, .beginRound, .code body] := rfl

theorem round_sound {ex : Bool → Code → ActD → St → Option (ExitD × ActD × St)} (he : ExS P ex) {l : Nat} {args : List Value} {s' : St} {e : EndD} (h : roundD ex l args s = some (e, s')) (hs : Rel ρ s w) {L : Loc} (hL : ρ l = some L) {args' : Array Value}
    (ha : VRL ρ args args'.toList) (c : Frame) (cs : List Frame) :
    ∃ ρ' w', Fr s.next s s' ρ ρ' w w' ∧ Rel ρ' s' w' ∧ s.next ≤ s'.next ∧ EndR P ρ' w w' (invoke (.fn (.yield L.block) #[]) args') c cs e := by
  unfold roundD at h
  split at h
  · rename_i D hD
    obtain ⟨hg, r, hb, hr⟩ := loop_of hs hD hL
    split at h
    · rename_i regs hset
      obtain ⟨g1, g2, g3⟩ := setParams_sound hset hr.regs hr.size ha
      have hyield : (invoke (.fn (.yield L.block) #[]) args').run P w = .ok (.round L.block r.fn ((D.params.zip args'.toList).foldl (fun tmps (t, a) => tmps.setIfInBounds t a) r.tmps) r.assign r.body) w := by
        have e1 : args'.size = r.params.size := by rw [← Array.length_toList, ← Array.length_toList (xs := r.params), hr.params]; exact g1
        have e2 : (r.params.zip args').foldl (fun tmps (t, a) => tmps.setIfInBounds t a) r.tmps = (D.params.zip args'.toList).foldl (fun tmps (t, a) => tmps.setIfInBounds t a) r.tmps := by
          rw [← hr.params, ← Array.toList_zip, Array.foldl_toList]
        simp only [invoke, Instr.yield, Sem.run_bind, run_getLoop hb, Result.andThen_ok, e1, ne_eq, not_true_eq_false, if_false, Sem.run_pure, e2]
      split at h
      · rename_i a1 s1 hassign
        let b : Frame := { (default : Frame) with fn := r.fn, kind := .normal, roundOf := some L.block }
        have hact : ActR ρ w w.heap.size ⟨regs, D.nt, []⟩ { tmps := (D.params.zip args'.toList).foldl (fun tmps (t, a) => tmps.setIfInBounds t a) r.tmps, defers := [] } := ⟨g3, g2, .nil _⟩
        obtain ⟨ρ1, w1, ar1, h1, h2, h3, h4, h5⟩ := he _ _ _ _ _ _ _ hassign _ ρ w w.heap.size b _ [.beginRound, .code D.body] (c :: cs) (.code D.assign) rfl hs hact (Nat.le_refl _)
        split at h
        · rename_i D1 hD1
          split at h
          · rename_i hst
            have hL1 := h1.le _ _ hL
            obtain ⟨hg1, r1, hb1, hr1⟩ := loop_of h2 hD1 hL1
            have hbegin : (Instr.beginRound L.block).run P w1 = .ok () (wput w1 L.block (.loop { r1 with state := .busy })) := by
              simp only [Instr.beginRound, Sem.run_bind, run_getLoop hb1, Result.andThen_ok, run_setLoop _ hb1, hr1.state, hst, Sem.run_pure]
            have hrel2 := loop_put h2 hg1 hL1 (D' := { D1 with state := .busy }) (r' := { r1 with state := .busy }) { hr1 with state := rfl }
            have hfr2 := fr_loop s1.next (w := w1) { r1 with state := .busy } (.loop { D1 with state := .busy }) hg1 hL1
            split at h
            · rename_i x a2 s2 hbody
              obtain ⟨ρ2, w2, ar2, k1, k2, k3, k4, k5⟩ := he _ _ _ _ _ _ _ hbody _ ρ1 _ w.heap.size b ar1 [] (c :: cs) (.code D.body) rfl hrel2 (h3.mono hfr2) (by rw [wput_size]; exact h1.size)
              have hL2 := k1.le _ _ hL1
              have hpre : Steps P (lone (Frame.round L.block r.fn ((D.params.zip args'.toList).foldl (fun tmps (t, a) => tmps.setIfInBounds t a) r.tmps) r.assign r.body .normal) (c :: cs) w) (lone (b.atR ar1 [.code D.body]) (c :: cs) (wput w1 L.block (.loop { r1 with state := .busy }))) := by
                rw [round_eq, hr.assign, hr.body]
                exact Steps.trans h5 (.one (stepR_beginRound rfl hbegin))
              have hfr3 : Fr s.next s s2 ρ ρ2 w w2 := (h1.trans hfr2 h4).trans k1 h4
              have fin : ∀ (j : Option Code), endRoundD s2 l j = some (e, s') → (∀ w3 (v : Value), (Instr.endRound L.block j).run P w2 = .ok v w3 → Steps P (lone (b.atR ar1 [.code D.body]) (c :: cs) (wput w1 L.block (.loop { r1 with state := .busy }))) (lone (c.finish v) cs w3)) →
                  ∃ ρ' w', Fr s.next s s' ρ ρ' w w' ∧ Rel ρ' s' w' ∧ s.next ≤ s'.next ∧ EndR P ρ' w w' (invoke (.fn (.yield L.block) #[]) args') c cs e := by
                intro j hj hst
                obtain ⟨w3, p1, p2, p3, p4, rfl⟩ := endRound_sound (P := P) k2 hL2 hj
                refine ⟨ρ2, w3, hfr3.trans p2 (Nat.le_trans h4 k4), p3, by have : s1.next ≤ s2.next := k4; omega, .bool j.isNone, .bool _, .inr ⟨_, _, w, hyield, .round _ _ _ _ _, hpre.trans (hst w3 _ p1)⟩⟩
              split at h
              · exact fin _ h (fun w3 v hv => Steps.trans k5 (.one (stepR_round_end rfl rfl hv)))
              · obtain ⟨kk, k6⟩ := k5
                exact fin _ h (fun w3 v hv => Steps.trans k6 (.one (stepR_round_ret rfl rfl hv)))
              · obtain ⟨kk, k6, k7⟩ := k5
                exact fin _ h (fun w3 v hv => Steps.trans k7 (.one (stepR_round_exit rfl rfl (by rw [k6]; rfl) hv)))
              · obtain ⟨kk, k6, k7⟩ := k5
                exact fin _ h (fun w3 v hv => Steps.trans k7 (.one (stepR_round_goto rfl rfl (by rw [k6]; rfl) hv)))
              · cases h
            · cases h
          · cases h
        · cases h
      · cases h
    · cases h
  · cases h
end
end Go.Hg
