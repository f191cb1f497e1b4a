/- Ranges over functions; the whole interpreter. -/
import Derived.Test.YthlkmfeelhbhjaaGreatDoorHgSk
set_option linter.unusedVariables false
set_option linter.unusedSimpArgs false
namespace Go.Hg
variable {P : Program}

section
variable {ρ : Env} {s : St} {w : World}

theorem step_rangeFunc {b : Frame} {ar : Act} {k : List Item} {cs : List Frame} {f : Operand} {ps : Array Tmp} {as body : Code} (hb : b.roundOf = none) {m : Sem Next} {x : Result Next}
    (hm : (do let d ← resolve ar.eval { callee := .value f, args := #[.const (.func (.yield (w.heap.size + 1)) #[] #[])], argTypes := #[] } 0; invoke d.target d.args : Sem Next) = m)
    (hx : m.run P (push (push w (.deferred (some []))) (.loop { state := .ready, pending := none, fn := b.fn, tmps := ar.tmps, params := ps, assign := as, body, defers := w.heap.size })) = x) :
    (∀ v w', x = .ok (.value v) w' → step P (lone (b.atR ar (.code (.rangeFunc f ps as body) :: k)) cs w) =
      .next (lone ((b.atR { ar with defers := { target := .collected w.heap.size, args := #[] } :: ar.defers } (.inRangeFunc (w.heap.size + 1) :: k)).finish v) cs w')) ∧
    (∀ nx fr w', x = .ok nx w' → Entry P nx fr → step P (lone (b.atR ar (.code (.rangeFunc f ps as body) :: k)) cs w) =
      .next (lone fr (b.atR { ar with defers := { target := .collected w.heap.size, args := #[] } :: ar.defers } (.inRangeFunc (w.heap.size + 1) :: k) :: cs) w')) := by
  have hev := Frame.eval_atR b { ar with defers := { target := .collected w.heap.size, args := #[] } :: ar.defers } (.inRangeFunc (w.heap.size + 1) :: k)
  have hen : (Instr.enterLoop b.fn ar.tmps ps as body none).run P w = .ok (w.heap.size + 1, [{ target := .collected w.heap.size, args := #[] }])
      (push (push w (.deferred (some []))) (.loop { state := .ready, pending := none, fn := b.fn, tmps := ar.tmps, params := ps, assign := as, body, defers := w.heap.size })) := by
    simp [Instr.enterLoop, push]
    rfl
  have hgo : stepG P true { frame := b.atR ar (.code (.rangeFunc f ps as body) :: k), callers := cs, status := .running, dying := none } w =
      GStep.after (seen P b.fn ((Instr.enterLoop b.fn ar.tmps ps as body none).runT P w #[]).2) (stepG.apply P true (b.atR { ar with defers := { target := .collected w.heap.size, args := #[] } :: ar.defers } (.inRangeFunc (w.heap.size + 1) :: k)) cs none m
        (push (push w (.deferred (some []))) (.loop { state := .ready, pending := none, fn := b.fn, tmps := ar.tmps, params := ps, assign := as, body, defers := w.heap.size }))) := by
    have hev' : (b.atR { ar with defers := { target := .collected w.heap.size, args := #[] } :: ar.defers } (.inRangeFunc (w.heap.size + 1) :: k)).eval = ar.eval := by
      rw [hev]; rfl
    rw [← hm, ← hev']
    simp only [stepG, stepG.exec, Frame.atR, hb, Sem.runT_eq, hen]
    rfl
  refine ⟨fun v w' e => step_lone_go ?_, fun nx fr w' e he => step_lone_go ?_⟩
  · rw [hgo]; simp [stepG.apply, hx, e]
  · rw [hgo]; cases he <;> simp [stepG.apply, hx, e, Frame.atR]

theorem step_endRange {b : Frame} {ar : Act} {k : List Item} {cs : List Frame} {l : Nat} {j : Option Code} {w' : World} (hr : (Instr.endLoop l).run P w = .ok j w') :
    step P (lone (b.atR ar (.endRangeFunc l :: k)) cs w) = .next (lone (b.atR ar ((j.map Item.code).toList ++ k)) cs w') := by
  refine step_lone_go ?_
  simp [stepG, stepG.exec, Frame.atR, Sem.runT_eq, hr]

theorem range_func_sound {call : TargetD → St → Option (EndD × St)} (hc : CallS P call) {r : Bool} {f : Operand} {ps : Array Tmp} {as body : Code} {a : ActD} {x : ExitD} {a' : ActD} {s' : St}
    (h : rangeFuncD call r f ps as body a s = some (x, a', s')) : CodeS P r (.rangeFunc f ps as body) a s x a' s' := by
  intro it ρ w lo b ar k cs hst hb hs ha hlo
  cases hst
  unfold rangeFuncD at h
  cases r with
  | true => cases h
  | false =>
    have hb' : b.roundOf = none := by simpa using hb
    simp only [cond_false] at h
    split at h
    · rename_i fv hf
      split at h
      · rename_i t ht
        simp only [St.new] at h
        obtain ⟨hk, hkh⟩ := hs.dom s.next (Nat.le_refl _)
        let L : Loc := ⟨w.heap.size + 1, 0, 0, 0, 0⟩
        let rec' : Loop := { state := .ready, pending := none, fn := b.fn, tmps := ar.tmps, params := ps, assign := as, body, defers := w.heap.size }
        let w1 : World := push (push w (.deferred (some []))) (.loop rec')
        have hsz : w1.heap.size = w.heap.size + 2 := by simp [w1, push_size]
        have hold : ∀ j, j < w.heap.size → w1.heap[j]? = w.heap[j]? := fun j hj => by
          show (push (push w _) _).heap[j]? = _
          rw [push_old _ _ (by rw [push_size]; omega), push_old _ _ hj]
        have hle := Env.le_ext L hk
        have hrel1 : Rel (ρ.ext s.next L) ⟨s.heap.set s.next (.loop ⟨.ready, none, a.regs, a.nt, ps.toList, as, body⟩), s.next + 1⟩ w1 := by
          refine hs.lay hk hkh (Nat.le_succ _) (Nat.lt_succ_self _) (by omega) (Nat.le_succ _) (by rw [hsz]; show w.heap.size + 1 < _; omega) (fun b hb => hold b hb) ?_ (fun m st seen e => by cases e)
          refine ⟨rec', ?_, rfl, rfl, rfl, rfl, rfl, ha.size, ha.regs.mono hle⟩
          have := push_new (push w (.deferred (some []))) (.loop rec')
          rw [push_size] at this
          exact this
        have hfr1 : Fr s.next s ⟨s.heap.set s.next (.loop ⟨.ready, none, a.regs, a.nt, ps.toList, as, body⟩), s.next + 1⟩ ρ (ρ.ext s.next L) w w1 := by
          refine ⟨hle, fun j hj h0 => by rw [Env.ext_other _ (by omega)]; exact h0, by omega, fun b hb _ => hold b hb, fun j Lj hj h0 => ?_, fun j oj Lj hgj hj => ?_, rfl, rfl, rfl⟩
          · by_cases e : j = s.next
            · subst e; simp at hj; subst hj; exact .inl (Nat.le_succ _)
            · rw [Env.ext_other _ e] at hj; rw [h0] at hj; cases hj
          · simp only [Tr.get_set] at hgj
            by_cases e : j = s.next
            · subst e; simp at hj; subst hj; exact .inl (Nat.le_succ _)
            · rw [if_neg e] at hgj; rw [Env.ext_other _ e] at hj; exact .inr ⟨j, oj, Lj, hgj, hj, rfl⟩
        have hmark : ActR (ρ.ext s.next L) w1 lo ⟨a.regs, a.nt, .mark :: a.defers⟩ { ar with defers := { target := .collected w.heap.size, args := #[] } :: ar.defers } := by
          refine ⟨ha.size, ha.regs.mono hle, .mark hlo (by omega) ?_ ?_ (ha.defs.mono hfr1 (Nat.le_refl _))⟩
          · show (push (push w _) _).heap[w.heap.size]? = _
            rw [push_old _ _ (by rw [push_size]; omega)]
            exact push_new w _
          · intro j Lj hj e
            by_cases e1 : j = s.next
            · subst e1; simp at hj; subst hj
              have : w.heap.size + 1 = w.heap.size := e
              omega
            · rw [Env.ext_other _ e1] at hj
              have := hs.wf _ _ hj
              omega
        obtain ⟨fn, first, captured, he, htt⟩ := target_sound (args' := [.func (.yield (w.heap.size + 1)) #[] #[]]) ((eval_sound ha.regs hf).mono hle) (.cons (.yield (L := L) (Env.ext_same ρ s.next L)) .nil) ht
        have hres : (do let d ← resolve ar.eval { callee := .value f, args := #[.const (.func (.yield (w.heap.size + 1)) #[] #[])], argTypes := #[] } 0; invoke d.target d.args : Sem Next) =
            invoke (.fn fn captured) (first ++ #[.func (.yield (w.heap.size + 1)) #[] #[]]) := by
          have hmap : (#[Operand.const (Value.func (.yield (w.heap.size + 1)) #[] #[])] : Array Operand).map ar.eval = #[Value.func (.yield (w.heap.size + 1)) #[] #[]] := by simp [Act.eval]
          simp only [resolve, he, Deferred.ofValue, hmap]
          rfl
        have htr : TargetR (ρ.ext s.next L) t (.fn fn captured) (first ++ #[.func (.yield (w.heap.size + 1)) #[] #[]]) := by
          rcases htt with ⟨g, l, rfl, rfl, hl⟩ | ⟨kk, L', rfl, hL', rfl, rfl, rfl⟩
          · exact ⟨captured, rfl, by simpa using hl⟩
          · exact ⟨L', hL', rfl, by simpa using VRL.cons (.yield (L := L) (Env.ext_same ρ s.next L)) .nil⟩
        obtain ⟨st1, st2⟩ := step_rangeFunc (P := P) (w := w) (b := b) (ar := ar) (k := k) (cs := cs) (ps := ps) (as := as) (body := body) hb' hres rfl
        split at h
        · rename_i v s2 hcall
          obtain ⟨ρ2, w2, h1, h2, h3, v', hv, hend⟩ := hc _ _ _ _ hcall (ρ.ext s.next L) w1 _ _ hrel1 htr (b.atR { ar with defers := { target := .collected w.heap.size, args := #[] } :: ar.defers } (.inRangeFunc (w.heap.size + 1) :: k)) cs
          have hfin : (b.atR { ar with defers := { target := .collected w.heap.size, args := #[] } :: ar.defers } (.inRangeFunc (w.heap.size + 1) :: k)).finish v' = b.atR { ar with defers := { target := .collected w.heap.size, args := #[] } :: ar.defers } (.endRangeFunc (w.heap.size + 1) :: k) := rfl
          have hreach : Steps P (lone (b.atR ar (.code (.rangeFunc f ps as body) :: k)) cs w) (lone (b.atR { ar with defers := { target := .collected w.heap.size, args := #[] } :: ar.defers } (.endRangeFunc (w.heap.size + 1) :: k)) cs w2) := by
            rw [← hfin]
            rcases hend with hend | ⟨nx, fr, w3, e1, e2, e3⟩
            · exact .one (st1 _ _ hend)
            · exact .head (st2 _ _ _ e1 e2) e3
          split at h
          · rename_i D hD
            have hL2 : ρ2 s.next = some L := h1.le _ _ (Env.ext_same ρ s.next L)
            obtain ⟨hg, r2, hb2, hr2⟩ := loop_of h2 hD hL2
            have hb2' : w2.heap[w.heap.size + 1]? = some (.loop r2) := hb2
            have main : D.state ≠ .busy → ∀ x1, (match D.pending with
                | none => some (ExitD.normal, (⟨a.regs, a.nt, .mark :: a.defers⟩ : ActD), s2.setObj s.next (.loop { D with state := .exhausted }))
                | some .ret => some (.ret, ⟨a.regs, a.nt, .mark :: a.defers⟩, s2.setObj s.next (.loop { D with state := .exhausted }))
                | some (.exit id) => some (.exit id, ⟨a.regs, a.nt, .mark :: a.defers⟩, s2.setObj s.next (.loop { D with state := .exhausted }))
                | some (.goto t) => some (.goto t, ⟨a.regs, a.nt, .mark :: a.defers⟩, s2.setObj s.next (.loop { D with state := .exhausted }))
                | _ => none) = some x1 → x1 = (x, a', s') → Runs P (lone (b.atR ar (.code (.rangeFunc f ps as body) :: k)) cs w) ρ s w lo b k cs x a' s' := by
              intro hnb x1 hx1 hx2
              subst hx2
              have hel : (Instr.endLoop (w.heap.size + 1)).run P w2 = .ok D.pending (wput w2 (w.heap.size + 1) (.loop { r2 with state := .exhausted })) := by
                have hbeq : (r2.state == LoopState.busy) = false := by
                  rw [hr2.state]; cases hds : D.state <;> first | rfl | exact (hnb hds).elim
                simp only [Instr.endLoop, Sem.run_bind, run_getLoop hb2', Result.andThen_ok, hbeq, Bool.false_eq_true, if_false, run_setLoop _ hb2', Sem.run_pure, hr2.pending]
              have hrel3 : Rel ρ2 (s2.setObj s.next (.loop { D with state := .exhausted })) (wput w2 (w.heap.size + 1) (.loop { r2 with state := .exhausted })) := loop_put h2 hg hL2 (L := L) (r' := { r2 with state := .exhausted }) { hr2 with state := rfl }
              have hfr3 : Fr s.next s2 (s2.setObj s.next (.loop { D with state := .exhausted })) ρ2 ρ2 w2 (wput w2 (w.heap.size + 1) (.loop { r2 with state := .exhausted })) := fr_loop _ (L := L) _ _ hg hL2
              have hfr : Fr s.next s (s2.setObj s.next (.loop { D with state := .exhausted })) ρ ρ2 w (wput w2 (w.heap.size + 1) (.loop { r2 with state := .exhausted })) := (hfr1.trans h1 (Nat.le_succ _)).trans hfr3 (Nat.le_refl _)
              have hact := (hmark.mono h1).mono hfr3
              have hn : s.next ≤ s2.next := by have : s.next + 1 ≤ s2.next := h3; omega
              have hst := hreach.trans (.one (step_endRange (b := b) (ar := { ar with defers := { target := .collected w.heap.size, args := #[] } :: ar.defers }) (k := k) (cs := cs) hel))
              have hn3 : (s2.setObj s.next (.loop { D with state := .exhausted })).next = s2.next := rfl
              generalize s2.setObj s.next (.loop { D with state := .exhausted }) = s3 at hx1 hrel3 hn3 hfr hfr3
              rw [← hn3] at hn
              generalize hp : D.pending = p at hx1 hst
              cases p with
              | none =>
                simp only [Option.some.injEq, Prod.mk.injEq] at hx1
                obtain ⟨rfl, rfl, rfl⟩ := hx1
                exact ⟨ρ2, _, _, hfr, hrel3, hact, hn, hst⟩
              | some c =>
                cases c <;> simp only at hx1 <;> first | (cases hx1; done) | skip
                · simp only [Option.some.injEq, Prod.mk.injEq] at hx1
                  obtain ⟨rfl, rfl, rfl⟩ := hx1
                  exact ⟨ρ2, _, _, hfr, hrel3, hact, hn, k, rfl, hst⟩
                · simp only [Option.some.injEq, Prod.mk.injEq] at hx1
                  obtain ⟨rfl, rfl, rfl⟩ := hx1
                  exact ⟨ρ2, _, _, hfr, hrel3, hact, hn, k, rfl, hst⟩
                · simp only [Option.some.injEq, Prod.mk.injEq] at hx1
                  obtain ⟨rfl, rfl, rfl⟩ := hx1
                  exact ⟨ρ2, _, _, hfr, hrel3, hact, hn, k, hst⟩
            split at h
            · cases h
            · rename_i hnb
              exact main (fun e => hnb e) _ h rfl
          · cases h
        · cases h
        · cases h
      · cases h
    · cases h
end

/-- The drawn regions do as the interpreter says. -/
def DrawS (P : Program) : Prop := ∀ (call : TargetD → St → Option (EndD × St)), CallS P call → ∀ r id (ops : Array Oper) a s x a' s', drawD P call r ops.toList a s = some (x, a', s') → CodeS P r (.region id ops true) a s x a' s'

theorem eng_sound (hN : Named P) (hD : DrawS P) {O : Oracle} (hO : OracleS P O) : ∀ n, ExS P (eng P O n).ex ∧ CallS P (eng P O n).call
  | 0 => ⟨fun r c a s x a' s' h => by simp [eng] at h, fun t s e s' h => by simp [eng] at h⟩
  | n + 1 => by
    obtain ⟨he, hc⟩ := eng_sound hN hD hO n
    refine ⟨?_, ?_⟩
    · exact execStep_sound he hc (fun r id ops a s x a' s' h => hD _ hc r id ops a s x a' s' h) (fun r f ps as body a s x a' s' h => range_func_sound hc h)
    · intro t s e s' h ρ w tgt args hs ht c cs
      simp only [eng] at h
      cases t with
      | fn f l =>
        obtain ⟨captured, rfl, hl⟩ := ht
        simp only [callStep] at h
        split at h
        · rename_i r hr
          injection h with h; subst h
          obtain ⟨⟨fn, c', hf, hb⟩, hfn⟩ := hO f l s e s' hr
          exact hfn.end hN hf hb hs hl c cs
        · cases hf : P.funcs[f]? with
          | none => simp [callFn, hf] at h
          | some fn =>
            cases hb : fn.body with
            | some c' => exact (callFn_body hN he hc hf hb h).end hN hf hb hs hl c cs
            | none =>
              simp only [callFn, hf, hb] at h
              split at h
              · rename_i v hv
                simp only [Option.some.injEq, Prod.mk.injEq] at h
                obtain ⟨rfl, rfl⟩ := h
                obtain ⟨h1, h2⟩ := ext_sound (ρ := ρ) (w := w) hf hb hv hl
                exact ⟨ρ, w, .refl _ _ _ _, hs, Nat.le_refl _, v, h2, .inl h1⟩
              · cases h
      | yield k l =>
        obtain ⟨L, hL, rfl, hl⟩ := ht
        simp only [callStep] at h
        exact round_sound he h hs hL hl c cs

/-- What the interpreter finds of a function is so. -/
theorem run_sound (hN : Named P) (hD : DrawS P) {O : Oracle} (hO : OracleS P O) {n : Nat} {f : FuncId} {fn : Func} {c : Code} (hf : P.funcs[f]? = some fn) (hb : fn.body = some c) {args : List Value} {s s' : St} {e : EndD}
    (h : callFn P (eng P O n).ex (eng P O n).call f args s = some (e, s')) : FnS P f args s e s' :=
  let ⟨he, hc⟩ := eng_sound hN hD hO n
  callFn_body hN he hc hf hb h
end Go.Hg
