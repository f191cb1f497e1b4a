/- The operations that lay a block. -/
import Derived.Test.YthlkmfeelhbhjaaGreatDoorHgS7
set_option linter.unusedVariables false
set_option linter.unusedSimpArgs false
namespace Go.Hg
variable {P : Program} {ρ : Env} {s : St} {w : World}

def push (w : World) (X : Go.Obj) : World := { w with heap := w.heap.push X }

theorem push_new (w : World) (X : Go.Obj) : (push w X).heap[w.heap.size]? = some X := by
  show (w.heap.push X)[w.heap.size]? = some X
  simp
theorem push_old (w : World) (X : Go.Obj) {b : Nat} (h : b < w.heap.size) : (push w X).heap[b]? = w.heap[b]? := by
  simp only [push, Array.getElem?_push]; rw [if_neg (by omega)]
theorem push_size (w : World) (X : Go.Obj) : (push w X).heap.size = w.heap.size + 1 := by simp [push]

theorem fr_push (n : Nat) {k nx : Nat} {o : Obj} {L : Loc} (X : Go.Obj) (hk : ρ k = none) (hn : n ≤ k) (hL : L.block = w.heap.size) : Fr n s ⟨s.heap.set k o, nx⟩ ρ (ρ.ext k L) w (push w X) where
  le := Env.le_ext L hk
  fresh j hj h0 := by rw [Env.ext_other _ (by omega)]; exact h0
  size := by rw [push_size]; omega
  keepL b hb _ := push_old w X hb
  new j Lj hj h0 := by
    by_cases e : j = k
    · subst e; simp at hj; subst hj; left; omega
    · rw [Env.ext_other _ e] at hj; rw [h0] at hj; cases hj
  live j oj Lj hg hj := by
    simp only [Tr.get_set] at hg
    by_cases e : j = k
    · subst e; simp at hj; subst hj; left; omega
    · rw [if_neg e] at hg; rw [Env.ext_other _ e] at hj; exact .inr ⟨j, oj, Lj, hg, hj, rfl⟩
  os := rfl
  output := rfl
  tape := rfl

theorem objR_cells {L : Loc} {l : List Value} {arr : Array Value} {el : TypeId} {g : Nat} (hv : VRL ρ l arr.toList) (hb : w.heap[L.block]? = some (.cells arr el (0, 0)))
    (h0 : L.base = 0) (h1 : L.size = l.length) (h2 : L.grow = g) (h3 : L.room = arr.size) : ObjR ρ L w (.cells l.length g (Tr.ofList l)) := by
  refine ⟨h1, h2, arr, el, (0, 0), hb, h3.symm, ?_, fun i _ _ => by simp, fun i v hi => ?_⟩
  · have := hv.1; simp at this; omega
  · rw [Tr.get_ofList] at hi
    obtain ⟨v', a, b⟩ := hv.get hi
    exact ⟨(List.getElem?_eq_some_iff.1 hi).1, v', by rw [h0]; simpa using a, b⟩

theorem repl_length (l : List Value) : ∀ n, (repl l n).length = n * l.length
  | 0 => by simp [repl]
  | n + 1 => by simp [repl, repl_length l n, Nat.add_mul]; omega

theorem repl_get (l : List Value) : ∀ (n i : Nat), i < n * l.length → (repl l n)[i]? = l[i % l.length]?
  | 0, i, h => by simp at h
  | n + 1, i, h => by
    simp only [repl]
    by_cases hi : i < l.length
    · rw [List.getElem?_append_left hi, Nat.mod_eq_of_lt hi]
    · rw [List.getElem?_append_right (by omega), repl_get l n _ (by rw [Nat.add_mul] at h; omega)]
      congr 1
      exact (Nat.mod_eq_sub_mod (by omega)).symm

theorem range_repl (zs : Array Value) (n : Nat) : ((Array.range (n * zs.size)).map fun i => zs[i % zs.size]!).toList = repl zs.toList n := by
  apply List.ext_getElem?
  intro i
  by_cases hi : i < n * zs.size
  · rw [repl_get _ _ _ (by simpa using hi)]
    have hz : 0 < zs.size := by
      rcases Nat.eq_zero_or_pos zs.size with h | h
      · rw [h] at hi; simp at hi
      · exact h
    have hm : i % zs.size < zs.size := Nat.mod_lt _ hz
    simp [hi, hm, getElem!_pos]
  · rw [List.getElem?_eq_none (by simp; omega), List.getElem?_eq_none (by rw [repl_length]; simpa using hi)]

theorem repl_rel {l l' : List Value} (h : VRL ρ l l') : ∀ n, VRL ρ (repl l n) (repl l' n)
  | 0 => .nil
  | n + 1 => h.append (repl_rel h n)

structure FreshR (P : Program) (ρ : Env) (w : World) (m : Sem Next) (b : Obj) (f : Nat → Value) : Prop where
  out : ∃ X v' L, m.run P w = .ok (.value v') (push w X) ∧ L.block = w.heap.size ∧ ∀ k, ρ k = none → ObjR (ρ.ext k L) L (push w X) b ∧ VR (ρ.ext k L) (f k) v'

theorem fresh_cells {m : Sem Next} {l : List Value} {arr : Array Value} {el : TypeId} {f : Nat → Value} {v' : Value} (hm : m.run P w = .ok (.value v') (push w (.cells arr el (0, 0)))) (hv : VRL ρ l arr.toList)
    (hf : ∀ k, ρ k = none → VR (ρ.ext k ⟨w.heap.size, 0, l.length, 0, arr.size⟩) (f k) v') : FreshR P ρ w m (.cells l.length 0 (Tr.ofList l)) f :=
  ⟨⟨_, v', ⟨w.heap.size, 0, l.length, 0, arr.size⟩, hm, rfl, fun k hk => ⟨objR_cells (hv.mono (Env.le_ext _ hk)) (push_new w _) rfl rfl rfl rfl, hf k hk⟩⟩⟩

theorem fresh_sound {a : ActD} {ar : Act} (hr : RegsR ρ a.regs ar.tmps) {o : Oper} {b : Obj} {f : Nat → Value} (h : freshD P a o.op = some (b, f)) : FreshR P ρ w (execOp ar.eval o) b f := by
  obtain ⟨dst, op, ty, pos, after, guard⟩ := o
  simp only at h
  cases op with
  | alloc t =>
    simp only [freshD] at h
    cases hz : zeroOf P t with
    | none => rw [hz] at h; cases h
    | some z =>
      rw [hz] at h
      simp only [Option.some.injEq, Prod.mk.injEq] at h
      obtain ⟨rfl, rfl⟩ := h
      refine fresh_cells (arr := z.cells) (el := t) (v' := .pointer (some ⟨w.heap.size, 0, none⟩)) ?_ (cells_rel (zero_refl hz)) (fun k hk => .ptr (L := ⟨w.heap.size, 0, (cellsOf z).length, 0, z.cells.size⟩) 0 (by simp))
      simp [execOp, Instr.alloc, run_zeroOf hz, newVar, newRow, push]
  | box t x =>
    simp only [freshD] at h
    cases hx : a.eval x with
    | none => rw [hx] at h; cases h
    | some v =>
      rw [hx] at h
      simp only [Option.some.injEq, Prod.mk.injEq] at h
      obtain ⟨rfl, rfl⟩ := h
      refine fresh_cells (arr := (ar.eval x).cells) (el := t) (v' := .pointer (some ⟨w.heap.size, 0, none⟩)) ?_ (cells_rel (eval_sound hr hx)) (fun k hk => .ptr (L := ⟨w.heap.size, 0, (cellsOf v).length, 0, (ar.eval x).cells.size⟩) 0 (by simp))
      simp [execOp, Instr.box, newVar, newRow, push]
  | buildSlice t len ps =>
    simp only [freshD] at h
    cases hx : evals a (ps.toList.map (·.2)) with
    | none => rw [hx] at h; cases h
    | some vs =>
      rw [hx] at h; simp only at h
      cases hb : buildSliceD P t len ((ps.toList.map (·.1)).zip vs) with
      | none => rw [hb] at h; cases h
      | some l =>
        rw [hb] at h
        simp only [Option.some.injEq, Prod.mk.injEq] at h
        obtain ⟨rfl, rfl⟩ := h
        have hp := parts_sound hr hx
        unfold buildSliceD at hb
        split at hb
        · rename_i elem hu
          split at hb
          · rename_i size z hs hz
            cases hc : (Nat.ble (len * size) (2 ^ 24) && Nat.beq (cellsOf z).length size) with
            | false => rw [hc] at hb; cases hb
            | true =>
              rw [hc] at hb; simp only [cond_true] at hb
              rw [Bool.and_eq_true] at hc
              have hc1 := Nat.le_of_ble_eq_true hc.1
              have hc2 := Nat.eq_of_beq_eq_true hc.2
              have hzr := cells_rel (zero_refl (ρ := ρ) hz)
              have hzs : z.cells.size = size := by rw [← hc2, hzr.1]; simp
              obtain ⟨l', h1, h2⟩ := fill_sound (ρ := ρ) (place' := fun i => some (i * size, size)) (fun i p h => h) hp
                (cells' := (Array.range (len * size)).map fun i => (z.cells)[i % z.cells.size]!) (by rw [← hzs, range_repl]; exact repl_rel hzr len) hb
              refine fresh_cells (arr := l') (el := elem) (v' := .slice (some ⟨w.heap.size, 0, none⟩) len len) ?_ h2
                (fun k hk => slice_mk (L := ⟨w.heap.size, 0, l.length, 0, l'.size⟩) (by simp) rfl (Nat.le_refl _) (fun _ => rfl) (.inl rfl) (fun h => absurd rfl h))
              have hps : (ps.map fun x => (x.1, ar.eval x.2)).toList = ps.toList.map fun p => (p.1, ar.eval p.2) := by simp
              have hlim : ¬ (len * size > 2 ^ 24) := by omega
              rw [← hps] at h1
              by_cases h0 : len * size = 0
              · rw [h0] at h1
                simp only [execOp, Instr.buildSlice, Sem.run_bind, run_und hu, Result.andThen_ok, run_szOf hs, if_neg hlim, Sem.run_pure, if_pos h0]
                rw [h0]
                have hr0 : ∀ f : Nat → Value, (Array.range 0).map f = #[] := fun f => by simp
                have h1' : Instr.fill (fun i => some (i * size, size)) ((Array.range 0).map fun x => (#[] : Array Value)[x % (#[] : Array Value).size]!) (ps.map fun x => (x.1, ar.eval x.2)).toList = some l' := by
                  rw [hr0] at h1 ⊢; exact h1
                simp only [h1', Sem.run_bind, newRow, run_newObj, Result.andThen_ok, Sem.run_pure]
                rfl
              · simp only [execOp, Instr.buildSlice, Sem.run_bind, run_und hu, Result.andThen_ok, run_szOf hs, if_neg hlim, Sem.run_pure, if_neg h0, run_zeroOf hz, h1, newRow, run_newObj]
                rfl
          · cases hb
        · cases hb
  | makeSlice t l c =>
    simp only [freshD] at h
    split at h
    · rename_i elem lv cv hu hl hc
      split at h
      · rename_i size bytes z hs hby hz
        cases hcc : (decide (0 ≤ lv) && decide (lv ≤ cv) && decide ((bytes : Int) * cv ≤ (most : Nat)) && decide (cv ≤ (most : Nat)) && Nat.beq (cellsOf z).length size) with
        | false => rw [hcc] at h; cases h
        | true =>
          rw [hcc] at h
          simp only [cond_true, Option.some.injEq, Prod.mk.injEq] at h
          obtain ⟨rfl, rfl⟩ := h
          simp only [Bool.and_eq_true, decide_eq_true_eq] at hcc
          obtain ⟨⟨⟨⟨c1, c2⟩, c3⟩, c4⟩, c5⟩ := hcc
          have hc5 := Nat.eq_of_beq_eq_true c5
          have hzr := cells_rel (zero_refl (ρ := ρ) hz)
          have hzs : z.cells.size = size := by rw [← hc5, hzr.1]; simp
          have e1 := eval_sound hr hl
          have e2 := eval_sound hr hc
          generalize hg1 : ar.eval l = l' at e1
          generalize hg2 : ar.eval c = c' at e2
          cases e1; cases e2
          obtain ⟨i, hi, hib⟩ := info_bytes hby
          have hm : most = 1099511627776 := rfl
          rw [hm] at c3 c4
          have w1 : IntKind.i64.wrap lv = lv := by unfold IntKind.wrap; simp [IntKind.bits, IntKind.signed]; omega
          have w2 : IntKind.i64.wrap cv = cv := by unfold IntKind.wrap; simp [IntKind.bits, IntKind.signed]; omega
          refine fresh_cells (arr := ((Array.range (cv.toNat * size)).map fun i => (z.cells)[i % z.cells.size]!)) (el := elem) (v' := .slice (some ⟨w.heap.size, 0, none⟩) lv.toNat cv.toNat) ?_
            (by rw [← hzs, range_repl]; exact repl_rel hzr _)
            (fun k hk => slice_mk (Env.ext_same _ _ _) rfl (Nat.le_refl _) (fun _ => rfl) (.inl rfl) (fun h => absurd rfl h))
          have hbad : ¬ (((decide (cv < 0) || decide ((i.bytes : Int) * cv > 2 ^ 48)) || decide (lv < 0) || decide (lv > cv)) = true) := by
            rw [hib]; simp; omega
          by_cases h0 : cv.toNat * size = 0
          · simp only [execOp, Instr.makeSlice, Sem.run_bind, run_und hu, Result.andThen_ok, hg1, hg2, asInt, asIntOf, Sem.run_pure, run_typeInfo hi, w1, w2, if_neg hbad, run_askRoom, run_szOf hs, if_pos h0, newRow, run_newObj]
            have hr0 : ∀ f : Nat → Value, (Array.range 0).map f = #[] := fun f => by simp
            rw [h0, hr0, hr0]
            rfl
          · simp only [execOp, Instr.makeSlice, Sem.run_bind, run_und hu, Result.andThen_ok, hg1, hg2, asInt, asIntOf, Sem.run_pure, run_typeInfo hi, w1, w2, if_neg hbad, run_askRoom, run_szOf hs, if_neg h0, run_zeroOf hz, newRow, run_newObj]
            rfl
      · cases h
    · cases h
  | makeMap t r =>
    have key : b = .map 0 [] ∧ f = (fun k => .map (some k)) ∧ (execOp ar.eval ⟨dst, .makeMap t r, ty, pos, after, guard⟩).run P w = .ok (.value (.map (some w.heap.size))) (push w (.map #[] 0)) := by
      cases r with
      | none =>
        simp only [freshD, Option.some.injEq, Prod.mk.injEq] at h
        exact ⟨h.1.symm, h.2.symm, by simp [execOp, Instr.makeMap, push]⟩
      | some r =>
        simp only [freshD] at h
        split at h
        · rename_i kt et k n hu hx
          simp only [Option.some.injEq, Prod.mk.injEq] at h
          have e1 := eval_sound hr hx
          generalize hg : ar.eval r = r' at e1
          cases e1
          exact ⟨h.1.symm, h.2.symm, by simp [execOp, Instr.makeMap, run_und hu, hg, asInt, asIntOf, push]⟩
        · cases h
    obtain ⟨rfl, rfl, hrun⟩ := key
    exact ⟨⟨_, _, ⟨w.heap.size, 0, 0, 0, 0⟩, hrun, rfl, fun k hk => ⟨⟨#[], 0, push_new w _, ⟨rfl, fun i k v e h => by simp at h, fun i e h => by simp at h⟩⟩, .map (L := ⟨w.heap.size, 0, 0, 0, 0⟩) (by simp)⟩⟩⟩
  | _ => simp [freshD] at h
end Go.Hg
