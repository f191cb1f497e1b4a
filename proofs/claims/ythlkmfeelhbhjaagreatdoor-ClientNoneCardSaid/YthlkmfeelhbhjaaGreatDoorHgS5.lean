/- The operations that reckon and read, on: operators, conversions, maps, aggregates; all of them. -/
import Derived.Test.YthlkmfeelhbhjaaGreatDoorHgS4
import Derived.Laws.BytesString
set_option linter.unusedVariables false
set_option linter.unusedSimpArgs false
namespace Go.Hg
variable {P : Program} {ρ : Env} {s : St} {w : World}

theorem pureV_sound {m : Sem Value} {v : Value} (h : pureV m = some v) : m.run P w = .ok v w ∧ VR ρ v v := by
  unfold pureV at h
  cases hp : pureOf m with
  | none => rw [hp] at h; cases h
  | some u =>
    rw [hp] at h; simp only at h
    cases hs : scalar u with
    | false => rw [hs] at h; cases h
    | true => rw [hs] at h; injection h with h; subst h; exact ⟨pureOf_sound hp, scalar_refl ρ hs⟩

def bk : Value → Nat
  | .int _ _ => 1
  | .float _ _ => 2
  | .complex _ _ _ => 3
  | .string _ => 4
  | _ => 0

theorem bk_rel {x x' : Value} (h : VR ρ x x') : bk x' = bk x := by cases h <;> rfl

theorem binOp_eql {t : TypeId} {x y : Value} (h : bk x ≠ bk y ∨ bk x = 0) : binOp .eql t x y = (do pure (.bool (← Op.equal t x y))) := by
  cases x <;> cases y <;> first | rfl | (exfalso; revert h; simp [bk])

theorem binOp_neq {t : TypeId} {x y : Value} (h : bk x ≠ bk y ∨ bk x = 0) : binOp .neq t x y = (do pure (.bool (!(← Op.equal t x y)))) := by
  cases x <;> cases y <;> first | rfl | (exfalso; revert h; simp [bk])

theorem guard_no {op : BinOp} {t : TypeId} {xo yo : Operand} {x y : Value} (h : bk x ≠ 0) : (eqGuard op t xo yo x y).run P w = .ok () w := by
  cases op <;> simp only [eqGuard] <;> (try rfl) <;> (cases x <;> first | (exfalso; exact h rfl) | (cases y <;> rfl))

theorem eqD_kinds {t : TypeId} {x y : Value} {b : Bool} (h : eqD P t x y = some b) (hn : ¬ (bk x = 1 ∧ bk y = 1)) (hs : ¬ (bk x = 4 ∧ bk y = 4)) : bk x ≠ bk y ∨ bk x = 0 := by
  unfold eqD at h
  split at h <;> simp_all [bk]

theorem bin_sound {op : BinOp} {t : TypeId} {xo yo : Operand} {x x' y y' v : Value} (hx : VR ρ x x') (hy : VR ρ y y') (h : binD P op t xo yo x y = some v) :
    ∃ v', ((do eqGuard op t xo yo x' y'; binOp op t x' y') : Sem Value).run P w = .ok v' w ∧ VR ρ v v' := by
  unfold binD at h
  split at h
  · cases hx; cases hy
    obtain ⟨a, b⟩ := pureV_sound (P := P) (w := w) (ρ := ρ) h
    exact ⟨v, by rw [Sem.run_bind, guard_no (by simp [bk])]; exact a, b⟩
  · cases hx; cases hy
    obtain ⟨a, b⟩ := pureV_sound (P := P) (w := w) (ρ := ρ) h
    exact ⟨v, by rw [Sem.run_bind, guard_no (by simp [bk])]; exact a, b⟩
  · cases hx; cases hy
    obtain ⟨z, hz⟩ : ∃ z, Op.maxDepth = z + 1 := ⟨9999, rfl⟩
    split at h
    · rename_i hu
      have hu' : und P t = some (.interface _) := hu
      have hv : v = .bool true := by cases xo <;> cases yo <;> simp at h <;> exact h.symm
      subst hv
      refine ⟨.bool true, ?_, .bool _⟩
      cases xo <;> cases yo <;> first
        | (simp at h; done)
        | simp [eqGuard, binOp, Op.equal, hz, Op.equalIn, run_und hu']
    · rename_i hu
      have hu' : und P t = some (.interface _) := hu
      have hv : v = .bool false := by cases xo <;> cases yo <;> simp at h <;> exact h.symm
      subst hv
      refine ⟨.bool false, ?_, .bool _⟩
      cases xo <;> cases yo <;> first
        | (simp at h; done)
        | simp [eqGuard, binOp, Op.equal, hz, Op.equalIn, run_und hu']
    · cases h
  · rename_i h1 h2 h3
    have hn : ¬ (bk x = 1 ∧ bk y = 1) := by
      rintro ⟨a, b⟩
      cases x <;> simp [bk] at a; cases y <;> simp [bk] at b
      exact h1 _ _ _ _ rfl rfl
    have hs : ¬ (bk x = 4 ∧ bk y = 4) := by
      rintro ⟨a, b⟩
      cases x <;> simp [bk] at a; cases y <;> simp [bk] at b
      exact h2 _ _ rfl rfl
    split at h
    · cases he : eqD P t x y with
      | none => rw [he] at h; cases h
      | some b =>
        rw [he] at h; injection h with h; subst h
        obtain ⟨a, g⟩ := eqD_sound (w := w) hx hy he
        have hk := eqD_kinds he hn hs
        rw [← bk_rel hx, ← bk_rel hy] at hk
        exact ⟨.bool b, by rw [Sem.run_bind, g, Result.andThen_ok, binOp_eql hk]; simp [a], .bool _⟩
    · cases he : eqD P t x y with
      | none => rw [he] at h; cases h
      | some b =>
        rw [he] at h; injection h with h; subst h
        obtain ⟨a, g⟩ := eqD_sound (w := w) hx hy he
        have hk := eqD_kinds he hn hs
        rw [← bk_rel hx, ← bk_rel hy] at hk
        exact ⟨.bool (!b), by rw [Sem.run_bind, g, Result.andThen_ok, binOp_neq hk]; simp [a], .bool _⟩
    · cases h

theorem un_sound {op : UnOp} {x x' v : Value} (hx : VR ρ x x') (h : unD op x = some v) : ∃ v', (Op.unary op x').run P w = .ok v' w ∧ VR ρ v v' := by
  unfold unD at h
  split at h
  · cases hx; obtain ⟨a, b⟩ := pureV_sound (P := P) (w := w) (ρ := ρ) h; exact ⟨v, a, b⟩
  · cases hx; obtain ⟨a, b⟩ := pureV_sound (P := P) (w := w) (ρ := ρ) h; exact ⟨v, a, b⟩
  · cases h

/-! ### Conversions -/
theorem bytesOfCells_sound : ∀ (l : List Value) (acc b : ByteArray), bytesOfCells l acc = some b → ∃ ns : List Int, l = ns.map (Value.int .u8) ∧ b = ns.foldl (fun r n => r.push (UInt8.ofNat n.toNat)) acc
  | [], acc, b, h => by simp only [bytesOfCells] at h; injection h with h; subst h; exact ⟨[], rfl, rfl⟩
  | v :: l, acc, b, h => by
    cases v with
    | int k n =>
      cases k with
      | u8 =>
        simp only [bytesOfCells] at h
        obtain ⟨ns, rfl, h3⟩ := bytesOfCells_sound _ _ _ h
        exact ⟨n :: ns, rfl, h3⟩
      | _ => simp [bytesOfCells] at h
    | _ => simp [bytesOfCells] at h

theorem ints_rel : ∀ {ns : List Int} {l' : List Value}, VRL ρ (ns.map (Value.int .u8)) l' → l' = ns.map (Value.int .u8)
  | [], l', h => h.cases_nil
  | n :: ns, l', h => by
    obtain ⟨v', m, rfl, h1, h2⟩ := VRL.cases_cons h
    cases h1
    rw [ints_rel h2]; rfl

theorem conv_sound (hs : Rel ρ s w) {src dst : TypeId} {x x' v : Value} (hx : VR ρ x x') (h : convD P src dst x s = some v) : ∃ v', (convert src dst x').run P w = .ok v' w ∧ VR ρ v v' := by
  unfold convD at h
  split at h
  · rename_i ds k j n hu hd
    cases hx; injection h with h; subst h
    refine ⟨.int k (k.wrap n), ?_, .int _ _⟩
    simp only [convert, Sem.run_bind, run_und hu, run_und hd, Result.andThen_ok]
    rfl
  · rename_i ds b hu hd
    cases hx; injection h with h; subst h
    refine ⟨.string b, ?_, .string _⟩
    simp only [convert, Sem.run_bind, run_und hu, run_und hd, Result.andThen_ok]
    cases ds <;> rfl
  · rename_i e a len cap hu hd
    split at h
    · rename_i he
      cases hx with
      | nilSlice =>
        simp only at h; injection h with h; subst h
        refine ⟨.string .empty, ?_, .string _⟩
        simp [convert, run_und hu, run_und hd, run_und he, Conv.bytesToString]
      | slice off _ _ cap' hL hle h0 ht hr =>
        rename_i k L
        simp only at h
        cases hc : s.cells k with
        | none => rw [hc] at h; cases h
        | some y =>
          obtain ⟨n, g, c⟩ := y
          rw [hc] at h; simp only at h
          obtain ⟨_, hsz, hg, arr, el, fz, hb, hroom, hle', hfree, hcr⟩ := cells_of hs hc hL
          cases hn : loadN c off len with
          | none => rw [hn] at h; cases h
          | some l =>
            rw [hn] at h; simp only at h
            cases hbb : bytesOfCells l .empty with
            | none => rw [hbb] at h; cases h
            | some b =>
              rw [hbb] at h; injection h with h; subst h
              obtain ⟨hlen, l', hv, hl'⟩ := loadN_sound hcr _ _ _ hn
              obtain ⟨ns, rfl, hb2⟩ := bytesOfCells_sound _ _ _ hbb
              have := ints_rel hv; subst this
              have hlen' : len = (ns.map (Value.int .u8)).length := hlen.symm
              refine ⟨.string b, ?_, .string _⟩
              rw [run_convert_bytes_string w src dst e _ len cap' hu he hd, hb2]
              refine run_bytesToString w _ len cap' ns ?_
              rw [hlen']
              have := run_cells (P := P) hb hl'
              rw [this]
      | sliceEnd off off' hL =>
        rename_i k L
        simp only at h
        cases hc : s.cells k with
        | none => rw [hc] at h; cases h
        | some y =>
          obtain ⟨n, g, c⟩ := y
          rw [hc] at h; simp only [loadN, bytesOfCells] at h; injection h with h; subst h
          refine ⟨.string .empty, ?_, .string _⟩
          rw [run_convert_bytes_string w src dst e _ 0 0 hu he hd]
          exact run_bytesToString w _ 0 0 [] (by rfl)
    · cases h
  · cases h

/-! ### Maps -/
theorem run_checkKey {kt : TypeId} {k : Value} {e : Bool} {n : Nat} (h : keyOk P kt k = true) : (Instr.checkKey e (n + 1) kt k).run P w = .ok () w := by
  unfold keyOk at h
  split at h
  · rename_i hu; simp [Instr.checkKey, run_und hu]
  · rename_i hu; simp [Instr.checkKey, run_und hu]
  · rename_i hu; simp [Instr.checkKey, run_und hu]
  · cases h

theorem sameNow_key {kt : TypeId} {d : TypeDesc} {k k' : Value} {b : Bool} (h : keyOk P kt k = true) (hd : und P kt = some d) (hs : scalarEq k k' = some b) : Instr.sameNow d k k' = some b := by
  unfold keyOk at h
  split at h
  · rename_i hu; rw [hd] at hu; injection hu with hu; subst hu
    cases k' <;> simp only [scalarEq] at hs <;> first | cases hs | skip
    rename_i j n j' n'
    by_cases e : j = j'
    · simp [e] at hs; simp [Instr.sameNow, e, hs]
    · simp [e] at hs
  · rename_i hu; rw [hd] at hu; injection hu with hu; subst hu
    cases k' <;> simp only [scalarEq] at hs <;> first | exact hs | cases hs
  · rename_i hu; rw [hd] at hu; injection hu with hu; subst hu
    cases k' <;> simp only [scalarEq] at hs <;> first | exact hs | cases hs
  · cases h

theorem findNow_sound {kt : TypeId} {d : TypeDesc} {k : Value} (hk : keyOk P kt k = true) (hd : und P kt = some d) :
    ∀ (es : List (Value × Value)) (es' : List MapEntry) (i : Nat) (r : Option (Nat × Value)), es'.length = es.length →
      (∀ (j : Nat) (k v : Value) (e : MapEntry), es[j]? = some (k, v) → es'[j]? = some e → e.key = k ∧ keyV k = true ∧ VR ρ v e.val) → findKeyD k es i = some r →
      (r = none ∧ Instr.findNow d k es' i = some none) ∨ (∃ m v e, r = some (i + m, v) ∧ es'[m]? = some e ∧ (∃ k', es[m]? = some (k', v) ∧ scalarEq k k' = some true) ∧ Instr.findNow d k es' i = some (some (i + m, e.val)) ∧ VR ρ v e.val)
  | [], es', i, r, hl, _, h => by
    simp only [findKeyD] at h; injection h with h; subst h
    have : es' = [] := by simpa using hl
    subst this
    exact .inl ⟨rfl, rfl⟩
  | (k', v) :: es, es', i, r, hl, he, h => by
    cases es' with
    | nil => simp at hl
    | cons e es' =>
      obtain ⟨h1, h2, h3⟩ := he 0 k' v e rfl rfl
      simp only [findKeyD] at h
      cases hq : scalarEq k k' with
      | none => rw [hq] at h; cases h
      | some q =>
        rw [hq] at h
        have hsn := sameNow_key hk hd hq
        cases q with
        | true =>
          simp only at h; injection h with h; subst h
          refine .inr ⟨0, v, e, by simp, rfl, ⟨k', rfl, hq⟩, ?_, h3⟩
          simp [Instr.findNow, h1, hsn]
        | false =>
          simp only at h
          rcases findNow_sound hk hd es es' (Nat.succ i) r (by simpa using hl) (fun j a b c x y => he (j + 1) a b c (by simpa using x) (by simpa using y)) h with ⟨a, b⟩ | ⟨m, v', e', a, b, c, d', f⟩
          · exact .inl ⟨a, by simp [Instr.findNow, h1, hsn]; exact b⟩
          · refine .inr ⟨m + 1, v', e', by rw [a]; congr 2; omega, by simpa using b, by simpa using c, ?_, f⟩
            simp only [Instr.findNow, h1, hsn]
            rw [d']; congr 3; omega

theorem run_findKey {kt : TypeId} {d : TypeDesc} {k : Value} {es : List MapEntry} {r : Option (Nat × Value)} (hd : und P kt = some d) (h : Instr.findNow d k es 0 = some r) :
    (Instr.findKey kt k es).run P w = .ok r w := by
  simp [Instr.findKey, run_und hd, h]

theorem key_und {kt : TypeId} {k : Value} (h : keyOk P kt k = true) : ∃ d, und P kt = some d := by
  unfold keyOk at h
  split at h <;> first | exact ⟨_, ‹_›⟩ | cases h

theorem key_rel {kt : TypeId} {k k' : Value} (h : keyOk P kt k = true) (hv : VR ρ k k') : k = k' ∧ keyV k = true := by
  unfold keyOk at h
  split at h
  · cases hv; exact ⟨rfl, rfl⟩
  · cases hv; exact ⟨rfl, rfl⟩
  · cases hv; exact ⟨rfl, rfl⟩
  · cases h

/-- What a map reads as. -/
theorem mapOf_sound (hs : Rel ρ s w) {m m' : Value} {es : List (Value × Value)} (hm : VR ρ m m') (h : mapOf s m = some es) :
    ∃ es', (m' = .map none ∧ es = [] ∧ es' = #[] ∨ ∃ b clock, m' = .map (some b) ∧ w.heap[b]? = some (.map es' clock)) ∧ ∃ clock, MapR ρ es es' clock := by
  unfold mapOf at h
  split at h
  · cases hm; injection h with h; subst h
    exact ⟨#[], .inl ⟨rfl, rfl, rfl⟩, 0, by simp, fun i k v e h => by simp at h, fun i e h => by simp at h⟩
  · rename_i r
    cases hm with
    | map hL =>
      rename_i L
      split at h
      · rename_i st es0 hg
        injection h with h; subst h
        obtain ⟨L', a, b⟩ := hs.obj _ _ hg
        rw [hL] at a; injection a with a; subst a
        obtain ⟨es', clock, c, d⟩ := b
        exact ⟨es', .inr ⟨_, clock, rfl, c⟩, clock, d⟩
      · cases h
  · cases h

theorem lookup_run {t kt et : TypeId} {m' k v : Value} {ok b : Bool} {es' : Array MapEntry} {d : TypeDesc} {r : Option (Nat × Value)}
    (hmm : (m' = .map none ∧ es' = #[]) ∨ ∃ b clock, m' = .map (some b) ∧ w.heap[b]? = some (.map es' clock)) (hu : und P t = some (.map kt et)) (hko : keyOk P kt k = true) (hd : und P kt = some d)
    (hfn : Instr.findNow d k es'.toList 0 = some r) (hvb : (match r with
      | some (_, v) => pure (v, true)
      | none => do pure (← zeroValue et, false) : Sem (Value × Bool)).run P w = .ok (v, b) w) :
    (Instr.lookup t m' k ok).run P w = .ok (cond ok (.tuple #[v, .bool b]) v) w := by
  have hc : ∀ e, (Instr.checkKey e 10000 kt k).run P w = .ok () w := fun e => run_checkKey (n := 9999) hko
  have hf := run_findKey (w := w) hd hfn
  rcases hmm with ⟨rfl, rfl⟩ | ⟨a, cl, rfl, hb⟩
  · cases r with
    | none =>
      simp only [Sem.run_bind] at hvb
      simp only [Instr.lookup, Sem.run_bind, run_und hu, Result.andThen_ok, Sem.run_pure, hc, hf]
      cases hz : (zeroValue et).run P w with
      | halt x w' => rw [hz] at hvb; cases hvb
      | ok z w' =>
        rw [hz] at hvb; simp only [Result.andThen_ok, Sem.run_pure] at hvb ⊢
        injection hvb with h1 h2; injection h1 with h1 h3; subst h1; subst h2; subst h3
        cases ok <;> rfl
    | some x =>
      simp only [Sem.run_pure] at hvb
      injection hvb with h1 h2; injection h1 with h1 h3; subst h1; subst h3
      simp only [Instr.lookup, Sem.run_bind, run_und hu, Result.andThen_ok, Sem.run_pure, hc, hf]
      cases ok <;> rfl
  · have hg : (getObj a).run P w = .ok (.map es' cl) w := by simp [getObj, Sem.run, hb]
    cases r with
    | none =>
      simp only [Sem.run_bind] at hvb
      simp only [Instr.lookup, Sem.run_bind, run_und hu, Result.andThen_ok, Sem.run_pure, hg, hc, hf]
      cases hz : (zeroValue et).run P w with
      | halt x w' => rw [hz] at hvb; cases hvb
      | ok z w' =>
        rw [hz] at hvb; simp only [Result.andThen_ok, Sem.run_pure] at hvb ⊢
        injection hvb with h1 h2; injection h1 with h1 h3; subst h1; subst h2; subst h3
        cases ok <;> rfl
    | some x =>
      simp only [Sem.run_pure] at hvb
      injection hvb with h1 h2; injection h1 with h1 h3; subst h1; subst h3
      simp only [Instr.lookup, Sem.run_bind, run_und hu, Result.andThen_ok, Sem.run_pure, hg, hc, hf]
      cases ok <;> rfl

theorem lookup_sound (hs : Rel ρ s w) {t : TypeId} {m m' k k' v : Value} {ok : Bool} (hm : VR ρ m m') (hk : VR ρ k k') (h : lookupD P t m k ok s = some v) :
    ∃ v', (Instr.lookup t m' k' ok).run P w = .ok v' w ∧ VR ρ v v' := by
  unfold lookupD at h
  split at h
  · rename_i kt et hu
    split at h
    · rename_i es hko hmo
      obtain ⟨rfl, _⟩ := key_rel hko hk
      obtain ⟨d, hd⟩ := key_und hko
      obtain ⟨es', hmm, clock, hmr⟩ := mapOf_sound hs hm hmo
      have hmm' : (m' = .map none ∧ es' = #[]) ∨ ∃ b clock, m' = .map (some b) ∧ w.heap[b]? = some (.map es' clock) := by
        rcases hmm with ⟨a, _, b⟩ | h
        · exact .inl ⟨a, b⟩
        · exact .inr h
      cases hf : findKeyD k es 0 with
      | none => rw [hf] at h; cases h
      | some r =>
        rw [hf] at h
        have hfn := findNow_sound (ρ := ρ) hko hd es es'.toList 0 r (by simpa using hmr.size) (fun j a b c x y => hmr.ent j a b c x (by simpa using y)) hf
        rcases hfn with ⟨rfl, hfn⟩ | ⟨i, u, e, rfl, _, _, hfn, hvr⟩
        · simp only at h
          cases hz : zeroOf P et with
          | none => rw [hz] at h; cases h
          | some z =>
            rw [hz] at h; simp only at h; injection h with h; subst h
            refine ⟨cond ok (.tuple #[z, .bool false]) z, lookup_run hmm' hu hko hd hfn (by simp [run_zeroOf hz]), ?_⟩
            cases ok
            · exact zero_refl hz
            · exact .tuple' (.cons (zero_refl hz) (.cons (.bool _) .nil))
        · simp only at h; injection h with h; subst h
          refine ⟨cond ok (.tuple #[e.val, .bool true]) e.val, lookup_run hmm' hu hko hd hfn (by simp), ?_⟩
          cases ok
          · exact hvr
          · exact .tuple' (.cons hvr (.cons (.bool _) .nil))
    · cases h
  · cases h

theorem lenB_sound (hs : Rel ρ s w) {t : TypeId} {x x' v : Value} {ts : Array TypeId} {ty : TypeId} {as : Array Value} (hx : VR ρ x x') (ht : ts[0]? = some t) (ha : as[0]? = some x') (h : lenBD P t x s = some v) :
    ∃ v', (Builtin.len_ ts ty as).run P w = .ok v' w ∧ VR ρ v v' := by
  unfold Builtin.len_
  simp only [ht, ha]
  unfold lenBD at h
  split at h
  · rename_i b hu; cases hx; injection h with h; subst h
    exact ⟨_, by simp [run_und hu, goInt], .int _ _⟩
  · rename_i n e hu; injection h with h; subst h
    refine ⟨goInt n, ?_, .int _ _⟩
    simp only [Sem.run_bind, run_und hu, Result.andThen_ok]
    cases x' <;> rfl
  · rename_i arr hu
    split at h
    · rename_i n e hu2; injection h with h; subst h
      refine ⟨goInt n, ?_, .int _ _⟩
      simp only [Sem.run_bind, run_und hu, Result.andThen_ok]
      cases x' <;> simp [run_und hu2]
    · cases h
  · rename_i e a n c hu; injection h with h; subst h
    cases hx <;> exact ⟨_, by simp [run_und hu, goInt], .int _ _⟩
  · rename_i x _ _ _ _ hu
    cases hm : mapOf s x with
    | none => rw [hm] at h; cases h
    | some es =>
      rw [hm] at h; injection h with h; subst h
      obtain ⟨es', hmm, clock, hmr⟩ := mapOf_sound hs hx hm
      rcases hmm with ⟨rfl, rfl, _⟩ | ⟨b, cl, rfl, hb⟩
      · exact ⟨_, by simp [run_und hu, goInt], .int _ _⟩
      · refine ⟨goInt es'.size, by simp [run_und hu, getObj, Sem.run, hb], ?_⟩
        rw [hmr.size]; exact .int _ _
  · cases h

theorem capB_sound (hs : Rel ρ s w) {t : TypeId} {x x' v : Value} {ts : Array TypeId} {ty : TypeId} {as : Array Value} (hx : VR ρ x x') (ht : ts[0]? = some t) (ha : as[0]? = some x') (h : capBD P t x s = some v) :
    ∃ v', (Builtin.cap_ ts ty as).run P w = .ok v' w ∧ VR ρ v v' := by
  unfold Builtin.cap_
  simp only [ht, ha]
  unfold capBD at h
  split at h
  · rename_i elem a n c hu
    cases hz : szOf P elem with
    | none => rw [hz] at h; cases h
    | some size =>
      rw [hz] at h; simp only at h
      split at h
      · rename_i he
        injection h with h; subst h
        cases hx with
        | nilSlice => exact ⟨_, by simp [run_und hu, goInt], .int _ _⟩
        | slice off _ _ cap' hL hle h0 ht' hr =>
          obtain ⟨e1, _, _⟩ := exact_rel hs hL h0 ht' hr he
          have := e1 rfl; subst this
          exact ⟨_, by simp [run_und hu, goInt], .int _ _⟩
        | sliceEnd off off' hL => exact ⟨_, by simp [run_und hu, goInt], .int _ _⟩
      · cases h
  · cases h

theorem typeAssert_sound {x x' v : Value} {xt t : TypeId} {ok : Bool} (hx : VR ρ x x') (h : typeAssertD P x t ok = some v) : ∃ v', (Instr.typeAssert x' xt t ok).run P w = .ok v' w ∧ VR ρ v v' := by
  unfold typeAssertD at h
  split at h
  · cases h
  · rename_i d hni hu
    split at h
    · rename_i t0 v0
      cases hx with
      | iface _ hv =>
        rename_i v0'
        by_cases e : t0 = t
        · subst e
          rw [Nat.beq_refl] at h; simp only [cond_true] at h; injection h with h; subst h
          refine ⟨cond ok (.tuple #[v0', .bool true]) v0', ?_, ?_⟩
          · simp only [Instr.typeAssert, Sem.run_bind, run_und hu, Result.andThen_ok]
            cases d <;> first | exact (hni _ hu).elim | (cases ok <;> simp)
          · cases ok
            · exact hv
            · exact .tuple' (.cons hv (.cons (.bool _) .nil))
        · have hne : Nat.beq t0 t = false := by
            cases hbb : Nat.beq t0 t with
            | false => rfl
            | true => exact absurd (Nat.eq_of_beq_eq_true hbb) e
          rw [hne] at h; simp only [cond_false] at h
          cases ok with
          | false => cases h
          | true =>
            simp only [cond_true] at h
            cases hz : zeroOf P t with
            | none => rw [hz] at h; cases h
            | some z =>
              rw [hz] at h; injection h with h; subst h
              refine ⟨.tuple #[z, .bool false], ?_, .tuple' (.cons (zero_refl hz) (.cons (.bool _) .nil))⟩
              simp only [Instr.typeAssert, Sem.run_bind, run_und hu, Result.andThen_ok]
              cases d <;> first | exact (hni _ hu).elim | simp [e, run_zeroOf hz]
    · cases h
  · cases h
end Go.Hg
