/- append. -/
import Derived.Test.YthlkmfeelhbhjaaGreatDoorHgS9
set_option linter.unusedVariables false
set_option linter.unusedSimpArgs false
namespace Go.Hg
variable {P : Program} {ρ : Env} {s : St} {w : World}

/-- The appended elements, in the model's words. -/
abbrev appendedS (zeros : Bool) (elem : TypeId) (size n : Nat) (x : Value) : Sem (Array Value) :=
  if !zeros then Builtin.firstCells size n x
  else if n * size = 0 then pure #[]
  else do pure (Builtin.zeroCells (← zeroValue elem).cells n)

theorem growBy_le (newLen : Nat) : ∀ (r c : Nat), c < newLen → Builtin.growBy newLen r c ≤ newLen + (newLen + 768) / 4
  | 0, c, h => by simp only [Builtin.growBy]; omega
  | r + 1, c, h => by
    simp only [Builtin.growBy]
    split
    · omega
    · by_cases h2 : c + (c + 768) / 4 < newLen
      · exact growBy_le newLen r _ h2
      · cases r with
        | zero => simp only [Builtin.growBy]; omega
        | succ r => simp only [Builtin.growBy]; rw [if_pos (by omega)]; omega

theorem nextcap_le {need old : Nat} (h : old < need) : Builtin.nextslicecap need old ≤ 2 * need ∨ (256 ≤ old ∧ Builtin.nextslicecap need old ≤ need + (need + 768) / 4) := by
  unfold Builtin.nextslicecap
  split
  · left; omega
  · split
    · left; omega
    · right; exact ⟨by omega, growBy_le _ _ _ h⟩

theorem room_ok {need old bytes : Nat} (h : old < need) (hb : need * bytes ≤ most) : ¬ (Builtin.nextslicecap need old * bytes > 2 ^ 48) := by
  have hm : most = 1099511627776 := rfl
  rw [hm] at hb
  rcases nextcap_le h with h1 | ⟨h1, h2⟩
  · have : Builtin.nextslicecap need old * bytes ≤ 2 * need * bytes := Nat.mul_le_mul_right _ h1
    rw [Nat.mul_assoc] at this
    omega
  · have h3 : Builtin.nextslicecap need old ≤ 5 * need := by omega
    have : Builtin.nextslicecap need old * bytes ≤ 5 * need * bytes := Nat.mul_le_mul_right _ h3
    rw [Nat.mul_assoc] at this
    omega

/-- What the model's append does behind its arguments. -/
def tailS (elem size : Nat) (zeros : Bool) (base : Option Addr) (sLen sCap n : Nat) (sv x : Value) : Sem Value :=
  let need := sLen + n
  if need ≤ sCap then do
    let new ← appendedS zeros elem size n x
    if let some a := base then storeCells (a.add (sLen * size)) new.toList
    pure (.slice base need sCap)
  else do
    if (need : Int) > IntKind.i64.max ∧ (zeros ∨ (← typeInfo elem).bytes = 0) then runtimePanic (.error "growslice: len out of range")
    if Builtin.nextslicecap need sCap * (← typeInfo elem).bytes > 2 ^ 48 then (if zeros then runtimePanic (.error "growslice: len out of range") else do
      if !(← Builtin.mayShare size sLen n base x) then mark .noRoom
      unsupported (.resourceLimit "append: a slice or a string whose bytes no memory bears"))
    let newCap ← choose (.appendCap need sCap elem)
    askRoom (newCap * (← typeInfo elem).bytes)
    let old ← Builtin.firstCells size sLen sv
    let new ← appendedS zeros elem size n x
    let rest := Builtin.zeroCells (← zeroValue elem).cells (newCap - need)
    pure (.slice (some (← newRow elem (old ++ new ++ rest))) need newCap)

/-- The second argument of append, and how many elements it brings. -/
def ArgOk (P : Program) (w : World) (xt : Option TypeId) (elem : TypeId) (x : Value) (n : Nat) (zeros : Bool) : Prop :=
  (zeros = false ∧ (xt = none ∨ ∃ t d, xt = some t ∧ und P t = some d ∧ (d matches .int _) = false) ∧ (Builtin.lenOf x).run P w = .ok n w) ∨
  (zeros = true ∧ ∃ t k l i, xt = some t ∧ und P t = some (.int k) ∧ x = .int .i64 l ∧ IntKind.i64.wrap l = l ∧ ¬ l < 0 ∧ P.info? elem = some i ∧ ¬ (l * (i.bytes : Int) > 2 ^ 48) ∧ n = l.toNat)

theorem append_tail {ts : Array TypeId} {ty sType elem : TypeId} {as : Array Value} {x : Value} {base : Option Addr} {sLen sCap size n : Nat} {zeros : Bool} (ht : ts[0]? = some sType) (ha : as[0]? = some (.slice base sLen sCap)) (hb : as[1]? = some x)
    (hu : und P sType = some (.slice elem)) (hz : szOf P elem = some size) (hx : ArgOk P w ts[1]? elem x n zeros) :
    (Builtin.append_ ts ty as).run P w = (tailS elem size zeros base sLen sCap n (.slice base sLen sCap) x).run P w := by
  rcases hx with ⟨rfl, hxt, hl⟩ | ⟨rfl, t, k, l, i, hxt, hk, rfl, w1, g1, hi, g2, rfl⟩
  · unfold Builtin.append_ tailS appendedS
    rcases hxt with hxt | ⟨t, d, hxt, hd, hni⟩
    · simp only [ht, ha, hb, hxt, Sem.run_bind, run_und hu, Result.andThen_ok, run_szOf hz, Sem.run_pure, Bool.false_eq_true, if_false, hl]
      try rfl
    · simp only [ht, ha, hb, hxt, Sem.run_bind, run_und hu, run_und hd, Result.andThen_ok, run_szOf hz, Sem.run_pure]
      cases d <;> first
        | (simp at hni; done)
        | (simp only [Bool.false_eq_true, if_false, Sem.run_bind, hl, Result.andThen_ok]; try rfl)
  · unfold Builtin.append_ tailS appendedS
    simp only [ht, ha, hb, hxt, Sem.run_bind, run_und hu, run_und hk, Result.andThen_ok, run_szOf hz, Sem.run_pure, if_true, asInt, asIntOf, w1, if_neg g1, run_typeInfo hi, if_neg g2]
    try rfl

theorem arg_sound (hs : Rel ρ s w) {elem size bytes : Nat} {xt : Option TypeId} {x x' : Value} {n : Nat} {new : List Value} (hz : szOf P elem = some size) (hby : bytesOf' P elem = some bytes) (hx : VR ρ x x')
    (h : appArg P elem size bytes xt x s = some (n, new)) :
    ∃ zeros, ArgOk P w xt elem x' n zeros ∧
      ∀ w', w'.heap = w.heap → ∃ new', (appendedS zeros elem size n x').run P w' = .ok ⟨new'⟩ w' ∧ VRL ρ new new' := by
  unfold appArg at h
  cases hzz : zerosD P xt with
  | none => rw [hzz] at h; cases h
  | some zeros =>
    rw [hzz] at h
    refine ⟨zeros, ?_⟩
    cases zeros with
    | true =>
      simp only at h
      split at h
      · rename_i l z hzero
        cases hcc : (decide (0 ≤ l) && decide (l * (bytes : Int) ≤ (most : Nat)) && decide (l ≤ (most : Nat)) && Nat.beq (cellsOf z).length size) with
        | false => rw [hcc] at h; cases h
        | true =>
          rw [hcc] at h
          simp only [cond_true, Option.some.injEq, Prod.mk.injEq] at h
          obtain ⟨rfl, rfl⟩ := h
          simp only [Bool.and_eq_true, decide_eq_true_eq] at hcc
          obtain ⟨⟨⟨c1, c2⟩, c3⟩, c4⟩ := hcc
          have hc4 := Nat.eq_of_beq_eq_true c4
          have hm : most = 1099511627776 := rfl
          rw [hm] at c2 c3
          cases hx
          obtain ⟨i, hi, hib⟩ := info_bytes hby
          have w1 : IntKind.i64.wrap l = l := by unfold IntKind.wrap; simp [IntKind.bits, IntKind.signed]; omega
          have hzr := cells_rel (zero_refl (ρ := ρ) hzero)
          have hzs : z.cells.size = size := by rw [← hc4, hzr.1]; simp
          refine ⟨.inr ⟨rfl, ?_⟩, fun w' hw => ?_⟩
          · unfold zerosD at hzz
            split at hzz
            · rename_i t
              split at hzz
              · rename_i k hk
                exact ⟨t, k, l, i, rfl, hk, rfl, w1, by omega, hi, by rw [hib]; omega, rfl⟩
              · cases hzz
              · cases hzz
            · cases hzz
          · by_cases h0 : l.toNat * size = 0
            · refine ⟨[], by simp [appendedS, h0], ?_⟩
              have : repl (cellsOf z) l.toNat = [] := by
                apply List.eq_nil_of_length_eq_zero; rw [repl_length, hc4, h0]
              rw [this]; exact .nil
            · refine ⟨repl z.cells.toList l.toNat, ?_, repl_rel hzr _⟩
              simp only [appendedS, Bool.not_true, Bool.false_eq_true, if_false, if_neg h0, Sem.run_bind, run_zeroOf hzero, Result.andThen_ok, Sem.run_pure]
              congr 1
              apply Array.toList_inj.1
              rw [Builtin.zeroCells, range_repl]
      · cases h
    | false =>
      simp only at h
      split at h
      · rename_i m hl
        split at h
        · rename_i l hf
          simp only [Option.some.injEq, Prod.mk.injEq] at h
          obtain ⟨rfl, rfl⟩ := h
          refine ⟨.inl ⟨rfl, ?_, len_rel hx hl⟩, fun w' hw => ?_⟩
          · unfold zerosD at hzz
            split at hzz
            · rename_i t
              split at hzz
              · cases hzz
              · rename_i d hni hd
                exact .inr ⟨t, d, rfl, hd, by cases d <;> first | rfl | exact (hni _ rfl).elim⟩
              · cases hzz
            · exact .inl rfl
          obtain ⟨l', h1, h2⟩ := first_sound (P := P) hs hx hf (len_le hl) w' hw
          exact ⟨l', by simp only [appendedS, Bool.not_false, if_true]; exact h1, h2⟩
        · cases h
      · cases h


theorem storeN_any {b o : Nat} {vs : List Value} (h : vs = []) : (storeCells ⟨b, o, none⟩ vs 0).run P w = .ok () w := by subst h; rfl

theorem appIn_sound (hs : Rel ρ s w) {base : Option Addr} {sLen sCap n size elem : Nat} {zeros : Bool} {new : List Value} {s' : St} {v sv' x' : Value} (hsv : VR ρ (.slice base sLen sCap) sv')
    (hnew : ∃ new', (appendedS zeros elem size n x').run P w = .ok ⟨new'⟩ w ∧ VRL ρ new new') (hle : sLen + n ≤ sCap) (h : appIn base sLen sCap n size new s = some (v, s')) :
    ∃ base' sCap' w' v', sv' = .slice base' sLen sCap' ∧ (tailS elem size zeros base' sLen sCap' n sv' x').run P w = .ok v' w' ∧ Fr s.next s s' ρ ρ w w' ∧ Rel ρ s' w' ∧ VR ρ v v' ∧ s'.next = s.next := by
  obtain ⟨new', hn1, hn2⟩ := hnew
  unfold appIn at h
  split at h
  · rename_i k off
    cases hst : storeAtD s k (off + sLen * size) new with
    | none => rw [hst] at h; cases h
    | some s1 =>
      rw [hst] at h
      simp only [Option.some.injEq, Prod.mk.injEq] at h
      obtain ⟨rfl, rfl⟩ := h
      cases hsv with
      | slice _ _ _ cap' hL hle' h0 ht hr =>
        rename_i L
        obtain ⟨w', h1, h2, h3, h4⟩ := store_core (P := P) hs hL hn2 hst
        refine ⟨_, cap', w', .slice (some ⟨L.block, L.base + off, none⟩) (sLen + n) cap', rfl, ?_, h2, h3, .slice off _ _ cap' hL hle' h0 ht hr, h4⟩
        have hin : sLen + n ≤ cap' := by omega
        simp only [tailS, if_pos hin, Sem.run_bind, hn1, Result.andThen_ok, add_none, Nat.add_assoc, Sem.run_pure] at h1 ⊢
        rw [h1]; rfl
      | sliceEnd _ off' hL =>
        rename_i L
        have hn0 : n = 0 := by omega
        subst hn0
        have hnil : new' = [] ∧ new = [] := by
          have h5 : (appendedS zeros elem size 0 x').run P w = .ok #[] w := by
            cases zeros
            · simp only [appendedS, Bool.not_false, if_true]
              simp only [appendedS, Bool.not_false, if_true] at hn1
              revert hn1
              unfold Builtin.firstCells
              cases x' with
              | slice a l c => cases a with
                | none => intro _; rfl
                | some a => simp [loadCells, loadCellsFrom]
              | string b => simp
              | _ => simp
            · simp [appendedS]
          rw [hn1] at h5
          injection h5 with h5 _
          have h6 : new' = [] := by injection h5
          subst h6
          exact ⟨rfl, List.eq_nil_of_length_eq_zero (by have := hn2.1; simpa using this)⟩
        obtain ⟨rfl, rfl⟩ := hnil
        obtain ⟨w', h3, h4, h5, h6⟩ := store_core (P := P) hs hL .nil hst
        have hw : w' = w := by simp only [storeCells, Sem.run_pure] at h3; injection h3 with _ h3; exact h3.symm
        subst hw
        refine ⟨_, 0, w', .slice (some ⟨L.block, off', none⟩) 0 0, rfl, ?_, h4, h5, .sliceEnd off off' hL, h6⟩
        simp only [tailS, Nat.add_zero, Nat.le_refl, if_true, Sem.run_bind, hn1, Result.andThen_ok, storeCells, Sem.run_pure]
  · cases h
  · cases hb : new.isEmpty with
    | false => rw [hb] at h; cases h
    | true =>
      rw [hb] at h
      simp only [cond_true, Option.some.injEq, Prod.mk.injEq] at h
      obtain ⟨rfl, rfl⟩ := h
      cases hsv
      refine ⟨none, sCap, w, .slice none (sLen + n) sCap, rfl, ?_, .refl _ _ _ _, hs, .nilSlice _ _, rfl⟩
      simp only [tailS, if_pos hle, Sem.run_bind, hn1, Result.andThen_ok, Sem.run_pure]

/-- A row laid anew by append. -/
theorem grow_sound (hs : Rel ρ s w) {elem size bytes : Nat} {z : Value} {zeros : Bool} {base' : Option Addr} {sLen sCap' n : Nat} {old new : List Value} {sv' x' : Value}
    (hby : bytesOf' P elem = some bytes) (hzero : zeroOf P elem = some z) (hzl : (cellsOf z).length = size) (hsize : 0 < size) (hbytes : 0 < bytes)
    (hneed : sCap' < sLen + n) (hroom : (sLen + n) * bytes ≤ most) (hlen : (old ++ new).length = (sLen + n) * size)
    (hold : ∀ w', w'.heap = w.heap → ∃ old', (Builtin.firstCells size sLen sv').run P w' = .ok ⟨old'⟩ w' ∧ VRL ρ old old')
    (hnew : ∀ w', w'.heap = w.heap → ∃ new', (appendedS zeros elem size n x').run P w' = .ok ⟨new'⟩ w' ∧ VRL ρ new new') :
    ∃ w' v' L, (tailS elem size zeros base' sLen sCap' n sv' x').run P w = .ok v' w' ∧ Fr s.next s ⟨s.heap.set s.next (.cells (old ++ new).length size (Tr.ofList (old ++ new))), s.next + 1⟩ ρ (ρ.ext s.next L) w w' ∧
      Rel (ρ.ext s.next L) ⟨s.heap.set s.next (.cells (old ++ new).length size (Tr.ofList (old ++ new))), s.next + 1⟩ w' ∧
      VR (ρ.ext s.next L) (.slice (some ⟨s.next, 0, none⟩) (sLen + n) (sLen + n)) v' := by
  obtain ⟨hk, hkh⟩ := hs.dom s.next (Nat.le_refl _)
  let w1 : World := { w with drawn := w.drawn + 1 }
  obtain ⟨old', ho1, ho2⟩ := hold w1 rfl
  obtain ⟨new', hn1, hn2⟩ := hnew w1 rfl
  obtain ⟨i, hi, hib⟩ := info_bytes hby
  have hnb : sLen + n ≤ most := Nat.le_trans (Nat.le_mul_of_pos_right _ hbytes) hroom
  have hm : most = 1099511627776 := rfl
  obtain ⟨newCap, hcap, hch⟩ : ∃ c, sLen + n ≤ c ∧ (choose (.appendCap (sLen + n) sCap' elem)).run P w = .ok c w1 :=
    ⟨_, Nat.le_add_right _ _, by rw [run_choose]; rfl⟩
  have hzr := cells_rel (zero_refl (ρ := ρ) hzero)
  have hzs : z.cells.size = size := by rw [← hzl, hzr.1]; simp
  let arr : Array Value := (⟨old'⟩ : Array Value) ++ ⟨new'⟩ ++ Builtin.zeroCells z.cells (newCap - (sLen + n))
  have hon : VRL ρ (old ++ new) (old' ++ new') := ho2.append hn2
  have harr : arr.size = newCap * size := by
    have h1 := hon.1
    rw [hlen] at h1
    simp only [List.length_append] at h1
    simp only [arr, Array.size_append, Builtin.zeroCells, Array.size_map, Array.size_range, hzs]
    have h2 : (newCap - (sLen + n)) * size = newCap * size - (sLen + n) * size := Nat.sub_mul _ _ _
    have h3 : (sLen + n) * size ≤ newCap * size := Nat.mul_le_mul_right _ hcap
    show old'.length + new'.length + _ = _
    omega
  let L : Loc := ⟨w.heap.size, 0, (old ++ new).length, size, arr.size⟩
  refine ⟨push w1 (.cells arr elem (0, 0)), .slice (some ⟨w.heap.size, 0, none⟩) (sLen + n) newCap, L, ?_, ?_, ?_, ?_⟩
  · have g1 : ¬ (((sLen + n : Nat) : Int) > IntKind.i64.max ∧ (zeros = true ∨ i.bytes = 0)) := by
      rintro ⟨h1, _⟩
      simp [IntKind.max, IntKind.signed, IntKind.bits] at h1
      omega
    have g2 : ¬ (Builtin.nextslicecap (sLen + n) sCap' * i.bytes > 2 ^ 48) := by rw [hib]; exact room_ok hneed hroom
    have g0 : ¬ (sLen + n ≤ sCap') := by omega
    simp only [tailS, if_neg g0, Sem.run_bind, run_typeInfo hi, Result.andThen_ok, if_neg g1, if_neg g2, hch, run_askRoom, ho1, hn1, run_zeroOf hzero, newRow, run_newObj, Sem.run_pure]
    rfl
  · have := fr_push (ρ := ρ) (s := s) (w := w1) s.next (k := s.next) (nx := s.next + 1) (o := .cells (old ++ new).length size (Tr.ofList (old ++ new))) (L := L) (.cells arr elem (0, 0)) hk (Nat.le_refl _) rfl
    exact ⟨this.le, this.fresh, this.size, this.keepL, this.new, this.live, this.os, this.output, this.tape⟩
  · refine (hs.same (w' := w1) rfl).lay hk hkh (Nat.le_succ _) (Nat.lt_succ_self _) (by rw [push_size]; omega) (Nat.le_refl _) (by rw [push_size]; show w.heap.size < _; exact Nat.lt_succ_self _) (fun b hb => push_old w1 _ hb) ?_ (fun m st seen h => by cases h)
    refine ⟨rfl, rfl, arr, elem, (0, 0), push_new w1 _, rfl, ?_, fun i _ _ => by simp, fun i v hv => ?_⟩
    · show 0 + (old ++ new).length ≤ arr.size
      rw [hlen, harr, Nat.zero_add]; exact Nat.mul_le_mul_right _ hcap
    · rw [Tr.get_ofList] at hv
      obtain ⟨v', a, b⟩ := hon.get hv
      have hlt := (List.getElem?_eq_some_iff.1 hv).1
      refine ⟨hlt, v', ?_, b.mono (Env.le_ext _ hk)⟩
      show arr[0 + i]? = some v'
      rw [Nat.zero_add, ← Array.getElem?_toList]
      have : arr.toList = (old' ++ new') ++ (Builtin.zeroCells z.cells (newCap - (sLen + n))).toList := by simp [arr]
      rw [this, List.getElem?_append_left (by rw [← hon.1]; exact hlt)]
      exact a
  · refine slice_mk (L := L) (Env.ext_same _ _ _) rfl hcap (fun h => ?_) (.inr ?_) (fun _ => ?_)
    · have : size = 0 := h
      omega
    · show 0 + (sLen + n) * size = (old ++ new).length
      rw [hlen]; omega
    · show 0 + 0 + newCap * size ≤ arr.size
      rw [harr]; omega

/-- There was room behind the row, though nobody knew. -/
theorem inplace_sound (hs : Rel ρ s w) {elem size k off : Nat} {L : Loc} {zeros : Bool} {sLen sCap sCap' n : Nat} {old new : List Value} {x' : Value} {c : Tr Value} {m : Nat}
    (hk : s.heap.get k = some (.cells m size c)) (hL : ρ k = some L) (hsize : 0 < size) (hin : sLen + n ≤ sCap')
    (hr : L.base + off + sCap' * size ≤ L.room) (hlen : (old ++ new).length = (sLen + n) * size) (hol : old.length = sLen * size) (hold : loadN c off (sLen * size) = some old) (hone : ∀ v ∈ new, oneCell v = true)
    (hnew : ∃ new', (appendedS zeros elem size n x').run P w = .ok ⟨new'⟩ w ∧ VRL ρ new new') :
    ∃ w' L', (tailS elem size zeros (some ⟨L.block, L.base + off, none⟩) sLen sCap' n (.slice (some ⟨L.block, L.base + off, none⟩) sLen sCap') x').run P w = .ok (.slice (some ⟨L.block, L.base + off, none⟩) (sLen + n) sCap') w' ∧
      Fr s.next s ⟨(s.kill k).heap.set s.next (.cells (old ++ new).length size (Tr.ofList (old ++ new))), s.next + 1⟩ ρ (ρ.ext s.next L') w w' ∧ Rel (ρ.ext s.next L') ⟨(s.kill k).heap.set s.next (.cells (old ++ new).length size (Tr.ofList (old ++ new))), s.next + 1⟩ w' ∧
      VR (ρ.ext s.next L') (.slice (some ⟨s.next, 0, none⟩) (sLen + n) (sLen + n)) (.slice (some ⟨L.block, L.base + off, none⟩) (sLen + n) sCap') := by
  obtain ⟨hkn, hkh⟩ := hs.dom s.next (Nat.le_refl _)
  obtain ⟨new', hn1, hn2⟩ := hnew
  obtain ⟨Lx, hx1, hx2⟩ := hs.obj _ _ hk
  rw [hL] at hx1; injection hx1 with hx1; subst hx1
  obtain ⟨hsz, hg, arr, el, fz, hb, hroom, hle, hfree, hcr⟩ := hx2
  obtain ⟨_, old', ho2, ho3⟩ := loadN_sound hcr _ _ _ hold
  have hnl : new'.length = n * size := by
    rw [← hn2.1]
    rw [List.length_append, hol, Nat.add_mul] at hlen
    omega
  have hfit : L.base + off + sLen * size + new'.length ≤ arr.size := by
    rw [hnl, hroom]
    have : (sLen + n) * size ≤ sCap' * size := Nat.mul_le_mul_right _ hin
    rw [Nat.add_mul] at this
    omega
  obtain ⟨w', arr', r1, r2, r3, r4, r5⟩ := raw_store (P := P) (o := L.base + off + sLen * size) new' 0 w arr hb (one_rel hn2 hone) (by omega)
    (by intro j hj hj'; exact hfree j (by omega) (by omega))
  let L' : Loc := ⟨L.block, L.base + off, (old ++ new).length, size, L.room⟩
  have hkk : k ≠ s.next := by intro e; subst e; rw [hk] at hkh; cases hkh
  have hfr : Fr s.next s ⟨(s.kill k).heap.set s.next (.cells (old ++ new).length size (Tr.ofList (old ++ new))), s.next + 1⟩ ρ (ρ.ext s.next L') w w' := by
    refine ⟨Env.le_ext _ hkn, fun j hj h0 => by rw [Env.ext_other _ (by omega)]; exact h0, by rw [r5.size]; exact Nat.le_refl _, fun b _ hno => r5.other b (fun e => hno k _ L hk hL e.symm), fun j Lj hj h0 => ?_, fun j oj Lj hgj hj => ?_, r5.os, r5.output, r5.tape⟩
    · by_cases e : j = s.next
      · subst e; simp at hj; subst hj; exact .inr ⟨k, L, hL, rfl⟩
      · rw [Env.ext_other _ e] at hj; rw [h0] at hj; cases hj
    · simp only [Tr.get_set] at hgj
      by_cases e : j = s.next
      · subst e; simp at hj; subst hj; exact .inr ⟨k, _, L, hk, hL, rfl⟩
      · rw [if_neg e] at hgj; rw [Env.ext_other _ e] at hj
        simp only [St.kill, Tr.get_put] at hgj
        split at hgj
        · cases hgj
        · exact .inr ⟨j, oj, Lj, hgj, hj, rfl⟩
  refine ⟨w', L', ?_, hfr, ?_, ?_⟩
  · simp only [tailS, if_pos hin, Sem.run_bind, hn1, Result.andThen_ok, add_none, r1, Sem.run_pure]
  · have hkill := hs.kill hk
    have hget : ∀ j, (s.kill k).heap.get j = if j = k then none else s.heap.get j := fun j => by simp [St.kill, Tr.get_put]
    have hget' : ∀ j, ((s.kill k).heap.set s.next (.cells (old ++ new).length size (Tr.ofList (old ++ new)))).get j = if j = s.next then some (.cells (old ++ new).length size (Tr.ofList (old ++ new))) else if j = k then none else s.heap.get j := fun j => by
      rw [Tr.get_set, hget]
    have hob : ObjR (ρ.ext s.next L') L' w' (.cells (old ++ new).length size (Tr.ofList (old ++ new))) := by
      refine ⟨rfl, rfl, arr', el, fz, r2, by rw [r3]; exact hroom, ?_, fun j hj hj' => hfree j (by have : L'.base = L.base + off := rfl; omega) hj', fun j v hv => ?_⟩
      · show L.base + off + (old ++ new).length ≤ L.room
        rw [List.length_append, hol, hn2.1]; omega
      · rw [Tr.get_ofList] at hv
        have hlt := (List.getElem?_eq_some_iff.1 hv).1
        refine ⟨hlt, ?_⟩
        show ∃ v', arr'[L.base + off + j]? = some v' ∧ _
        rw [r4]
        by_cases hj : j < old.length
        · rw [List.getElem?_append_left hj] at hv
          obtain ⟨v', a, b⟩ := ho2.get hv
          refine ⟨v', ?_, b.mono hfr.le⟩
          rw [if_neg (by omega)]
          exact ho3 j v' a
        · rw [List.getElem?_append_right (by omega)] at hv
          obtain ⟨v', a, b⟩ := hn2.get hv
          refine ⟨v', ?_, b.mono hfr.le⟩
          rw [List.length_append, hn2.1] at hlt
          rw [if_pos (by omega), ← a]
          congr 1; omega
    refine ⟨fun j hj => ?_, fun j o hj => ?_, fun j j' o o' Lj Lj' hj hj' hl hl' hbb => ?_, ?_, fun j Lj hj => ?_⟩
    · simp only at hj
      have e1 : j ≠ s.next := by omega
      exact ⟨by rw [Env.ext_other _ e1]; exact (hs.dom j (by omega)).1, by
        show ((s.kill k).heap.set _ _).get j = none
        rw [hget', if_neg e1]; split
        · rfl
        · exact (hs.dom j (by omega)).2⟩
    · rw [hget'] at hj
      by_cases e : j = s.next
      · subst e; rw [if_pos rfl] at hj; injection hj with hj; subst hj; exact ⟨L', by simp, hob⟩
      · rw [if_neg e] at hj
        by_cases e2 : j = k
        · rw [if_pos e2] at hj; cases hj
        · rw [if_neg e2] at hj
          obtain ⟨Lj, h1, h2⟩ := hs.obj j o hj
          exact ⟨Lj, hfr.le _ _ h1, (h2.mono hfr.le).congr (r5.other _ (fun e' => e2 (hs.inj _ _ _ _ _ _ hj hk h1 hL e')))⟩
    · rw [hget'] at hj hj'
      by_cases e : j = s.next <;> by_cases e' : j' = s.next
      · rw [e, e']
      · subst e
        rw [if_neg e'] at hj'
        by_cases e2 : j' = k
        · rw [if_pos e2] at hj'; cases hj'
        · rw [if_neg e2] at hj'
          rw [Env.ext_other _ e'] at hl'
          simp at hl; subst hl
          exact (e2 (hs.inj _ _ _ _ _ _ hj' hk hl' hL hbb.symm)).elim
      · subst e'
        rw [if_neg e] at hj
        by_cases e2 : j = k
        · rw [if_pos e2] at hj; cases hj
        · rw [if_neg e2] at hj
          rw [Env.ext_other _ e] at hl
          simp at hl'; subst hl'
          exact (e2 (hs.inj _ _ _ _ _ _ hj hk hl hL hbb)).elim
      · rw [if_neg e] at hj; rw [if_neg e'] at hj'
        rw [Env.ext_other _ e] at hl; rw [Env.ext_other _ e'] at hl'
        by_cases e2 : j = k
        · rw [if_pos e2] at hj; cases hj
        · by_cases e3 : j' = k
          · rw [if_pos e3] at hj'; cases hj'
          · rw [if_neg e2] at hj; rw [if_neg e3] at hj'
            exact hs.inj _ _ _ _ _ _ hj hj' hl hl' hbb
    · intro j mm st seen hj
      have hj' : (if j = s.next then some (.cells (old ++ new).length size (Tr.ofList (old ++ new))) else if j = k then none else s.heap.get j) = some (.iter (some mm) st seen) := by rw [← hget']; exact hj
      have e1 : j ≠ s.next := by intro e; rw [if_pos e] at hj'; cases hj'
      rw [if_neg e1] at hj'
      have e2 : j ≠ k := by intro e; rw [if_pos e] at hj'; cases hj'
      rw [if_neg e2] at hj'
      obtain ⟨st0, es0, h1, h2, h3⟩ := hs.iter j mm st seen hj'
      have e3 : mm ≠ s.next := by intro e; subst e; rw [h1] at hkh; cases hkh
      have e4 : mm ≠ k := by intro e; subst e; rw [hk] at h1; cases h1
      refine ⟨st0, es0, by show ((s.kill k).heap.set _ _).get mm = _; rw [hget', if_neg e3, if_neg e4]; exact h1, h2, fun h4 h5 Lj Lm hlj hlm => ?_⟩
      rw [Env.ext_other _ e1] at hlj; rw [Env.ext_other _ e3] at hlm
      obtain ⟨since, seen', stepped, es', clock, a, b, c, d⟩ := h3 h4 h5 Lj Lm hlj hlm
      exact ⟨since, seen', stepped, es', clock, by rw [r5.other _ (fun e' => e2 (hs.inj _ _ _ _ _ _ hj' hk hlj hL e'))]; exact a, by rw [r5.other _ (fun e' => e4 (hs.inj _ _ _ _ _ _ h1 hk hlm hL e'))]; exact b, c, d⟩
    · by_cases e : j = s.next
      · subst e; simp at hj; subst hj; rw [r5.size]; exact hs.wf k L hL
      · rw [Env.ext_other _ e] at hj; rw [r5.size]; exact hs.wf _ _ hj
  · refine slice_mk (L := L') (Env.ext_same _ _ _) rfl hin (fun h => ?_) (.inr ?_) (fun _ => ?_)
    · have : size = 0 := h
      omega
    · show 0 + (sLen + n) * size = (old ++ new).length
      rw [hlen]; omega
    · show L.base + off + 0 + sCap' * size ≤ L.room
      omega
end Go.Hg
