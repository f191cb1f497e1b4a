/- Regions that draw their order: plain laws. -/
import Derived.Test.YthlkmfeelhbhjaaGreatDoorHgSl
set_option linter.unusedVariables false
set_option linter.unusedSimpArgs false
namespace Go.Hg
variable {P : Program}

/-! ### Bits -/
theorem has_eq (m i : Nat) : has m i = m.testBit i := by
  have h : Nat.mod (Nat.shiftRight m i) 2 = (m >>> i) % 2 := rfl
  unfold has Nat.testBit
  rw [h, Nat.one_and_eq_mod_two]
  rcases Nat.mod_two_eq_zero_or_one (m >>> i) with h2 | h2 <;> rw [h2] <;> rfl

theorem has_zero (i : Nat) : has 0 i = false := by rw [has_eq]; simp

theorem preOf_has (acc : List Nat) : ∀ (es : List Edge) (m j : Nat), has (preOf acc es m) j = true ↔ has m j = true ∨ ∃ e ∈ es, Region.binds .any e = true ∧ (j = e.on ∨ has (nth acc e.on) j = true)
  | [], m, j => by simp [preOf]
  | e :: es, m, j => by
    rw [preOf, preOf_has acc es]
    cases hb : Region.binds .any e with
    | false => simp [hb]
    | true =>
      have hx : has (Nat.lor m (Nat.lor (2 ^ e.on) (nth acc e.on))) j = (has m j || (decide (e.on = j) || has (nth acc e.on) j)) := by
        rw [has_eq, has_eq, has_eq]
        have h1 : Nat.lor m (Nat.lor (2 ^ e.on) (nth acc e.on)) = m ||| (2 ^ e.on ||| nth acc e.on) := rfl
        rw [h1, Nat.testBit_or, Nat.testBit_or, Nat.testBit_two_pow]
      simp only [cond_true, hx, Bool.or_eq_true, decide_eq_true_eq, List.mem_cons, exists_eq_or_imp, hb, true_and]
      constructor
      · rintro ((h | h | h) | h)
        · exact .inl h
        · exact .inr (.inl (.inl h.symm))
        · exact .inr (.inl (.inr h))
        · exact .inr (.inr h)
      · rintro (h | (h | h) | h)
        · exact .inl (.inl h)
        · exact .inl (.inr (.inl h.symm))
        · exact .inl (.inr (.inr h))
        · exact .inr h

theorem nth_append_left {a b : List Nat} {i : Nat} (h : i < a.length) : nth (a ++ b) i = nth a i := by
  unfold nth; rw [List.getElem?_append_left h]

theorem presL_app : ∀ (os : List Oper) (acc : List Nat), ∃ t, presL os acc = acc ++ t ∧ t.length = os.length
  | [], acc => ⟨[], by simp [presL], rfl⟩
  | o :: os, acc => by
    obtain ⟨t, h1, h2⟩ := presL_app os (acc ++ [preOf acc o.after.toList 0])
    exact ⟨preOf acc o.after.toList 0 :: t, by rw [presL, h1]; simp, by simp [h2]⟩

theorem presL_at : ∀ (os : List Oper) (acc : List Nat) (i : Nat) (o : Oper), os[i]? = some o → nth (presL os acc) (acc.length + i) = preOf ((presL os acc).take (acc.length + i)) o.after.toList 0
  | [], acc, i, o, h => by simp at h
  | o0 :: os, acc, 0, o, h => by
    simp at h; subst h
    obtain ⟨t, h1, h2⟩ := presL_app os (acc ++ [preOf acc o0.after.toList 0])
    rw [presL, h1]
    simp [nth]
  | o0 :: os, acc, i + 1, o, h => by
    have := presL_at os (acc ++ [preOf acc o0.after.toList 0]) i o (by simpa using h)
    rw [presL]
    have e : (acc ++ [preOf acc o0.after.toList 0]).length + i = acc.length + (i + 1) := by simp; omega
    rw [e] at this
    exact this

theorem numbered_get : ∀ (os : List Oper) (n i : Nat), (numbered n os)[i]? = (os[i]?).map fun o => (n + i, o)
  | [], n, i => by simp [numbered]
  | o :: os, n, 0 => by simp [numbered]
  | o :: os, n, i + 1 => by
    simp only [numbered, List.getElem?_cons_succ, numbered_get os]
    congr 1; funext o; congr 1; omega

theorem edgesOk_spec : ∀ {l : List (Nat × Oper)}, edgesOk l = true → ∀ x ∈ l, ∀ e ∈ x.2.after.toList, Region.binds .any e = true → e.on < x.1
  | [], _, x, hx => by simp at hx
  | (i, o) :: l, h, x, hx => by
    simp only [edgesOk, Bool.and_eq_true, List.all_eq_true] at h
    rcases List.mem_cons.1 hx with rfl | hx
    · intro e he hb
      have := h.1 e he
      rw [hb] at this
      simp only [Bool.not_true, Bool.false_or] at this
      exact Nat.le_of_ble_eq_true this
    · exact edgesOk_spec h.2 x hx

/-- What the sets of those that must come ahead are. -/
structure PreS (ops : Array Oper) (pre : List Nat) : Prop where
  edge : ∀ (i : Nat) (o : Oper), ops[i]? = some o → ∀ e ∈ o.after.toList, Region.binds .any e = true → e.on < i
  spec : ∀ (i : Nat) (o : Oper), ops[i]? = some o → ∀ j, has (nth pre i) j = true ↔ ∃ e ∈ o.after.toList, Region.binds .any e = true ∧ (j = e.on ∨ has (nth pre e.on) j = true)
  none : ∀ i, ops.size ≤ i → nth pre i = 0

theorem preS_of {ops : Array Oper} (h : edgesOk (numbered 0 ops.toList) = true) : PreS ops (presL ops.toList []) := by
  have hedge : ∀ (i : Nat) (o : Oper), ops[i]? = some o → ∀ e ∈ o.after.toList, Region.binds .any e = true → e.on < i := by
    intro i o ho e he hb
    have hm : (i, o) ∈ numbered 0 ops.toList := by
      refine List.mem_of_getElem? (i := i) ?_
      rw [numbered_get]
      simp [ho]
    exact edgesOk_spec h _ hm e he hb
  obtain ⟨t, h1, h2⟩ := presL_app ops.toList []
  refine ⟨hedge, fun i o ho j => ?_, fun i hi => ?_⟩
  · have hat := presL_at ops.toList [] i o (by simpa using ho)
    simp only [List.length_nil, Nat.zero_add] at hat
    rw [hat, preOf_has, has_zero]
    simp only [Bool.false_eq_true, false_or]
    have hlt : i < ops.size := (Array.getElem?_eq_some_iff.1 ho).1
    constructor
    · rintro ⟨e, he, hb, hj⟩
      refine ⟨e, he, hb, hj.imp id fun hj => ?_⟩
      have := hedge i o ho e he hb
      rw [show nth ((presL ops.toList []).take i) e.on = nth (presL ops.toList []) e.on by unfold nth; rw [List.getElem?_take, if_pos this]] at hj
      exact hj
    · rintro ⟨e, he, hb, hj⟩
      refine ⟨e, he, hb, hj.imp id fun hj => ?_⟩
      have := hedge i o ho e he hb
      rw [show nth ((presL ops.toList []).take i) e.on = nth (presL ops.toList []) e.on by unfold nth; rw [List.getElem?_take, if_pos this]]
      exact hj
  · unfold nth
    rw [List.getElem?_eq_none]
    rw [h1]; simp at h2 ⊢; omega

theorem PreS.lt {ops : Array Oper} {pre : List Nat} (h : PreS ops pre) : ∀ (i j : Nat), has (nth pre i) j = true → j < i := by
  intro i
  induction i using Nat.strongRecOn with
  | ind i ih =>
    intro j hj
    cases ho : ops[i]? with
    | none =>
      rw [h.none i (by simpa using ho), has_zero] at hj
      cases hj
    | some o =>
      obtain ⟨e, he, hb, hj⟩ := (h.spec i o ho j).1 hj
      have := h.edge i o ho e he hb
      rcases hj with rfl | hj
      · exact this
      · have := ih e.on this j hj
        omega

theorem PreS.trans {ops : Array Oper} {pre : List Nat} (h : PreS ops pre) : ∀ (i j m : Nat), has (nth pre i) j = true → has (nth pre j) m = true → has (nth pre i) m = true := by
  intro i
  induction i using Nat.strongRecOn with
  | ind i ih =>
    intro j m hj hm
    cases ho : ops[i]? with
    | none =>
      rw [h.none i (by simpa using ho), has_zero] at hj
      cases hj
    | some o =>
      obtain ⟨e, he, hb, hj⟩ := (h.spec i o ho j).1 hj
      have := h.edge i o ho e he hb
      refine (h.spec i o ho m).2 ⟨e, he, hb, .inr ?_⟩
      rcases hj with rfl | hj
      · exact hm
      · exact ih e.on this j m hj hm

theorem pairsOk_spec {ops : List Oper} {pre : List Nat} (l : List (Nat × Oper)) : pairsOk ops pre l = true → ∀ (a b : Nat) (x y : Nat × Oper), a < b → l[a]? = some x → l[b]? = some y →
    has (nth pre y.1) x.1 = true ∨ ((∀ t ∈ dstL x.2, t ∉ looksL ops y.2) ∧ ∀ t ∈ dstL y.2, t ∉ looksL ops x.2) := by
  induction l with
  | nil => intro _ a b x y _ hx; simp at hx
  | cons z l ih =>
    obtain ⟨i, o⟩ := z
    intro h a b x y hab hx hy
    rw [pairsOk, Bool.and_eq_true, List.all_eq_true] at h
    obtain ⟨h1, h2⟩ := h
    obtain ⟨b, rfl⟩ : ∃ b', b = b' + 1 := ⟨b - 1, by omega⟩
    rw [List.getElem?_cons_succ] at hy
    cases a with
    | zero =>
      simp only [List.getElem?_cons_zero, Option.some.injEq] at hx
      subst hx
      have := h1 y (List.mem_of_getElem? hy)
      simp only [Bool.or_eq_true, Bool.and_eq_true, Bool.not_eq_true', List.any_eq_false, List.contains_iff_mem] at this
      exact this
    | succ a =>
      rw [List.getElem?_cons_succ] at hx
      exact ih h2 a b x y (by omega) hx hy

/-! ### Heaps with blocks added -/
theorem heapAdd_next (keep : Nat → Bool) : ∀ (fr : List (Nat × Nat × Obj)) (s : St), (heapAdd s keep fr).next = s.next
  | [], s => rfl
  | (i, k, o) :: fr, s => by
    simp only [heapAdd]
    cases keep i
    · exact heapAdd_next keep fr s
    · exact heapAdd_next keep fr _

theorem heapAdd_miss {keep : Nat → Bool} {k : Nat} : ∀ {fr : List (Nat × Nat × Obj)} {s : St}, (∀ e ∈ fr, keep e.1 = true → e.2.1 ≠ k) → (heapAdd s keep fr).heap.get k = s.heap.get k
  | [], s, _ => rfl
  | (i, k0, o) :: fr, s, h => by
    simp only [heapAdd]
    cases hk : keep i with
    | false => simp only [cond_false]; exact heapAdd_miss (fun e he => h e (by simp [he]))
    | true =>
      simp only [cond_true]
      rw [heapAdd_miss (fun e he => h e (by simp [he]))]
      have : k0 ≠ k := h (i, k0, o) (by simp) hk
      simp only [St.setObj, Tr.get_set]
      rw [if_neg (fun e => this e.symm)]

theorem heapAdd_hit {keep : Nat → Bool} {i k : Nat} {o : Obj} : ∀ {fr : List (Nat × Nat × Obj)} {s : St}, (i, k, o) ∈ fr → keep i = true → (fr.map (·.2.1)).Nodup → (heapAdd s keep fr).heap.get k = some o
  | [], s, h, _, _ => by simp at h
  | (i0, k0, o0) :: fr, s, h, hk, hn => by
    simp only [List.map_cons, List.nodup_cons] at hn
    simp only [heapAdd]
    rcases List.mem_cons.1 h with e | h
    · injection e with e1 e2; injection e2 with e2 e3
      subst e1; subst e2; subst e3
      rw [hk]; simp only [cond_true]
      rw [heapAdd_miss]
      · simp [St.setObj]
      · intro e he _ e2
        exact hn.1 (by rw [← e2]; exact List.mem_map_of_mem he)
    · cases keep i0
      · exact heapAdd_hit h hk hn.2
      · exact heapAdd_hit h hk hn.2

theorem heapAdd_congr {keep keep' : Nat → Bool} : ∀ {fr : List (Nat × Nat × Obj)} {s : St}, (∀ e ∈ fr, keep e.1 = keep' e.1) → heapAdd s keep fr = heapAdd s keep' fr
  | [], s, _ => rfl
  | (i, k, o) :: fr, s, h => by
    simp only [heapAdd]
    rw [h (i, k, o) (by simp), heapAdd_congr (s := s.setObj k o) (fun e he => h e (by simp [he])), heapAdd_congr (s := s) (fun e he => h e (by simp [he]))]

theorem heapAdd_append {keep : Nat → Bool} : ∀ (fr fr' : List (Nat × Nat × Obj)) (s : St), heapAdd s keep (fr ++ fr') = heapAdd (heapAdd s keep fr) keep fr'
  | [], fr', s => rfl
  | (i, k, o) :: fr, fr', s => by
    simp only [List.cons_append, heapAdd]
    cases keep i
    · exact heapAdd_append fr fr' s
    · exact heapAdd_append fr fr' _

theorem heapAdd_none {keep : Nat → Bool} : ∀ {fr : List (Nat × Nat × Obj)} {s : St}, (∀ e ∈ fr, keep e.1 = false) → heapAdd s keep fr = s
  | [], s, _ => rfl
  | (i, k, o) :: fr, s, h => by
    simp only [heapAdd]
    rw [h (i, k, o) (by simp)]
    exact heapAdd_none (fun e he => h e (by simp [he]))

/-! ### The same value -/
theorem beqFn_eq {f g : Fn} (h : beqFn f g = true) : f = g := by
  cases f <;> cases g <;> simp only [beqFn] at h <;> first | (cases h; done) | (rw [Nat.eq_of_beq_eq_true h])

theorem beqAddr_eq {a b : Addr} (h : beqAddr a b = true) : a = b := by
  obtain ⟨b1, o1, s1⟩ := a
  obtain ⟨b2, o2, s2⟩ := b
  simp only [beqAddr, Bool.and_eq_true] at h
  obtain ⟨⟨h1, h2⟩, h3⟩ := h
  have := Nat.eq_of_beq_eq_true h1; subst this
  have := Nat.eq_of_beq_eq_true h2; subst this
  cases s1 <;> cases s2 <;> first | rfl | cases h3

theorem beqOA_eq {a b : Option Addr} (h : beqOA a b = true) : a = b := by
  cases a <;> cases b <;> simp only [beqOA] at h <;> first | rfl | (cases h; done) | (rw [beqAddr_eq h])

theorem beqV_eq : ∀ n, (∀ x y, beqV n x y = true → x = y) ∧ (∀ l m, beqL n l m = true → l = m)
  | 0 => ⟨fun x y h => by simp [beqV] at h, fun l m h => by simp [beqL] at h⟩
  | n + 1 => by
    obtain ⟨ihv, ihl⟩ := beqV_eq n
    have arr : ∀ a b : Array Value, beqL n a.toList b.toList = true → a = b := fun a b h => Array.toList_inj.1 (ihl _ _ h)
    refine ⟨fun x y h => ?_, fun l m h => ?_⟩
    · cases x <;> cases y <;> simp only [beqV, Bool.and_eq_true, decide_eq_true_eq] at h <;> first
        | (cases h; done)
        | rfl
        | (rw [beqOA_eq h]; done)
        | (rw [beqOA_eq h.1.1, Nat.eq_of_beq_eq_true h.1.2, Nat.eq_of_beq_eq_true h.2]; done)
        | (rw [arr _ _ h]; done)
        | (rw [beqFn_eq h.1.1, arr _ _ h.1.2, arr _ _ h.2]; done)
        | (rw [Nat.eq_of_beq_eq_true h.1, ihv _ _ h.2]; done)
        | (rw [h.1, h.2]; done)
        | skip
      · rename_i a b
        cases a <;> cases b <;> first | rfl | cases h
      · rename_i a b
        have : a = b := by
          obtain ⟨a⟩ := a; obtain ⟨b⟩ := b
          have := Array.toList_inj.1 h
          simp only at this
          rw [this]
        rw [this]
      · rename_i a b
        cases a <;> cases b <;> simp only [beqV] at h <;> first | rfl | (cases h; done) | (rw [Nat.eq_of_beq_eq_true h])
    · cases l <;> cases m <;> simp only [beqL, Bool.and_eq_true] at h <;> first
        | rfl
        | (cases h; done)
        | (rw [ihv _ _ h.1, ihl _ _ h.2])
end Go.Hg
