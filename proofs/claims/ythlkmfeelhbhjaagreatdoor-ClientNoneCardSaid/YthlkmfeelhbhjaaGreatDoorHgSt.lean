/- Regions that draw their order: every order. -/
import Derived.Test.YthlkmfeelhbhjaaGreatDoorHgSs
import Derived.Orders
set_option linter.unusedVariables false
set_option linter.unusedSimpArgs false
namespace Go.Hg
variable {P : Program}

section
variable {call : TargetD → St → Option (EndD × St)} {r : Bool} {ops : Array Oper} {pre : List Nat} {base m : Nat} {D : Nat → DrS} {V : Nat → Value}
variable {s0 : St} {ρ0 : Env} {w0 : World} {lo : Nat}

theorem harmless_spec {c : Nat} : ∀ {l : List (Nat × Oper)}, harmless pre c l = true → ∀ e ∈ l, has (nth pre e.1) c = true
  | [], _, e, he => by simp at he
  | (j, o) :: l, h, e, he => by
    simp only [harmless, Bool.and_eq_true] at h
    rcases List.mem_cons.1 he with rfl | he
    · exact h.1
    · exact harmless_spec h.2 e he

theorem listed_set {listed : Array Bool} {i : Nat} (hi : i < listed.size) : (fun j => (listed.setIfInBounds i true).getD j false) = addS (fun j => listed.getD j false) i := by
  funext j
  by_cases e : j = i
  · subst e; simp [addS, hi]
  · rw [getD_set_ne false (fun e2 => e e2.symm)]; simp [addS, e]

theorem getD_true {listed : Array Bool} {i : Nat} (h : i < listed.size) : listed.getD i true = listed.getD i false := by simp [h]

theorem mem_dsts {o : Oper} {t : Nat} (h : o.dst = some t) : ∀ {l : List Oper}, o ∈ l → t ∈ allDsts l
  | [], ho => by simp at ho
  | x :: l, ho => by
    rw [allDsts, List.mem_append]
    rcases List.mem_cons.1 ho with rfl | ho
    · exact .inl (by simp [dstL, h])
    · exact .inr (mem_dsts h ho)

/-- All is listed where nothing is ready. -/
theorem ready_nil (hP : PreS ops pre) {listed : Array Bool} (hsz : listed.size = ops.size) (h : Region.ready .any ops listed = []) : ∀ j, j < ops.size → listed.getD j false = true := by
  intro j
  induction j using Nat.strongRecOn with
  | ind j ih =>
    intro hj
    cases hl : listed.getD j false with
    | true => rfl
    | false =>
      exfalso
      have hm : j ∈ Region.ready .any ops listed := by
        refine mem_ready.2 ⟨by rw [getD_true (by omega)]; exact hl, ops[j], by simp [hj], fun e he hb => ?_⟩
        have h1 := hP.edge j ops[j] (by simp [hj]) e (by simpa using he) hb
        exact ih e.on h1 (by omega)
      rw [h] at hm; cases hm

/-- How the walk ended. -/
inductive Ended (P : Program) (call : TargetD → St → Option (EndD × St)) (r : Bool) (ops : Array Oper) (pre : List Nat) (m : Nat) (D : Nat → DrS) : ExitD → ActD → St → Prop
  | normal (hm : m = ops.size) {h : St} {t : List St} (hh : (D m).hs = h :: t) : Ended P call r ops pre m D .normal (D m).a (heapAdd h (fun i => !flushed pre (D m).cs i) (D m).fr)
  | panic {o : Oper} {v : Value} {s' : St} {rest : List (Nat × Oper)} (ho : ops[m]? = some o) (hst : DStop P call r ops.toList pre m o rest (D m) v s') (hrest : ∀ j, m < j → j < ops.size → has (nth pre j) m = true) :
      Ended P call r ops pre m D (.panic v) ⟨eraseL (D m).a.regs (allDsts ops.toList), (D m).a.nt, (D m).a.defers⟩ s'

theorem order_sound (T : Trace P call r ops pre base m D V) (hP : PreS ops pre) (hp : PairS ops pre) (hcall : CallS P call) (hlog : logOk P pre (D m) = true) {x : ExitD} {a' : ActD} {s' : St} (hend : Ended P call r ops pre m D x a' s') (hbase : s0.next ≤ base) {b : Frame} (hb : b.roundOf.isSome = r) {k : List Item} {cs : List Frame} :
    ∀ (fuel tt : Nat) (listed : Array Bool) (U : List Nat) (ρ : Env) (w : World) (ar : Act) (q : Nat) (h : St) (t : List St), listed.size = ops.size → U.length ≤ fuel → (∀ j, j < ops.size → listed.getD j false = false → j ∈ U) →
      Inv ops pre base m D V s0 ρ0 w0 lo (fun j => listed.getD j false) ρ w ar q h t →
      ∃ ρ' w' ar', Fr base s0 s' ρ0 ρ' w0 w' ∧ Rel ρ' s' w' ∧ ActR ρ' w' lo a' ar' ∧ s0.next ≤ s'.next ∧ Reach P ρ' (lone (b.atR ar (.inRegion ops (Region.linearise.go .any ops fuel tt listed []) :: k)) cs w) b k cs ar' w' x := by
  have done : ∀ (listed : Array Bool) (ρ : Env) (w : World) (ar : Act) (q : Nat) (h : St) (t : List St), (∀ j, j < ops.size → listed.getD j false = true) → Inv ops pre base m D V s0 ρ0 w0 lo (fun j => listed.getD j false) ρ w ar q h t →
      ∃ ρ' w' ar', Fr base s0 s' ρ0 ρ' w0 w' ∧ Rel ρ' s' w' ∧ ActR ρ' w' lo a' ar' ∧ s0.next ≤ s'.next ∧ Reach P ρ' (lone (b.atR ar (.inRegion ops [] :: k)) cs w) b k cs ar' w' x := by
    intro listed ρ w ar q h t hall I
    cases hend with
    | panic ho hst hrest =>
      exfalso
      have hlt := (Array.getElem?_eq_some_iff.1 ho).1
      have := I.lt m (hall m hlt)
      omega
    | normal hm hh =>
      rename_i h1 t1
      have hq : (D m).hs = (D q).hs ∧ (D m).cs = (D q).cs := by
        have := T.still q (m - q) (by have := I.qle; omega) (fun c h2 h3 hcm => by
          have h4 : c < m := T.cs_lt m (Nat.le_refl _) c hcm
          have h5 := (I.chain c hcm).1 (hall c (by have := T.le; omega))
          omega)
        rw [show q + (m - q) = m by have := I.qle; omega] at this
        exact this
      rw [hh, I.hh] at hq
      obtain ⟨e1, e2⟩ := hq
      injection e1 with e1 _
      subst e1
      have hσ : heapAdd h1 (fun i => !flushed pre (D m).cs i) (D m).fr = heapAdd h1 (keepS (fun j => listed.getD j false) pre (D q).cs) (D m).fr := by
        refine heapAdd_congr (fun e he => ?_)
        have := ((T.fr_ok m (Nat.le_refl _)).1 e he).2
        simp only [keepS, hall e.1 (by have := T.le; omega), Bool.true_and, e2]
      obtain ⟨n1, n2, n3⟩ := T.regs m (Nat.le_refl _)
      refine ⟨ρ, w, ar, by rw [hσ]; exact I.fr, by rw [hσ]; exact I.rel, ⟨by rw [I.size, n1], fun u v hu => ?_, by rw [n2]; exact I.defs⟩, ?_, .one stepR_region_end⟩
      · refine I.regs u v ?_
        have h2 := n3 u v hu
        rcases h2 with ⟨j, o, a1, a2, a3, a4, a5⟩ | ⟨a1, a2⟩
        · exact .inl ⟨j, o, hall j (Array.getElem?_eq_some_iff.1 a2).1, a2, a3, a4, fun j' o' b1 b2 b3 => a5 j' o' (I.lt j' b1) b2 b3⟩
        · exact .inr ⟨fun j o b1 b2 => a1 j o (I.lt j b1) b2, a2⟩
      · rw [heapAdd_next]; have := I.nxt; omega
  intro fuel
  induction fuel with
  | zero =>
    intro tt listed U ρ w ar q h t hsz hU hmem I
    have hU0 : U = [] := List.eq_nil_of_length_eq_zero (by omega)
    subst hU0
    have hall : ∀ j, j < ops.size → listed.getD j false = true := by
      intro j hj
      cases hl : listed.getD j false with
      | true => rfl
      | false => have := hmem j hj hl; cases this
    exact done listed ρ w ar q h t hall I
  | succ fuel ih =>
    intro tt listed U ρ w ar q h t hsz hU hmem I
    simp only [Region.linearise.go]
    change ∃ ρ' w' ar', Fr base s0 s' ρ0 ρ' w0 w' ∧ Rel ρ' s' w' ∧ ActR ρ' w' lo a' ar' ∧ s0.next ≤ s'.next ∧ Reach P ρ' (lone (b.atR ar (.inRegion ops (match (Region.ready .any ops listed)[tt % (Region.ready .any ops listed).length]? with
      | some i => Region.linearise.go .any ops fuel (tt / (Region.ready .any ops listed).length) (listed.setIfInBounds i true) [i]
      | none => [].reverse) :: k)) cs w) b k cs ar' w' x
    cases hi : (Region.ready .any ops listed)[tt % (Region.ready .any ops listed).length]? with
    | none =>
      have hnil : Region.ready .any ops listed = [] := by
        cases hr : Region.ready .any ops listed with
        | nil => rfl
        | cons y ys =>
          rw [hr] at hi
          have hlt : tt % (y :: ys).length < (y :: ys).length := Nat.mod_lt _ (by simp)
          rw [List.getElem?_eq_none_iff] at hi
          omega
      exact done listed ρ w ar q h t (ready_nil hP hsz hnil) I
    | some i =>
      obtain ⟨hi1, o, ho, hi2⟩ := mem_ready.1 (List.mem_of_getElem? hi)
      have hin : i < ops.size := (Array.getElem?_eq_some_iff.1 ho).1
      rw [getD_true (by omega)] at hi1
      have hpi : ∀ j, has (nth pre i) j = true → listed.getD j false = true := by
        intro j hj
        obtain ⟨e, he, hbe, hje⟩ := (hP.spec i o ho j).1 hj
        have h1 := hi2 e (by simpa using he) hbe
        rcases hje with rfl | hje
        · exact h1
        · exact I.closed e.on j h1 hje
      simp only
      rw [linearise_go_acc, List.reverse_singleton, List.singleton_append]
      rcases Nat.lt_or_ge i m with him | him
      · obtain ⟨ρ1, w1, ar1, q1, h1, t1, I1, hst⟩ := I.turn T hP hp hcall hlog him hi1 hpi hb k cs (Region.linearise.go .any ops fuel (tt / (Region.ready .any ops listed).length) (listed.setIfInBounds i true) [])
        rw [← listed_set (by omega)] at I1
        obtain ⟨ρ', w', ar', g1, g2, g3, g4, g5⟩ := ih (tt / (Region.ready .any ops listed).length) (listed.setIfInBounds i true) (U.erase i) ρ1 w1 ar1 q1 h1 t1 (by simpa using hsz) (by
            rw [List.length_erase_of_mem (hmem i hin hi1)]; omega) (fun j hj hl => by
            by_cases e : j = i
            · subst e
              have : (listed.setIfInBounds j true).getD j false = true := by simp [show j < listed.size by omega]
              rw [this] at hl; cases hl
            · rw [getD_set_ne false (fun e2 => e e2.symm)] at hl
              exact (List.mem_erase_of_ne e).2 (hmem j hj hl)) I1
        exact ⟨ρ', w', ar', g1, g2, g3, g4, g5.of_steps hst⟩
      · cases hend with
        | normal hm hh => omega
        | panic ho2 hst hrest =>
          rename_i o2 v rest
          have hmi : m = i := by
            rcases Nat.lt_or_ge m i with h1 | h1
            · have := I.lt m (hpi m (hrest i h1 hin)); omega
            · omega
          subst hmi
          rw [ho] at ho2; injection ho2 with ho2; subst ho2
          obtain ⟨hd, tl, hh, hl⟩ := hst.hl
          have hlate : ∀ c ∈ (D m).cs, m < c → (fun j => listed.getD j false) c = false := by
            intro c hc hlt
            have := T.cs_lt m (Nat.le_refl _) c hc
            omega
          obtain ⟨e1, e2, hrel, hsub, hop⟩ := I.chain_run T hP hp hcall (Nat.le_refl _) ho hi1 hpi hst.hw hst.hc hlate hh hl hb k cs (Region.linearise.go .any ops fuel (tt / (Region.ready .any ops listed).length) (listed.setIfInBounds m true) [])
          obtain ⟨ρ1, w1, v', g1, g2, g3, g4, g5⟩ := hop
          have hinn : (heapAdd h (fun j => has (nth pre m) j && !flushed pre (D q).cs j) (D m).fr).next = h.next := heapAdd_next _ _ _
          rw [hinn] at g4
          have hnx := I.nxt
          have hfr : Fr base s0 s' ρ0 ρ1 w0 w1 := I.fr.trans ((g1.of_less (fun kk oo hk => ⟨oo, hsub kk oo hk⟩)).weak (by rw [hinn]; omega) : Fr base _ s' ρ ρ1 w w1) (Nat.le_refl _)
          obtain ⟨n1, n2, n3⟩ := T.regs m (Nat.le_refl _)
          refine ⟨ρ1, w1, ar, hfr, g2, ⟨by rw [I.size]; exact n1.symm, fun u vv hu => ?_, ?_⟩, by omega, _, v', g3, g5⟩
          · simp only [eraseL_get] at hu
            split at hu
            · cases hu
            · rename_i hnd
              have hno : ∀ (j : Nat) (o' : Oper), ops[j]? = some o' → o'.dst ≠ some u := by
                intro j o' hj hd'
                exact hnd (mem_dsts hd' (List.mem_of_getElem? (i := j) (by simpa using hj)))
              have h2 : (D 0).a.regs.get u = some vv := by
                rcases n3 u vv hu with ⟨j, o', _, a2, a3, _⟩ | ⟨_, a2⟩
                · exact (hno j o' a2 a3).elim
                · exact a2
              obtain ⟨v2, b1, b2⟩ := I.regs u vv (.inr ⟨fun j o' _ a2 => hno j o' a2, h2⟩)
              exact ⟨v2, b1, b2.mono g1.le⟩
          · have := (I.defs.mono g1 (Nat.le_refl _)).high g1.size
            rw [← n2] at this
            exact this

theorem ended_of {x : ExitD} {a' : ActD} {s' : St} {d0 : DrS} (hd : drawGo P call r ops.toList pre base (numbered 0 ops.toList) d0 = some (x, a', s')) (h0 : ∃ h, d0.hs = [h]) (hcs : d0.cs = []) (hfr : d0.fr = []) (hlg : d0.lg = []) :
    ∃ m D V, D 0 = d0 ∧ Trace P call r ops pre base m D V ∧ logOk P pre (D m) = true ∧ Ended P call r ops pre m D x a' s' := by
  obtain ⟨m, D, V, h1, _, h3, h4, h5⟩ := draw_trace ops.toList 0 d0 hd
  have hle : m ≤ ops.size := by simpa using h3
  have hstep : ∀ j, j < m → ∃ o, ops[j]? = some o ∧ DStep P call r ops.toList pre base j o (D j) (D (j + 1)) (V j) := by
    intro j hj
    obtain ⟨o, g1, g2⟩ := h4 j (Nat.zero_le _) hj
    exact ⟨o, by simpa using g1, g2⟩
  have T : Trace P call r ops pre base m D V := ⟨hle, hstep, by rw [h1]; exact h0, by rw [h1]; exact hcs, by rw [h1]; exact hfr, by rw [h1]; exact hlg⟩
  rcases h5 with ⟨g1, rfl, rfl, g4, h, t, g5, rfl⟩ | ⟨o, v, g1, rfl, rfl, g4⟩
  · exact ⟨m, D, V, h1, T, g4, .normal (by simpa using g1) g5⟩
  · refine ⟨m, D, V, h1, T, g4.log, .panic (by simpa using g1) g4 (fun j hj hjn => ?_)⟩
    have := harmless_spec g4.safe (j, ops[j]) (by
      refine List.mem_of_getElem? (i := j - (m + 1)) ?_
      rw [numbered_get, List.getElem?_drop]
      have e : m - 0 + 1 + (j - (m + 1)) = j := by omega
      rw [e]
      simp [hjn]
      omega)
    exact this

/-- The drawn regions do as the interpreter says. -/
theorem drawS (hm : P.follows .mixedOrders = true) : DrawS P := by
  intro call hcall r id ops a s x a' s' hd it ρ w lo b ar k cs hst hb hs ha hlo
  cases hst
  unfold drawD at hd
  simp only at hd
  obtain ⟨hok, hd⟩ := cond_some hd
  rw [Bool.and_eq_true] at hok
  have hP := preS_of hok.1
  have hp : PairS ops (presL ops.toList []) := pairS_of hok.2
  obtain ⟨m, D, V, h0, T, hlog, hend⟩ := ended_of hd ⟨_, rfl⟩ rfl rfl rfl
  let w1 : World := { w with drawn := w.drawn + 1 }
  have hs1 : Rel ρ s w1 := hs.same rfl
  have hinit : Inv ops (presL ops.toList []) s.next m D V s ρ w lo (fun j => (Array.replicate ops.size false).getD j false) ρ w1 ar 0 ⟨s.heap, s.next + ops.toList.length⟩ [] := by
    have hfalse : ∀ j, (Array.replicate ops.size false).getD j false = false := by
      intro j
      rw [Array.getD_eq_getD_getElem?, Array.getElem?_replicate]
      split <;> rfl
    have hσ : heapAdd ⟨s.heap, s.next + ops.toList.length⟩ (keepS (fun j => (Array.replicate ops.size false).getD j false) (presL ops.toList []) (D 0).cs) (D m).fr = ⟨s.heap, s.next + ops.toList.length⟩ := by
      refine heapAdd_none (fun e _ => ?_)
      simp only [keepS, hfalse, Bool.false_and]
    have hrel2 : Rel ρ ⟨s.heap, s.next + ops.toList.length⟩ w1 := hs1.less (Nat.le_add_right _ _) (fun k o h => h) (fun k st es h _ => h)
    refine ⟨fun j hj => ?_, fun i j hj => ?_, Nat.zero_le _, fun c _ => ?_, by rw [h0], by rw [hσ]; exact hrel2, fun j hj _ => ?_, fun kk mm st seen hg => ?_, by simp, fun j hj _ => ?_, ?_, by rw [h0]; exact ha.size, fun u v hv => ?_, ?_⟩
    · rw [hfalse] at hj; cases hj
    · rw [hfalse] at hj; cases hj
    · rw [hfalse]; simp
    · exact (hs.dom (s.next + j) (Nat.le_add_right _ _)).2
    · obtain ⟨st0, es0, a1, _⟩ := hs.iter kk mm st seen hg
      exact ⟨st0, es0, a1⟩
    · exact (hs.dom (s.next + j) (Nat.le_add_right _ _)).1
    · rw [hσ]
      exact ⟨Env.le_refl _, fun _ _ h => h, Nat.le_refl _, fun _ _ _ => rfl, fun kk L hk h2 => (by rw [hk] at h2; cases h2), fun kk o L hk hL => .inr ⟨kk, o, L, hk, hL, rfl⟩, rfl, rfl, rfl⟩
    · rcases hv with ⟨j, _, hj, _⟩ | ⟨_, hv⟩
      · simp only [hfalse] at hj; cases hj
      · rw [h0] at hv; exact ha.regs u v hv
    · rw [h0]
      have hw1 : DefsR ρ w1 lo w.heap.size a.defers ar.defers := by
        have : ∀ {hi : Nat} {ds : List Def} {Ds : List Deferred}, DefsR ρ w lo hi ds Ds → DefsR ρ w1 lo hi ds Ds := by
          intro hi ds Ds hh
          induction hh with
          | nil => exact .nil _
          | call h t ih => exact .call h ih
          | mark h1 h2 h3 h4 t ih => exact .mark h1 h2 h3 h4 ih
        exact this ha.defs
      exact hw1
  have hsched : Region.schedule (P.follows .mixedOrders) ops (w.tape w.drawn (.order b.fn id)) = Region.linearise.go .any ops ops.size (w.tape w.drawn (.order b.fn id)) (Array.replicate ops.size false) [] := by
    simp only [Region.schedule, hm, Bool.true_or, if_true]
    rfl
  obtain ⟨ρ', w', ar', g1, g2, g3, g4, g5⟩ := order_sound T hP hp hcall hlog hend (Nat.le_refl _) hb (k := k) (cs := cs) ops.size (w.tape w.drawn (.order b.fn id)) (Array.replicate ops.size false) (List.range ops.size) ρ w1 ar 0 _ _ (by simp) (by simp) (fun j hj _ => List.mem_range.2 hj) hinit
  refine ⟨ρ', w', ar', g1, g2, g3, g4, Reach.of_steps (.one ?_) g5⟩
  have hst := stepR_region_draw (P := P) (b := b) (a := ar) (k := k) (cs := cs) (w := w) (ops := ops) (id := id)
  rw [hsched] at hst
  exact hst
end

/-- What the interpreter finds of a function is so, on every tape. -/
theorem run_calls (hN : Named P) (hm : P.follows .mixedOrders = true) {O : Oracle} (hO : OracleS P O) {n : Nat} {f : FuncId} {fn : Func} {c : Code} (hf : P.funcs[f]? = some fn) (hb : fn.body = some c) {args : List Value} {s s' : St} {e : EndD}
    (h : callFn P (eng P O n).ex (eng P O n).call f args s = some (e, s')) : FnS P f args s e s' := run_sound hN (drawS hm) hO hf hb h
end Go.Hg
