/- Regions that draw their order: the operations of the chain; all orders. -/
import Derived.Test.YthlkmfeelhbhjaaGreatDoorHgSr
set_option linter.unusedVariables false
set_option linter.unusedSimpArgs false
namespace Go.Hg
variable {P : Program}

section
variable {call : TargetD → St → Option (EndD × St)} {r : Bool} {ops : Array Oper} {pre : List Nat} {base m : Nat} {D : Nat → DrS} {V : Nat → Value}
variable {s0 : St} {ρ0 ρ : Env} {w0 w : World} {lo : Nat} {inS : Nat → Bool} {ar : Act} {q : Nat} {h : St} {t : List St}

/-- An operation of the chain, run on fewer blocks. -/
theorem Inv.chain_run (I : Inv ops pre base m D V s0 ρ0 w0 lo inS ρ w ar q h t) (T : Trace P call r ops pre base m D V) (hP : PreS ops pre) (hp : PairS ops pre) (hcall : CallS P call) {i : Nat} {o : Oper} (him : i ≤ m) (ho : ops[i]? = some o) (hi : inS i = false)
    (hpi : ∀ j, has (nth pre i) j = true → inS j = true) (hw : wantedD ops.toList (D i).a o = some true) (hc : ∀ c ∈ (D i).cs, has (nth pre i) c = true) (hlate : ∀ c ∈ (D m).cs, i < c → inS c = false) {hd : St} {tl : List St} (hh : (D i).hs = hd :: tl) {out : OutD}
    (hl : operD P call r (D i).a (heapFor pre (D i).cs hd (D i).fr (nth pre i)) o = some out) {b : Frame} (hb : b.roundOf.isSome = r) (k : List Item) (cs : List Frame) (rest : List Nat) :
    h = hd ∧ (D q).cs = (D i).cs ∧ Rel ρ (heapAdd h (fun j => has (nth pre i) j && !flushed pre (D q).cs j) (D m).fr) w ∧
      (∀ kk oo, (heapAdd h (fun j => has (nth pre i) j && !flushed pre (D q).cs j) (D m).fr).heap.get kk = some oo → (heapAdd h (keepS inS pre (D q).cs) (D m).fr).heap.get kk = some oo) ∧
      OperR P ρ (heapAdd h (fun j => has (nth pre i) j && !flushed pre (D q).cs j) (D m).fr) w b ar k cs ops i rest o out := by
  obtain ⟨e1, e2⟩ := I.here T him hi hpi hc hlate
  rw [I.hh, hh] at e1
  injection e1 with e1 _
  subst e1
  obtain ⟨hrel, hsub⟩ := I.less T (keep := fun j => has (nth pre i) j && !flushed pre (D q).cs j) (fun j hj => by
    simp only [Bool.and_eq_true] at hj
    simp only [keepS, Bool.and_eq_true]
    exact ⟨hpi j hj.1, hj.2⟩)
  refine ⟨rfl, e2, hrel, hsub, ?_⟩
  rw [T.heapFor_eq hP him, operD_congr (keepA_eval (D i).a o.op)] at hl
  rw [← e2] at hl
  exact oper_sound hcall hrel (I.regsR T hp him ho hi hpi) ho (I.wanted T hp him ho hi hpi hw) hb hl

theorem Inv.turn_chain (I : Inv ops pre base m D V s0 ρ0 w0 lo inS ρ w ar q h t) (T : Trace P call r ops pre base m D V) (hP : PreS ops pre) (hp : PairS ops pre) (hcall : CallS P call) {i : Nat} {o : Oper} (him : i < m) (ho : ops[i]? = some o) (hi : inS i = false)
    (hpi : ∀ j, has (nth pre i) j = true → inS j = true) (hput : (D i).a.put o.dst (V i) = some (D (i + 1)).a) (hw : wantedD ops.toList (D i).a o = some true) {hd s' : St} {tl : List St} (hh : (D i).hs = hd :: tl) (hc : ∀ c ∈ (D i).cs, has (nth pre i) c = true)
    (hl : operD P call r (D i).a (heapFor pre (D i).cs hd (D i).fr (nth pre i)) o = some (.val (V i) s')) (hhs : (D (i + 1)).hs = s' :: (D i).hs) (hcs : (D (i + 1)).cs = i :: (D i).cs) (hfr : (D (i + 1)).fr = (D i).fr) {b : Frame} (hb : b.roundOf.isSome = r)
    (k : List Item) (cs : List Frame) (rest : List Nat) : Turn P ops pre base m D V s0 ρ0 w0 lo inS i w ar b k cs rest := by
  have him' : i < ops.size := by have := T.le; omega
  have hicm : i ∈ (D m).cs := (T.cs_iff (j := i + 1) (by omega) (Nat.lt_succ_self _)).2 (by rw [hcs]; simp)
  have hlate : ∀ c ∈ (D m).cs, i < c → inS c = false := by
    intro c hcm hlt
    cases hS : inS c with
    | false => rfl
    | true =>
      have hcm' : c < m := I.lt c hS
      obtain ⟨oc, _, hstc⟩ := T.step c hcm'
      have hcc : c ∈ (D (c + 1)).cs := (T.cs_iff (j := c + 1) (by omega) (Nat.lt_succ_self _)).1 hcm
      have hnot : c ∉ (D c).cs := fun hx => by have := T.cs_lt c (by omega) c hx; omega
      cases hstc.kind with
      | skip _ _ _ h2 => rw [h2] at hcc; exact (hnot hcc).elim
      | light _ _ _ _ _ _ _ h2 => rw [h2] at hcc; exact (hnot hcc).elim
      | fresh _ _ _ _ _ _ _ h2 => rw [h2] at hcc; exact (hnot hcc).elim
      | chain _ _ _ _ _ hcc2 =>
        have h1 := hcc2 i ((T.cs_iff (by omega) hlt).1 hicm)
        have := I.closed c i hS h1
        rw [hi] at this; cases this
  obtain ⟨e1, e2, hrel, hsub, hop⟩ := I.chain_run T hP hp hcall (by omega) ho hi hpi hw hc hlate hh hl hb k cs rest
  subst e1
  obtain ⟨ρ', w', v', g1, g2, g3, g4, g5⟩ := hop
  obtain ⟨f1, f2⟩ := T.fr_ok m (Nat.le_refl _)
  have f3 := T.fr_iter m (Nat.le_refl _)
  have hne := Inv.no_entry T him hfr
  have hinn : (heapAdd h (fun j => has (nth pre i) j && !flushed pre (D q).cs j) (D m).fr).next = h.next := heapAdd_next _ _ _
  rw [hinn] at g4
  have hnx := I.nxt
  have hflc : ∀ j, flushed pre (D (i + 1)).cs j = (has (nth pre i) j || flushed pre (D q).cs j) := by
    intro j; rw [hcs, e2]; simp [flushed]
  -- the names of blocks that stood aside
  have haside : ∀ j, j < ops.size → flushed pre (D (i + 1)).cs j = false → (heapAdd h (fun j => has (nth pre i) j && !flushed pre (D q).cs j) (D m).fr).heap.get (base + j) = none := by
    intro j hj hfl
    rw [hflc, Bool.or_eq_false_iff] at hfl
    rw [heapAdd_miss]
    · exact I.nm j hj hfl.2
    · intro e he hke e3
      have := (f1 e he).1
      have : e.1 = j := by omega
      subst this
      simp [hfl.1] at hke
  have hlive : ∀ e ∈ (D m).fr, inS e.1 = true → flushed pre (D (i + 1)).cs e.1 = false → (heapAdd h (keepS inS pre (D q).cs) (D m).fr).heap.get e.2.1 = some e.2.2 := by
    intro e he hS hfl
    rw [hflc, Bool.or_eq_false_iff] at hfl
    exact heapAdd_hit (i := e.1) he (by simp [keepS, hS, hfl.2]) f2
  -- a block that stood aside is no live one's of the smaller heap
  have hapart : ∀ e ∈ (D m).fr, inS e.1 = true → flushed pre (D (i + 1)).cs e.1 = false → ∀ L, ρ e.2.1 = some L → ∀ k2 o2 L2, (heapAdd h (fun j => has (nth pre i) j && !flushed pre (D q).cs j) (D m).fr).heap.get k2 = some o2 → ρ k2 = some L2 → L2.block ≠ L.block := by
    intro e he hS hfl L hL k2 o2 L2 hg2 hL2 hb2
    have h1 := I.rel.inj k2 e.2.1 _ _ L2 L (hsub _ _ hg2) (hlive e he hS hfl) hL2 hL hb2
    have h2 := haside e.1 (by have := (f1 e he).2; have := T.le; omega) hfl
    rw [← (f1 e he).1, ← h1, hg2] at h2
    cases h2
  have hnm' : ∀ j, j < ops.size → flushed pre (D (i + 1)).cs j = false → s'.heap.get (base + j) = none := by
    intro j hj hfl
    cases hg : s'.heap.get (base + j) with
    | none => rfl
    | some oj =>
      exfalso
      obtain ⟨L, hL, _⟩ := g2.obj _ _ hg
      by_cases hS : inS j = true ∧ ∃ e ∈ (D m).fr, e.1 = j
      · obtain ⟨hS, e, he, rfl⟩ := hS
        have hlv := hlive e he hS hfl
        rw [← (f1 e he).1] at hL hg
        obtain ⟨L0, hL0, _⟩ := I.rel.obj _ _ hlv
        have hLL := g1.le _ _ hL0
        rw [hL] at hLL; injection hLL with hLL; subst hLL
        have hwf := I.rel.wf _ _ hL0
        rcases g1.live _ _ _ hg hL with h1 | ⟨k2, o2, L2, h1, h2, h3⟩
        · omega
        · exact hapart e he hS hfl L hL0 k2 o2 L2 h1 h2 h3
      · have hρ : ρ (base + j) = none := by
          refine I.res j hj ?_
          cases hSj : inS j with
          | false => exact .inl rfl
          | true => exact .inr fun e he e2 => hS ⟨hSj, e, he, e2⟩
        have := g1.fresh (base + j) (by rw [hinn]; omega) hρ
        rw [this] at hL; cases hL
  -- the new heap
  have hkeep : ∀ e ∈ (D m).fr, keepS (addS inS i) pre (D (i + 1)).cs e.1 = true → inS e.1 = true ∧ flushed pre (D (i + 1)).cs e.1 = false := by
    intro e he hke
    simp only [keepS, addS, Bool.and_eq_true, Bool.or_eq_true, decide_eq_true_eq, Bool.not_eq_true'] at hke
    exact ⟨hke.1.resolve_left (hne e he), hke.2⟩
  have hextra : ∀ e ∈ (D m).fr, inS e.1 = true → flushed pre (D (i + 1)).cs e.1 = false → ∃ L, ρ e.2.1 = some L ∧ ρ' e.2.1 = some L ∧ ObjR ρ' L w' e.2.2 ∧ L.block < w.heap.size := by
    intro e he hS hfl
    obtain ⟨L, hL, hobj⟩ := I.rel.obj _ _ (hlive e he hS hfl)
    have hwf := I.rel.wf _ _ hL
    refine ⟨L, hL, g1.le _ _ hL, (hobj.mono g1.le).congr (g1.keepL _ hwf (fun k2 o2 L2 h1 h2 => hapart e he hS hfl L hL k2 o2 L2 h1 h2)), hwf⟩
  have hrel' : Rel ρ' (heapAdd s' (keepS (addS inS i) pre (D (i + 1)).cs) (D m).fr) w' := by
    refine ⟨fun kk hkk => ?_, fun kk oo hg => ?_, fun k1 k2 o1 o2 L1 L2 hg1 hg2 hL1 hL2 hbb => ?_, fun kk mm st seen hg => ?_, g2.wf⟩
    · rw [heapAdd_next] at hkk
      refine ⟨(g2.dom kk hkk).1, ?_⟩
      rw [heapAdd_miss]
      · exact (g2.dom kk hkk).2
      · intro e he _ e3
        have h1 := f1 e he
        have := T.le
        omega
    · rcases heapAdd_cases f2 hg with ⟨e, he, h1, h2, h3⟩ | ⟨h1, _⟩
      · obtain ⟨hS, hfl⟩ := hkeep e he h1
        obtain ⟨L, _, h5, h6, _⟩ := hextra e he hS hfl
        rw [← h2, ← h3]
        exact ⟨L, h5, h6⟩
      · exact g2.obj _ _ h1
    · rcases heapAdd_cases f2 hg1 with ⟨e, he, h1, h2, h3⟩ | ⟨h1, _⟩ <;> rcases heapAdd_cases f2 hg2 with ⟨e', he', h1', h2', h3'⟩ | ⟨h1', _⟩
      · obtain ⟨hS, hfl⟩ := hkeep e he h1
        obtain ⟨hS', hfl'⟩ := hkeep e' he' h1'
        obtain ⟨L, a1, a2, _, _⟩ := hextra e he hS hfl
        obtain ⟨L', a1', a2', _, _⟩ := hextra e' he' hS' hfl'
        rw [← h2] at hL1 ⊢; rw [← h2'] at hL2 ⊢
        rw [a2] at hL1; injection hL1 with hL1; subst hL1
        rw [a2'] at hL2; injection hL2 with hL2; subst hL2
        exact I.rel.inj _ _ _ _ _ _ (hlive e he hS hfl) (hlive e' he' hS' hfl') a1 a1' hbb
      · obtain ⟨hS, hfl⟩ := hkeep e he h1
        obtain ⟨L, a1, a2, _, a4⟩ := hextra e he hS hfl
        rw [← h2] at hL1
        rw [a2] at hL1; injection hL1 with hL1; subst hL1
        rcases g1.live _ _ _ h1' hL2 with h5 | ⟨k3, o3, L3, h5, h6, h7⟩
        · omega
        · exact (hapart e he hS hfl L a1 k3 o3 L3 h5 h6 (by omega)).elim
      · obtain ⟨hS, hfl⟩ := hkeep e' he' h1'
        obtain ⟨L, a1, a2, _, a4⟩ := hextra e' he' hS hfl
        rw [← h2'] at hL2
        rw [a2] at hL2; injection hL2 with hL2; subst hL2
        rcases g1.live _ _ _ h1 hL1 with h5 | ⟨k3, o3, L3, h5, h6, h7⟩
        · omega
        · exact (hapart e' he' hS hfl L a1 k3 o3 L3 h5 h6 (by omega)).elim
      · exact g2.inj _ _ _ _ _ _ h1 h1' hL1 hL2 hbb
    · rcases heapAdd_cases f2 hg with ⟨e, he, h1, h2, h3⟩ | ⟨h1, _⟩
      · exact (f3 e he _ _ _ h3).elim
      · obtain ⟨st0, es0, a1, a2, a3⟩ := g2.iter kk mm st seen h1
        refine ⟨st0, es0, ?_, a2, a3⟩
        rw [heapAdd_miss]
        · exact a1
        · intro e he hke e3
          obtain ⟨hS, hfl⟩ := hkeep e he hke
          have h5 := hnm' e.1 (by have := (f1 e he).2; have := T.le; omega) hfl
          rw [← (f1 e he).1, e3, a1] at h5
          cases h5
  have hfr' : Fr base s0 (heapAdd s' (keepS (addS inS i) pre (D (i + 1)).cs) (D m).fr) ρ0 ρ' w0 w' := by
    have h1 : Fr base (heapAdd h (keepS inS pre (D q).cs) (D m).fr) s' ρ ρ' w w' := (g1.of_less (fun kk oo hk => ⟨oo, hsub kk oo hk⟩)).weak (by rw [hinn]; omega)
    have h2 : Fr base (heapAdd h (keepS inS pre (D q).cs) (D m).fr) (heapAdd s' (keepS (addS inS i) pre (D (i + 1)).cs) (D m).fr) ρ ρ' w w' := by
      refine ⟨h1.le, h1.fresh, h1.size, h1.keepL, h1.new, fun kk oo L hg hL => ?_, h1.os, h1.output, h1.tape⟩
      rcases heapAdd_cases f2 hg with ⟨e, he, a1, a2, a3⟩ | ⟨a1, _⟩
      · obtain ⟨hS, hfl⟩ := hkeep e he a1
        obtain ⟨L', b1, b2, _, _⟩ := hextra e he hS hfl
        rw [← a2, b2] at hL; injection hL with hL; subst hL
        exact .inr ⟨e.2.1, e.2.2, _, hlive e he hS hfl, b1, rfl⟩
      · exact h1.live kk oo L a1 hL
    exact I.fr.trans h2 (Nat.le_refl _)
  obtain ⟨p1, p2, p3, p4⟩ := put_some hput
  have hnt := (T.regs i (by omega)).1
  refine ⟨ρ', w', ar.put o.dst v', i + 1, s', _, ⟨fun j hj => ?_, fun j kk hj hk => ?_, by omega, fun c hcm => ?_, hhs, hrel', hnm', ?_, by omega, fun j hj hjs => ?_, hfr', ?_, ?_, ?_⟩, g5⟩
  · rcases (addS_iff _ _ _).1 hj with rfl | hj
    · exact him
    · exact I.lt j hj
  · rcases (addS_iff _ _ _).1 hj with rfl | hj
    · exact (addS_iff _ _ _).2 (.inr (hpi kk hk))
    · exact (addS_iff _ _ _).2 (.inr (I.closed j kk hj hk))
  · rw [addS_iff]
    constructor
    · rintro (rfl | h1)
      · exact Nat.lt_succ_self _
      · rcases Nat.lt_or_ge i c with h2 | h2
        · rw [hlate c hcm h2] at h1; cases h1
        · omega
    · intro hlt
      rcases Nat.lt_or_ge c i with h2 | h2
      · exact .inr (hpi c (hc c ((T.cs_iff (by omega) h2).1 hcm)))
      · exact .inl (by omega)
  · intro kk mm st seen hg
    obtain ⟨st0, es0, a1, _⟩ := g2.iter kk mm st seen hg
    exact ⟨st0, es0, a1⟩
  · have hρ : ρ (base + j) = none := by
      refine I.res j hj ?_
      rcases hjs with h1 | h1
      · simp only [addS, Bool.or_eq_false_iff] at h1; exact .inl h1.2
      · exact .inr h1
    exact g1.fresh _ (by rw [hinn]; omega) hρ
  · have := I.size
    cases o.dst <;> simpa [Act.put] using this
  · exact regs_put hp I.closed ho (by simp [hi]) (addS_iff inS i) (fun u v hu => by
      obtain ⟨u', a1, a2⟩ := I.regs u v hu
      exact ⟨u', a1, a2.mono g1.le⟩) g3 (fun d hd => by rw [I.size, ← hnt]; exact p3 d hd)
  · have := (I.defs.mono g1 (Nat.le_refl _)).high g1.size
    cases o.dst <;> simpa [Act.put] using this

/-- Any operation's turn. -/
theorem Inv.turn (I : Inv ops pre base m D V s0 ρ0 w0 lo inS ρ w ar q h t) (T : Trace P call r ops pre base m D V) (hP : PreS ops pre) (hp : PairS ops pre) (hcall : CallS P call) (hlog : logOk P pre (D m) = true) {i : Nat} (him : i < m) (hi : inS i = false)
    (hpi : ∀ j, has (nth pre i) j = true → inS j = true) {b : Frame} (hb : b.roundOf.isSome = r) (k : List Item) (cs : List Frame) (rest : List Nat) : Turn P ops pre base m D V s0 ρ0 w0 lo inS i w ar b k cs rest := by
  obtain ⟨o, ho, hst⟩ := T.step i him
  cases hst.kind with
  | skip hw hv h1 h2 h3 h4 => exact I.turn_skip T hp him ho hi hpi hst.put hw hv h2 h3 b k cs rest
  | light hw hd tl hh hcl hl h1 h2 h3 h4 => exact I.turn_light T hP hp hlog him ho hi hpi hst.put hw hh hcl hl h2 h3 h4 b k cs rest
  | fresh hw bo f hcl hl hv h1 h2 h3 h4 => exact I.turn_fresh T hp him ho hi hpi hst.put hw hcl hl hv h2 h3 b k cs rest
  | chain hw hd tl s' hh hc hl h1 h2 h3 h4 => exact I.turn_chain T hP hp hcall him ho hi hpi hst.put hw hh hc hl h1 h2 h3 hb k cs rest
end
end Go.Hg
