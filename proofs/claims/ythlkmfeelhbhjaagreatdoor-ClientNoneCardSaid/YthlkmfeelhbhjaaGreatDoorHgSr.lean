/- Regions that draw their order: an operation, whenever its turn comes. -/
import Derived.Test.YthlkmfeelhbhjaaGreatDoorHgSq
set_option linter.unusedVariables false
set_option linter.unusedSimpArgs false
namespace Go.Hg
variable {P : Program}

section
variable {call : TargetD → St → Option (EndD × St)} {r : Bool} {ops : Array Oper} {pre : List Nat} {base m : Nat} {D : Nat → DrS} {V : Nat → Value}
variable {s0 : St} {ρ0 ρ : Env} {w0 w : World} {lo : Nat} {inS : Nat → Bool} {ar : Act} {q : Nat} {h : St} {t : List St}

theorem Rel.eqv {s s' : St} (hr : Rel ρ s w) (hn : s'.next = s.next) (hg : ∀ k, s'.heap.get k = s.heap.get k) : Rel ρ s' w :=
  hr.less (by omega) (fun k o h => by rw [← hg]; exact h) (fun k st es h _ => by rw [hg]; exact h)

/-- Ahead of the operation's turn, the chain stands where it stood in the text. -/
theorem Inv.here (I : Inv ops pre base m D V s0 ρ0 w0 lo inS ρ w ar q h t) (T : Trace P call r ops pre base m D V) {i : Nat} (him : i ≤ m) (hi : inS i = false) (hpi : ∀ j, has (nth pre i) j = true → inS j = true)
    (hc : ∀ c ∈ (D i).cs, has (nth pre i) c = true) (hlate : ∀ c ∈ (D m).cs, i < c → inS c = false) : (D q).hs = (D i).hs ∧ (D q).cs = (D i).cs := by
  have hchain : ∀ c ∈ (D m).cs, c ≠ i → (inS c = true ↔ c < i) := by
    intro c hcm hne
    constructor
    · intro hS
      rcases Nat.lt_trichotomy c i with h1 | h1 | h1
      · exact h1
      · exact (hne h1).elim
      · rw [hlate c hcm h1] at hS; cases hS
    · intro hlt
      exact hpi c (hc c ((T.cs_iff him hlt).1 hcm))
  rcases Nat.le_total q i with h1 | h1
  · have := T.still q (i - q) (by omega) (fun c h2 h3 hcm => by
      have h4 : c < i := by omega
      have h5 := (I.chain c hcm).1 ((hchain c hcm (by omega)).2 h4)
      omega)
    rw [show q + (i - q) = i by omega] at this
    exact ⟨this.1.symm, this.2.symm⟩
  · have hq := I.qle
    have := T.still i (q - i) (by omega) (fun c h2 h3 hcm => by
      have h5 := (I.chain c hcm).2 (by omega)
      by_cases e : c = i
      · subst e; rw [hi] at h5; cases h5
      · have := (hchain c hcm e).1 h5
        omega)
    rw [show i + (q - i) = q by omega] at this
    exact this

theorem logOk_spec {d : DrS} (hl : logOk P pre d = true) : (∃ x, progress d.hs d.cs = [x]) ∨ ∀ e ∈ d.lg, ∀ hc ∈ progress d.hs d.cs,
    (∀ c ∈ d.cs, has (nth pre e.1) c = true → c ∈ hc.2) → (∀ c ∈ hc.2, has (nth pre c) e.1 = false) → lightD P e.2.2.1 (heapFor pre hc.2 hc.1 d.fr (nth pre e.1)) e.2.1 = some e.2.2.2 := by
  unfold logOk at hl
  simp only at hl
  split at hl
  · rename_i x hx; exact .inl ⟨x, hx⟩
  · right
    rw [List.all_eq_true] at hl
    intro e he hc hm h1 h2
    have := hl e he
    unfold logOk1 at this
    rw [List.all_eq_true] at this
    have h3 := this hc hm
    obtain ⟨hh, ck⟩ := hc
    simp only [Bool.or_eq_true, Bool.not_eq_true', Bool.and_eq_false_iff] at h3
    rcases h3 with (h3 | h3) | h3
    · exfalso
      have : (d.cs.all fun c => !has (nth pre e.1) c || ck.contains c) = true := by
        rw [List.all_eq_true]
        intro c hcm
        cases hp : has (nth pre e.1) c with
        | false => rfl
        | true => simpa using h1 c hcm hp
      rw [this] at h3; cases h3
    · exfalso
      have : (ck.all fun c => !has (nth pre c) e.1) = true := by
        rw [List.all_eq_true]
        intro c hcm
        rw [h2 c hcm]; rfl
      rw [this] at h3; cases h3
    · split at h3
      · rename_i v hv
        rw [hv, (beqV_eq 100).1 _ _ h3]
      · cases h3

/-- What the interpreter reckoned in the text's order, it reckons here. -/
theorem Inv.light (I : Inv ops pre base m D V s0 ρ0 w0 lo inS ρ w ar q h t) (T : Trace P call r ops pre base m D V) (hP : PreS ops pre) (hlog : logOk P pre (D m) = true) {i : Nat} {o : Oper} (him : i < m) (hi : inS i = false) (hpi : ∀ j, has (nth pre i) j = true → inS j = true) {hd : St} {tl : List St}
    (hh : (D i).hs = hd :: tl) (hl : lightD P (D i).a (heapFor pre (D i).cs hd (D i).fr (nth pre i)) o.op = some (V i)) (hlg : (D (i + 1)).lg = cond (reads o.op) ((i, o.op, (D i).a, V i) :: (D i).lg) (D i).lg) :
    lightD P (D i).a (heapAdd h (fun j => has (nth pre i) j && !flushed pre (D q).cs j) (D m).fr) o.op = some (V i) := by
  cases hr : reads o.op with
  | false => rw [← hl]; exact lightD_noread hr
  | true =>
    rw [hr] at hlg; simp only [cond_true] at hlg
    have hmem : (i, o.op, (D i).a, V i) ∈ (D (i + 1)).lg := by rw [hlg]; simp
    have hmem' := T.log_mem hmem (m - (i + 1)) (by omega)
    rw [show i + 1 + (m - (i + 1)) = m by omega] at hmem'
    have hprog := T.progress_mem I.hh (m - q) (by have := I.qle; omega)
    rw [show q + (m - q) = m by have := I.qle; omega] at hprog
    rcases logOk_spec hlog with ⟨x, hx⟩ | hall
    · have hprog2 := T.progress_mem hh (m - i) (by omega)
      rw [show i + (m - i) = m by omega] at hprog2
      rw [hx] at hprog hprog2
      simp only [List.mem_singleton] at hprog hprog2
      rw [← hprog2] at hprog
      injection hprog with e1 e2
      rw [T.heapFor_eq hP (by omega)] at hl
      rw [e1, e2]
      exact hl
    · refine hall _ hmem' _ hprog (fun c hc hpc => ?_) (fun c hc => ?_)
      · have h1 := (I.chain c hc).1 (hpi c hpc)
        exact (T.cs_iff I.qle h1).1 hc
      · have hlt := T.cs_lt q I.qle c hc
        have hcm := (T.cs_iff I.qle hlt).2 hc
        have hS := (I.chain c hcm).2 hlt
        cases hx : has (nth pre c) i with
        | false => rfl
        | true => have := I.closed c i hS hx; rw [hi] at this; cases this

/-- What an operation's turn does. -/
def Turn (P : Program) (ops : Array Oper) (pre : List Nat) (base m : Nat) (D : Nat → DrS) (V : Nat → Value) (s0 : St) (ρ0 : Env) (w0 : World) (lo : Nat) (inS : Nat → Bool) (i : Nat) (w : World) (ar : Act) (b : Frame) (k : List Item) (cs : List Frame) (rest : List Nat) : Prop :=
  ∃ ρ' w' ar' q' h' t', Inv ops pre base m D V s0 ρ0 w0 lo (addS inS i) ρ' w' ar' q' h' t' ∧ Steps P (lone (b.atR ar (.inRegion ops (i :: rest) :: k)) cs w) (lone (b.atR ar' (.inRegion ops rest :: k)) cs w')

theorem Inv.turn_light (I : Inv ops pre base m D V s0 ρ0 w0 lo inS ρ w ar q h t) (T : Trace P call r ops pre base m D V) (hP : PreS ops pre) (hp : PairS ops pre) (hlog : logOk P pre (D m) = true) {i : Nat} {o : Oper} (him : i < m) (ho : ops[i]? = some o) (hi : inS i = false)
    (hpi : ∀ j, has (nth pre i) j = true → inS j = true) (hput : (D i).a.put o.dst (V i) = some (D (i + 1)).a) (hw : wantedD ops.toList (D i).a o = some true) {hd : St} {tl : List St} (hh : (D i).hs = hd :: tl) (hcl : cls o.op = 0)
    (hl : lightD P (D i).a (heapFor pre (D i).cs hd (D i).fr (nth pre i)) o.op = some (V i)) (hcs : (D (i + 1)).cs = (D i).cs) (hfr : (D (i + 1)).fr = (D i).fr)
    (hlg : (D (i + 1)).lg = cond (reads o.op) ((i, o.op, (D i).a, V i) :: (D i).lg) (D i).lg) (b : Frame) (k : List Item) (cs : List Frame) (rest : List Nat) : Turn P ops pre base m D V s0 ρ0 w0 lo inS i w ar b k cs rest := by
  have h1 := I.light T hP hlog him hi hpi hh hl hlg
  have hrel := (I.less T (keep := fun j => has (nth pre i) j && !flushed pre (D q).cs j) (fun j hj => by
    simp only [Bool.and_eq_true] at hj
    simp only [keepS, Bool.and_eq_true]
    exact ⟨hpi j hj.1, hj.2⟩)).1
  rw [lightD_congr (keepA_eval (D i).a o.op)] at h1
  obtain ⟨v', h2, h3⟩ := light_sound (P := P) hrel (I.regsR T hp (by omega) ho hi hpi) h1
  exact ⟨ρ, w, _, q, h, t, I.quiet T hp him ho hi hpi hput hfr hcs h3, .one (step_value ho (I.wanted T hp (by omega) ho hi hpi hw) (cls_not_defer (.inl hcl)) h2)⟩

theorem Inv.turn_skip (I : Inv ops pre base m D V s0 ρ0 w0 lo inS ρ w ar q h t) (T : Trace P call r ops pre base m D V) (hp : PairS ops pre) {i : Nat} {o : Oper} (him : i < m) (ho : ops[i]? = some o) (hi : inS i = false)
    (hpi : ∀ j, has (nth pre i) j = true → inS j = true) (hput : (D i).a.put o.dst (V i) = some (D (i + 1)).a) (hw : wantedD ops.toList (D i).a o = some false) (hv : V i = undefD) (hcs : (D (i + 1)).cs = (D i).cs) (hfr : (D (i + 1)).fr = (D i).fr)
    (b : Frame) (k : List Item) (cs : List Frame) (rest : List Nat) : Turn P ops pre base m D V s0 ρ0 w0 lo inS i w ar b k cs rest := by
  have hw' := I.wanted T hp (by omega) ho hi hpi hw
  have hst := stepR_op_skip (P := P) (b := b) (a := ar) (k := k) (cs := cs) (w := w) (ops := ops) (i := i) (rest := rest) (by rw [ho]; simpa using hw')
  have e : (ops[i]?).bind (·.dst) = o.dst := by rw [ho]; rfl
  rw [e] at hst
  exact ⟨ρ, w, _, q, h, t, I.quiet T hp him ho hi hpi hput hfr hcs (by rw [hv]; exact undef_rel), .one hst⟩

theorem Inv.turn_fresh (I : Inv ops pre base m D V s0 ρ0 w0 lo inS ρ w ar q h t) (T : Trace P call r ops pre base m D V) (hp : PairS ops pre) {i : Nat} {o : Oper} (him : i < m) (ho : ops[i]? = some o) (hi : inS i = false)
    (hpi : ∀ j, has (nth pre i) j = true → inS j = true) (hput : (D i).a.put o.dst (V i) = some (D (i + 1)).a) (hw : wantedD ops.toList (D i).a o = some true) {bo : Obj} {f : Nat → Value} (hcl : cls o.op = 1) (hl : freshD P (D i).a o.op = some (bo, f)) (hv : V i = f (base + i))
    (hcs : (D (i + 1)).cs = (D i).cs) (hfr : (D (i + 1)).fr = (D i).fr ++ [(i, base + i, bo)]) (b : Frame) (k : List Item) (cs : List Frame) (rest : List Nat) : Turn P ops pre base m D V s0 ρ0 w0 lo inS i w ar b k cs rest := by
  have him' : i < ops.size := by have := T.le; omega
  obtain ⟨f1, f2⟩ := T.fr_ok m (Nat.le_refl _)
  have hρ : ρ (base + i) = none := I.res i him' (.inl hi)
  have hσn : (heapAdd h (keepS inS pre (D q).cs) (D m).fr).next = h.next := heapAdd_next _ _ _
  have hkh : (heapAdd h (keepS inS pre (D q).cs) (D m).fr).heap.get (base + i) = none := by
    cases hg : (heapAdd h (keepS inS pre (D q).cs) (D m).fr).heap.get (base + i) with
    | none => rfl
    | some x => obtain ⟨L, a, _⟩ := I.rel.obj _ _ hg; rw [hρ] at a; cases a
  have hl' := hl
  rw [freshD_congr (keepA_eval (D i).a o.op)] at hl'
  have hnx := I.nxt
  obtain ⟨X, v', L, g1, g2, g3, g4⟩ := fresh_rel (P := P) (k := base + i) (nx := h.next) I.rel (I.regsR T hp (by omega) ho hi hpi) hl' hρ hkh (by rw [hσn]; exact Nat.le_refl _) (by omega)
  have hmemF : (i, base + i, bo) ∈ (D m).fr := by
    obtain ⟨t', h1, _⟩ := T.fr_pre (i + 1) (m - (i + 1)) (by omega)
    rw [show i + 1 + (m - (i + 1)) = m by omega] at h1
    rw [h1, hfr]; simp
  have hnfl : flushed pre (D q).cs i = false := by
    cases hx : flushed pre (D q).cs i with
    | false => rfl
    | true =>
      simp only [flushed, List.any_eq_true] at hx
      obtain ⟨c, hc, hpc⟩ := hx
      have hlt := T.cs_lt q I.qle c hc
      have hS := (I.chain c ((T.cs_iff I.qle hlt).2 hc)).2 hlt
      have := I.closed c i hS hpc
      rw [hi] at this; cases this
  have hget : ∀ kk, (heapAdd h (keepS (addS inS i) pre (D q).cs) (D m).fr).heap.get kk = ((heapAdd h (keepS inS pre (D q).cs) (D m).fr).heap.set (base + i) bo).get kk := by
    intro kk
    rw [Tr.get_set]
    by_cases e : kk = base + i
    · rw [if_pos e, e]
      exact heapAdd_hit (i := i) hmemF (by simp [keepS, addS, hnfl]) f2
    · rw [if_neg e]
      refine heapAdd_same f2 (fun en hen hk => ?_)
      have h1 := (f1 en hen).1
      have : en.1 ≠ i := by intro e2; apply e; rw [← hk, h1, e2]
      simp [keepS, addS, this]
  have hle := Env.le_ext L hρ
  have hfrp : Fr base (heapAdd h (keepS inS pre (D q).cs) (D m).fr) ⟨(heapAdd h (keepS inS pre (D q).cs) (D m).fr).heap.set (base + i) bo, h.next⟩ ρ (ρ.ext (base + i) L) w (push w X) := fr_push _ X hρ (by omega) g2
  have hfrp' := hfrp.to_less (s'' := heapAdd h (keepS (addS inS i) pre (D q).cs) (D m).fr) (fun kk oo hk => ⟨oo, by rw [← hget kk]; exact hk⟩)
  have hnc : i ∉ (D m).cs := by
    intro hc
    have := (T.cs_iff (j := i + 1) (by omega) (Nat.lt_succ_self _)).1 hc
    rw [hcs] at this
    have := T.cs_lt i (by omega) i this
    omega
  obtain ⟨p1, p2, p3, p4⟩ := put_some hput
  have hnt := (T.regs i (by omega)).1
  refine ⟨ρ.ext (base + i) L, push w X, ar.put o.dst v', q, h, t, ⟨fun j hj => ?_, fun j kk hj hk => ?_, I.qle, fun c hc => ?_, I.hh, ?_, I.nm, I.it, I.nxt, fun j hj hjs => ?_, I.fr.trans hfrp' (Nat.le_refl _), ?_, ?_, ?_⟩,
    .one (step_value ho (I.wanted T hp (by omega) ho hi hpi hw) (cls_not_defer (.inr hcl)) g1)⟩
  · rcases (addS_iff _ _ _).1 hj with rfl | hj
    · exact him
    · exact I.lt j hj
  · rcases (addS_iff _ _ _).1 hj with rfl | hj
    · exact (addS_iff _ _ _).2 (.inr (hpi kk hk))
    · exact (addS_iff _ _ _).2 (.inr (I.closed j kk hj hk))
  · rw [addS_iff, ← I.chain c hc]
    constructor
    · rintro (rfl | h1)
      · exact (hnc hc).elim
      · exact h1
    · exact .inr
  · exact g3.eqv (by rw [heapAdd_next]) hget
  · have hji : j ≠ i := by
      rintro rfl
      rcases hjs with h1 | h1
      · simp [addS] at h1
      · exact h1 _ hmemF rfl
    rw [Env.ext_other _ (by omega)]
    refine I.res j hj ?_
    rcases hjs with h1 | h1
    · simp only [addS, Bool.or_eq_false_iff] at h1; exact .inl h1.2
    · exact .inr h1
  · have := I.size
    cases o.dst <;> simpa [Act.put] using this
  · exact regs_put hp I.closed ho (by simp [hi]) (addS_iff inS i) (fun u v hu => by
      obtain ⟨u', a1, a2⟩ := I.regs u v hu
      exact ⟨u', a1, a2.mono hle⟩) (by rw [hv]; exact g4) (fun d hd => by rw [I.size, ← hnt]; exact p3 d hd)
  · have := (I.defs.mono hfrp (Nat.le_refl _)).high hfrp.size
    cases o.dst <;> simpa [Act.put] using this
end
end Go.Hg
