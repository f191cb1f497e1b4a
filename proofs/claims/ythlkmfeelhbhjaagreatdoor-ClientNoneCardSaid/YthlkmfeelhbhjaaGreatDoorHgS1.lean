/- The relation between the interpreter's states and the model's worlds. -/
import Derived.Test.YthlkmfeelhbhjaaGreatDoorHgS0
import Derived.Laws.Sem
import Derived.Laws.Cells
import Derived.Laws.Rows
set_option linter.unusedVariables false
set_option linter.unusedSimpArgs false
namespace Go.Hg

def CellsR (ρ : Env) (c : Tr Value) (base n : Nat) (arr : Array Value) : Prop :=
  ∀ (i : Nat) (v : Value), c.get i = some v → i < n ∧ ∃ v', arr[base + i]? = some v' ∧ VR ρ v v'

def keyV : Value → Bool
  | .int _ _ | .string _ | .bool _ => true
  | _ => false

structure MapR (ρ : Env) (es : List (Value × Value)) (es' : Array MapEntry) (clock : Nat) : Prop where
  size : es'.size = es.length
  ent : ∀ (i : Nat) (k v : Value) (e : MapEntry), es[i]? = some (k, v) → es'[i]? = some e → e.key = k ∧ keyV k = true ∧ VR ρ v e.val
  born : ∀ (i : Nat) (e : MapEntry), es'[i]? = some e → e.born < clock

structure LoopR (ρ : Env) (D : LoopD) (r : Loop) : Prop where
  state : r.state = D.state
  pending : r.pending = D.pending
  params : r.params.toList = D.params
  assign : r.assign = D.assign
  body : r.body = D.body
  size : r.tmps.size = D.nt
  regs : RegsR ρ D.regs r.tmps

/-- No cell between lo and hi is frozen. -/
def freeFrom (fz : Nat × Nat) (lo hi : Nat) : Prop := ∀ i, lo ≤ i → i < hi → (decide (fz.1 ≤ i) && decide (i < fz.2)) = false

def ObjR (ρ : Env) (L : Loc) (w : World) : Obj → Prop
  | .cells n g c => L.size = n ∧ L.grow = g ∧ ∃ arr el fz, w.heap[L.block]? = some (Go.Obj.cells arr el fz) ∧ arr.size = L.room ∧ L.base + n ≤ L.room ∧ freeFrom fz L.base L.room ∧ CellsR ρ c L.base n arr
  | .map _ es => ∃ es' clock, w.heap[L.block]? = some (Go.Obj.map es' clock) ∧ MapR ρ es es' clock
  | .loop D => ∃ r, w.heap[L.block]? = some (Go.Obj.loop r) ∧ LoopR ρ D r
  | .iter m _ _ => ∃ m' since seen' stepped, w.heap[L.block]? = some (Go.Obj.mapIter m' since seen' stepped) ∧ (m = none → m' = none) ∧ L.base = 0

def IterR (ρ : Env) (s : St) (w : World) : Prop := ∀ k m st seen, s.heap.get k = some (.iter (some m) st seen) →
  ∃ st0 es0, s.heap.get m = some (.map st0 es0) ∧ st ≤ st0 ∧ (st = st0 → es0.length ≤ 1 → ∀ L Lm, ρ k = some L → ρ m = some Lm →
    ∃ since seen' stepped es' clock, w.heap[L.block]? = some (Go.Obj.mapIter (some Lm.block) since seen' stepped) ∧ w.heap[Lm.block]? = some (Go.Obj.map es' clock) ∧
      (seen = false → seen' = #[] ∧ since = clock) ∧ (seen = true → ∃ e, es' = #[e] ∧ seen' = #[e.born] ∧ stepped = clock ∧ since = clock))

structure Rel (ρ : Env) (s : St) (w : World) : Prop where
  dom : ∀ k, s.next ≤ k → ρ k = none ∧ s.heap.get k = none
  obj : ∀ k o, s.heap.get k = some o → ∃ L, ρ k = some L ∧ ObjR ρ L w o
  inj : ∀ k k' o o' L L', s.heap.get k = some o → s.heap.get k' = some o' → ρ k = some L → ρ k' = some L' → L.block = L'.block → k = k'
  iter : IterR ρ s w
  wf : ∀ k L, ρ k = some L → L.block < w.heap.size

/-- What becomes of names and of the world, from one state to another. n: names ahead of it that stand for nothing go on standing for nothing. -/
structure Fr (n : Nat) (s s' : St) (ρ ρ' : Env) (w w' : World) : Prop where
  le : ρ.le ρ'
  fresh : ∀ k, k < n → ρ k = none → ρ' k = none
  size : w.heap.size ≤ w'.heap.size
  keepL : ∀ b, b < w.heap.size → (∀ k o L, s.heap.get k = some o → ρ k = some L → L.block ≠ b) → w'.heap[b]? = w.heap[b]?
  new : ∀ k L, ρ' k = some L → ρ k = none → w.heap.size ≤ L.block ∨ ∃ k0 L0, ρ k0 = some L0 ∧ L0.block = L.block
  live : ∀ k o L, s'.heap.get k = some o → ρ' k = some L → w.heap.size ≤ L.block ∨ ∃ k0 o0 L0, s.heap.get k0 = some o0 ∧ ρ k0 = some L0 ∧ L0.block = L.block
  os : w'.os = w.os
  output : w'.output = w.output
  tape : w'.tape = w.tape

theorem Fr.keep {n : Nat} {s s' : St} {ρ ρ' : Env} {w w' : World} (h : Fr n s s' ρ ρ' w w') : ∀ b, b < w.heap.size → (∀ k L, ρ k = some L → L.block ≠ b) → w'.heap[b]? = w.heap[b]? :=
  fun b hb hno => h.keepL b hb (fun k _ L _ hk => hno k L hk)

theorem Fr.refl (n : Nat) (s : St) (ρ : Env) (w : World) : Fr n s s ρ ρ w w :=
  ⟨Env.le_refl _, fun _ _ h => h, Nat.le_refl _, fun _ _ _ => rfl, fun _ _ h h' => (by rw [h] at h'; cases h'), fun k o L h h' => .inr ⟨k, o, L, h, h', rfl⟩, rfl, rfl, rfl⟩

theorem Fr.trans {n n' : Nat} {s₁ s₂ s₃ : St} {ρ₁ ρ₂ ρ₃ : Env} {w₁ w₂ w₃ : World} (h : Fr n s₁ s₂ ρ₁ ρ₂ w₁ w₂) (h' : Fr n' s₂ s₃ ρ₂ ρ₃ w₂ w₃) (hn : n ≤ n') : Fr n s₁ s₃ ρ₁ ρ₃ w₁ w₃ where
  le := Env.le_trans h.le h'.le
  fresh k hk h0 := h'.fresh k (by omega) (h.fresh k hk h0)
  size := Nat.le_trans h.size h'.size
  keepL b hb hno := by
    rw [h'.keepL b (Nat.lt_of_lt_of_le hb h.size) ?_, h.keepL b hb hno]
    intro k o L hg hk
    rcases h.live k o L hg hk with h1 | ⟨k0, o0, L0, h1, h2, h3⟩
    · omega
    · rw [← h3]; exact hno k0 o0 L0 h1 h2
  new k L hk h0 := by
    cases h2 : ρ₂ k with
    | some L2 => have := h'.le k L2 h2; rw [hk] at this; injection this with this; subst this; exact h.new k L h2 h0
    | none =>
      rcases h'.new k L hk h2 with h1 | ⟨k0, L0, h1, h3⟩
      · exact .inl (Nat.le_trans h.size h1)
      · cases h4 : ρ₁ k0 with
        | some L4 => have := h.le k0 L4 h4; rw [h1] at this; injection this with this; subst this; exact .inr ⟨k0, L0, h4, h3⟩
        | none => rw [← h3]; exact h.new k0 L0 h1 h4
  live k o L hg hk := by
    rcases h'.live k o L hg hk with h1 | ⟨k0, o0, L0, h1, h2, h3⟩
    · exact .inl (Nat.le_trans h.size h1)
    · rw [← h3]; exact h.live k0 o0 L0 h1 h2
  os := h'.os.trans h.os
  output := h'.output.trans h.output
  tape := h'.tape.trans h.tape

theorem Fr.weak {n n' : Nat} {s s' : St} {ρ ρ' : Env} {w w' : World} (h : Fr n s s' ρ ρ' w w') (hn : n' ≤ n) : Fr n' s s' ρ ρ' w w' := { h with fresh := fun k hk => h.fresh k (by omega) }

theorem Fr.live_set {n : Nat} {s s' : St} {ρ ρ' : Env} {w w' : World} {k : Nat} {o : Obj} (h : Fr n s s' ρ ρ' w w') (hg : s'.heap.get k = some o) (o' : Obj) : Fr n s (s'.setObj k o') ρ ρ' w w' := by
  refine ⟨h.le, h.fresh, h.size, h.keepL, h.new, fun j oj L hj hL => ?_, h.os, h.output, h.tape⟩
  simp only [St.setObj, Tr.get_set] at hj
  by_cases e : j = k
  · subst e; exact h.live j o L hg hL
  · rw [if_neg e] at hj; exact h.live j oj L hj hL

/-- From a state that knows more. -/
theorem Fr.of_less {n : Nat} {s s1 s' : St} {ρ ρ' : Env} {w w' : World} (h : Fr n s1 s' ρ ρ' w w') (hs : ∀ k o, s1.heap.get k = some o → ∃ o', s.heap.get k = some o') : Fr n s s' ρ ρ' w w' := by
  refine ⟨h.le, h.fresh, h.size, fun b hb hno => h.keepL b hb (fun k o L hg hk => ?_), h.new, fun k o L hg hL => ?_, h.os, h.output, h.tape⟩
  · obtain ⟨o', h'⟩ := hs k o hg
    exact hno k o' L h' hk
  · rcases h.live k o L hg hL with h1 | ⟨k0, o0, L0, h1, h2, h3⟩
    · exact .inl h1
    · obtain ⟨o', h'⟩ := hs k0 o0 h1
      exact .inr ⟨k0, o', L0, h', h2, h3⟩

/-! ### The relation abides -/
theorem CellsR.mono {ρ ρ' : Env} (hle : ρ.le ρ') {c : Tr Value} {b n : Nat} {arr : Array Value} (h : CellsR ρ c b n arr) : CellsR ρ' c b n arr := fun i v hi =>
  let ⟨a, v', b, c⟩ := h i v hi; ⟨a, v', b, c.mono hle⟩

theorem ObjR.mono {ρ ρ' : Env} (hle : ρ.le ρ') {L : Loc} {w : World} {o : Obj} (h : ObjR ρ L w o) : ObjR ρ' L w o := by
  cases o with
  | cells n g c => obtain ⟨a, b, arr, el, fz, c1, d, e, f, g⟩ := h; exact ⟨a, b, arr, el, fz, c1, d, e, f, g.mono hle⟩
  | map st es => obtain ⟨es', clock, a, b⟩ := h; exact ⟨es', clock, a, b.size, fun i k v e h1 h2 => let ⟨x, y, z⟩ := b.ent i k v e h1 h2; ⟨x, y, z.mono hle⟩, b.born⟩
  | loop D => obtain ⟨r, a, b⟩ := h; exact ⟨r, a, { b with regs := b.regs.mono hle }⟩
  | iter m st seen => exact h

theorem ObjR.congr {ρ : Env} {L : Loc} {w w' : World} {o : Obj} (hw : w'.heap[L.block]? = w.heap[L.block]?) (h : ObjR ρ L w o) : ObjR ρ L w' o := by
  cases o <;> (simp only [ObjR, hw] at *; exact h)

/-- Is it a row of cells, or a loop? -/
def Obj.plain : Obj → Bool
  | .cells _ _ _ | .loop _ => true
  | _ => false

theorem IterR.plain {ρ : Env} {s : St} {w w' : World} {k : Nat} {o o' : Obj} {L : Loc} (h : Rel ρ s w) (hk : s.heap.get k = some o) (hL : ρ k = some L)
    (hp : o.plain = true) (hp' : o'.plain = true) (hoth : ∀ b, b ≠ L.block → w'.heap[b]? = w.heap[b]?) : IterR ρ (s.setObj k o') w' := by
  intro j m st seen hj
  simp only [St.setObj, Tr.get_set] at hj ⊢
  have hjk : j ≠ k := by
    intro e; subst e; rw [if_pos rfl] at hj; injection hj with hj; subst hj; cases hp'
  rw [if_neg hjk] at hj
  obtain ⟨st0, es0, h1, h2, h3⟩ := h.iter j m st seen hj
  have hmk : m ≠ k := by
    intro e; subst e; rw [hk] at h1; injection h1 with h1; subst h1; cases hp
  refine ⟨st0, es0, by rw [if_neg hmk]; exact h1, h2, fun h4 h5 Lj Lm hj' hm' => ?_⟩
  obtain ⟨since, seen', stepped, es', clock, a, b, c, d⟩ := h3 h4 h5 Lj Lm hj' hm'
  exact ⟨since, seen', stepped, es', clock, by rw [hoth _ (fun e => hjk (h.inj _ _ _ _ _ _ hj hk hj' hL e))]; exact a,
    by rw [hoth _ (fun e => hmk (h.inj _ _ _ _ _ _ h1 hk hm' hL e))]; exact b, c, d⟩

theorem Rel.change {ρ : Env} {s : St} {w w' : World} {k : Nat} {o o' : Obj} {L : Loc} (h : Rel ρ s w) (hk : s.heap.get k = some o) (hL : ρ k = some L)
    (hsz : w'.heap.size = w.heap.size) (hoth : ∀ b, b ≠ L.block → w'.heap[b]? = w.heap[b]?) (ho : ObjR ρ L w' o') (hit : IterR ρ (s.setObj k o') w') :
    Rel ρ (s.setObj k o') w' where
  dom j hj := ⟨(h.dom j hj).1, by
    simp only [St.setObj, Tr.get_set]
    rw [if_neg]
    · exact (h.dom j hj).2
    · intro e; subst e; have := (h.dom j hj).1; rw [hL] at this; cases this⟩
  obj j oj hj := by
    simp only [St.setObj, Tr.get_set] at hj
    split at hj
    · rename_i e; subst e; injection hj with hj; subst hj; exact ⟨L, hL, ho⟩
    · rename_i e
      obtain ⟨Lj, h1, h2⟩ := h.obj j oj hj
      exact ⟨Lj, h1, h2.congr (hoth _ (fun e' => e (h.inj _ _ _ _ _ _ hj hk h1 hL e')))⟩
  inj j j' oj oj' Lj Lj' hj hj' hl hl' hb := by
    simp only [St.setObj, Tr.get_set] at hj hj'
    have a : ∃ x, s.heap.get j = some x := by
      split at hj
      · rename_i e; subst e; exact ⟨_, hk⟩
      · exact ⟨_, hj⟩
    have a' : ∃ x, s.heap.get j' = some x := by
      split at hj'
      · rename_i e; subst e; exact ⟨_, hk⟩
      · exact ⟨_, hj'⟩
    obtain ⟨x, hx⟩ := a; obtain ⟨x', hx'⟩ := a'
    exact h.inj _ _ _ _ _ _ hx hx' hl hl' hb
  iter := hit
  wf j Lj hj := by rw [hsz]; exact h.wf j Lj hj

def Env.ext (ρ : Env) (k : Nat) (L : Loc) : Env := fun j => if j = k then some L else ρ j
theorem Env.le_ext {ρ : Env} {k : Nat} (L : Loc) (h : ρ k = none) : ρ.le (ρ.ext k L) := fun j Lj hj => by
  unfold Env.ext; rw [if_neg]; exact hj; intro e; subst e; rw [h] at hj; cases hj
@[simp] theorem Env.ext_same (ρ : Env) (k : Nat) (L : Loc) : ρ.ext k L k = some L := by simp [Env.ext]
theorem Env.ext_other {ρ : Env} {k j : Nat} (L : Loc) (h : j ≠ k) : ρ.ext k L j = ρ j := by simp [Env.ext, h]

/-- A block is laid, under a name that stood for nothing. -/
theorem Rel.lay {ρ : Env} {s : St} {w w' : World} {k nx : Nat} {o : Obj} {L : Loc} (h : Rel ρ s w) (hk : ρ k = none) (hs : s.heap.get k = none) (hnx : s.next ≤ nx) (hkn : k < nx)
    (hsz : w.heap.size ≤ w'.heap.size) (hLb : w.heap.size ≤ L.block) (hLb' : L.block < w'.heap.size) (hoth : ∀ b, b < w.heap.size → w'.heap[b]? = w.heap[b]?)
    (ho : ObjR (ρ.ext k L) L w' o) (hit : ∀ m st seen, o = .iter (some m) st seen → IterR (ρ.ext k L) ⟨s.heap.set k o, nx⟩ w') :
    Rel (ρ.ext k L) ⟨s.heap.set k o, nx⟩ w' := by
  have hle := Env.le_ext L hk
  refine ⟨fun j hj => ?_, fun j oj hj => ?_, fun j j' oj oj' Lj Lj' hj hj' hl hl' hb => ?_, ?_, fun j Lj hj => ?_⟩
  · have : j ≠ k := by simp at hj; omega
    simp only at hj
    exact ⟨by rw [Env.ext_other _ this]; exact (h.dom j (by omega)).1, by simp only [Tr.get_set]; rw [if_neg this]; exact (h.dom j (by omega)).2⟩
  · simp only [Tr.get_set] at hj
    split at hj
    · rename_i e; subst e; injection hj with hj; subst hj; exact ⟨L, by simp, ho⟩
    · rename_i e
      obtain ⟨Lj, h1, h2⟩ := h.obj j oj hj
      exact ⟨Lj, hle _ _ h1, (h2.mono hle).congr (hoth _ (h.wf _ _ h1))⟩
  · simp only [Tr.get_set] at hj hj'
    by_cases e : j = k <;> by_cases e' : j' = k
    · rw [e, e']
    · subst e; rw [if_neg e'] at hj'; rw [Env.ext_other _ e'] at hl'
      simp at hl; subst hl
      have := h.wf _ _ hl'; omega
    · subst e'; rw [if_neg e] at hj; rw [Env.ext_other _ e] at hl
      simp at hl'; subst hl'
      have := h.wf _ _ hl; omega
    · rw [if_neg e] at hj; rw [if_neg e'] at hj'; rw [Env.ext_other _ e] at hl; rw [Env.ext_other _ e'] at hl'
      exact h.inj _ _ _ _ _ _ hj hj' hl hl' hb
  · by_cases hi : ∃ m st seen, o = .iter (some m) st seen
    · obtain ⟨m, st, seen, hi⟩ := hi; exact hit m st seen hi
    · intro j m st seen hj
      simp only [Tr.get_set] at hj ⊢
      have hjk : j ≠ k := by
        intro e; subst e; rw [if_pos rfl] at hj; injection hj with hj; exact hi ⟨m, st, seen, hj⟩
      rw [if_neg hjk] at hj
      obtain ⟨st0, es0, h1, h2, h3⟩ := h.iter j m st seen hj
      have hmk : m ≠ k := by intro e; subst e; rw [hs] at h1; cases h1
      refine ⟨st0, es0, by rw [if_neg hmk]; exact h1, h2, fun h4 h5 Lj Lm hj' hm' => ?_⟩
      rw [Env.ext_other _ hjk] at hj'; rw [Env.ext_other _ hmk] at hm'
      obtain ⟨since, seen', stepped, es', clock, a, b, c, d⟩ := h3 h4 h5 Lj Lm hj' hm'
      exact ⟨since, seen', stepped, es', clock, by rw [hoth _ (h.wf _ _ hj')]; exact a, by rw [hoth _ (h.wf _ _ hm')]; exact b, c, d⟩
  · by_cases e : j = k
    · subst e; simp at hj; subst hj; exact hLb'
    · rw [Env.ext_other _ e] at hj; have := h.wf _ _ hj; omega

/-- Worlds that hold the same blocks. -/
theorem Rel.same {ρ : Env} {s : St} {w w' : World} (h : Rel ρ s w) (hw : w'.heap = w.heap) : Rel ρ s w' where
  dom := h.dom
  obj k o hk := let ⟨L, a, b⟩ := h.obj k o hk; ⟨L, a, b.congr (by rw [hw])⟩
  inj := h.inj
  iter := by
    intro k m st seen hk
    obtain ⟨st0, es0, h1, h2, h3⟩ := h.iter k m st seen hk
    refine ⟨st0, es0, h1, h2, fun h4 h5 L Lm hL hm => ?_⟩
    rw [hw]; exact h3 h4 h5 L Lm hL hm
  wf k L hk := by rw [hw]; exact h.wf k L hk

/-- A state that knows less. -/
theorem Rel.less {ρ : Env} {s s' : St} {w : World} (h : Rel ρ s w) (hn : s.next ≤ s'.next) (hs : ∀ k o, s'.heap.get k = some o → s.heap.get k = some o)
    (hm : ∀ k st es, s.heap.get k = some (.map st es) → (∃ j st' seen, s'.heap.get j = some (.iter (some k) st' seen)) → s'.heap.get k = some (.map st es)) : Rel ρ s' w where
  dom k hk := ⟨(h.dom k (by omega)).1, by
    cases hg : s'.heap.get k with
    | none => rfl
    | some o => have := hs k o hg; rw [(h.dom k (by omega)).2] at this; cases this⟩
  obj k o hk := h.obj k o (hs k o hk)
  inj k k' o o' L L' a b c d e := h.inj k k' o o' L L' (hs _ _ a) (hs _ _ b) c d e
  iter := by
    intro k m st seen hk
    obtain ⟨st0, es0, h1, h2, h3⟩ := h.iter k m st seen (hs _ _ hk)
    exact ⟨st0, es0, hm _ _ _ h1 ⟨k, st, seen, hk⟩, h2, h3⟩
  wf := h.wf

theorem Rel.kill {ρ : Env} {s : St} {w : World} {k n g : Nat} {c : Tr Value} (h : Rel ρ s w) (hk : s.heap.get k = some (.cells n g c)) : Rel ρ (s.kill k) w :=
  h.less (Nat.le_refl _) (fun j o hj => by simp only [St.kill, Tr.get_put] at hj; split at hj; cases hj; exact hj)
    (fun j st es hj _ => by
      simp only [St.kill, Tr.get_put]; rw [if_neg]; exact hj
      intro e; subst e; rw [hk] at hj; cases hj)

/-! ### Addresses -/
theorem add_none (b o n : Nat) : (⟨b, o, none⟩ : Addr).add n = ⟨b, o + n, none⟩ := by
  unfold Addr.add; split
  · subst_vars; rfl
  · rfl

theorem cell_of_cells {w : World} {b o : Nat} {arr : Array Value} {el : TypeId} {fz : Nat × Nat} (h : w.heap[b]? = some (.cells arr el fz)) : w.cell? ⟨b, o, none⟩ = arr[o]? := by
  simp [World.cell?, h]

theorem frozen_of_cells {w : World} {b o : Nat} {arr : Array Value} {el : TypeId} {fz : Nat × Nat} (h : w.heap[b]? = some (.cells arr el fz)) :
    w.frozen? ⟨b, o, none⟩ = (decide (fz.1 ≤ o) && decide (o < fz.2)) := by
  simp [World.frozen?, h]

theorem heap_setCell {w : World} {b o : Nat} {v : Value} {arr : Array Value} {el : TypeId} {fz : Nat × Nat} (h : w.heap[b]? = some (.cells arr el fz)) :
    (w.setCell ⟨b, o, none⟩ v).heap[b]? = some (.cells (arr.setIfInBounds o v) el fz) := by
  simp [World.setCell, Array.getElem?_modify, h]

theorem heap_setCell_ne {w : World} {b o j : Nat} {v : Value} (h : j ≠ b) : (w.setCell ⟨b, o, none⟩ v).heap[j]? = w.heap[j]? := by
  simp only [World.setCell, Array.getElem?_modify]; rw [if_neg (by omega)]

theorem size_setCell (w : World) (a : Addr) (v : Value) : (w.setCell a v).heap.size = w.heap.size := by simp [World.setCell]
end Go.Hg
