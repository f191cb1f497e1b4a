/- Quick forms: append, rows shared. -/
import Derived.Test.YthlkmfeelhbhjaaGreatDoorHgG3
set_option linter.unusedVariables false
set_option linter.unusedSimpArgs false
noncomputable section
namespace Go.Hg

/-- Is it the trie of just so many elements, each for one cell? -/
def okV (v : Option Value) : Bool := Option.rec (motive := fun _ => Bool) false (fun v => oneCell v) v
def canonT (t : Tr Value) : Nat → Bool := Tr.rec (motive := fun _ => Nat → Bool) (fun n => Nat.rec (motive := fun _ => Bool) true (fun _ _ => false) n)
  (fun v _ _ ihl ihr n => Nat.rec (motive := fun _ => Bool) false (fun k _ => Bool.rec (motive := fun _ => Bool) false (Bool.rec (motive := fun _ => Bool) false (ihr (Nat.div k 2)) (ihl (Nat.div (Nat.succ k) 2))) (okV v)) n) t

theorem merge_lists {α : Type} : ∀ (a b : List α), (a.length = b.length ∨ a.length = b.length + 1) → ∃ l, evens l = a ∧ odds l = b ∧ l.length = a.length + b.length ∧ ∀ v, v ∈ l → v ∈ a ∨ v ∈ b := by
  intro a
  induction a with
  | nil =>
    intro b h
    cases b with
    | nil => exact ⟨[], rfl, rfl, rfl, fun v h => by cases h⟩
    | cons w b => simp at h
  | cons v a ih =>
    intro b h
    cases b with
    | nil =>
      have : a = [] := by cases a with
        | nil => rfl
        | cons x y => simp at h
      subst this
      exact ⟨[v], rfl, rfl, rfl, fun w h => .inl h⟩
    | cons w b =>
      simp only [List.length_cons] at h
      obtain ⟨l, h1, h2, h3, h4⟩ := ih b (by omega)
      refine ⟨v :: w :: l, ?_, ?_, ?_, ?_⟩
      · rw [evens_cons, odds_cons, h1]
      · rw [odds_cons, evens_cons, h2]
      · simp only [List.length_cons, h3]; omega
      · intro x hx
        simp only [List.mem_cons] at hx ⊢
        rcases hx with hx | hx | hx
        · exact .inl (.inl hx)
        · exact .inr (.inl hx)
        · rcases h4 x hx with h5 | h5
          · exact .inl (.inr h5)
          · exact .inr (.inr h5)

theorem canonT_eq (t : Tr Value) : ∀ n, canonT t n = true → ∃ l, l.length = n ∧ t = Tr.ofList l ∧ ∀ v ∈ l, oneCell v = true := by
  induction t with
  | nil =>
    intro n h
    cases n with
    | zero => exact ⟨[], rfl, rfl, fun v h => by cases h⟩
    | succ n => cases h
  | node v L R ihl ihr =>
    intro n h
    cases n with
    | zero => cases h
    | succ k =>
      have h0 : canonT (.node v L R) (k + 1) = cond (okV v) (cond (canonT L ((k + 1) / 2)) (canonT R (k / 2)) false) false := (brec _ _ _).trans (by rw [brec]; rfl)
      rw [h0] at h
      cases v with
      | none => cases h
      | some v =>
        have hv : oneCell v = true := by
          cases hv : oneCell v with
          | true => rfl
          | false => have : okV (some v) = false := hv
                     rw [this] at h; cases h
        have : okV (some v) = true := hv
        rw [this, cond_true] at h
        cases hl : canonT L ((k + 1) / 2) with
        | false => rw [hl] at h; cases h
        | true =>
          rw [hl, cond_true] at h
          obtain ⟨a, a1, a2, a3⟩ := ihl _ hl
          obtain ⟨b, b1, b2, b3⟩ := ihr _ h
          obtain ⟨l, l1, l2, l3, l4⟩ := merge_lists a b (by omega)
          refine ⟨v :: l, by rw [List.length_cons, l3]; omega, ?_, ?_⟩
          · have e2 : Tr.ofList (v :: l) = Tr.fill (.node (some v) .nil .nil) (2 * 0 + 1) l := rfl
            rw [e2, (fill_node l _ _ _ 0).1, l1, l2, a2, b2]; rfl
          · intro w hw
            rcases List.mem_cons.1 hw with rfl | hw
            · exact hv
            · rcases l4 w hw with h5 | h5
              · exact a3 w h5
              · exact b3 w h5

theorem fill_append (l m : List Value) : ∀ (t : Tr Value) (i : Nat), Tr.fill t i (l ++ m) = Tr.fill (Tr.fill t i l) (i + l.length) m := by
  induction l with
  | nil => intro t i; rfl
  | cons v l ih =>
    intro t i
    show Tr.fill (t.set i v) (Nat.succ i) (l ++ m) = Tr.fill (Tr.fill (t.set i v) (Nat.succ i) l) (i + (l.length + 1)) m
    rw [ih]; congr 1; omega
def fillF (l : List Value) : Tr Value → Nat → Tr Value := List.rec (motive := fun _ => Tr Value → Nat → Tr Value) (fun t _ => t) (fun v _ ih t i => ih (t.set i v) (Nat.succ i)) l
theorem fillF_eq (l : List Value) : ∀ t i, fillF l t i = Tr.fill t i l := by
  induction l with
  | nil => intro t i; rfl
  | cons v l ih => intro t i; exact ih _ _

theorem loadN_list (l : List Value) : ∀ (m a : List Value), l = a ++ m → loadN (Tr.ofList l) a.length m.length = some m := by
  intro m
  induction m with
  | nil => intro a h; rfl
  | cons v m ih =>
    intro a h
    have h1 : (Tr.ofList l).get a.length = some v := by rw [Tr.get_ofList, h]; simp
    have h2 := ih (a ++ [v]) (by rw [h]; simp)
    rw [List.length_append, List.length_singleton] at h2
    simp only [List.length_cons, loadN, h1, Nat.succ_eq_add_one, h2]
theorem loadN_all (l : List Value) : loadN (Tr.ofList l) 0 l.length = some l := loadN_list l l [] rfl

def allE (l : List Value) : Bool := List.rec (motive := fun _ => Bool) true (fun x _ ih => Bool.rec (motive := fun _ => Bool) false ih (oneCell x)) l
section
variable (P : Program) (elem size bytes : Nat)

/-- The row behind a slice, as it is. -/
def rowB (lx kx offx : Nat) (hp : Tr Obj) (nx : Nat) (fb : Option (Value × St)) : Option (Value × St) := match hp.get kx with
  | some (.cells _ _ cx) => cond (Nat.beq offx 0 && canonT cx (lx * size)) (some (.slice (some ⟨nx, 0, none⟩) lx lx, ⟨hp.set nx (.cells (lx * size) size cx), Nat.succ nx⟩)) fb
  | _ => fb
def rowA (k sLen sCap lx nn g : Nat) (c : Tr Value) (new : List Value) (hp : Tr Obj) (nx : Nat) (fb : Option (Value × St)) : Option (Value × St) :=
  let hp1 := match g with
    | 0 => some hp
    | g + 1 => cond (Nat.beq (g + 1) size) (some (cond (Nat.beq (sCap * size) nn) (hp.put k none) hp)) none
  match hp1 with
  | some hp1 => cond (Nat.beq (lenF new) (lx * size) && allE new) (some (.slice (some ⟨nx, 0, none⟩) (sLen + lx) (sLen + lx), ⟨hp1.set nx (.cells (sLen * size + lx * size) size (fillF new c (sLen * size))), Nat.succ nx⟩)) fb
  | none => fb
def appFast (base : Option Addr) (sLen sCap : Nat) (x : Value) (hp : Tr Obj) (nx : Nat) (fb : Option (Value × St)) : Option (Value × St) := match x with
  | .slice (some ⟨kx, offx, none⟩) lx _ =>
    cond (Nat.ble (sLen + lx) sCap) fb (cond (Nat.ble ((sLen + lx) * bytes) most) (match base with
      | none => cond (Nat.beq sLen 0) (rowB size lx kx offx hp nx fb) fb
      | some ⟨k, off, none⟩ => match hp.get k with
        | some (.cells nn g c) => cond (Nat.beq sLen 0) (cond (Nat.beq g 0) (rowB size lx kx offx hp nx fb) fb)
          (cond (Nat.beq off 0 && canonT c (sLen * size)) (match firstD size lx x ⟨hp, nx⟩ with
            | some new => rowA size k sLen sCap lx nn g c new hp nx fb
            | none => fb) fb)
        | _ => fb
      | _ => fb) fb)
  | _ => fb
end

theorem allE_eq (l : List Value) : allE l = l.all oneCell := by
  induction l with
  | nil => rfl
  | cons x l ih =>
    refine (brec _ _ _).trans ?_
    rw [List.all_cons]
    cases oneCell x with
    | true => exact ih
    | false => rfl

theorem rowB_eq {P : Program} {elem size bytes lx kx offx capx : Nat} {z : Value} {base : Option Addr} {sCap : Nat} {s : St}
    (hz : zeroOf P elem = some z) (h1 : 0 < size) (h2 : 0 < bytes) (h3 : (cellsOf z).length = size) (h4 : Nat.ble ((0 + lx) * bytes) most = true)
    (hf : firstD size 0 (.slice base 0 sCap) s = some []) (he : exact s (.slice base 0 sCap) size = some true) (fb : Option (Value × St))
    (hfb : fb = match firstD size lx (.slice (some ⟨kx, offx, none⟩) lx capx) s with
      | some new => appNew P elem size bytes (.slice base 0 sCap) base 0 lx new s
      | none => none) :
    rowB size lx kx offx s.heap s.next fb = fb := by
  unfold rowB
  split
  · rename_i nn g cx hk
    cases hc : Nat.beq offx 0 && canonT cx (lx * size) with
    | false => rfl
    | true =>
      rw [Bool.and_eq_true] at hc
      have ho := Nat.eq_of_beq_eq_true hc.1
      subst ho
      obtain ⟨l, e1, e2, e3⟩ := canonT_eq cx _ hc.2
      have hfx : firstD size lx (.slice (some ⟨kx, 0, none⟩) lx capx) s = some l := by
        simp only [firstD, St.cells, hk]
        rw [e2, ← e1]; exact loadN_all l
      rw [hfb, hfx]
      simp only [cond_true]
      unfold appNew
      simp only [hf, he, hz, List.nil_append]
      have b1 : Nat.blt 0 size = true := Nat.ble_eq_true_of_le h1
      have b2 : Nat.blt 0 bytes = true := Nat.ble_eq_true_of_le h2
      have b3 : Nat.beq (cellsOf z).length size = true := by rw [h3, beq_dec]; simp
      have b5 : Nat.beq l.length ((0 + lx) * size) = true := by rw [e1, Nat.zero_add, beq_dec]; simp
      have b6 : l.all oneCell = true := List.all_eq_true.2 e3
      simp only [h4, b1, b2, b3, b5, b6, Bool.and_self, cond_true]
      rw [e2, e1, Nat.zero_add]
      cases base <;> rfl
  · rfl

theorem appFast_eq {P : Program} {sType elem size bytes : Nat} {z : Value} {xType : Option TypeId} (hu : und P sType = some (.slice elem)) (hs : szOf P elem = some size) (hb : bytesOf' P elem = some bytes) (hzz : zerosD P xType = some false)
    (hz : zeroOf P elem = some z) (h1 : 0 < size) (h2 : 0 < bytes) (h3 : (cellsOf z).length = size) (base : Option Addr) (sLen sCap : Nat) (x : Value) (s : St) :
    appFast size bytes base sLen sCap x s.heap s.next (appendD P sType xType (.slice base sLen sCap) x s) = appendD P sType xType (.slice base sLen sCap) x s := by
  unfold appFast
  split
  · rename_i kx offx lx capx
    have hfb : Nat.ble (sLen + lx) sCap = false → appendD P sType xType (.slice base sLen sCap) (.slice (some ⟨kx, offx, none⟩) lx capx) s = match firstD size lx (.slice (some ⟨kx, offx, none⟩) lx capx) s with
        | some new => appNew P elem size bytes (.slice base sLen sCap) base sLen lx new s
        | none => none := by
      intro hn
      simp only [appendD, hu, hs, hb, appArg, hzz, lenD]
      cases firstD size lx (.slice (some ⟨kx, offx, none⟩) lx capx) s with
      | none => rfl
      | some new => simp only [hn, cond_false]
    cases hn : Nat.ble (sLen + lx) sCap with
    | true => rfl
    | false =>
      simp only [cond_false]
      cases hm : Nat.ble ((sLen + lx) * bytes) most with
      | false => rfl
      | true =>
        simp only [cond_true]
        split
        · cases h0 : Nat.beq sLen 0 with
          | false => rfl
          | true =>
            have := Nat.eq_of_beq_eq_true h0
            subst this
            exact rowB_eq (base := none) (sCap := sCap) (capx := capx) hz h1 h2 h3 hm rfl rfl _ (hfb hn)
        · rename_i k off
          split
          · rename_i nn g c hk
            cases h0 : Nat.beq sLen 0 with
            | true =>
              have := Nat.eq_of_beq_eq_true h0
              subst this
              simp only [cond_true]
              cases hg : Nat.beq g 0 with
              | false => rfl
              | true =>
                have := Nat.eq_of_beq_eq_true hg
                subst this
                refine rowB_eq (base := some ⟨k, off, none⟩) (sCap := sCap) (capx := capx) hz h1 h2 h3 hm ?_ ?_ _ (hfb hn)
                · simp only [firstD, St.cells, hk, Nat.zero_mul, loadN]
                · simp only [exact, hk]
            | false =>
              simp only [cond_false]
              cases hc : Nat.beq off 0 && canonT c (sLen * size) with
              | false => rfl
              | true =>
                rw [Bool.and_eq_true] at hc
                have ho := Nat.eq_of_beq_eq_true hc.1
                subst ho
                obtain ⟨l, e1, e2, e3⟩ := canonT_eq c _ hc.2
                simp only [cond_true]
                have hfb' := hfb hn
                split
                · rename_i new hnew
                  have hnew' : firstD size lx (.slice (some ⟨kx, offx, none⟩) lx capx) s = some new := hnew
                  rw [hnew'] at hfb'
                  simp only at hfb'
                  have hold : firstD size sLen (.slice (some ⟨k, 0, none⟩) sLen sCap) s = some l := by
                    simp only [firstD, St.cells, hk]
                    rw [e2, ← e1]; exact loadN_all l
                  have b1 : Nat.blt 0 size = true := Nat.ble_eq_true_of_le h1
                  have b2 : Nat.blt 0 bytes = true := Nat.ble_eq_true_of_le h2
                  have b3 : Nat.beq (cellsOf z).length size = true := by rw [h3, beq_dec]; simp
                  have b6 : l.all oneCell = true := List.all_eq_true.2 e3
                  have hfill : Tr.ofList (l ++ new) = fillF new c (sLen * size) := by
                    have : Tr.ofList (l ++ new) = Tr.fill .nil 0 (l ++ new) := rfl
                    rw [this, fill_append, fillF_eq, e2, Nat.zero_add, e1]; rfl
                  unfold rowA
                  cases hl : Nat.beq (lenF new) (lx * size) && allE new with
                  | false =>
                    cases g with
                    | zero => rfl
                    | succ g => cases hgs : Nat.beq (g + 1) size <;> simp only [hgs] <;> rfl
                  | true =>
                    rw [Bool.and_eq_true, allE_eq, lenF_eq] at hl
                    have hl1 := Nat.eq_of_beq_eq_true hl.1
                    have b5 : Nat.beq (l ++ new).length ((sLen + lx) * size) = true := by rw [List.length_append, e1, hl1, Nat.add_mul, beq_dec]; simp
                    have b7 : (l ++ new).all oneCell = true := by rw [List.all_append, b6, hl.2]; rfl
                    have b9 : Nat.beq (sLen * size + lx * size) ((sLen + lx) * size) = true := by rw [Nat.add_mul, beq_dec]; simp
                    have b8 : (l ++ new).length = sLen * size + lx * size := by rw [List.length_append, e1, hl1]
                    cases g with
                    | zero =>
                      have hex : exact s (.slice (some ⟨k, 0, none⟩) sLen sCap) size = some true := by simp only [exact, hk]
                      simp only [cond_true]
                      rw [hfb']
                      unfold appNew
                      simp only [hold, hex, hz, hm, b1, b2, b3, b7, b8, b9, Bool.and_self, cond_true, hfill]
                      rfl
                    | succ g =>
                      simp only
                      cases hgs : Nat.beq (g + 1) size with
                      | false => rfl
                      | true =>
                        have hex : exact s (.slice (some ⟨k, 0, none⟩) sLen sCap) size = some (!Nat.beq (0 + sCap * size) nn) := by simp only [exact, hk, hgs, cond_true]
                        simp only [cond_true]
                        rw [hfb']
                        unfold appNew
                        rw [Nat.zero_add] at hex
                        simp only [hold, hex, hz, hm, b1, b2, b3, b7, b8, b9, Bool.and_self, cond_true, hfill]
                        cases Nat.beq (sCap * size) nn <;> rfl
                · rfl
          · rfl
        · rfl
  · rfl

inductive AQ where
  | mk (f : Value → Value → Tr Obj → Nat → Option (Value × St))
def AQ.run (g : AQ) : Value → Value → Tr Obj → Nat → Option (Value × St) := AQ.rec (motive := fun _ => Value → Value → Tr Obj → Nat → Option (Value × St)) (fun f => f) g
def zerosQ (P : Program) : Option TypeId → Option Bool
  | some t => match undQ P t with
    | some (.int _) => some true
    | some _ => some false
    | none => none
  | none => some false
theorem zerosQ_eq (P : Program) (t : Option TypeId) : zerosQ P t = zerosD P t := by
  cases t with
  | none => rfl
  | some t => simp only [zerosQ, zerosD, undQ_eq]; rfl
def appS (size bytes : Nat) (u x : Value) (hp : Tr Obj) (nx : Nat) (fb : Option (Value × St)) : Option (Value × St) := match u with
  | .slice base sLen sCap => appFast size bytes base sLen sCap x hp nx fb
  | _ => fb
def compA (P : Program) (sType : TypeId) (xType : Option TypeId) : AQ := match undQ P sType with
  | some (.slice elem) => match szQ P elem, bytesQ P elem, zeroQ P elem, zerosQ P xType with
    | some size, some bytes, some z, some false => cond (Nat.ble 1 size && Nat.ble 1 bytes && Nat.beq (lenF (cellsOf z)) size) (.mk fun u x hp nx => appS size bytes u x hp nx (appendD P sType xType u x ⟨hp, nx⟩)) (.mk fun u x hp nx => appendD P sType xType u x ⟨hp, nx⟩)
    | _, _, _, _ => .mk fun u x hp nx => appendD P sType xType u x ⟨hp, nx⟩
  | _ => .mk fun u x hp nx => appendD P sType xType u x ⟨hp, nx⟩
theorem compA_eq (P : Program) (sType : TypeId) (xType : Option TypeId) (u x : Value) (s : St) : (compA P sType xType).run u x s.heap s.next = appendD P sType xType u x s := by
  unfold compA
  simp only [undQ_eq, szQ_eq, bytesQ_eq, zeroQ_eq, zerosQ_eq]
  split
  · rename_i elem hu
    split
    · rename_i size bytes z hs hb hz hzz
      cases hc : Nat.ble 1 size && Nat.ble 1 bytes && Nat.beq (lenF (cellsOf z)) size with
      | false => rfl
      | true =>
        rw [Bool.and_eq_true, Bool.and_eq_true, lenF_eq] at hc
        show appS size bytes u x s.heap s.next (appendD P sType xType u x s) = _
        unfold appS
        split
        · exact appFast_eq hu hs hb hzz hz (Nat.le_of_ble_eq_true hc.1.1) (Nat.le_of_ble_eq_true hc.1.2) (Nat.eq_of_beq_eq_true hc.2) _ _ _ _ _
        · rfl
    · rfl
  · rfl
end Go.Hg
