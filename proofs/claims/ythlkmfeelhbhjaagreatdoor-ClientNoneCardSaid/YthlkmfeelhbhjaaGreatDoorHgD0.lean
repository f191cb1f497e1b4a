/- A deterministic interpreter over the kit's code, with a heap of its own: definitions alone. -/
import GoSem.Step
set_option linter.unusedVariables false
set_option linter.unusedSimpArgs false
noncomputable section
namespace Go.Hg

/-! ### Tries -/
inductive Tr (α : Type) where
  | nil
  | node (v : Option α) (l r : Tr α)

namespace Tr
variable {α : Type}

def get (t : Tr α) : Nat → Option α :=
  Tr.rec (motive := fun _ => Nat → Option α) (fun _ => none)
    (fun v _ _ ihl ihr k => Nat.rec (motive := fun _ => Option α) v
      (fun m _ => Bool.rec (motive := fun _ => Option α) (ihr (Nat.div m 2)) (ihl (Nat.div m 2)) (Nat.beq (Nat.mod m 2) 0)) k) t

def putG (f : Nat) : Nat → Option α → Tr α :=
  Nat.rec (motive := fun _ => Nat → Option α → Tr α) (fun _ _ => .nil)
    (fun _ ih k o => Nat.rec (motive := fun _ => Tr α) (.node o .nil .nil)
      (fun m _ => Bool.rec (motive := fun _ => Tr α) (.node none .nil (ih (Nat.div m 2) o)) (.node none (ih (Nat.div m 2) o) .nil) (Nat.beq (Nat.mod m 2) 0)) k) f

def put (t : Tr α) : Nat → Option α → Tr α :=
  Tr.rec (motive := fun _ => Nat → Option α → Tr α) (fun k o => putG (Nat.succ k) k o)
    (fun v l r ihl ihr k o => Nat.rec (motive := fun _ => Tr α) (.node o l r)
      (fun m _ => Bool.rec (motive := fun _ => Tr α) (.node v l (ihr (Nat.div m 2) o)) (.node v (ihl (Nat.div m 2) o) r) (Nat.beq (Nat.mod m 2) 0)) k) t
def set (t : Tr α) (k : Nat) (v : α) : Tr α := t.put k (some v)

/-- The elements of a list, from a place on. -/
def fill (t : Tr α) (i : Nat) : List α → Tr α
  | [] => t
  | v :: vs => fill (t.set i v) (Nat.succ i) vs

def ofList (l : List α) : Tr α := fill .nil 0 l
end Tr

/-! ### The state -/
structure LoopD where
  state : LoopState
  pending : Option Code
  regs : Tr Value
  nt : Nat
  params : List Tmp
  assign : Code
  body : Code

inductive Obj where
  /-- n cells; grow: 0, or the size of an element, if more cells may lie behind. -/
  | cells (n grow : Nat) (c : Tr Value)
  | map (stamp : Nat) (es : List (Value × Value))
  | loop (L : LoopD)
  | iter (m : Option Nat) (stamp : Nat) (seen : Bool)

structure St where
  heap : Tr Obj
  next : Nat

inductive Def where
  | call (f : FuncId) (args : List Value)
  | mark

structure ActD where
  regs : Tr Value
  nt : Nat
  defers : List Def

inductive ExitD where
  | normal
  | exit (id : Nat)
  | goto (l : Nat)
  | ret
  | panic (v : Value)

inductive EndD where
  | ret (v : Value)
  | panic (v : Value)

def undefD : Value := .tuple #[]

def St.new (s : St) (o : Obj) : Nat × St := (s.next, ⟨s.heap.set s.next o, s.next + 1⟩)
def St.setObj (s : St) (k : Nat) (o : Obj) : St := ⟨s.heap.set k o, s.next⟩
def St.kill (s : St) (k : Nat) : St := ⟨s.heap.put k none, s.next⟩

/-! ### Values -/
def scalar : Value → Bool
  | .bool _ | .int _ _ | .string _ | .nilFunc | .nilIface | .pointer none | .slice none 0 0 | .map none => true
  | _ => false

/-- A constant that names no memory. -/
def plainV : Value → Bool
  | .agg cs => cs.toList.all scalar
  | .tuple cs => cs.toList.all scalar
  | v => scalar v

/-- May it stand in one cell? -/
def oneCell : Value → Bool
  | .agg _ | .tuple _ => false
  | _ => true

def cellsOf : Value → List Value
  | .agg cs => cs.toList
  | v => [v]

def ActD.eval (a : ActD) : Operand → Option Value
  | .tmp t => a.regs.get t
  | .const v => cond (plainV v) (some v) none
  | .func f => some (.func (.func f) #[] #[])
  | .global _ => none

def evals (a : ActD) : List Operand → Option (List Value)
  | [] => some []
  | x :: xs => match a.eval x with
    | some v => match evals a xs with
      | some vs => some (v :: vs)
      | none => none
    | none => none

def ActD.put (a : ActD) (dst : Option Tmp) (v : Value) : Option ActD :=
  match dst with
  | none => some a
  | some d => cond (Nat.blt d a.nt) (some ⟨a.regs.set d v, a.nt, a.defers⟩) none

/-! ### Types -/
section types
variable (P : Program)
def und (t : TypeId) : Option TypeDesc := P.underlying t
def szOf (t : TypeId) : Option Nat := match P.info? t with | some i => some i.size | none => none
def bytesOf' (t : TypeId) : Option Nat := match P.info? t with | some i => some i.bytes | none => none
def zeroOf (t : TypeId) : Option Value := match P.info? t with
  | some i => match i.zero with
    | some z => cond (plainV z) (some z) none
    | none => none
  | none => none
def aggT (t : TypeId) : Option Bool := match P.underlying t with
  | some (.struct _) | some (.array _ _) => some true
  | some _ => some false
  | none => none
end types

/-! ### Cells -/
def loadN (c : Tr Value) (off : Nat) : Nat → Option (List Value)
  | 0 => some []
  | n + 1 => match c.get off with
    | some v => match loadN c (Nat.succ off) n with
      | some vs => some (v :: vs)
      | none => none
    | none => none

def storeN (c : Tr Value) (off : Nat) : List Value → Option (Tr Value)
  | [] => some c
  | v :: vs => match c.get off, oneCell v with
    | some _, true => storeN (c.set off v) (Nat.succ off) vs
    | _, _ => none

def St.cells (s : St) (k : Nat) : Option (Nat × Nat × Tr Value) :=
  match s.heap.get k with
  | some (.cells n g c) => some (n, g, c)
  | _ => none

def addrAdd (off n : Nat) : Nat := off + n

/-- A part of an aggregate, by its type. -/
def partD (P : Program) (t : TypeId) (cs : List Value) (off : Nat) : Option Value :=
  match aggT P t with
  | some true => match szOf P t with
    | some n => cond (Nat.ble (off + n) cs.length) (some (.agg ⟨(cs.drop off).take n⟩)) none
    | none => none
  | some false => cs[off]?
  | none => none

def loadD (P : Program) (t : TypeId) (p : Value) (s : St) : Option Value :=
  match p with
  | .pointer (some ⟨k, off, none⟩) =>
    match s.cells k with
    | some (_, _, c) =>
      match aggT P t with
      | some true => match szOf P t with
        | some n => match loadN c off n with
          | some l => some (.agg ⟨l⟩)
          | none => none
        | none => none
      | some false => c.get off
      | none => none
    | none => none
  | _ => none

def storeAtD (s : St) (k off : Nat) (vs : List Value) : Option St :=
  match s.cells k with
  | some (n, g, c) => match storeN c off vs with
    | some c' => some (s.setObj k (.cells n g c'))
    | none => none
  | none => none

def storeD (P : Program) (t : TypeId) (p v : Value) (s : St) : Option St :=
  match p, szOf P t with
  | .pointer (some ⟨k, off, none⟩), some n => cond (Nat.beq (cellsOf v).length n) (storeAtD s k off (cellsOf v)) none
  | _, _ => none

def newVarD (v : Value) (s : St) : Value × St :=
  let l := cellsOf v
  let (k, s') := s.new (.cells l.length 0 (Tr.ofList l))
  (.pointer (some ⟨k, 0, none⟩), s')

/-- The first so many elements' cells of a slice or a string. -/
def firstD (size n : Nat) (x : Value) (s : St) : Option (List Value) :=
  match x with
  | .slice (some ⟨k, off, none⟩) _ _ => match s.cells k with
    | some (_, _, c) => loadN c off (n * size)
    | none => none
  | .slice none _ _ => some []
  | .string b => some ((b.data.toList.take n).map fun x => .int .u8 x.toNat)
  | _ => none

def lenD : Value → Option Nat
  | .slice _ n _ => some n
  | .string b => some b.size
  | _ => none

def repl (l : List Value) : Nat → List Value
  | 0 => []
  | n + 1 => l ++ repl l n

/-- Is the slice's capacity known to be just what it says? -/
def exact (s : St) (x : Value) (size : Nat) : Option Bool :=
  match x with
  | .slice none _ _ => some true
  | .slice (some ⟨k, off, none⟩) _ cap =>
    match s.heap.get k with
    | some (.cells n g _) =>
      match g with
      | 0 => some true
      | g + 1 => cond (Nat.beq (g + 1) size) (some (!Nat.beq (off + cap * size) n)) none
    | _ => none
  | _ => none

def most : Nat := 2 ^ 40

/-- Is a number appended: so many noughts? -/
def zerosD (P : Program) : Option TypeId → Option Bool
  | some t => match und P t with
    | some (.int _) => some true
    | some _ => some false
    | none => none
  | none => some false

/-- What is appended: how many elements, their cells. -/
def appArg (P : Program) (elem size bytes : Nat) (xType : Option TypeId) (x : Value) (s : St) : Option (Nat × List Value) :=
  match zerosD P xType with
  | some true => match x, zeroOf P elem with
    | .int .i64 l, some z => cond (decide (0 ≤ l) && decide (l * bytes ≤ most) && decide (l ≤ most) && Nat.beq (cellsOf z).length size) (some (l.toNat, repl (cellsOf z) l.toNat)) none
    | _, _ => none
  | some false => match lenD x with
    | some n => match firstD size n x s with
      | some l => some (n, l)
      | none => none
    | none => none
  | none => none

/-- There is room: into the row. -/
def appIn (base : Option Addr) (sLen sCap n size : Nat) (new : List Value) (s : St) : Option (Value × St) :=
  match base with
  | some ⟨k, off, none⟩ => match storeAtD s k (off + sLen * size) new with
    | some s' => some (.slice base (sLen + n) sCap, s')
    | none => none
  | some _ => none
  | none => cond new.isEmpty (some (.slice none (sLen + n) sCap, s)) none

/-- There is none, or nobody knows: a row anew. -/
def appNew (P : Program) (elem size bytes : Nat) (sv : Value) (base : Option Addr) (sLen n : Nat) (new : List Value) (s : St) : Option (Value × St) :=
  let need := sLen + n
  match firstD size sLen sv s, exact s sv size, zeroOf P elem with
  | some old, some ex, some z =>
    let cs := old ++ new
    cond (Nat.ble (need * bytes) most && Nat.blt 0 size && Nat.blt 0 bytes && Nat.beq (cellsOf z).length size && Nat.beq cs.length (need * size) && cs.all oneCell)
      (let s1 := match base, ex with
        | some ⟨k, _, _⟩, false => s.kill k
        | _, _ => s
      let (k', s') := s1.new (.cells cs.length size (Tr.ofList cs))
      some (.slice (some ⟨k', 0, none⟩) need need, s')) none
  | _, _, _ => none

def appendD (P : Program) (sType : TypeId) (xType : Option TypeId) (sv x : Value) (s : St) : Option (Value × St) :=
  match und P sType with
  | some (.slice elem) =>
    match szOf P elem, bytesOf' P elem with
    | some size, some bytes =>
      match sv with
      | .slice base sLen sCap =>
        match appArg P elem size bytes xType x s with
        | some (n, new) => cond (Nat.ble (sLen + n) sCap) (appIn base sLen sCap n size new s) (appNew P elem size bytes sv base sLen n new s)
        | none => none
      | _ => none
    | _, _ => none
  | _ => none

def copyD (P : Program) (dType : TypeId) (dst src : Value) (s : St) : Option (Value × St) :=
  match und P dType with
  | some (.slice elem) =>
    match szOf P elem, dst, lenD src with
    | some size, .slice base dLen _, some sl =>
      let n := Nat.min sl dLen
      match firstD size n src s, base with
      | some l, some ⟨k, off, none⟩ => match storeAtD s k off l with
        | some s' => some (.int .i64 n, s')
        | none => none
      | some _, none => some (.int .i64 n, s)
      | _, _ => none
    | _, _, _ => none
  | _ => none

def intOf? : Value → Option Int
  | .int _ n => some n
  | _ => none

def boundIn (v : Value) (y : Nat) : Option Nat :=
  match intOf? v with
  | some i => cond (decide (0 ≤ i) && decide (i ≤ y)) (some i.toNat) none
  | none => none

def boundM (cap : Nat) : Option Value → Option Nat
  | some v => boundIn v cap
  | none => some cap

def boundH (len m : Nat) (hasMax : Bool) : Option Value → Option Nat
  | some v => boundIn v m
  | none => cond hasMax none (some len)

def boundL (h : Nat) : Option Value → Option Nat
  | some v => boundIn v h
  | none => some 0

/-- low ≤ high ≤ max ≤ cap of a slice expression; none: a bound is no number in its range. -/
def boundsD (len cap : Nat) (low high max : Option Value) : Option (Nat × Nat × Nat) :=
  match boundM cap max with
  | some m => match boundH len m max.isSome high with
    | some h => match boundL h low with
      | some l => cond (Nat.ble h m) (some (l, h, m)) none
      | none => none
    | none => none
  | none => none

/-- A row of cells behind which nothing more can lie. -/
def tight (s : St) (k : Nat) : Bool := match s.heap.get k with
  | some (.cells _ 0 _) => true
  | _ => false

def sliceD (P : Program) (t : TypeId) (x : Value) (low high max : Option Value) (s : St) : Option Value :=
  match und P t, x with
  | some (.array n elem), .pointer (some ⟨k, off, none⟩) =>
    match boundsD n n low high max, szOf P elem with
    | some (l, h, m), some size => cond (tight s k) (some (.slice (some ⟨k, cond (Nat.beq m l) off (off + l * size), none⟩) (h - l) (m - l))) none
    | _, _ => none
  | some .string, .string b =>
    match max, boundsD b.size b.size low high none with
    | none, some (l, h, _) => some (.string (b.extract l h))
    | _, _ => none
  | some (.slice elem), .slice a len cap =>
    match boundsD len cap low high max, szOf P elem with
    | some (l, h, m), some size =>
      match a with
      | none => some (.slice none (h - l) (m - l))
      | some ⟨k, off, none⟩ =>
        match exact s x size with
        | some ex => some (.slice (some ⟨k, cond (Nat.beq m l && (ex || max.isSome)) off (off + l * size), none⟩) (h - l) (m - l))
        | none => none
      | some _ => none
    | _, _ => none
  | some (.pointer arr), .pointer (some ⟨k, off, none⟩) =>
    match und P arr with
    | some (.array n elem) =>
      match boundsD n n low high max, szOf P elem with
      | some (l, h, m), some size => cond (tight s k) (some (.slice (some ⟨k, cond (Nat.beq m l) off (off + l * size), none⟩) (h - l) (m - l))) none
      | _, _ => none
    | _ => none
  | _, _ => none

def indexAddrD (P : Program) (t : TypeId) (x ix : Value) : Option Value :=
  match ix with
  | .int _ i =>
    match und P t, x with
    | some (.array len elem), .pointer (some ⟨k, off, none⟩) =>
      match szOf P elem with
      | some size => cond (decide (0 ≤ i) && decide (i < len)) (some (.pointer (some ⟨k, off + i.toNat * size, none⟩))) none
      | none => none
    | some (.slice elem), .slice (some ⟨k, off, none⟩) len _ =>
      match szOf P elem with
      | some size => cond (decide (0 ≤ i) && decide (i < len)) (some (.pointer (some ⟨k, off + i.toNat * size, none⟩))) none
      | none => none
    | _, _ => none
  | _ => none

def indexD (P : Program) (t : TypeId) (x ix : Value) : Option Value :=
  match ix with
  | .int _ i =>
    match und P t, x with
    | some (.array len elem), .agg cs =>
      match szOf P elem with
      | some size => cond (decide (0 ≤ i) && decide (i < len)) (partD P elem cs.toList (i.toNat * size)) none
      | none => none
    | some .string, .string b =>
      cond (decide (0 ≤ i)) (match b.data.toList[i.toNat]? with
        | some x => some (.int .u8 x.toNat)
        | none => none) none
    | _, _ => none
  | _ => none

def fieldAddrD (P : Program) (t : TypeId) (x : Value) (f : Nat) : Option Value :=
  match und P t, x with
  | some (.struct fs), .pointer (some ⟨k, off, none⟩) =>
    match fs.toList[f]? with
    | some f => match szOf P f.type with
      | some (_ + 1) => some (.pointer (some ⟨k, off + f.offset, none⟩))
      | _ => none
    | none => none
  | _, _ => none

def fieldD (P : Program) (t : TypeId) (x : Value) (f : Nat) : Option Value :=
  match und P t, x with
  | some (.struct fs), .agg cs =>
    match fs.toList[f]? with
    | some f => partD P f.type cs.toList f.offset
    | none => none
  | _, _ => none

/-- l with vs in place of what stands at off. -/
def splice (l : List Value) (off : Nat) (vs : List Value) : List Value := l.take off ++ vs ++ l.drop (off + vs.length)

def fillD (place : Nat → Option (Nat × Nat)) (cells : List Value) : List (Nat × Value) → Option (List Value)
  | [] => some cells
  | (i, v) :: rest =>
    match place i with
    | none => none
    | some (off, size) =>
      let vs := cellsOf v
      cond (Nat.beq vs.length size && Nat.ble (off + size) cells.length) (fillD place (splice cells off vs) rest) none

def buildD (P : Program) (t : TypeId) (parts : List (Nat × Value)) : Option Value :=
  match zeroOf P t, und P t with
  | some z, some (.struct fs) =>
    cond (fs.toList.all fun f => (szOf P f.type).isSome)
    (match fillD (fun i => match fs.toList[i]? with
      | some f => match szOf P f.type with
        | some n => some (f.offset, n)
        | none => none
      | none => none) (cellsOf z) parts with
    | some l => some (.agg ⟨l⟩)
    | none => none) none
  | some z, some (.array _ elem) =>
    match szOf P elem with
    | some size => match fillD (fun i => some (i * size, size)) (cellsOf z) parts with
      | some l => some (.agg ⟨l⟩)
      | none => none
    | none => none
  | _, _ => none

def buildSliceD (P : Program) (t : TypeId) (len : Nat) (parts : List (Nat × Value)) : Option (List Value) :=
  match und P t with
  | some (.slice elem) =>
    match szOf P elem, zeroOf P elem with
    | some size, some z =>
      cond (Nat.ble (len * size) (2 ^ 24) && Nat.beq (cellsOf z).length size) (fillD (fun i => some (i * size, size)) (repl (cellsOf z) len) parts) none
    | _, _ => none
  | _ => none

/-- == of two values of a type; none: not known here. -/
def scalarEq : Value → Value → Option Bool
  | .bool a, .bool b => some (a == b)
  | .int j a, .int k b => cond (decide (j = k)) (some (a == b)) none
  | .string a, .string b => some (a == b)
  | _, _ => none

def seg (l : List Value) (off n : Nat) : List Value := (l.drop off).take n

def eqFs (P : Program) (g : TypeId → List Value → List Value → Option Bool) (xs ys : List Value) : List Field → Option Bool
  | [] => some true
  | f :: fs => cond (f.name == "_") none
    (match szOf P f.type with
    | some k => cond (Nat.ble (f.offset + k) xs.length && Nat.ble (f.offset + k) ys.length)
      (match g f.type (seg xs f.offset k) (seg ys f.offset k) with
      | some true => eqFs P g xs ys fs
      | r => r) none
    | none => none)

def eqIs (g : List Value → List Value → Option Bool) (k : Nat) (xs ys : List Value) : Nat → Nat → Option Bool
  | _, 0 => some true
  | i, m + 1 => cond (Nat.ble (i * k + k) xs.length && Nat.ble (i * k + k) ys.length)
      (match g (seg xs (i * k) k) (seg ys (i * k) k) with
      | some true => eqIs g k xs ys (i + 1) m
      | r => r) none

/-- == of two values of a type made of numbers, strings and bools, by their cells. -/
def eqT (P : Program) : Nat → TypeId → List Value → List Value → Option Bool
  | 0, _, _, _ => none
  | d + 1, t, xs, ys => match P.underlying t with
    | some .bool => match xs, ys with
      | [.bool a], [.bool b] => some (a == b)
      | _, _ => none
    | some (.int _) => match xs, ys with
      | [.int j a], [.int k b] => cond (decide (j = k)) (some (a == b)) none
      | _, _ => none
    | some .string => match xs, ys with
      | [.string a], [.string b] => some (a == b)
      | _, _ => none
    | some (.struct fs) => cond (P.stoodInHeld t) none (eqFs P (eqT P d) xs ys fs.toList)
    | some (.array n e) => match szOf P e with
      | some k => eqIs (eqT P d e) k xs ys 0 n
      | none => none
    | _ => none

def aggEq (P : Program) (t : TypeId) (a b : List Value) : Option Bool := cond (P.eqGuardType P.depth t) none (eqT P 20 t a b)

def eqD (P : Program) (t : TypeId) (x y : Value) : Option Bool :=
  match und P t, x, y with
  | some .bool, .bool a, .bool b => some (a == b)
  | some (.int _), .int j a, .int k b => cond (decide (j = k)) (some (a == b)) none
  | some .string, .string a, .string b => some (a == b)
  | some (.pointer _), .pointer none, .pointer b => some b.isNone
  | some (.pointer _), .pointer (some _), .pointer none => some false
  | some (.interface _), .nilIface, .iface _ _ => some false
  | some (.interface _), .iface _ _, .nilIface => some false
  | some (.slice _), .slice none _ _, .slice b _ _ => some b.isNone
  | some (.slice _), .slice (some _) _ _, .slice none _ _ => some false
  | some (.map _ _), .map none, .map b => some b.isNone
  | some (.map _ _), .map (some _), .map none => some false
  | some (.func _ _ _), .nilFunc, .nilFunc => some true
  | some (.func _ _ _), .nilFunc, .func _ _ _ => some false
  | some (.func _ _ _), .func _ _ _, .nilFunc => some false
  | some (.struct _), .agg a, .agg b => aggEq P t a.toList b.toList
  | some (.array _ _), .agg a, .agg b => aggEq P t a.toList b.toList
  | _, _, _ => none

def pureOf {α : Type} : Sem α → Option α
  | .pure a => some a
  | _ => none

/-- A value that the model's own reckoning gives, if it names no memory. -/
def pureV (m : Sem Value) : Option Value :=
  match pureOf m with
  | some v => cond (scalar v) (some v) none
  | none => none

def binD (P : Program) (op : BinOp) (t : TypeId) (xo yo : Operand) (x y : Value) : Option Value :=
  match x, y with
  | .int _ _, .int _ _ => pureV (binOp op t x y)
  | .string _, .string _ => pureV (binOp op t x y)
  | .nilIface, .nilIface =>
    match op, und P t with
    | .eql, some (.interface _) => cond ((xo matches .const _) || (yo matches .const _)) (some (.bool true)) none
    | .neq, some (.interface _) => cond ((xo matches .const _) || (yo matches .const _)) (some (.bool false)) none
    | _, _ => none
  | _, _ =>
    match op with
    | .eql => match eqD P t x y with
      | some b => some (.bool b)
      | none => none
    | .neq => match eqD P t x y with
      | some b => some (.bool (!b))
      | none => none
    | _ => none

def unD (op : UnOp) (x : Value) : Option Value :=
  match x with
  | .int _ _ => pureV (Op.unary op x)
  | .bool _ => pureV (Op.unary op x)
  | _ => none

def bytesOfCells : List Value → ByteArray → Option ByteArray
  | [], b => some b
  | .int .u8 n :: vs, b => bytesOfCells vs (b.push (UInt8.ofNat n.toNat))
  | _, _ => none

/-- A conversion that makes no memory. -/
def convD (P : Program) (src dst : TypeId) (x : Value) (s : St) : Option Value :=
  match und P src, und P dst, x with
  | some _, some (.int k), .int _ n => some (.int k (k.wrap n))
  | some _, some .string, .string b => some (.string b)
  | some (.slice e), some .string, .slice a len _ =>
    match und P e with
    | some (.int .u8) =>
      match a with
      | none => some (.string .empty)
      | some ⟨k, off, none⟩ => match s.cells k with
        | some (_, _, c) => match loadN c off len with
          | some l => match bytesOfCells l .empty with
            | some b => some (.string b)
            | none => none
          | none => none
        | none => none
      | some _ => none
    | _ => none
  | _, _, _ => none

def findKeyD (k : Value) : List (Value × Value) → Nat → Option (Option (Nat × Value))
  | [], _ => some none
  | (k', v) :: es, i => match scalarEq k k' with
    | some true => some (some (i, v))
    | some false => findKeyD k es (Nat.succ i)
    | none => none

def keyOk (P : Program) (t : TypeId) (k : Value) : Bool :=
  match und P t, k with
  | some (.int _), .int _ _ => true
  | some .string, .string _ => true
  | some .bool, .bool _ => true
  | _, _ => false

def mapOf (s : St) (m : Value) : Option (List (Value × Value)) :=
  match m with
  | .map none => some []
  | .map (some r) => match s.heap.get r with
    | some (.map _ es) => some es
    | _ => none
  | _ => none

def lookupD (P : Program) (t : TypeId) (m k : Value) (ok : Bool) (s : St) : Option Value :=
  match und P t with
  | some (.map kt et) =>
    match keyOk P kt k, mapOf s m with
    | true, some es =>
      let r : Option (Value × Bool) := match findKeyD k es 0 with
        | some (some (_, v)) => some (v, true)
        | some none => match zeroOf P et with
          | some z => some (z, false)
          | none => none
        | none => none
      match r with
      | some (v, b) => some (cond ok (.tuple #[v, .bool b]) v)
      | none => none
    | _, _ => none
  | _ => none

def setNth (l : List (Value × Value)) (i : Nat) (v : Value × Value) : List (Value × Value) := l.take i ++ v :: l.drop (i + 1)

def mapUpdateD (P : Program) (t : TypeId) (m k v : Value) (s : St) : Option St :=
  match und P t, m with
  | some (.map kt _), .map (some r) =>
    match keyOk P kt k, s.heap.get r with
    | true, some (.map st es) =>
      match findKeyD k es 0 with
      | some (some (i, _)) => some (s.setObj r (.map st (setNth es i (k, v))))
      | some none => some (s.setObj r (.map (st + 1) (es ++ [(k, v)])))
      | none => none
    | _, _ => none
  | _, _ => none

def clearD (P : Program) (t : TypeId) (x : Value) (s : St) : Option St :=
  match und P t, x with
  | some (.slice elem), .slice base n _ =>
    match zeroOf P elem, base with
    | some z, some ⟨k, off, none⟩ => cond (Nat.ble n most) (storeAtD s k off (repl (cellsOf z) n)) none
    | some _, none => some s
    | _, _ => none
  | some (.map _ _), .map none => some s
  | some (.map _ _), .map (some r) =>
    match s.heap.get r with
    | some (.map st _) => some (s.setObj r (.map (st + 1) []))
    | _ => none
  | _, _ => none

def lenBD (P : Program) (t : TypeId) (x : Value) (s : St) : Option Value :=
  match und P t, x with
  | some .string, .string b => some (.int .i64 b.size)
  | some (.array n _), _ => some (.int .i64 n)
  | some (.pointer arr), _ => match und P arr with
    | some (.array n _) => some (.int .i64 n)
    | _ => none
  | some (.slice _), .slice _ n _ => some (.int .i64 n)
  | some (.map _ _), _ => match mapOf s x with
    | some es => some (.int .i64 es.length)
    | none => none
  | _, _ => none

def capBD (P : Program) (t : TypeId) (x : Value) (s : St) : Option Value :=
  match und P t, x with
  | some (.slice elem), .slice _ _ c => match szOf P elem with
    | some size => match exact s x size with
      | some true => some (.int .i64 c)
      | _ => none
    | none => none
  | _, _ => none

def extremeD (isMax : Bool) : Value → List Value → Option Value
  | v, [] => some v
  | .int k x, .int _ y :: vs => extremeD isMax (.int k (cond isMax (if y > x then y else x) (if y < x then y else x))) vs
  | _, _ => none

def typeAssertD (P : Program) (x : Value) (asserted : TypeId) (ok : Bool) : Option Value :=
  match und P asserted with
  | some (.interface _) => none
  | some _ =>
    match x with
    | .iface t v => cond (Nat.beq t asserted) (some (cond ok (.tuple #[v, .bool true]) v))
        (cond ok (match zeroOf P asserted with
          | some z => some (.tuple #[z, .bool false])
          | none => none) none)
    | _ => none
  | none => none

/-- An operation that only reckons and reads. -/
def lightD (P : Program) (a : ActD) (s : St) (op : Op) : Option Value :=
  match op with
  | .move x | .assign x => a.eval x
  | .pick c x y => match a.eval c with
    | some (.bool b) => cond b (a.eval x) (a.eval y)
    | _ => none
  | .load t x => match a.eval x with
    | some p => loadD P t p s
    | none => none
  | .nilCheck x => match a.eval x with
    | some (.pointer (some p)) => some (.pointer (some p))
    | some (.func (.func f) u v) => some (.func (.func f) u v)
    | some (.func (.yield f) u v) => some (.func (.yield f) u v)
    | _ => none
  | .binOp o t x y _ => match a.eval x, a.eval y with
    | some u, some v => binD P o t x y u v
    | _, _ => none
  | .unOp o _ x => match a.eval x with
    | some u => unD o u
    | none => none
  | .convert u v x => match a.eval x with
    | some w => convD P u v w s
    | none => none
  | .makeInterface t x => match und P t, a.eval x with
    | some (.interface _), _ => none
    | some _, some v => some (.iface t v)
    | _, _ => none
  | .makeFunc (.func f) u v => match evals a u.toList, evals a v.toList with
    | some us, some vs => some (.func (.func f) ⟨us⟩ ⟨vs⟩)
    | _, _ => none
  | .slice t x l h m =>
    let e : Option Operand → Option (Option Value) := fun
      | none => some none
      | some o => match a.eval o with
        | some v => some (some v)
        | none => none
    match a.eval x, e l, e h, e m with
    | some x, some l, some h, some m => sliceD P t x l h m s
    | _, _, _, _ => none
  | .fieldAddr t x f => match a.eval x with
    | some v => fieldAddrD P t v f
    | none => none
  | .field t x f => match a.eval x with
    | some v => fieldD P t v f
    | none => none
  | .indexAddr t x i => match a.eval x, a.eval i with
    | some v, some j => indexAddrD P t v j
    | _, _ => none
  | .index t x i => match a.eval x, a.eval i with
    | some v, some j => indexD P t v j
    | _, _ => none
  | .lookup t x i ok => match a.eval x, a.eval i with
    | some v, some j => lookupD P t v j ok s
    | _, _ => none
  | .extract x i => match a.eval x with
    | some (.tuple vs) => vs.toList[i]?
    | _ => none
  | .typeAssert x _ t ok => match a.eval x with
    | some v => typeAssertD P v t ok
    | none => none
  | .sliceToArrayPointer t x => match und P t, a.eval x with
    | some (.array n _), some (.slice p len _) => cond (Nat.ble n len && Nat.blt 0 n) (some (.pointer p)) none
    | _, _ => none
  | .build t ps =>
    match evals a (ps.toList.map (·.2)) with
    | some vs => buildD P t ((ps.toList.map (·.1)).zip vs)
    | none => none
  | .call { callee := .builtin .len, args, argTypes } =>
    match argTypes.toList, evals a args.toList with
    | t :: _, some (x :: _) => lenBD P t x s
    | _, _ => none
  | .call { callee := .builtin .cap, args, argTypes } =>
    match argTypes.toList, evals a args.toList with
    | t :: _, some (x :: _) => capBD P t x s
    | _, _ => none
  | .call { callee := .builtin .max, args, .. } =>
    match evals a args.toList with
    | some (x :: xs) => match x with
      | .int _ _ => extremeD true x xs
      | _ => none
    | _ => none
  | .call { callee := .builtin .min, args, .. } =>
    match evals a args.toList with
    | some (x :: xs) => match x with
      | .int _ _ => extremeD false x xs
      | _ => none
    | _ => none
  | _ => none

/-- An operation that only lays a new block: what lies there, and the value out of the block's name. -/
def freshD (P : Program) (a : ActD) (op : Op) : Option (Obj × (Nat → Value)) :=
  let at0 : Nat → Value := fun k => .pointer (some ⟨k, 0, none⟩)
  match op with
  | .alloc t => match zeroOf P t with
    | some z => some (.cells (cellsOf z).length 0 (Tr.ofList (cellsOf z)), at0)
    | none => none
  | .box _ x => match a.eval x with
    | some v => some (.cells (cellsOf v).length 0 (Tr.ofList (cellsOf v)), at0)
    | none => none
  | .buildSlice t len ps =>
    match evals a (ps.toList.map (·.2)) with
    | some vs => match buildSliceD P t len ((ps.toList.map (·.1)).zip vs) with
      | some l => some (.cells l.length 0 (Tr.ofList l), fun k => .slice (some ⟨k, 0, none⟩) len len)
      | none => none
    | none => none
  | .makeSlice t l c =>
    match und P t, a.eval l, a.eval c with
    | some (.slice elem), some (.int .i64 l), some (.int .i64 c) =>
      match szOf P elem, bytesOf' P elem, zeroOf P elem with
      | some size, some bytes, some z =>
        cond (decide (0 ≤ l) && decide (l ≤ c) && decide (bytes * c ≤ most) && decide (c ≤ most) && Nat.beq (cellsOf z).length size)
          (let cs := repl (cellsOf z) c.toNat
          some (.cells cs.length 0 (Tr.ofList cs), fun k => .slice (some ⟨k, 0, none⟩) l.toNat c.toNat)) none
      | _, _, _ => none
    | _, _, _ => none
  | .makeMap t r =>
    match r with
    | none => some (.map 0 [], fun k => .map (some k))
    | some r => match und P t, a.eval r with
      | some (.map _ _), some (.int _ _) => some (.map 0 [], fun k => .map (some k))
      | _, _ => none
  | _ => none

/-- 0: reckons and reads; 1: lays a block; 2: all else. -/
def cls : Op → Nat
  | .move _ | .assign _ | .pick .. | .load .. | .nilCheck _ | .binOp .. | .unOp .. | .makeInterface .. | .makeFunc .. | .slice .. | .fieldAddr .. | .field ..
  | .indexAddr .. | .index .. | .lookup .. | .extract .. | .typeAssert .. | .sliceToArrayPointer .. | .build .. => 0
  | .convert .. => 0
  | .call { callee := .builtin .len, .. } | .call { callee := .builtin .cap, .. } | .call { callee := .builtin .max, .. } | .call { callee := .builtin .min, .. } => 0
  | .alloc _ | .box .. | .buildSlice .. | .makeSlice .. | .makeMap .. => 1
  | _ => 2

/-- Does an operation of the first kind read memory? -/
def reads : Op → Bool
  | .load .. | .lookup .. | .convert .. | .slice .. => true
  | .call { callee := .builtin .len, .. } | .call { callee := .builtin .cap, .. } => true
  | _ => false

inductive OutD where
  | val (v : Value) (s : St)
  | defer (d : Def)
  | panic (v : Value) (s : St)

/-- What a function value and arguments come to. -/
inductive TargetD where
  | fn (f : FuncId) (args : List Value)
  | yield (l : Nat) (args : List Value)

def targetD (f : Value) (args : List Value) : Option TargetD :=
  match f with
  | .func (.func g) first captured => some (.fn g (first.toList ++ args ++ captured.toList))
  | .func (.yield l) ⟨[]⟩ ⟨[]⟩ => some (.yield l args)
  | _ => none

def iterNext (s : St) (it : Value) : Option (Value × St) :=
  match it with
  | .pointer (some ⟨r, 0, none⟩) =>
    match s.heap.get r with
    | some (.iter none _ _) => some (.tuple #[.bool false], s)
    | some (.iter (some m) st seen) =>
      match s.heap.get m with
      | some (.map st' es) =>
        cond (Nat.beq st st')
          (match es with
          | [] => some (.tuple #[.bool false], s)
          | [(k, v)] => cond seen (some (.tuple #[.bool false], s)) (some (.tuple #[.bool true, k, v], s.setObj r (.iter (some m) st true)))
          | _ => none) none
      | _ => none
    | _ => none
  | _ => none

def iterEntry (s : St) (it : Value) : Option Value :=
  match it with
  | .pointer (some ⟨r, 0, none⟩) =>
    match s.heap.get r with
    | some (.iter (some m) st true) =>
      match s.heap.get m with
      | some (.map st' [(k, v)]) => cond (Nat.beq st st') (some (.tuple #[k, v])) none
      | _ => none
    | _ => none
  | _ => none

/-- The other operations, but calls of functions. -/
def heavyD (P : Program) (round : Bool) (a : ActD) (s : St) (op : Op) : Option OutD :=
  match op with
  | .store t x y => match a.eval x, a.eval y with
    | some p, some v => match storeD P t p v s with
      | some s' => some (.val undefD s')
      | none => none
    | _, _ => none
  | .mapUpdate t m k v => match a.eval m, a.eval k, a.eval v with
    | some m, some k, some v => match mapUpdateD P t m k v s with
      | some s' => some (.val undefD s')
      | none => none
    | _, _, _ => none
  | .insert t m k v => match a.eval m, a.eval k, a.eval v with
    | some m, some k, some v => match mapUpdateD P t m k v s with
      | some s' => some (.val undefD s')
      | none => none
    | _, _, _ => none
  | .range t x => match und P t, a.eval x with
    | some (.map _ _), some (.map none) => let (k, s') := s.new (.iter none 0 false); some (.val (.pointer (some ⟨k, 0, none⟩)) s')
    | some (.map _ _), some (.map (some m)) => match s.heap.get m with
      | some (.map st _) => let (k, s') := s.new (.iter (some m) st false); some (.val (.pointer (some ⟨k, 0, none⟩)) s')
      | _ => none
    | _, _ => none
  | .next it false => match a.eval it with
    | some v => match iterNext s v with
      | some (r, s') => some (.val r s')
      | none => none
    | none => none
  | .entry it => match a.eval it with
    | some v => match iterEntry s v with
      | some r => some (.val r s)
      | none => none
    | none => none
  | .panic x => match a.eval x with
    | some (.iface t v) => some (.panic (.iface t v) s)
    | _ => none
  | .defer { callee := .value f, args, .. } =>
    cond round none (match a.eval f, evals a args.toList with
    | some f, some vs => match targetD f vs with
      | some (.fn g l) => some (.defer (.call g l))
      | _ => none
    | _, _ => none)
  | .call { callee := .builtin b, args, argTypes } =>
    match b, argTypes.toList, evals a args.toList with
    | .append, t :: ts, some [x, y] => match appendD P t ts.head? x y s with
      | some (v, s') => some (.val v s')
      | none => none
    | .copy, t :: _, some [x, y] => match copyD P t x y s with
      | some (v, s') => some (.val v s')
      | none => none
    | .clear, t :: _, some [x] => match clearD P t x s with
      | some s' => some (.val undefD s')
      | none => none
    | _, _, _ => none
  | _ => none

/-- Is the operation wanted: its guard has the wanted value? -/
def wantedD (ops : List Oper) (a : ActD) (o : Oper) : Option Bool :=
  match o.guard with
  | none => some true
  | some (j, want) => match ops[j]? with
    | some oj => match oj.dst with
      | some t => match a.regs.get t with
        | some (.bool b) => some (b == want)
        | some _ => some false
        | none => none
      | none => some false
    | none => some false

section run
variable (P : Program) (call : TargetD → St → Option (EndD × St))

/-- One operation, in the order of the text. -/
def operD (round : Bool) (a : ActD) (s : St) (o : Oper) : Option OutD :=
  match cls o.op with
  | 0 => match lightD P a s o.op with
    | some v => some (.val v s)
    | none => none
  | 1 => match freshD P a o.op with
    | some (b, f) => let (k, s') := s.new b; some (.val (f k) s')
    | none => none
  | _ => match o.op with
    | .call { callee := .value f, args, .. } =>
      match a.eval f, evals a args.toList with
      | some f, some vs => match targetD f vs with
        | some t => match call t s with
          | some (.ret v, s') => some (.val v s')
          | some (.panic v, s') => some (.panic v s')
          | none => none
        | none => none
      | _, _ => none
    | op => heavyD P round a s op

/-- A region in the order of its text. -/
def opsD (round : Bool) (all : List Oper) : List Oper → ActD → St → Option (ExitD × ActD × St)
  | [], a, s => some (.normal, a, s)
  | o :: rest, a, s =>
    match wantedD all a o with
    | some true =>
      match operD P call round a s o with
      | some (.val v s') => match a.put o.dst v with
        | some a' => opsD round all rest a' s'
        | none => none
      | some (.defer d) => match ActD.put ⟨a.regs, a.nt, d :: a.defers⟩ o.dst undefD with
        | some a' => opsD round all rest a' s
        | none => none
      | some (.panic v s') => some (.panic v, a, s')
      | none => none
    | some false => match a.put o.dst undefD with
      | some a' => opsD round all rest a' s
      | none => none
    | none => none
end run

end Go.Hg
