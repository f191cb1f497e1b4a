/- A deterministic interpreter over the kit's code: regions that draw their order, code, calls. -/
import Derived.Test.YthlkmfeelhbhjaaGreatDoorHgD0
set_option linter.unusedVariables false
set_option linter.unusedSimpArgs false
noncomputable section
namespace Go.Hg

/-! ### Are two values the same? -/
def beqFn : Fn → Fn → Bool
  | .func f, .func g => Nat.beq f g
  | .yield f, .yield g => Nat.beq f g
  | _, _ => false

def beqAddr (a b : Addr) : Bool := Nat.beq a.block b.block && Nat.beq a.off b.off && (match a.spot, b.spot with
  | none, none => true
  | _, _ => false)

def beqOA : Option Addr → Option Addr → Bool
  | none, none => true
  | some a, some b => beqAddr a b
  | _, _ => false

mutual
def beqV : Nat → Value → Value → Bool
  | 0, _, _ => false
  | n + 1, x, y => match x, y with
    | .bool a, .bool b => a == b
    | .int j a, .int k b => decide (j = k) && decide (a = b)
    | .string a, .string b => decide (a.data.toList = b.data.toList)
    | .pointer a, .pointer b => beqOA a b
    | .slice a l c, .slice b l' c' => beqOA a b && Nat.beq l l' && Nat.beq c c'
    | .map none, .map none => true
    | .map (some a), .map (some b) => Nat.beq a b
    | .func f a b, .func g c d => beqFn f g && beqL n a.toList c.toList && beqL n b.toList d.toList
    | .nilFunc, .nilFunc => true
    | .nilIface, .nilIface => true
    | .iface t v, .iface u w => Nat.beq t u && beqV n v w
    | .agg a, .agg b => beqL n a.toList b.toList
    | .tuple a, .tuple b => beqL n a.toList b.toList
    | _, _ => false
def beqL : Nat → List Value → List Value → Bool
  | 0, _, _ => false
  | n + 1, l, m => match l, m with
    | [], [] => true
    | x :: xs, y :: ys => beqV n x y && beqL n xs ys
    | _, _ => false
end

/-! ### Regions that draw their order -/
def nth (l : List Nat) (i : Nat) : Nat := match l[i]? with
  | some n => n
  | none => 0

def has (m i : Nat) : Bool := Nat.beq (Nat.mod (Nat.shiftRight m i) 2) 1

def preOf (acc : List Nat) : List Edge → Nat → Nat
  | [], m => m
  | e :: es, m => preOf acc es (cond (Region.binds .any e) (Nat.lor m (Nat.lor (2 ^ e.on) (nth acc e.on))) m)

/-- For each operation the set of those that must come ahead, as bits. -/
def presL : List Oper → List Nat → List Nat
  | [], acc => acc
  | o :: os, acc => presL os (acc ++ [preOf acc o.after.toList 0])

def tmpsOf : List Operand → List Nat
  | [] => []
  | .tmp t :: l => t :: tmpsOf l
  | _ :: l => tmpsOf l

def opndsOf : Op → List Operand
  | .move x | .assign x | .box _ x | .load _ x | .nilCheck x | .unOp _ _ x | .convert _ _ x | .sliceToArrayPointer _ x | .makeInterface _ x
  | .makeChan _ x | .fieldAddr _ x _ | .field _ x _ | .range _ x | .next x _ | .entry x | .typeAssert x _ _ _ | .extract x _ | .panic x | .recv _ x _ => [x]
  | .pick c a b => [c, a, b]
  | .build _ ps | .buildSlice _ _ ps => ps.toList.map (·.2)
  | .store _ a v | .binOp _ _ a v _ | .makeSlice _ a v | .indexAddr _ a v | .index _ a v | .lookup _ a v _ | .mapEntry _ a v | .send a v => [a, v]
  | .makeFunc _ first captured => first.toList ++ captured.toList
  | .makeMap _ (some r) => [r]
  | .makeMap _ none | .alloc _ | .ready _ | .waits _ => []
  | .slice _ x l h m => x :: (l.toList ++ h.toList ++ m.toList)
  | .mapUpdate _ m k v | .entryStore _ m k v | .insert _ m k v => [m, k, v]
  | .call c | .go c | .defer c => (match c.callee with
    | .value f => [f]
    | .invoke r _ => [r]
    | .builtin _ => []) ++ c.args.toList
  | .select _ _ => []

def dstL (o : Oper) : List Nat := match o.dst with
  | some d => [d]
  | none => []

def namesOf (o : Oper) : List Nat := dstL o ++ tmpsOf (opndsOf o.op)

def guardL (ops : List Oper) (o : Oper) : List Nat := match o.guard with
  | some (j, _) => match ops[j]? with
    | some q => dstL q
    | none => []
  | none => []

/-- All that an operation names: what it writes, what it reads, what its guard reads. -/
def looksL (ops : List Oper) (o : Oper) : List Nat := namesOf o ++ guardL ops o

/-- Of any two operations one of which writes what the other names: the earlier one in the text comes ahead in every order. -/
def pairsOk (ops : List Oper) (pre : List Nat) : List (Nat × Oper) → Bool
  | [] => true
  | (i, o) :: rest => rest.all (fun (j, q) =>
      has (nth pre j) i || (!(dstL o).any (fun t => (looksL ops q).contains t) && !(dstL q).any (fun t => (looksL ops o).contains t))) && pairsOk ops pre rest

def numbered : Nat → List Oper → List (Nat × Oper)
  | _, [] => []
  | i, o :: os => (i, o) :: numbered (Nat.succ i) os

structure DrS where
  a : ActD
  hs : List St
  cs : List Nat
  fr : List (Nat × Nat × Obj)
  lg : List (Nat × Op × ActD × Value)

def flushed (pre : List Nat) (cs : List Nat) (i : Nat) : Bool := cs.any fun c => has (nth pre c) i

def heapAdd (s : St) (keep : Nat → Bool) : List (Nat × Nat × Obj) → St
  | [] => s
  | (i, k, o) :: l => cond (keep i) (heapAdd (s.setObj k o) keep l) (heapAdd s keep l)

def heapFor (pre cs : List Nat) (s : St) (fr : List (Nat × Nat × Obj)) (m : Nat) : St := heapAdd s (fun i => has m i && !flushed pre cs i) fr

/-- The heaps by how many of the chain have been done, each with these. -/
def progress : List St → List Nat → List (St × List Nat)
  | h :: hs, cs => (h, cs) :: progress hs cs.tail
  | [], _ => []

def logOk1 (P : Program) (pre cs : List Nat) (fr : List (Nat × Nat × Obj)) (ps : List (St × List Nat)) (e : Nat × Op × ActD × Value) : Bool :=
  ps.all fun (h, ck) =>
    !(cs.all (fun c => !has (nth pre e.1) c || ck.contains c) && ck.all (fun c => !has (nth pre c) e.1)) ||
    (match lightD P e.2.2.1 (heapFor pre ck h fr (nth pre e.1)) e.2.1 with
    | some v => beqV 100 v e.2.2.2
    | none => false)

def logOk (P : Program) (pre : List Nat) (d : DrS) : Bool :=
  let ps := progress d.hs d.cs
  match ps with
  | [_] => true
  | _ => d.lg.all (logOk1 P pre d.cs d.fr ps)

/-- Is all that stands behind in the text bound to come behind c? -/
def harmless (pre : List Nat) (c : Nat) : List (Nat × Oper) → Bool
  | [] => true
  | (j, _) :: rest => has (nth pre j) c && harmless pre c rest

/-- Does every edge that binds lead back? -/
def edgesOk : List (Nat × Oper) → Bool
  | [] => true
  | (i, o) :: rest => o.after.toList.all (fun e => !Region.binds .any e || Nat.blt e.on i) && edgesOk rest

def eraseL (r : Tr Value) : List Nat → Tr Value
  | [] => r
  | t :: ts => eraseL (r.put t none) ts

def allDsts : List Oper → List Nat
  | [] => []
  | o :: os => dstL o ++ allDsts os

section run
variable (P : Program) (call : TargetD → St → Option (EndD × St))

inductive DrR where
  | go (d : DrS)
  | stop (x : ExitD) (a : ActD) (s : St)

/-- An operation of the chain. -/
def drawChain (round : Bool) (ops : List Oper) (pre : List Nat) (i : Nat) (o : Oper) (rest : List (Nat × Oper)) (h : St) (d : DrS) : Option DrR :=
  cond (d.cs.all fun c => has (nth pre i) c)
    (match operD P call round d.a (heapFor pre d.cs h d.fr (nth pre i)) o with
    | some (.val v s') => match d.a.put o.dst v with
      | some a' => some (.go ⟨a', s' :: d.hs, i :: d.cs, d.fr, d.lg⟩)
      | none => none
    | some (.defer _) => none
    | some (.panic v s') => cond (logOk P pre d && harmless pre i rest)
        (some (.stop (.panic v) ⟨eraseL d.a.regs (allDsts ops), d.a.nt, d.a.defers⟩ s')) none
    | none => none) none

def drawStep (round : Bool) (ops : List Oper) (pre : List Nat) (base i : Nat) (o : Oper) (rest : List (Nat × Oper)) (d : DrS) : Option DrR :=
  match d.hs, wantedD ops d.a o with
  | h :: _, some true =>
    match cls o.op with
    | 0 => match lightD P d.a (heapFor pre d.cs h d.fr (nth pre i)) o.op with
      | some v => match d.a.put o.dst v with
        | some a' => some (.go ⟨a', d.hs, d.cs, d.fr, cond (reads o.op) ((i, o.op, d.a, v) :: d.lg) d.lg⟩)
        | none => none
      | none => none
    | 1 => match freshD P d.a o.op with
      | some (b, f) => match d.a.put o.dst (f (base + i)) with
        | some a' => some (.go ⟨a', d.hs, d.cs, d.fr ++ [(i, base + i, b)], d.lg⟩)
        | none => none
      | none => none
    | _ => drawChain P call round ops pre i o rest h d
  | _, some false => match d.a.put o.dst undefD with
    | some a' => some (.go ⟨a', d.hs, d.cs, d.fr, d.lg⟩)
    | none => none
  | _, _ => none

def drawGo (round : Bool) (ops : List Oper) (pre : List Nat) (base : Nat) : List (Nat × Oper) → DrS → Option (ExitD × ActD × St)
  | [], d =>
    match d.hs with
    | h :: _ => cond (logOk P pre d) (some (.normal, d.a, heapAdd h (fun i => !flushed pre d.cs i) d.fr)) none
    | [] => none
  | (i, o) :: rest, d =>
    match drawStep P call round ops pre base i o rest d with
    | some (.go d') => drawGo round ops pre base rest d'
    | some (.stop x a s) => some (x, a, s)
    | none => none

def drawD (round : Bool) (ops : List Oper) (a : ActD) (s : St) : Option (ExitD × ActD × St) :=
  let pre := presL ops []
  let nops := numbered 0 ops
  cond (edgesOk nops && pairsOk ops pre nops)
    (drawGo P call round ops pre s.next nops ⟨a, [⟨s.heap, s.next + ops.length⟩], [], [], []⟩) none
end run

/-! ### Calls -/
inductive ModeD where
  | returning
  | panicking (v : Value)
  | recovered (v : Value)

def settleD : ModeD → ModeD
  | .recovered _ => .returning
  | m => m

def resultD (P : Program) (a : ActD) (s : St) : ResultVar → Option Value
  | .tmp t => a.regs.get t
  | .cell t ty => match a.regs.get t with
    | some p => loadD P ty p s
    | none => none

def resultsL (P : Program) (a : ActD) (s : St) : List ResultVar → Option (List Value)
  | [] => some []
  | r :: rs => match resultD P a s r with
    | some v => match resultsL P a s rs with
      | some vs => some (v :: vs)
      | none => none
    | none => none

def resultsD (P : Program) (fn : Func) (a : ActD) (s : St) : Option Value :=
  match resultsL P a s fn.results.toList with
  | some [v] => some v
  | some vs => some (.tuple ⟨vs⟩)
  | none => none

section calls
variable (P : Program) (ex : Bool → Code → ActD → St → Option (ExitD × ActD × St)) (call : TargetD → St → Option (EndD × St))

def isRecover : Op → Bool
  | .call { callee := .builtin .recover, .. } => true
  | _ => false

/-- The operations of a function that was deferred. -/
def opsS (all : List Oper) : List Oper → ActD → ModeD → St → Option (ExitD × ActD × ModeD × St)
  | [], a, u, s => some (.normal, a, u, s)
  | o :: rest, a, u, s =>
    match wantedD all a o with
    | some true =>
      cond (isRecover o.op)
        (match u with
        | .panicking v => match a.put o.dst v with
          | some a' => opsS all rest a' (.recovered v) s
          | none => none
        | u => match a.put o.dst .nilIface with
          | some a' => opsS all rest a' u s
          | none => none)
        (match operD P call false a s o with
        | some (.val v s') => match a.put o.dst v with
          | some a' => opsS all rest a' u s'
          | none => none
        | some (.defer _) => none
        | some (.panic v s') => some (.panic v, a, u, s')
        | none => none)
    | some false => match a.put o.dst undefD with
      | some a' => opsS all rest a' u s
      | none => none
    | none => none

def execS : Code → ActD → ModeD → St → Option (ExitD × ActD × ModeD × St)
  | .seq x y, a, u, s => match execS x a u s with
    | some (.normal, a', u', s') => execS y a' u' s'
    | r => r
  | .cond c x y, a, u, s => match a.eval c with
    | some (.bool true) => execS x a u s
    | some (.bool false) => execS y a u s
    | _ => none
  | .region _ ops false, a, u, s => opsS P call ops.toList ops.toList a u s
  | c, a, u, s => match ex false c a s with
    | some (x, a', s') => some (x, a', u, s')
    | none => none

def deferD (f : FuncId) (args : List Value) (u : ModeD) (s : St) : Option (ModeD × St) :=
  match P.funcs[f]? with
  | some fn => match fn.body with
    | some c => match execS P ex call c ⟨Tr.ofList args, Nat.max fn.ntmps args.length, []⟩ u s with
      | some (x, a', u', s') => match a'.defers with
        | [] => match x with
          | .normal | .ret => match resultsD P fn a' s' with
            | some _ => some (settleD u', s')
            | none => none
          | .panic v => match u' with
            | .returning => some (.panicking v, s')
            | _ => none
          | _ => none
        | _ => none
      | none => none
    | none => none
  | none => none

def leaveD (fn : Func) (a : ActD) : List Def → ModeD → St → Option (EndD × St)
  | [], .returning, s => match resultsD P fn a s with
    | some v => some (.ret v, s)
    | none => none
  | [], .panicking v, s => some (.panic v, s)
  | [], .recovered _, _ => none
  | .mark :: ds, u, s => leaveD fn a ds u s
  | .call f args :: ds, u, s => match deferD P ex call f args u s with
    | some (u', s') => leaveD fn a ds u' s'
    | none => none

/-- What a function without a Go text answers. -/
def extD (fn : Func) (args : List Value) : Option Value :=
  cond ((Extern.findNext fn).isNone && args.all scalar)
    (cond (fn.name == "internal/bytealg.IndexByteString") (pureV (Extern.BytealgIndexByte.indexByte ⟨args⟩))
      (cond (fn.name == "internal/bytealg.CountString") (pureV (Extern.BytealgCount.count ⟨args⟩)) none)) none

def callFn (f : FuncId) (args : List Value) (s : St) : Option (EndD × St) :=
  match P.funcs[f]? with
  | some fn => match fn.body with
    | some c => match ex false c ⟨Tr.ofList args, Nat.max fn.ntmps args.length, []⟩ s with
      | some (x, a', s') => match x with
        | .normal | .ret => leaveD P ex call fn a' a'.defers .returning s'
        | .panic v => leaveD P ex call fn a' a'.defers (.panicking v) s'
        | _ => none
      | none => none
    | none => match extD fn args with
      | some v => some (.ret v, s)
      | none => none
  | none => none

def setParams (r : Tr Value) (nt : Nat) : List Tmp → List Value → Option (Tr Value)
  | [], [] => some r
  | t :: ts, v :: vs => cond (Nat.blt t nt) (setParams (r.set t v) nt ts vs) none
  | _, _ => none

def loopAt (s : St) (l : Nat) : Option LoopD := match s.heap.get l with
  | some (.loop L) => some L
  | _ => none

def endRoundD (s : St) (l : Nat) (jump : Option Code) : Option (EndD × St) :=
  match loopAt s l with
  | some L => some (.ret (.bool jump.isNone), s.setObj l (.loop { L with state := cond jump.isNone .ready .done, pending := jump }))
  | none => none

def roundD (l : Nat) (args : List Value) (s : St) : Option (EndD × St) :=
  match loopAt s l with
  | some L => match setParams L.regs L.nt L.params args with
    | some r => match ex true L.assign ⟨r, L.nt, []⟩ s with
      | some (.normal, a1, s1) => match loopAt s1 l with
        | some L1 => match L1.state with
          | .ready => match ex true L.body a1 (s1.setObj l (.loop { L1 with state := .busy })) with
            | some (x, _, s2) => match x with
              | .normal => endRoundD s2 l none
              | .ret => endRoundD s2 l (some .ret)
              | .exit id => endRoundD s2 l (some (.exit id))
              | .goto t => endRoundD s2 l (some (.goto t))
              | .panic _ => none
            | none => none
          | _ => none
        | none => none
      | _ => none
    | none => none
  | none => none

def scopeD (body : Code) : Nat → Bool → Code → ActD → St → Option (ExitD × ActD × St)
  | 0, _, _, _, _ => none
  | n + 1, r, c, a, s => match ex r c a s with
    | some (.goto l, a', s') => match findLabel body l with
      | some rest => scopeD body n r rest a' s'
      | none => some (.goto l, a', s')
    | x => x

def rangeFuncD (round : Bool) (f : Operand) (params : Array Tmp) (assign body : Code) (a : ActD) (s : St) : Option (ExitD × ActD × St) :=
  cond round none
  (match a.eval f with
  | some fv => match targetD fv [.func (.yield s.next) #[] #[]] with
    | some t =>
      let l := s.next
      let s1 := (s.new (.loop ⟨.ready, none, a.regs, a.nt, params.toList, assign, body⟩)).2
      let a1 : ActD := ⟨a.regs, a.nt, .mark :: a.defers⟩
      match call t s1 with
      | some (.ret _, s2) => match loopAt s2 l with
        | some L => match L.state with
          | .busy => none
          | _ =>
            let s3 := s2.setObj l (.loop { L with state := .exhausted })
            match L.pending with
            | none => some (.normal, a1, s3)
            | some .ret => some (.ret, a1, s3)
            | some (.exit id) => some (.exit id, a1, s3)
            | some (.goto t) => some (.goto t, a1, s3)
            | _ => none
        | none => none
      | some (.panic _, _) => none
      | none => none
    | none => none
  | none => none)
end calls

/-- What is known of some functions already. -/
abbrev Oracle := FuncId → List Value → St → Option (EndD × St)

/-- The two faces of the interpreter: code, and calls. -/
structure Eng where
  ex : Bool → Code → ActD → St → Option (ExitD × ActD × St)
  call : TargetD → St → Option (EndD × St)

def execStep (P : Program) (e : Eng) (r : Bool) (c : Code) (a : ActD) (s : St) : Option (ExitD × ActD × St) :=
  match c with
  | .skip => some (.normal, a, s)
  | .label _ => some (.normal, a, s)
  | .seq x y => match e.ex r x a s with
    | some (.normal, a', s') => e.ex r y a' s'
    | o => o
  | .cond c x y => match a.eval c with
    | some (.bool b) => cond b (e.ex r x a s) (e.ex r y a s)
    | _ => none
  | .block id body => match e.ex r body a s with
    | some (.exit id', a', s') => cond (Nat.beq id' id) (some (.normal, a', s')) (some (.exit id', a', s'))
    | o => o
  | .loop body => match e.ex r body a s with
    | some (.normal, a', s') => e.ex r (.loop body) a' s'
    | o => o
  | .exit id => some (.exit id, a, s)
  | .goto l => some (.goto l, a, s)
  | .ret => some (.ret, a, s)
  | .scope body => scopeD e.ex body 1048576 r body a s
  | .region _ ops draw => cond draw (drawD P e.call r ops.toList a s) (opsD P e.call r ops.toList ops.toList a s)
  | .rangeFunc f ps assign body => rangeFuncD e.call r f ps assign body a s
  | .refuse _ => none

def callStep (P : Program) (O : Oracle) (e : Eng) (t : TargetD) (s : St) : Option (EndD × St) :=
  match t with
  | .fn f args => match O f args s with
    | some r => some r
    | none => callFn P e.ex e.call f args s
  | .yield l args => roundD e.ex l args s

def eng (P : Program) (O : Oracle) : Nat → Eng
  | 0 => ⟨fun _ _ _ _ => none, fun _ _ => none⟩
  | n + 1 => ⟨execStep P (eng P O n), callStep P O (eng P O n)⟩

def noOracle : Oracle := fun _ _ _ => none
end Go.Hg
