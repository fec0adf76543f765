/- The abstract machine X, its steps: frames, regions whose order Go leaves open (gone through in one order, with the checks that make every other order come to the same), ranges over functions, deferred calls, panics. Conditions: none. -/
import Derived.Test.YtkmbfjdmbdpflaaXDefs
namespace Go.X

/-! Regions whose order is open: computed once from the text. -/

/-- 0: reads; 1: makes a block; 2: writes, calls, or leaves. -/
def cls (E : Env) (o : Oper) : Nat :=
  match o.op with
  | .alloc _ => 1
  | .box _ _ => 1
  | .buildSlice _ _ _ => 1
  | .makeMap _ _ => 1
  | .makeSlice _ _ _ => 1
  | .convert _ d _ => (match E.und d with | some (.slice _) => 2 | _ => 0)
  | .call { callee := .builtin b, .. } => (match b with | .len => 0 | .max => 0 | .min => 0 | _ => 2)
  | .move _ => 0
  | .assign _ => 0
  | .pick _ _ _ => 0
  | .build _ _ => 0
  | .load _ _ => 0
  | .nilCheck _ => 0
  | .binOp _ _ _ _ _ => 0
  | .unOp _ _ _ => 0
  | .makeInterface _ _ => 0
  | .makeFunc _ _ _ => 0
  | .slice _ _ _ _ _ => 0
  | .fieldAddr _ _ _ => 0
  | .field _ _ _ => 0
  | .indexAddr _ _ _ => 0
  | .index _ _ _ => 0
  | .lookup _ _ _ _ => 0
  | .typeAssert _ _ _ _ => 0
  | .extract _ _ => 0
  | _ => 2

/-- The stages of operations: how many writers stand ahead of each (by the edges). They only choose an order: `orderOk` holds it. -/
def stageOf (acc : List (Nat × Nat)) (o : Oper) : Nat :=
  (o.after.toList.filter (fun e => Region.binds .any e)).foldl (fun s e => max s (acc.getD e.on (0, 0)).2) 0

def stages (E : Env) : List Oper → Nat → List (Nat × Nat) → List (Nat × Nat)
  | [], _, acc => acc
  | o :: l, k, acc =>
    cond (Nat.beq (cls E o) 2)
      (stages E l (k + 1) (acc ++ [(stageOf acc o, k + 1)]))
      (stages E l k (acc ++ [(stageOf acc o, stageOf acc o)]))

/-- The operations of a stage that write nothing. -/
def stageRow (E : Env) (ops : List Oper) (st : List (Nat × Nat)) (k : Nat) : List Nat :=
  (ops.zip st).zipIdx.filterMap fun ((o, s), i) => cond (Nat.beq s.1 k && !Nat.beq (cls E o) 2) (some i) none

def writers (E : Env) (ops : List Oper) : List Nat :=
  ops.zipIdx.filterMap fun (o, i) => cond (Nat.beq (cls E o) 2) (some i) none

def orderFrom (E : Env) (ops : List Oper) (st : List (Nat × Nat)) : List Nat → Nat → List Nat
  | [], k => stageRow E ops st k
  | w :: ws, k => stageRow E ops st k ++ w :: orderFrom E ops st ws (k + 1)

/-- The order in which X goes through such a region. -/
def canon (E : Env) (ops : Array Oper) : List Nat :=
  orderFrom E ops.toList (stages E ops.toList 0 []) (writers E ops.toList) 0

def memN (i : Nat) : List Nat → Bool
  | [] => false
  | j :: l => cond (Nat.beq i j) true (memN i l)

def nodupN : List Nat → Bool
  | [] => true
  | i :: l => !memN i l && nodupN l

def predsOf (ops : Array Oper) (i : Nat) : List Nat :=
  match ops[i]? with
  | some o => (o.after.toList.filter (fun e => Region.binds .any e)).map (·.on)
  | none => []

/-- Does i stand ahead of j, by the edges? -/
def isAnc (ops : Array Oper) : Nat → Nat → Nat → Bool
  | 0, _, _ => false
  | n + 1, i, j => memN i (predsOf ops j) || (predsOf ops j).any (fun p => isAnc ops n i p)

def ahead (ops : Array Oper) (i j : Nat) : Bool := isAnc ops 12 i j

def clsAt (E : Env) (ops : Array Oper) (i : Nat) : Nat :=
  match ops[i]? with
  | some o => cls E o
  | none => 2

/-- The order is fit: what stands ahead is done ahead; and when a writer comes nothing else could. -/
def orderOk (E : Env) (ops : Array Oper) : List Nat → Bool
  | [] => true
  | i :: rest => (predsOf ops i).all (fun p => !memN p (i :: rest)) &&
    cond (Nat.beq (clsAt E ops i) 2) (rest.all fun j => (predsOf ops j).any (fun p => memN p (i :: rest))) true &&
    orderOk E ops rest

def tmpsOf (l : List Operand) : List Nat := l.filterMap fun | .tmp t => some t | _ => none

def dstIs (o : Oper) (t : Nat) : Bool := match o.dst with | some d => Nat.beq d t | none => false

/-- Each temporary that an operation sees, and that another one of the region lays, is laid ahead of it; no two lay one. -/
def tmpsOk (ops : Array Oper) : Bool :=
  let l := ops.toList.zipIdx
  (l.all fun (o, i) => l.all fun (q, j) => Nat.beq i j || (match o.dst with | some d => !dstIs q d | none => true)) &&
  (l.all fun (o, i) =>
    (tmpsOf o.op.operands.toList).all (fun t => l.all fun (q, j) => !dstIs q t || ahead ops j i) &&
    (match o.guard with
     | none => true
     | some (g, _) => ahead ops g i))

def edgesOk (ops : Array Oper) : Bool :=
  (List.range ops.size).all fun i => (predsOf ops i).all fun p => Nat.blt p i

/-- Constants are without addresses; of package-level variables the first 255 may be named. -/
def constOk : Operand → Bool
  | .const v => plainV 20 v
  | .global g => Nat.blt g 255
  | _ => true

def constsOk (ops : Array Oper) : Bool := ops.toList.all fun o => o.op.operands.toList.all constOk

def selOk (o : Oper) : Bool := match o.op with
  | .select _ _ => false
  | _ => true

def orderFits (E : Env) (ops : Array Oper) (l : List Nat) : Bool :=
  orderOk E ops l && nodupN l && l.all (fun i => Nat.blt i ops.size) && (List.range ops.size).all (fun i => memN i l)

def regionOk (E : Env) (ops : Array Oper) : Bool :=
  edgesOk ops && tmpsOk ops && ops.toList.all selOk && orderFits E ops (canon E ops)

/-- Does what it yields hang on nothing but its operands? -/
def isPure (o : Oper) : Bool :=
  match o.op with
  | .move _ => true
  | .assign _ => true
  | .pick _ _ _ => true
  | .build _ _ => true
  | .nilCheck _ => true
  | .unOp _ _ _ => true
  | .makeInterface _ _ => true
  | .makeFunc _ _ _ => true
  | .fieldAddr _ _ _ => true
  | .field _ _ _ => true
  | .indexAddr _ _ _ => true
  | .index _ _ _ => true
  | .typeAssert _ _ _ _ => true
  | .extract _ _ => true
  | _ => false

/-- The reads that may come behind writer j, though X has made them ahead of it. -/
def late (E : Env) (ops : Array Oper) (j : Nat) (rest : List Nat) : List Nat :=
  (List.range ops.size).filter fun i => Nat.beq (clsAt E ops i) 0 && !(match ops[i]? with | some o => isPure o | none => true) && !memN i (j :: rest) && !ahead ops i j

/-! Frames -/

inductive It where
  | code (c : Code)
  | inBlock (id : Nat)
  | inLoop (body : Code)
  | inScope (body : Code)
  | inRegion (ops : Array Oper) (todo : List Nat)
  | draw (ops : Array Oper) (todo : List Nat)
  | chk (ops : Array Oper) (l : List Nat) (todo : List Nat)
  | inRangeFunc (loop : Nat)
  | endRangeFunc (loop : Nat)
  | beginRound

structure Fr where
  fn : FuncId
  nt : Nat
  tm : Tr Value
  todo : List It
  defers : List Deferred
  mode : FrameMode
  kind : CallKind
  ro : Option Nat

structure St where
  fr : Fr
  cs : List Fr
  h : Hp

def setT (nt : Nat) (tm : Tr Value) (d : Nat) (v : Value) : Tr Value := cond (Nat.blt d nt) (tm.set (d + 1) d v) tm

def putT (nt : Nat) (tm : Tr Value) (d : Option Nat) (v : Value) : Tr Value :=
  match d with
  | none => tm
  | some d => setT nt tm d v

def exitToX (id : Nat) : List It → Option (List It)
  | [] => none
  | .inBlock i :: k => cond (Nat.beq i id) (some k) (exitToX id k)
  | _ :: k => exitToX id k

def gotoX (l : Nat) : List It → Option (List It)
  | [] => none
  | .inScope body :: k => (match findLabel body l with
    | some rest => some (.code rest :: .inScope body :: k)
    | none => gotoX l k)
  | _ :: k => gotoX l k

def argsT : List Value → Nat → Tr Value → Tr Value
  | [], _, t => t
  | v :: l, i, t => argsT l (i + 1) (t.set (i + 1) i v)

def enterX (E : Env) (f : FuncId) (args : List Value) (kind : CallKind) : Option Fr :=
  match E.fn f with
  | some fn => (match fn.body with
    | some c => some ⟨f, args.length + (fn.ntmps - args.length), argsT args 0 .leaf, [.code c], [], .run, kind, none⟩
    | none => none)
  | none => none

/-- Whether an operation is wanted; none: it isn't told. -/
def wantedX (ops : Array Oper) (tm : Tr Value) (o : Oper) : Option Bool :=
  match o.guard with
  | none => some true
  | some (g, want) => (match ops[g]? with
    | some og => (match og.dst with
      | some d => (match tm.get d with
        | some (.bool b) => some (b == want)
        | some (.tuple _) => some false
        | _ => none)
      | none => none)
    | none => none)

/-- A frame whose called function, or operation, has ended with a value. -/
def finishX (E : Env) (fr : Fr) (v : Value) : Option Fr :=
  match fr with
  | ⟨fn, nt, tm, todo, df, .run, kd, ro⟩ => (match todo with
    | .inRegion ops (i :: rest) :: k => (match ops[i]? with
      | some o => some ⟨fn, nt, putT nt tm o.dst v, .inRegion ops rest :: k, df, .run, kd, ro⟩
      | none => none)
    | .draw ops (i :: rest) :: k => (match ops[i]? with
      | some o => some ⟨fn, nt, putT nt tm o.dst v, .chk ops (late E ops i rest) rest :: k, df, .run, kd, ro⟩
      | none => none)
    | .inRangeFunc l :: k => some ⟨fn, nt, tm, .endRangeFunc l :: k, df, .run, kd, ro⟩
    | _ => none)
  | _ => none

/-- None of the frame's result variables is laid in the region. -/
def resOk (E : Env) (fn : FuncId) (ops : Array Oper) : Bool :=
  match E.fn fn with
  | some f => f.results.toList.all fun r => ops.toList.all fun o => (match r with
    | .tmp t => !dstIs o t
    | .cell t _ => !dstIs o t)
  | none => false

def raiseX (E : Env) (fr : Fr) (chain : List PanicEntry) : Option Fr :=
  match fr with
  | ⟨fn, nt, tm, todo, df, md, kd, ro⟩ => (match md with
    | .panicking c => some ⟨fn, nt, tm, todo, df, .panicking (chain ++ c), kd, ro⟩
    | .returning => some ⟨fn, nt, tm, todo, df, .panicking chain, kd, ro⟩
    | .run => (match todo with
      | .draw ops _ :: _ => cond (resOk E fn ops) (some ⟨fn, nt, tm, todo, df, .panicking chain, kd, ro⟩) none
      | .chk _ _ _ :: _ => none
      | _ => some ⟨fn, nt, tm, todo, df, .panicking chain, kd, ro⟩))

def loopOf (h : Hp) (l : Nat) : Option Lp :=
  match h.get l with
  | some (.loop r) => some r
  | _ => none

/-- Back to the caller, with a value. -/
def returnX (E : Env) (kind : CallKind) (cs : List Fr) (h : Hp) (v : Value) : Option St :=
  match cs with
  | [] => none
  | c :: rest => (match kind with
    | .normal => (match finishX E c v with | some c' => some ⟨c', rest, h⟩ | none => none)
    | .deferred => (match c with
      | ⟨fn, nt, tm, todo, df, md, kd, ro⟩ => (match md with
        | .panicking (⟨_, true, _⟩ :: older) =>
          (match older.dropWhile (!·.goexit) with
           | [] => some ⟨⟨fn, nt, tm, todo, df, .returning, kd, ro⟩, rest, h⟩
           | r => some ⟨⟨fn, nt, tm, todo, df, .panicking r, kd, ro⟩, rest, h⟩)
        | .run => none
        | md => some ⟨⟨fn, nt, tm, todo, df, md, kd, ro⟩, rest, h⟩))
    | _ => none)

def noneJ : Option Code → Bool
  | none => true
  | some _ => false

def endRoundX (h : Hp) (l : Nat) (jump : Option Code) : Option Hp :=
  match loopOf h l with
  | some ⟨_, _, fn, nt, tm, ps, a, b, d⟩ => some (h.put l (.loop ⟨cond (noneJ jump) .ready .done, jump, fn, nt, tm, ps, a, b, d⟩))
  | none => none

def leaveX (E : Env) (fr : Fr) (cs : List Fr) (h : Hp) (jump : Option Code) : Option St :=
  match fr with
  | ⟨fn, nt, tm, todo, df, _, kd, ro⟩ => (match ro with
    | none => (match jump with
      | none => some ⟨⟨fn, nt, tm, todo, df, .returning, kd, none⟩, cs, h⟩
      | some .ret => some ⟨⟨fn, nt, tm, todo, df, .returning, kd, none⟩, cs, h⟩
      | _ => none)
    | some l => (match kd with
      | .normal => (match endRoundX h l jump with
        | some h' => returnX E .normal cs h' (boolV (noneJ jump))
        | none => none)
      | _ => none))

/-- What recover yields, and the callers behind it. -/
def recoverX (fr : Fr) (cs : List Fr) : Option (Value × List Fr) :=
  match fr.kind, cs with
  | .deferred, ⟨fn, nt, tm, todo, df, md, kd, ro⟩ :: rest => (match md with
    | .panicking (⟨v, false, false⟩ :: older) => some (v, ⟨fn, nt, tm, todo, df, .panicking (⟨v, true, false⟩ :: older), kd, ro⟩ :: rest)
    | .panicking _ => none
    | _ => some (.nilIface, cs))
  | .normal, _ => some (.nilIface, cs)
  | _, _ => none

def paramsT (nt : Nat) : List Nat → List Value → Tr Value → Tr Value
  | t :: ts, v :: vs, tm => paramsT nt ts vs (setT nt tm t v)
  | _, _, tm => tm

/-- What an operation's outcome does to the machine. -/
def nextX (E : Env) (fr : Fr) (cs : List Fr) (h : Hp) : Nx → Option St
  | .value v h => (match finishX E fr v with | some fr => some ⟨fr, cs, h⟩ | none => none)
  | .skip h => (match finishX E fr undef with | some fr => some ⟨fr, cs, h⟩ | none => none)
  | .enter f args => (match E.orc f with
      | some v => (match args.toList with
       | [] => (match finishX E fr v with | some fr => some ⟨fr, cs, h⟩ | none => none)
       | _ => none)
      | none => (match enterX E f args.toList .normal with | some fr' => some ⟨fr', fr :: cs, h⟩ | none => none))
  | .round l args => (match loopOf h l with
    | some ⟨_, _, fn, nt, tm, ps, a, b, _⟩ => cond (Nat.beq args.toList.length ps.toList.length)
        (some ⟨⟨fn, nt, paramsT nt ps.toList args.toList tm, [.code a, .beginRound, .code b], [], .run, .normal, some l⟩, fr :: cs, h⟩) none
    | none => none)
  | .defer d => (match fr with
    | ⟨fn, nt, tm, todo, df, md, kd, none⟩ => (match finishX E ⟨fn, nt, tm, todo, d :: df, md, kd, none⟩ undef with | some fr => some ⟨fr, cs, h⟩ | none => none)
    | _ => none)
  | .recover => (match fr.ro with
    | some _ => none
    | none => (match recoverX fr cs with
      | some (v, cs) => (match finishX E fr v with | some fr => some ⟨fr, cs, h⟩ | none => none)
      | none => none))
  | .panic v => (match raiseX E fr [⟨v, false, false⟩] with
    | some fr => some ⟨fr, cs, h⟩
    | none => none)

/-- One operation. -/
def operX (E : Env) (fr : Fr) (cs : List Fr) (h : Hp) (o : Oper) : Option St :=
  match cls E o with
  | 0 => (match readX E fr.tm o h with
    | some v => nextX E fr cs h (.value v h)
    | none => none)
  | 1 => (match allocX E fr.tm o with
    | some (b, f) => nextX E fr cs h (.value (f h.n) (h.alloc b))
    | none => none)
  | _ => (match writeX E fr.tm o h with
    | some n => nextX E fr cs h n
    | none => none)

/-- One operation of a region whose order is open: the writers' checks come behind them. -/
def drawX (E : Env) (fr : Fr) (cs : List Fr) (h : Hp) (ops : Array Oper) (i : Nat) (rest : List Nat) (k : List It) : Option St :=
  match ops[i]? with
  | none => none
  | some o => (match fr with
    | ⟨fn, nt, tm, todo, df, md, kd, ro⟩ => (match wantedX ops tm o with
      | none => none
      | some false => some ⟨⟨fn, nt, putT nt tm o.dst undef, .draw ops rest :: k, df, md, kd, ro⟩, cs, h⟩
      | some true => (match cls E o with
        | 0 => (match readX E tm o h with
          | some v => some ⟨⟨fn, nt, putT nt tm o.dst v, .draw ops rest :: k, df, md, kd, ro⟩, cs, h⟩
          | none => none)
        | 1 => (match allocX E tm o with
          | some (b, f) => some ⟨⟨fn, nt, putT nt tm o.dst (f h.n), .draw ops rest :: k, df, md, kd, ro⟩, cs, h.alloc b⟩
          | none => none)
        | _ => (match writeX E tm o h with
          | some n => nextX E ⟨fn, nt, tm, todo, df, md, kd, ro⟩ cs h n
          | none => none))))

/-- A read that has been made is made again: it comes to the same. -/
def againX (E : Env) (tm : Tr Value) (h : Hp) (ops : Array Oper) (i : Nat) : Bool :=
  match ops[i]? with
  | none => false
  | some o => (match wantedX ops tm o with
    | none => false
    | some false => true
    | some true => (match readX E tm o h, o.dst with
      | some v, some d => (match tm.get d with
        | some u => sameV 20 v u
        | none => false)
      | _, _ => false))

def resultsX (E : Env) (tm : Tr Value) (h : Hp) : List ResultVar → Option (List Value)
  | [] => some []
  | .tmp t :: l => (match resultsX E tm h l with
    | some r => some (ev tm (.tmp t) :: r)
    | none => none)
  | .cell a t :: l => (match ev tm (.tmp a) with
    | .pointer (some p) => (match loadX E t p h, resultsX E tm h l with
      | some v, some r => some (v :: r)
      | _, _ => none)
    | _ => none)

def oneOf : List Value → Value
  | [v] => v
  | l => .tuple l.toArray

def rangeCallX (f : Operand) (l : Nat) : Call := { callee := .value f, args := #[.const (.func (.yield l) #[] #[])], argTypes := #[] }

/-- A range over a function: its record is laid, the function is called. -/
def rangeX (E : Env) (fn : FuncId) (nt : Nat) (tm : Tr Value) (k : List It) (df : List Deferred) (kd : CallKind) (ro : Option Nat) (cs : List Fr) (h : Hp)
    (f : Operand) (ps : Array Tmp) (a b : Code) (df' : List Deferred) (r : Nat) : Option St :=
  match cond (constOk f) (resolveX tm (rangeCallX f h.n) 0) none with
  | some d => (match invokeX E (h.alloc (.loop ⟨.ready, none, fn, nt, tm, ps, a, b, r⟩)) d with
    | some (.enter g args) => (match enterX E g args.toList .normal with
      | some fr' => some ⟨fr', ⟨fn, nt, tm, .inRangeFunc h.n :: k, df' ++ df, .run, kd, ro⟩ :: cs, h.alloc (.loop ⟨.ready, none, fn, nt, tm, ps, a, b, r⟩)⟩
      | none => none)
    | _ => none)
  | none => none

/-- Running. -/
def execX (E : Env) (fn : FuncId) (nt : Nat) (tm : Tr Value) (todo : List It) (df : List Deferred) (kd : CallKind) (ro : Option Nat) (cs : List Fr) (h : Hp) : Option St :=
  match todo with
  | [] => leaveX E ⟨fn, nt, tm, [], df, .run, kd, ro⟩ cs h none
  | .code c :: k => (match c with
    | .skip => some ⟨⟨fn, nt, tm, k, df, .run, kd, ro⟩, cs, h⟩
    | .label _ => some ⟨⟨fn, nt, tm, k, df, .run, kd, ro⟩, cs, h⟩
    | .ret => leaveX E ⟨fn, nt, tm, .code .ret :: k, df, .run, kd, ro⟩ cs h (some .ret)
    | .seq a b => some ⟨⟨fn, nt, tm, .code a :: .code b :: k, df, .run, kd, ro⟩, cs, h⟩
    | .cond c a b => (match ev tm c with
      | .bool t => some ⟨⟨fn, nt, tm, .code (cond t a b) :: k, df, .run, kd, ro⟩, cs, h⟩
      | _ => none)
    | .block id b => some ⟨⟨fn, nt, tm, .code b :: .inBlock id :: k, df, .run, kd, ro⟩, cs, h⟩
    | .loop b => some ⟨⟨fn, nt, tm, .code b :: .inLoop b :: k, df, .run, kd, ro⟩, cs, h⟩
    | .scope b => some ⟨⟨fn, nt, tm, .code b :: .inScope b :: k, df, .run, kd, ro⟩, cs, h⟩
    | .exit id => (match exitToX id k with
      | some k' => some ⟨⟨fn, nt, tm, k', df, .run, kd, ro⟩, cs, h⟩
      | none => leaveX E ⟨fn, nt, tm, .code (.exit id) :: k, df, .run, kd, ro⟩ cs h (some (.exit id)))
    | .goto l => (match gotoX l k with
      | some k' => some ⟨⟨fn, nt, tm, k', df, .run, kd, ro⟩, cs, h⟩
      | none => leaveX E ⟨fn, nt, tm, .code (.goto l) :: k, df, .run, kd, ro⟩ cs h (some (.goto l)))
    | .rangeFunc f ps a b => (match ro with
      | none => rangeX E fn nt tm k df kd none cs (h.alloc (.deferred (some []))) f ps a b [{ target := .collected h.n, args := #[] }] h.n
      | some o => (match loopOf h o with
        | none => none
        | some r => rangeX E fn nt tm k df kd (some o) cs h f ps a b [] r.defers))
    | .region _ ops draw => cond (constsOk ops) (cond draw
        (cond (regionOk E ops) (some ⟨⟨fn, nt, tm, .draw ops (canon E ops) :: k, df, .run, kd, ro⟩, cs, h⟩) none)
        (some ⟨⟨fn, nt, tm, .inRegion ops (List.range ops.size) :: k, df, .run, kd, ro⟩, cs, h⟩)) none
    | .refuse _ => none)
  | .inBlock _ :: k => some ⟨⟨fn, nt, tm, k, df, .run, kd, ro⟩, cs, h⟩
  | .inScope _ :: k => some ⟨⟨fn, nt, tm, k, df, .run, kd, ro⟩, cs, h⟩
  | .inLoop b :: k => some ⟨⟨fn, nt, tm, .code b :: .inLoop b :: k, df, .run, kd, ro⟩, cs, h⟩
  | .inRegion ops l :: k => (match l with
    | [] => some ⟨⟨fn, nt, tm, k, df, .run, kd, ro⟩, cs, h⟩
    | i :: rest => (match ops[i]? with
      | none => none
      | some o => (match wantedX ops tm o with
        | none => none
        | some false => some ⟨⟨fn, nt, putT nt tm o.dst undef, .inRegion ops rest :: k, df, .run, kd, ro⟩, cs, h⟩
        | some true => operX E ⟨fn, nt, tm, .inRegion ops (i :: rest) :: k, df, .run, kd, ro⟩ cs h o)))
  | .draw ops l :: k => (match l with
    | [] => some ⟨⟨fn, nt, tm, k, df, .run, kd, ro⟩, cs, h⟩
    | i :: rest => drawX E ⟨fn, nt, tm, .draw ops (i :: rest) :: k, df, .run, kd, ro⟩ cs h ops i rest k)
  | .chk ops l rest :: k => (match l with
    | [] => some ⟨⟨fn, nt, tm, .draw ops rest :: k, df, .run, kd, ro⟩, cs, h⟩
    | i :: l => cond (againX E tm h ops i) (some ⟨⟨fn, nt, tm, .chk ops l rest :: k, df, .run, kd, ro⟩, cs, h⟩) none)
  | .inRangeFunc _ :: _ => none
  | .beginRound :: k => (match ro with
    | none => none
    | some l => (match loopOf h l with
      | some ⟨.ready, p, f, n, t, ps, a, b, d⟩ => some ⟨⟨fn, nt, tm, k, df, .run, kd, some l⟩, cs, h.put l (.loop ⟨.busy, p, f, n, t, ps, a, b, d⟩)⟩
      | _ => none))
  | .endRangeFunc l :: k => (match loopOf h l with
    | some ⟨.busy, _, _, _, _, _, _, _, _⟩ => none
    | some ⟨_, p, f, n, t, ps, a, b, d⟩ => some ⟨⟨fn, nt, tm, (match p with | none => k | some c => .code c :: k), df, .run, kd, ro⟩, cs, h.put l (.loop ⟨.exhausted, p, f, n, t, ps, a, b, d⟩)⟩
    | none => none)

/-- Leaving. -/
def unwindX (E : Env) (fn : FuncId) (nt : Nat) (tm : Tr Value) (todo : List It) (df : List Deferred) (md : FrameMode) (kd : CallKind) (ro : Option Nat) (cs : List Fr) (h : Hp) : Option St :=
  match df with
  | d :: ds => (match d.target with
    | .collected b => (match h.get b with
      | some (.deferred (some calls)) => some ⟨⟨fn, nt, tm, todo, calls ++ ds, md, kd, ro⟩, cs, h.put b (.deferred none)⟩
      | _ => none)
    | _ => (match invokeX E h d with
      | some (.enter f args) => (match enterX E f args.toList .deferred with
        | some fr => some ⟨fr, ⟨fn, nt, tm, todo, ds, md, kd, ro⟩ :: cs, h⟩
        | none => none)
      | _ => none))
  | [] => (match md with
    | .run => none
    | .panicking chain => (match cs, E.fn fn with
      | c :: rest, some _ => (match raiseX E c chain with
        | some c => some ⟨c, rest, h⟩
        | none => none)
      | _, _ => none)
    | .returning => (match cs with
      | [] => none
      | _ :: _ => (match E.fn fn with
        | some f => (match resultsX E tm h f.results.toList with
          | some vs => returnX E kd cs h (oneOf vs)
          | none => none)
        | none => none)))

def stepX (E : Env) (s : St) : Option St :=
  match s with
  | ⟨⟨fn, nt, tm, todo, df, md, kd, ro⟩, cs, h⟩ => (match md with
    | .run => execX E fn nt tm todo df kd ro cs h
    | md => unwindX E fn nt tm todo df md kd ro cs h)

/-- So many steps, or fewer, where it has ended. -/
def runX (E : Env) : Nat → St → St
  | 0, s => s
  | n + 1, s => (match stepX E s with
    | some s' => runX E n s'
    | none => s)

/-- Has it ended, and with which value? -/
def endX (E : Env) (f : FuncId) (s : St) : Option Value :=
  match s with
  | ⟨⟨fn, _, tm, _, [], .returning, .normal, _⟩, [], h⟩ => cond (Nat.beq fn f) (match E.fn fn with
    | some f => (match resultsX E tm h f.results.toList with
      | some vs => some (oneOf vs)
      | none => none)
    | none => none) none
  | _ => none

def startX (E : Env) (f : FuncId) (args : List Value) (h : Hp) : Option St :=
  match enterX E f args .normal with
  | some fr => some ⟨fr, [], h⟩
  | none => none

/-- What a call without arguments answers, within so many steps. -/
def valueX (E : Env) (f : FuncId) (n : Nat) : Option Value :=
  match startX E f [] Hp.empty with
  | some s => endX E f (runX E n s)
  | none => none

/-- Does a call without arguments answer true, within so many steps? -/
def truthX (E : Env) (f : FuncId) (n : Nat) : Bool :=
  match startX E f [] Hp.empty with
  | some s => (match endX E f (runX E n s) with
    | some (.bool b) => b
    | _ => false)
  | none => false

end Go.X
