/- The machine X, whole regions at once: the same machine, reckoned with less memory. Conditions: none. What the machine that goes by whole regions comes to, X comes to. Conditions: none. -/
import Derived.Test.YtkbmagikdfpcaaaGreatDoorXb
namespace Go.X

noncomputable section

/-! Lists, with the recursors themselves -/

def dropQ (n : Nat) : List Value → List Value :=
  Nat.rec (motive := fun _ => List Value → List Value) (fun l => l) (fun _ ih l => List.rec (motive := fun _ => List Value) [] (fun _ t _ => ih t) l) n
def takeQ (n : Nat) : List Value → List Value :=
  Nat.rec (motive := fun _ => List Value → List Value) (fun _ => []) (fun _ ih l => List.rec (motive := fun _ => List Value) [] (fun v t _ => v :: ih t) l) n
/-- Has it at least so many? -/
def longQ (n : Nat) : List Value → Bool :=
  Nat.rec (motive := fun _ => List Value → Bool) (fun _ => true) (fun _ ih l => List.rec (motive := fun _ => Bool) false (fun _ t _ => ih t) l) n
/-- The first ones as they are, then others in the places of those behind them. -/
def overQ (xs : List Value) : List Value → List Value :=
  List.rec (motive := fun _ => List Value → List Value) (fun l => l) (fun x _ ih l => List.rec (motive := fun _ => List Value) [x] (fun _ t _ => x :: ih t) l) xs
def patchQ (n : Nat) (xs : List Value) : List Value → List Value :=
  Nat.rec (motive := fun _ => List Value → List Value) (overQ xs) (fun _ ih l => List.rec (motive := fun _ => List Value) [] (fun v t _ => v :: ih t) l) n
def allQ (p : Value → Bool) (l : List Value) : Bool := List.rec (motive := fun _ => Bool) true (fun v _ ih => cond (p v) ih false) l

def rowQ (h : Hp) (a : Addr) (n : Nat) : Option (List Value) :=
  match a with
  | ⟨b, off, none⟩ => (match h.get b with
    | some (.cells c _ _) => cond (longQ (Nat.add off n) c) (some (takeQ n (dropQ off c))) none
    | _ => none)
  | _ => none
def cellQ (h : Hp) (a : Addr) : Option Value :=
  match a with
  | ⟨b, off, none⟩ => (match h.get b with
    | some (.cells c _ _) => List.rec (motive := fun _ => Option Value) none (fun v _ _ => some v) (dropQ off c)
    | _ => none)
  | _ => none
def loadQ (E : Env) (t : TypeId) (a : Addr) (h : Hp) : Option Value :=
  match E.und t with
  | none => none
  | some d => match aggDesc d with
    | true => (match E.size t with
      | none => none
      | some n => match rowQ h a n with
        | none => none
        | some l => some (.agg l.toArray))
    | false => cellQ h a

def storeRowQ (h : Hp) (a : Addr) (l : List Value) : Option Hp :=
  match a with
  | ⟨b, off, none⟩ => (match h.get b with
    | some (.cells c e m) => cond (Nat.beq m 1) none (cond (longQ (Nat.add off l.length) c) (some (h.put b (.cells (patchQ off l c) e m))) none)
    | _ => none)
  | _ => none
def storeQ (E : Env) (t : TypeId) (a : Addr) (v : Value) (h : Hp) : Option Hp :=
  match E.size t with
  | some n => (match v with
    | .agg cs => cond (Nat.beq cs.toList.length n) (cond (allQ cellV cs.toList) (storeRowQ h a cs.toList) none) none
    | v => cond (Nat.beq n 1) (cond (cellV v) (storeRowQ h a [v]) none) none)
  | none => none

/-! Numbers: what is small is reckoned at once. -/
def posQ (n : Nat) : Option Value := forceN n fun r => some (.int .i64 (.ofNat r))
def natBin (op : BinOp) (m n : Nat) : Option Value :=
  match op with
  | .lss => some (boolV (Nat.blt m n))
  | .leq => some (boolV (Nat.ble m n))
  | .gtr => some (boolV (Nat.blt n m))
  | .geq => some (boolV (Nat.ble n m))
  | .eql => some (boolV (Nat.beq m n))
  | .neq => some (boolV (!Nat.beq m n))
  | .add => cond (Nat.blt (Nat.add m n) 9223372036854775808) (posQ (Nat.add m n)) (intBin .add .i64 (.ofNat m) (.ofNat n))
  | .sub => cond (Nat.ble n m) (cond (Nat.blt m 9223372036854775808) (posQ (Nat.sub m n)) (intBin .sub .i64 (.ofNat m) (.ofNat n))) (intBin .sub .i64 (.ofNat m) (.ofNat n))
  | .mul => cond (Nat.blt (Nat.mul m n) 9223372036854775808) (posQ (Nat.mul m n)) (intBin .mul .i64 (.ofNat m) (.ofNat n))
  | op => intBin op .i64 (.ofNat m) (.ofNat n)
def binQ (E : Env) (h : Hp) (op : BinOp) (t : TypeId) (xo yo : Operand) (x y : Value) : Option Value :=
  match x with
  | .int .i64 (.ofNat m) => (match y with
    | .int .i64 (.ofNat n) => cond (isShift op) (binX E h op t xo yo (.int .i64 (.ofNat m)) (.int .i64 (.ofNat n))) (natBin op m n)
    | y => binX E h op t xo yo (.int .i64 (.ofNat m)) y)
  | x => binX E h op t xo yo x y

def rg_move (_E : Env) (g : Operand → Value) (_h : Hp) (x : Operand) : Option Value := some (g x)
def rg_assign (_E : Env) (g : Operand → Value) (_h : Hp) (x : Operand) : Option Value := some (g x)
def rg_pick (_E : Env) (g : Operand → Value) (_h : Hp) (c a b : Operand) : Option Value := (match g c with | .bool t => some (cond t (g a) (g b)) | _ => none)
def rg_build (E : Env) (g : Operand → Value) (_h : Hp) (t : TypeId) (ps : Array (Nat × Operand)) : Option Value := (match E.zero t, E.und t with
    | some z, some (.struct fs) =>
      (match fs.toList.mapM (fun f => (E.size f.type).map fun n => (f.offset, n)) with
       | some pl => (match Instr.fill (fun i => pl[i]?) z.cells (ps.toList.map fun (i, x) => (i, g x)) with
         | some cs => some (.agg cs)
         | none => none)
       | none => none)
    | some z, some (.array _ e) => (match E.size e with
      | some n => (match Instr.fill (fun i => some (i * n, n)) z.cells (ps.toList.map fun (i, x) => (i, g x)) with
        | some cs => some (.agg cs)
        | none => none)
      | none => none)
    | _, _ => none)
def rg_load (E : Env) (g : Operand → Value) (h : Hp) (t : TypeId) (a : Operand) : Option Value := (match g a with
    | .pointer (some a) => loadQ E t a h
    | _ => none)
def rg_nilCheck (_E : Env) (g : Operand → Value) (_h : Hp) (x : Operand) : Option Value := (match g x with
    | .pointer (some a) => some (.pointer (some a))
    | .func (.func f) a b => some (.func (.func f) a b)
    | .func (.yield f) a b => some (.func (.yield f) a b)
    | .iface t v => some (.iface t v)
    | _ => none)
def rg_binOp (E : Env) (g : Operand → Value) (h : Hp) (op : BinOp) (t : TypeId) (x y : Operand) : Option Value := binQ E h op t x y (g x) (g y)
def rg_unOp (_E : Env) (g : Operand → Value) (_h : Hp) (op : UnOp) (x : Operand) : Option Value := unX op (g x)
def rg_convert (E : Env) (g : Operand → Value) (h : Hp) (s d : TypeId) (x : Operand) : Option Value := convertX E h s d (g x)
def rg_makeInterface (E : Env) (g : Operand → Value) (_h : Hp) (t : TypeId) (x : Operand) : Option Value := (match E.und t with
    | some (.interface _) => none
    | some _ => some (.iface t (g x))
    | none => none)
def rg_makeFunc (_E : Env) (g : Operand → Value) (_h : Hp) (fn : Fn) (a b : Array Operand) : Option Value := (match fn with
    | .yield _ => none
    | fn => some (.func fn (a.map g) (b.map g)))
def rg_slice (E : Env) (g : Operand → Value) (h : Hp) (t : TypeId) (x : Operand) (lo hi mx : Option Operand) : Option Value := sliceX E h t (g x) (lo.map g) (hi.map g) (mx.map g)
def rg_fieldAddr (E : Env) (g : Operand → Value) (_h : Hp) (t : TypeId) (x : Operand) (i : Nat) : Option Value := fieldAddrX E t (g x) i
def rg_field (E : Env) (g : Operand → Value) (_h : Hp) (t : TypeId) (x : Operand) (i : Nat) : Option Value := fieldX E t (g x) i
def rg_indexAddr (E : Env) (g : Operand → Value) (_h : Hp) (t : TypeId) (x i : Operand) : Option Value := indexAddrX E t (g x) (g i)
def rg_index (E : Env) (g : Operand → Value) (_h : Hp) (t : TypeId) (x i : Operand) : Option Value := indexX E t (g x) (g i)
def rg_lookup (E : Env) (g : Operand → Value) (h : Hp) (t : TypeId) (m k : Operand) (ok : Bool) : Option Value := lookupX E h t (g m) (g k) ok
def rg_typeAssert (E : Env) (g : Operand → Value) (_h : Hp) (x : Operand) (t a : TypeId) (ok : Bool) : Option Value := typeAssertX E (g x) t a ok
def rg_extract (_E : Env) (g : Operand → Value) (_h : Hp) (x : Operand) (i : Nat) : Option Value := (match g x with | .tuple vs => vs[i]? | _ => none)
def rg_call (E : Env) (g : Operand → Value) (h : Hp) (b : Builtin) (args : Array Operand) (argTypes : Array TypeId) : Option Value := (match b, argTypes[0]?, (args.toList.map g) with
    | .len, some t, x :: _ => lenX E h t x
    | .max, _, x :: l => foldX max2X x l
    | .min, _, x :: l => foldX min2X x l
    | _, _, _ => none)

def readG (E : Env) (g : Operand → Value) (o : Oper) (h : Hp) : Option Value :=
  match o.op with
  | .move x => rg_move E g h x
  | .assign x => rg_assign E g h x
  | .pick c a b => rg_pick E g h c a b
  | .build t ps => rg_build E g h t ps
  | .load t a => rg_load E g h t a
  | .nilCheck x => rg_nilCheck E g h x
  | .binOp op t x y _ => rg_binOp E g h op t x y
  | .unOp op _ x => rg_unOp E g h op x
  | .convert s d x => rg_convert E g h s d x
  | .makeInterface t x => rg_makeInterface E g h t x
  | .makeFunc fn a b => rg_makeFunc E g h fn a b
  | .slice t x lo hi mx => rg_slice E g h t x lo hi mx
  | .fieldAddr t x i => rg_fieldAddr E g h t x i
  | .field t x i => rg_field E g h t x i
  | .indexAddr t x i => rg_indexAddr E g h t x i
  | .index t x i => rg_index E g h t x i
  | .lookup t m k ok => rg_lookup E g h t m k ok
  | .typeAssert x t a ok => rg_typeAssert E g h x t a ok
  | .extract x i => rg_extract E g h x i
  | .call { callee := .builtin b, args, argTypes } => rg_call E g h b args argTypes
  | _ => none


def ag_alloc (E : Env) (_g : Operand → Value) (e : TypeId) : Option (AObj × (Nat → Value)) := (match E.zero e with
    | some z => some (cellsObj z.cells e, ptrTo)
    | none => none)
def ag_box (_E : Env) (g : Operand → Value) (e : TypeId) (x : Operand) : Option (AObj × (Nat → Value)) := some (cellsObj (g x).cells e, ptrTo)
def ag_buildSlice (E : Env) (g : Operand → Value) (t : TypeId) (n : Nat) (ps : Array (Nat × Operand)) : Option (AObj × (Nat → Value)) := (match E.und t with
    | some (.slice e) => (match E.size e, E.zero e with
      | some (z + 1), some zv => cond (Nat.ble (n * (z + 1)) (2 ^ 24) && Nat.beq zv.cells.size (z + 1))
          (match Instr.fill (fun i => some (i * (z + 1), z + 1)) (repeatCells zv.cells.toList n).toArray (ps.toList.map fun (i, x) => (i, g x)) with
           | some cs => some (cellsObj cs e, fun i => .slice (some ⟨i, 0, none⟩) n n)
           | none => none) none
      | _, _ => none)
    | _ => none)
def ag_makeMap (E : Env) (g : Operand → Value) (t : TypeId) (r : Option Operand) : Option (AObj × (Nat → Value)) := (match r, E.und t with
    | none, _ => some (.map [] 0, fun i => .map (some i))
    | some r, some (.map _ _) => (match g r with
      | .int _ _ => some (.map [] 0, fun i => .map (some i))
      | _ => none)
    | _, _ => none)
def ag_makeSlice (E : Env) (g : Operand → Value) (t : TypeId) (l c : Operand) : Option (AObj × (Nat → Value)) := (match E.und t, natOf (g l), natOf (g c) with
    | some (.slice e), some l, some c => (match E.size e, E.zero e, E.bytes e with
      | some (z + 1), some zv, some by' => cond (Nat.ble l c && Nat.ble c (2 ^ 40) && Nat.ble (by' * c) (2 ^ 47) && Nat.beq zv.cells.size (z + 1))
          (some (cellsObj (repeatCells zv.cells.toList c).toArray e, fun i => .slice (some ⟨i, 0, none⟩) l c)) none
      | _, _, _ => none)
    | _, _, _ => none)

def allocG (E : Env) (g : Operand → Value) (o : Oper) : Option (AObj × (Nat → Value)) :=
  match o.op with
  | .alloc e => ag_alloc E g e
  | .box e x => ag_box E g e x
  | .buildSlice t n ps => ag_buildSlice E g t n ps
  | .makeMap t r => ag_makeMap E g t r
  | .makeSlice t l c => ag_makeSlice E g t l c
  | _ => none

theorem allocG_eq (E : Env) (tm : Tr Value) (o : Oper) : allocG E (ev tm) o = allocX E tm o := rfl


/-- What has been laid lately, newest first. -/
inductive As where
  | nil
  | cons (i : Nat) (v : Value) (r : As)

def As.get (a : As) (t : Nat) : Option Value := As.rec (motive := fun _ => Option Value) none (fun i v _ ih => cond (Nat.beq i t) (some v) ih) a
def As.on (a : As) (tm : Tr Value) : Tr Value := As.rec (motive := fun _ => Tr Value) tm (fun i v _ ih => ih.set (i + 1) i v) a
/-- A temporary: laid lately, or ahead of it. -/
def getQ (a : As) (tm : Tr Value) (t : Nat) : Option Value := match a.get t with
  | some v => some v
  | none => tm.get t
/-- What is found out once is kept in such: the kernel keeps what a closed term comes to, where it is taken apart. -/
structure Fn1 where
  f : As → Tr Value → Value
structure FnO where
  f : As → Tr Value → Hp → Option (Value × Hp)
structure FnW where
  f : As → Tr Value → Option Bool
structure FnC where
  f : As → Tr Value → List It → Option (List It)
/-- A temporary's value. -/
def valQ (a : As) (tm : Tr Value) (t : Nat) : Value :=
  As.rec (motive := fun _ => Value) (Option.rec (motive := fun _ => Value) undef (fun v => v) (tm.get t)) (fun i v _ ih => Bool.rec (motive := fun _ => Value) ih v (Nat.beq i t)) a
/-- An operand, with its sign looked at once. -/
def opdF (x : Operand) : Fn1 :=
  match x with
  | .tmp t => ⟨fun a tm => valQ a tm t⟩
  | .const v => ⟨fun _ _ => v⟩
  | .global g => ⟨fun _ _ => .pointer (some ⟨g, 0, none⟩)⟩
  | .func f => ⟨fun _ _ => .func (.func f) #[] #[]⟩
def opd (x : Operand) (a : As) (tm : Tr Value) : Value := Fn1.rec (motive := fun _ => Value) (fun f => f a tm) (opdF x)
def evQ (a : As) (tm : Tr Value) (x : Operand) : Value := opd x a tm
def putQ (nt : Nat) (a : As) (d : Option Nat) (v : Value) : As :=
  match d with
  | none => a
  | some d => cond (Nat.blt d nt) (.cons d v a) a

/-- An operation that neither calls nor leaves. -/
def opQ (E : Env) (g : Operand → Value) (o : Oper) (h : Hp) : Option (Value × Hp) :=
  match cls E o with
  | 0 => (match readG E g o h with
    | some v => some (v, h)
    | none => none)
  | 1 => (match allocG E g o with
    | some (b, f) => some (f h.n, h.alloc b)
    | none => none)
  | _ => none

def both (v : Option Value) (h : Hp) : Option (Value × Hp) := match v with
  | some v => some (v, h)
  | none => none

/-- The same, the operation's signs looked at once. `wr`: may it store? -/
def opF (E : Env) (wr : Bool) (o : Oper) : FnO :=
  match o.op with
  | .move x => ⟨fun a tm h => some (opd x a tm, h)⟩
  | .assign x => ⟨fun a tm h => some (opd x a tm, h)⟩
  | .load t x => ⟨fun a tm h => (match opd x a tm with
    | .pointer (some p) => both (loadQ E t p h) h
    | _ => none)⟩
  | .binOp op t x y _ => ⟨fun a tm h => both (binQ E h op t x y (opd x a tm) (opd y a tm)) h⟩
  | .fieldAddr t x i => ⟨fun a tm h => both (fieldAddrX E t (opd x a tm) i) h⟩
  | .indexAddr t x i => ⟨fun a tm h => both (indexAddrX E t (opd x a tm) (opd i a tm)) h⟩
  | .pick c x y => ⟨fun a tm h => (match opd c a tm with
    | .bool t => some (cond t (opd x a tm) (opd y a tm), h)
    | _ => none)⟩
  | .store t x y => cond wr ⟨fun a tm h => (match opd x a tm with
    | .pointer (some p) => (match storeQ E t p (opd y a tm) h with
      | some h' => some (undef, h')
      | none => none)
    | _ => none)⟩ ⟨fun _ _ _ => none⟩
  | _ => ⟨fun a tm h => opQ E (evQ a tm) o h⟩
def opC (E : Env) (wr : Bool) (o : Oper) (a : As) (tm : Tr Value) (h : Hp) : Option (Value × Hp) := FnO.rec (motive := fun _ => Option (Value × Hp)) (fun f => f a tm h) (opF E wr o)

def nthO (n : Nat) : List Oper → Option Oper :=
  Nat.rec (motive := fun _ => List Oper → Option Oper) (fun l => List.rec (motive := fun _ => Option Oper) none (fun o _ _ => some o) l) (fun _ ih l => List.rec (motive := fun _ => Option Oper) none (fun _ t _ => ih t) l) n

/-- Is an operation wanted? -/
def wantF (ops : Array Oper) (o : Oper) : FnW :=
  match o.guard with
  | none => ⟨fun _ _ => some true⟩
  | some (g, want) => (match nthO g ops.toList with
    | some og => (match og.dst with
      | some d => ⟨fun a tm => (match getQ a tm d with
        | some (.bool b) => some (b == want)
        | some (.tuple _) => some false
        | _ => none)⟩
      | none => ⟨fun _ _ => none⟩)
    | none => ⟨fun _ _ => none⟩)
def wantC (ops : Array Oper) (o : Oper) (a : As) (tm : Tr Value) : Option Bool := FnW.rec (motive := fun _ => Option Bool) (fun f => f a tm) (wantF ops o)

/-- An operation as it is done. -/
structure Ci where
  want : As → Tr Value → Option Bool
  run : As → Tr Value → Hp → Option (Value × Hp)
  dst : Option Nat
def ci (E : Env) (wr : Bool) (ops : Array Oper) (i : Nat) : Ci :=
  match nthO i ops.toList with
  | none => ⟨fun _ _ => none, fun _ _ _ => none, none⟩
  | some o => ⟨wantC ops o, opC E wr o, o.dst⟩

/-- How far a region has come. -/
structure Rq where
  rest : List Nat
  a : As
  h : Hp

def regQ (E : Env) (wr : Bool) (ops : Array Oper) (nt : Nat) (tm : Tr Value) (l : List Nat) : As → Hp → Rq :=
  List.rec (motive := fun _ => As → Hp → Rq) (fun a h => ⟨[], a, h⟩) (fun i rest ih a h =>
    match ci E wr ops i with
    | ⟨w, r, d⟩ => (match w a tm with
      | none => ⟨i :: rest, a, h⟩
      | some false => ih (putQ nt a d undef) h
      | some true => (match r a tm h with
        | some (v, h') => ih (putQ nt a d v) h'
        | none => ⟨i :: rest, a, h⟩))) l

/-- A frame, so far. -/
structure Fq where
  todo : List It
  a : As
  h : Hp

/-- What an item of code leads to; none: X is to see to it. -/
def codeF (E : Env) (c : Code) : FnC :=
  match c with
  | .skip => ⟨fun _ _ k => some k⟩
  | .label _ => ⟨fun _ _ k => some k⟩
  | .seq a b => ⟨fun _ _ k => some (.code a :: .code b :: k)⟩
  | .cond c x y => ⟨fun a tm k => (match opd c a tm with
    | .bool t => some (.code (cond t x y) :: k)
    | _ => none)⟩
  | .block id b => ⟨fun _ _ k => some (.code b :: .inBlock id :: k)⟩
  | .loop b => ⟨fun _ _ k => some (.code b :: .inLoop b :: k)⟩
  | .exit id => ⟨fun _ _ k => exitToX id k⟩
  | .region _ ops draw => cond (constsOk ops) (cond draw
      (cond (regionF E ops) ⟨fun _ _ k => some (.draw ops (canonF E ops) :: k)⟩ ⟨fun _ _ _ => none⟩)
      ⟨fun _ _ k => some (.inRegion ops (List.range ops.size) :: k)⟩) ⟨fun _ _ _ => none⟩
  | _ => ⟨fun _ _ _ => none⟩
def codeQ (E : Env) (c : Code) (a : As) (tm : Tr Value) (k : List It) : Option (List It) := FnC.rec (motive := fun _ => Option (List It)) (fun f => f a tm k) (codeF E c)

def frameQ (E : Env) (nt : Nat) (tm : Tr Value) (n : Nat) : List It → As → Hp → Fq :=
  Nat.rec (motive := fun _ => List It → As → Hp → Fq) (fun l a h => ⟨l, a, h⟩) (fun _ ih l a h =>
    match l with
    | [] => ⟨[], a, h⟩
    | i :: k => (match i with
      | .code c => (match codeQ E c a tm k with
        | some k' => ih k' a h
        | none => ⟨.code c :: k, a, h⟩)
      | .inBlock _ => ih k a h
      | .inLoop b => ih (.code b :: .inLoop b :: k) a h
      | .inRegion ops l => (match regQ E true ops nt tm l a h with
        | ⟨[], a, h⟩ => ih k a h
        | ⟨i :: rest, a, h⟩ => ⟨.inRegion ops (i :: rest) :: k, a, h⟩)
      | .draw ops l => (match regQ E false ops nt tm l a h with
        | ⟨[], a, h⟩ => ih k a h
        | ⟨i :: rest, a, h⟩ => ⟨.draw ops (i :: rest) :: k, a, h⟩)
      | i => ⟨i :: k, a, h⟩)) n

def resultsQ (E : Env) (a : As) (tm : Tr Value) (h : Hp) : List ResultVar → Option (List Value)
  | [] => some []
  | .tmp t :: l => (match resultsQ E a tm h l with
    | some r => some (opd (.tmp t) a tm :: r)
    | none => none)
  | .cell x t :: l => (match opd (.tmp x) a tm with
    | .pointer (some p) => (match loadX E t p h, resultsQ E a tm h l with
      | some v, some r => some (v :: r)
      | _, _ => none)
    | _ => none)

/-- A frame that returns, and has nothing deferred, and is no round of a loop: its results are read, its caller goes on. -/
def retQ (E : Env) (fn : FuncId) (a : As) (tm : Tr Value) (df : List Deferred) (kd : CallKind) (ro : Option Nat) (cs : List Fr) (h : Hp) (other : Option St) : Option St :=
  match ro with
  | some _ => other
  | none => (match df with
    | _ :: _ => other
    | [] => (match cs with
      | [] => other
      | c :: r => (match E.fn fn with
        | some f => (match resultsQ E a tm h f.results.toList with
          | some vs => returnX E kd (c :: r) h (oneOf vs)
          | none => none)
        | none => none)))

/-- Steps at once, then one of X's, or two. -/
def stepQ (E : Env) (s : St) : Option St :=
  match s with
  | ⟨⟨fn, nt, tm, todo, df, md, kd, ro⟩, cs, h⟩ => (match md with
    | .run => (match frameQ E nt tm 60 todo .nil h with
      | ⟨todo', a, h'⟩ => (match todo' with
        | [] => retQ E fn a tm df kd ro cs h' (execX E fn nt (a.on tm) [] df kd ro cs h')
        | i :: k => (match i with
          | .code c => (match c with
            | .ret => retQ E fn a tm df kd ro cs h' (execX E fn nt (a.on tm) (.code .ret :: k) df kd ro cs h')
            | c => execX E fn nt (a.on tm) (.code c :: k) df kd ro cs h')
          | i => execX E fn nt (a.on tm) (i :: k) df kd ro cs h')))
    | md => unwindX E fn nt tm todo df md kd ro cs h)

def runQ (E : Env) (n : Nat) : St → St :=
  Nat.rec (motive := fun _ => St → St) (fun s => s) (fun _ ih s => (match stepQ E s with
    | some s' => ih s'
    | none => s)) n

def nthG {α : Type} (n : Nat) : List α → Option α :=
  Nat.rec (motive := fun _ => List α → Option α) (fun l => List.rec (motive := fun _ => Option α) none (fun o _ _ => some o) l) (fun _ ih l => List.rec (motive := fun _ => Option α) none (fun _ t _ => ih t) l) n
theorem nthG_eq {α : Type} : ∀ (n : Nat) (l : List α), nthG n l = l[n]?
  | 0, [] => rfl
  | 0, _ :: _ => rfl
  | _ + 1, [] => rfl
  | n + 1, _ :: l => nthG_eq n l

/-- A program's environment, its types and functions looked up fast. -/
def envQ (P : Program) : Env :=
  { envOf P with
    ty := fun t => nthG t P.types.toList, fn := fun f => nthG f P.funcs.toList
    hty := fun t i h => tyOk P t i (by rw [nthG_eq] at h; simpa using h)
    hfn := fun f i h => by show P.funcs[f]? = some i; rw [nthG_eq] at h; simpa using h }

def truthQ (E : Env) (f : FuncId) (n : Nat) (h : Hp) : Bool :=
  match startX E f [] h with
  | some s => (match endX E f (runQ E n s) with
    | some (.bool b) => b
    | _ => false)
  | none => false

end

end Go.X

namespace Go.X

theorem dropQ_eq : ∀ (n : Nat) (l : List Value), dropQ n l = l.drop n
  | 0, _ => rfl
  | _ + 1, [] => rfl
  | n + 1, _ :: l => dropQ_eq n l
theorem takeQ_eq : ∀ (n : Nat) (l : List Value), takeQ n l = l.take n
  | 0, _ => rfl
  | _ + 1, [] => rfl
  | n + 1, v :: l => by show v :: takeQ n l = _; rw [takeQ_eq n l]; rfl
theorem longQ_eq : ∀ (n : Nat) (l : List Value), longQ n l = Nat.ble n l.length
  | 0, _ => (Nat.ble_eq_true_of_le (Nat.zero_le _)).symm
  | _ + 1, [] => rfl
  | n + 1, _ :: l => by show longQ n l = _; rw [longQ_eq n l]; rfl
theorem allQ_eq (p : Value → Bool) : ∀ l : List Value, allQ p l = l.all p
  | [] => rfl
  | v :: l => by
    show cond (p v) (allQ p l) false = _
    rw [allQ_eq p l]; cases h : p v <;> simp [h]
theorem overQ_eq : ∀ (xs l : List Value), xs.length ≤ l.length → overQ xs l = xs ++ l.drop xs.length
  | [], _, _ => rfl
  | x :: xs, [], h => by simp at h
  | x :: xs, _ :: l, h => by
    show x :: overQ xs l = _
    rw [overQ_eq xs l (by simpa using h)]; rfl
theorem patchQ_eq : ∀ (n : Nat) (xs l : List Value), n + xs.length ≤ l.length → patchQ n xs l = l.take n ++ xs ++ l.drop (n + xs.length)
  | 0, xs, l, h => by
    show overQ xs l = _
    rw [overQ_eq xs l (by omega)]; simp
  | n + 1, xs, [], h => by simp at h
  | n + 1, xs, v :: l, h => by
    show v :: patchQ n xs l = _
    rw [patchQ_eq n xs l (by simp at h; omega), show n + 1 + xs.length = (n + xs.length) + 1 by omega]; rfl
theorem nthO_eq : ∀ (n : Nat) (l : List Oper), nthO n l = l[n]?
  | 0, [] => rfl
  | 0, _ :: _ => rfl
  | _ + 1, [] => rfl
  | n + 1, _ :: l => nthO_eq n l

theorem rowQ_eq (h : Hp) (a : Addr) (n : Nat) : rowQ h a n = rowOf h a n := by
  obtain ⟨b, off, sp⟩ := a
  cases sp with
  | some s => rfl
  | none =>
    simp only [rowQ, rowOf]
    cases h.get b with
    | none => rfl
    | some o => cases o <;> first | rfl | (simp only [longQ_eq, takeQ_eq, dropQ_eq]; rfl)
theorem cellQ_eq (h : Hp) (a : Addr) : cellQ h a = (match rowOf h a 1 with | some [v] => some v | _ => none) := by
  obtain ⟨b, off, sp⟩ := a
  cases sp with
  | some s => rfl
  | none =>
    simp only [cellQ, rowOf]
    cases h.get b with
    | none => rfl
    | some o =>
      cases o with
      | cells c e m =>
        simp only [dropQ_eq]
        cases hd : c.drop off with
        | nil =>
          have : c.length ≤ off := List.drop_eq_nil_iff.1 hd
          have hb : Nat.ble (off + 1) c.length = false := by
            cases hx : Nat.ble (off + 1) c.length with
            | false => rfl
            | true => have := Nat.le_of_ble_eq_true hx; omega
          rw [hb]; rfl
        | cons v t =>
          have hl : off < c.length := by
            rcases Nat.lt_or_ge off c.length with q | q
            · exact q
            · rw [List.drop_eq_nil_iff.2 q] at hd; cases hd
          rw [show Nat.ble (off + 1) c.length = true from Nat.ble_eq_true_of_le hl]
          rfl
      | _ => rfl
theorem loadQ_eq (E : Env) (t : TypeId) (a : Addr) (h : Hp) : loadQ E t a h = loadX E t a h := by
  unfold loadQ loadX
  cases E.und t with
  | none => rfl
  | some d =>
    simp only
    cases aggDesc d with
    | true => simp only [rowQ_eq]; rfl
    | false => simp only [cellQ_eq]; rfl
theorem storeRowQ_eq (h : Hp) (a : Addr) (l : List Value) : storeRowQ h a l = storeRow h a l := by
  obtain ⟨b, off, sp⟩ := a
  cases sp with
  | some s => rfl
  | none =>
    simp only [storeRowQ, storeRow]
    cases h.get b with
    | none => rfl
    | some o =>
      cases o with
      | cells c e m =>
        simp only [longQ_eq]
        show cond (Nat.beq m 1) none (cond (Nat.ble (off + l.length) c.length) _ none) = _
        cases Nat.beq m 1 with
        | true => rfl
        | false =>
          cases hb : Nat.ble (off + l.length) c.length with
          | false => rfl
          | true => simp only [cond_false, cond_true, Bool.not_false, Bool.and_self]; rw [patchQ_eq _ _ _ (Nat.le_of_ble_eq_true hb)]
      | _ => rfl
theorem storeQ_eq (E : Env) (t : TypeId) (a : Addr) (v : Value) (h : Hp) : storeQ E t a v h = storeX E t a v h := by
  unfold storeQ storeX
  cases E.size t with
  | none => rfl
  | some n =>
    simp only
    cases v with
    | agg cs =>
      simp only [Value.cells, allQ_eq, storeRowQ_eq]
      show cond (Nat.beq cs.toList.length n) _ none = cond (Nat.beq cs.size n && _) _ none
      rw [show cs.toList.length = cs.size by simp]
      cases Nat.beq cs.size n <;> simp
    | _ =>
      simp only [Value.cells, storeRowQ_eq]
      show cond (Nat.beq n 1) _ none = cond (Nat.beq 1 n && _) _ none
      rw [show Nat.beq n 1 = Nat.beq 1 n by rw [Bool.eq_iff_iff, Nat.beq_eq, Nat.beq_eq]; exact eq_comm]
      cases Nat.beq 1 n <;> simp [cellV]

theorem posQ_eq (n : Nat) (h : n < 9223372036854775808) : posQ n = someI .i64 (wrapX .i64 (.ofNat n)) := by
  have hb : Nat.blt n 9223372036854775808 = true := Nat.ble_eq_true_of_le h
  simp only [posQ, someI, forceN_eq, forceI_eq, wrapX, hb, cond_true]
theorem natBin_eq (op : BinOp) (m n : Nat) : natBin op m n = intBin op .i64 (.ofNat m) (.ofNat n) := by
  have blt : ∀ a b : Nat, Nat.blt a b = decide (a < b) := fun a b => by
    rw [Bool.eq_iff_iff]; simp [Nat.blt, Nat.ble_eq]; omega
  cases op <;> simp only [natBin, intBin]
  case add =>
    cases hb : Nat.blt (Nat.add m n) 9223372036854775808 with
    | false => rfl
    | true => rw [cond_true, posQ_eq _ (Nat.le_of_ble_eq_true hb)]; rfl
  case mul =>
    cases hb : Nat.blt (Nat.mul m n) 9223372036854775808 with
    | false => rfl
    | true => rw [cond_true, posQ_eq _ (Nat.le_of_ble_eq_true hb)]; rfl
  case sub =>
    cases h1 : Nat.ble n m with
    | false => rfl
    | true =>
      cases h2 : Nat.blt m 9223372036854775808 with
      | false => rfl
      | true =>
        have e1 := Nat.le_of_ble_eq_true h1
        have e2 : m < 9223372036854775808 := Nat.le_of_ble_eq_true h2
        rw [cond_true, cond_true, posQ_eq _ (by show m - n < _; omega)]
        have : (Int.ofNat m - Int.ofNat n) = Int.ofNat (Nat.sub m n) := by
          show ((m : Int) - (n : Int)) = ((m - n : Nat) : Int); omega
        rw [this]
  case eql => congr 2; rw [Bool.eq_iff_iff, Nat.beq_eq, beq_iff_eq]; exact Int.ofNat_inj.symm
  case neq =>
    have : Nat.beq m n = (Int.ofNat m == Int.ofNat n) := by rw [Bool.eq_iff_iff, Nat.beq_eq, beq_iff_eq]; exact Int.ofNat_inj.symm
    rw [this]; rfl
  case lss => congr 2; rw [blt, decide_eq_decide]; exact Int.ofNat_lt.symm
  case leq => congr 2; rw [Bool.eq_iff_iff, Nat.ble_eq, decide_eq_true_iff]; exact Int.ofNat_le.symm
  case gtr => congr 2; rw [blt, decide_eq_decide]; exact Int.ofNat_lt.symm
  case geq => congr 2; rw [Bool.eq_iff_iff, Nat.ble_eq, decide_eq_true_iff]; exact Int.ofNat_le.symm
theorem binQ_eq (E : Env) (h : Hp) (op : BinOp) (t : TypeId) (xo yo : Operand) (x y : Value) : binQ E h op t xo yo x y = binX E h op t xo yo x y := by
  unfold binQ
  split
  · split
    · rename_i m n
      rw [natBin_eq]
      cases hs : isShift op with
      | true => rfl
      | false => simp only [cond_false, binX, hs, kindEq, cond_true]
    · rfl
  · rfl

theorem readG_eq (E : Env) (tm : Tr Value) (o : Oper) (h : Hp) : readG E (ev tm) o h = readX E tm o h := by
  obtain ⟨dst, op, ty, pos, af, gd⟩ := o
  cases op with
  | load t a =>
    show rg_load E (ev tm) h t a = (match ev tm a with | .pointer (some a) => loadX E t a h | _ => none)
    unfold rg_load
    simp only [loadQ_eq]
    all_goals rfl
  | binOp op t x y ty => exact binQ_eq _ _ _ _ _ _ _ _
  | call c =>
    obtain ⟨callee, args, ts⟩ := c
    cases callee <;> rfl
  | _ => rfl

/-! Temporaries -/
theorem get_on (tm : Tr Value) : ∀ (a : As) (t : Nat), (a.on tm).get t = getQ a tm t
  | .nil, _ => rfl
  | .cons i v r, t => by
    show ((r.on tm).set (i + 1) i v).get t = _
    rw [get_set _ _ _ _ _ (Nat.lt_succ_self i), get_on tm r t]
    show _ = (match cond (Nat.beq i t) (some v) (r.get t) with | some v => some v | none => tm.get t)
    by_cases e : i = t
    · subst e; rw [if_pos rfl, Nat.beq_refl]; rfl
    · rw [if_neg e]
      have : Nat.beq i t = false := by
        cases hb : Nat.beq i t with
        | false => rfl
        | true => exact absurd (Nat.eq_of_beq_eq_true hb) e
      rw [this]; rfl
theorem valQ_eq (tm : Tr Value) (t : Nat) : ∀ a : As, valQ a tm t = (match getQ a tm t with | some v => v | none => undef)
  | .nil => by
    show (Option.rec (motive := fun _ => Value) undef (fun v => v) (tm.get t) : Value) = (match tm.get t with | some v => v | none => undef)
    cases tm.get t <;> rfl
  | .cons i v r => by
    have e1 : valQ (.cons i v r) tm t = (Bool.rec (motive := fun _ => Value) (valQ r tm t) v (Nat.beq i t) : Value) := rfl
    have e2 : getQ (.cons i v r) tm t = (match cond (Nat.beq i t) (some v) (r.get t) with | some v => some v | none => tm.get t) := rfl
    rw [e1, e2, valQ_eq tm t r]
    cases Nat.beq i t <;> rfl
theorem opd_eq (x : Operand) (a : As) (tm : Tr Value) : opd x a tm = ev (a.on tm) x := by
  cases x with
  | tmp t =>
    show valQ a tm t = _
    rw [valQ_eq]
    simp only [ev, get_on]; rfl
  | _ => rfl
theorem evQ_eq (a : As) (tm : Tr Value) : evQ a tm = ev (a.on tm) := funext fun x => opd_eq x a tm
theorem putQ_on (nt : Nat) (a : As) (tm : Tr Value) (d : Option Nat) (v : Value) : (putQ nt a d v).on tm = putT nt (a.on tm) d v := by
  cases d with
  | none => rfl
  | some d =>
    simp only [putQ, putT, setT]
    cases Nat.blt d nt <;> rfl

theorem want_eq (ops : Array Oper) (o : Oper) (a : As) (tm : Tr Value) : wantC ops o a tm = wantedX ops (a.on tm) o := by
  unfold wantC wantF wantedX
  cases o.guard with
  | none => rfl
  | some gw =>
    obtain ⟨g, want⟩ := gw
    simp only [nthO_eq, show ops.toList[g]? = ops[g]? by simp]
    cases ops[g]? with
    | none => rfl
    | some og =>
      simp only
      cases og.dst with
      | none => rfl
      | some d => simp only [get_on]; rfl

/-- What is done of an operation: X does it. -/
theorem opC_oper (E : Env) {wr : Bool} {o : Oper} {a : As} {tm : Tr Value} {h h' : Hp} {v : Value} (e : opC E wr o a tm h = some (v, h')) :
    (cls E o = 0 ∧ readX E (a.on tm) o h = some v ∧ h' = h) ∨ (cls E o = 1 ∧ ∃ b f, allocX E (a.on tm) o = some (b, f) ∧ v = f h.n ∧ h' = h.alloc b) ∨
      (wr = true ∧ cls E o = 2 ∧ writeX E (a.on tm) o h = some (.skip h') ∧ v = undef) := by
  have gen : opQ E (evQ a tm) o h = some (v, h') → (cls E o = 0 ∧ readX E (a.on tm) o h = some v ∧ h' = h) ∨ (cls E o = 1 ∧ ∃ b f, allocX E (a.on tm) o = some (b, f) ∧ v = f h.n ∧ h' = h.alloc b) := by
    intro e
    rw [evQ_eq] at e
    unfold opQ at e
    split at e
    · rename_i hc
      rw [readG_eq] at e
      split at e
      · rename_i hv
        cases e
        exact .inl ⟨hc, hv, rfl⟩
      · cases e
    · rename_i hc
      rw [allocG_eq] at e
      split at e
      · rename_i hv
        cases e
        exact .inr ⟨hc, _, _, hv, rfl, rfl⟩
      · cases e
    · cases e
  have rd : ∀ {u : Option Value}, cls E o = 0 → readX E (a.on tm) o h = u → both u h = some (v, h') → (cls E o = 0 ∧ readX E (a.on tm) o h = some v ∧ h' = h) := by
    intro u hc hu e
    cases u with
    | none => cases e
    | some u => cases e; exact ⟨hc, hu, rfl⟩
  obtain ⟨dst, op, ty, pos, af, gd⟩ := o
  cases op with
  | move x =>
    have e : some (opd x a tm, h) = some (v, h') := e
    rw [opd_eq] at e
    cases e
    exact .inl ⟨rfl, rfl, rfl⟩
  | assign x =>
    have e : some (opd x a tm, h) = some (v, h') := e
    rw [opd_eq] at e
    cases e
    exact .inl ⟨rfl, rfl, rfl⟩
  | load t x =>
    have e : (match opd x a tm with | .pointer (some p) => both (loadQ E t p h) h | _ => none) = some (v, h') := e
    rw [opd_eq] at e
    refine .inl ?_
    split at e
    · rename_i p hp
      rw [loadQ_eq] at e
      exact rd rfl (by simp only [readX, hp]) e
    · cases e
  | binOp op t x y _ =>
    have e : both (binQ E h op t x y (opd x a tm) (opd y a tm)) h = some (v, h') := e
    rw [opd_eq, opd_eq, binQ_eq] at e
    exact .inl (rd rfl rfl e)
  | fieldAddr t x i =>
    have e : both (fieldAddrX E t (opd x a tm) i) h = some (v, h') := e
    rw [opd_eq] at e
    exact .inl (rd rfl rfl e)
  | indexAddr t x i =>
    have e : both (indexAddrX E t (opd x a tm) (opd i a tm)) h = some (v, h') := e
    rw [opd_eq, opd_eq] at e
    exact .inl (rd rfl rfl e)
  | pick c x y =>
    have e : (match opd c a tm with | .bool t => some (cond t (opd x a tm) (opd y a tm), h) | _ => none) = some (v, h') := e
    rw [opd_eq, opd_eq, opd_eq] at e
    refine .inl ?_
    split at e
    · rename_i t hc
      cases e
      exact ⟨rfl, by simp only [readX, hc], rfl⟩
    · cases e
  | store t x y =>
    cases wr with
    | false => cases (show (none : Option (Value × Hp)) = some (v, h') from e)
    | true =>
      have e : (match opd x a tm with
        | .pointer (some p) => (match storeQ E t p (opd y a tm) h with
          | some h' => some (undef, h')
          | none => none)
        | _ => none) = some (v, h') := e
      rw [opd_eq, opd_eq] at e
      split at e
      · rename_i p hp
        rw [storeQ_eq] at e
        split at e
        · rename_i h2 hs
          cases e
          exact .inr (.inr ⟨rfl, rfl, by simp only [writeX, hp, hs], rfl⟩)
        · cases e
      · cases e
  | _ => exact (gen e).elim .inl fun q => .inr (.inl q)

section
variable {E : Env} {fn : FuncId} {nt : Nat} {tm : Tr Value} {df : List Deferred} {kd : CallKind} {ro : Option Nat} {cs : List Fr} {k : List It} {ops : Array Oper}

theorem ci_some {wr : Bool} {i : Nat} {o : Oper} (ho : ops[i]? = some o) : ci E wr ops i = ⟨wantC ops o, opC E wr o, o.dst⟩ := by
  unfold ci
  rw [nthO_eq, show ops.toList[i]? = ops[i]? by simp, ho]
theorem ci_none {wr : Bool} {i : Nat} (ho : ops[i]? = none) : ci E wr ops i = ⟨fun _ _ => none, fun _ _ _ => none, none⟩ := by
  unfold ci
  rw [nthO_eq, show ops.toList[i]? = ops[i]? by simp, ho]

theorem regQ_cons {wr : Bool} {i : Nat} {l : List Nat} {a : As} {h : Hp} : regQ E wr ops nt tm (i :: l) a h = (match ci E wr ops i with
    | ⟨w, r, d⟩ => (match w a tm with
      | none => ⟨i :: l, a, h⟩
      | some false => regQ E wr ops nt tm l (putQ nt a d undef) h
      | some true => (match r a tm h with
        | some (v, h') => regQ E wr ops nt tm l (putQ nt a d v) h'
        | none => ⟨i :: l, a, h⟩))) := rfl

theorem reg_runs : ∀ (l : List Nat) (a : As) (h : Hp), Runs E ⟨⟨fn, nt, a.on tm, .inRegion ops l :: k, df, .run, kd, ro⟩, cs, h⟩
    ⟨⟨fn, nt, (regQ E true ops nt tm l a h).a.on tm, .inRegion ops (regQ E true ops nt tm l a h).rest :: k, df, .run, kd, ro⟩, cs, (regQ E true ops nt tm l a h).h⟩
  | [], a, h => .refl _ _
  | i :: l, a, h => by
    rw [regQ_cons]
    cases ho : ops[i]? with
    | none => rw [ci_none ho]; exact .refl _ _
    | some o =>
      rw [ci_some ho]
      simp only [want_eq]
      cases hw : wantedX ops (a.on tm) o with
      | none => exact .refl _ _
      | some b =>
        cases b with
        | false =>
          refine Runs.step ?_ (reg_runs l (putQ nt a o.dst undef) h)
          simp only [stepX, execX, ho, hw, putQ_on]
        | true =>
          simp only
          cases he : opC E true o a tm h with
          | none => exact .refl _ _
          | some r =>
            obtain ⟨v, h'⟩ := r
            refine Runs.step ?_ (reg_runs l (putQ nt a o.dst v) h')
            rw [putQ_on]
            rcases opC_oper E he with ⟨hc, hv, rfl⟩ | ⟨hc, b, f, hv, rfl, rfl⟩ | ⟨_, hc, hv, rfl⟩
            · simp only [stepX, execX, ho, hw, operX, hc, hv, nextX, finishX]
            · simp only [stepX, execX, ho, hw, operX, hc, hv, nextX, finishX]
            · simp only [stepX, execX, ho, hw, operX, hc, hv, nextX, finishX]

theorem draw_runs : ∀ (l : List Nat) (a : As) (h : Hp), Runs E ⟨⟨fn, nt, a.on tm, .draw ops l :: k, df, .run, kd, ro⟩, cs, h⟩
    ⟨⟨fn, nt, (regQ E false ops nt tm l a h).a.on tm, .draw ops (regQ E false ops nt tm l a h).rest :: k, df, .run, kd, ro⟩, cs, (regQ E false ops nt tm l a h).h⟩
  | [], a, h => .refl _ _
  | i :: l, a, h => by
    rw [regQ_cons]
    cases ho : ops[i]? with
    | none => rw [ci_none ho]; exact .refl _ _
    | some o =>
      rw [ci_some ho]
      simp only [want_eq]
      cases hw : wantedX ops (a.on tm) o with
      | none => exact .refl _ _
      | some b =>
        cases b with
        | false =>
          refine Runs.step ?_ (draw_runs l (putQ nt a o.dst undef) h)
          simp only [stepX, execX, drawX, ho, hw, putQ_on]
        | true =>
          simp only
          cases he : opC E false o a tm h with
          | none => exact .refl _ _
          | some r =>
            obtain ⟨v, h'⟩ := r
            refine Runs.step ?_ (draw_runs l (putQ nt a o.dst v) h')
            rw [putQ_on]
            rcases opC_oper E he with ⟨hc, hv, rfl⟩ | ⟨hc, b, f, hv, rfl, rfl⟩ | ⟨hf, _⟩
            · simp only [stepX, execX, drawX, ho, hw, hc, hv]
            · simp only [stepX, execX, drawX, ho, hw, hc, hv]
            · cases hf

theorem code_step {c : Code} {a : As} {h : Hp} {k' : List It} (e : codeQ E c a tm k = some k') :
    stepX E ⟨⟨fn, nt, a.on tm, .code c :: k, df, .run, kd, ro⟩, cs, h⟩ = some ⟨⟨fn, nt, a.on tm, k', df, .run, kd, ro⟩, cs, h⟩ := by
  cases c with
  | skip => cases (show some k = some k' from e); rfl
  | label _ => cases (show some k = some k' from e); rfl
  | seq x y => cases (show some (.code x :: .code y :: k) = some k' from e); rfl
  | cond c x y =>
    have e : (match opd c a tm with | .bool t => some (.code (cond t x y) :: k) | _ => none) = some k' := e
    rw [opd_eq] at e
    split at e
    · rename_i hc
      cases e
      simp only [stepX, execX, hc]
    · cases e
  | block id b => cases (show some (.code b :: .inBlock id :: k) = some k' from e); rfl
  | loop b => cases (show some (.code b :: .inLoop b :: k) = some k' from e); rfl
  | exit id =>
    have e : exitToX id k = some k' := e
    simp only [stepX, execX, e]
  | region id ops dr =>
    simp only [codeQ, codeF] at e
    cases h1 : constsOk ops with
    | false => rw [h1] at e; cases (show (none : Option (List It)) = some k' from e)
    | true =>
      rw [h1, cond_true] at e
      cases dr with
      | false => cases (show some (.inRegion ops (List.range ops.size) :: k) = some k' from e); simp only [stepX, execX, h1, cond_true, cond_false]
      | true =>
        rw [cond_true] at e
        cases h2 : regionF E ops with
        | false => rw [h2] at e; cases (show (none : Option (List It)) = some k' from e)
        | true =>
          rw [h2, cond_true, canonF_eq] at e
          cases (show some (.draw ops (canon E ops) :: k) = some k' from e)
          simp only [stepX, execX, h1, regionF_ok h2, cond_true]
  | _ => cases (show (none : Option (List It)) = some k' from e)

theorem frame_runs : ∀ (n : Nat) (l : List It) (a : As) (h : Hp), Runs E ⟨⟨fn, nt, a.on tm, l, df, .run, kd, ro⟩, cs, h⟩
    ⟨⟨fn, nt, (frameQ E nt tm n l a h).a.on tm, (frameQ E nt tm n l a h).todo, df, .run, kd, ro⟩, cs, (frameQ E nt tm n l a h).h⟩
  | 0, _, _, _ => .refl _ _
  | n + 1, [], _, _ => .refl _ _
  | n + 1, i :: k, a, h => by
    cases i with
    | code c =>
      cases e : codeQ E c a tm k with
      | none =>
        have : frameQ E nt tm (n + 1) (.code c :: k) a h = ⟨.code c :: k, a, h⟩ := by
          show (match codeQ E c a tm k with | some k' => frameQ E nt tm n k' a h | none => ⟨.code c :: k, a, h⟩ : Fq) = _
          rw [e]
        rw [this]; exact .refl _ _
      | some k' =>
        have : frameQ E nt tm (n + 1) (.code c :: k) a h = frameQ E nt tm n k' a h := by
          show (match codeQ E c a tm k with | some k' => frameQ E nt tm n k' a h | none => ⟨.code c :: k, a, h⟩ : Fq) = _
          rw [e]
        rw [this]
        exact Runs.step (code_step e) (frame_runs n k' a h)
    | inBlock _ => exact Runs.step rfl (frame_runs n k a h)
    | inLoop b => exact Runs.step rfl (frame_runs n (.code b :: .inLoop b :: k) a h)
    | inRegion ops l =>
      have hr := reg_runs (E := E) (fn := fn) (nt := nt) (tm := tm) (df := df) (kd := kd) (ro := ro) (cs := cs) (k := k) (ops := ops) l a h
      have hq : frameQ E nt tm (n + 1) (.inRegion ops l :: k) a h = (match regQ E true ops nt tm l a h with
        | ⟨[], a, h⟩ => frameQ E nt tm n k a h
        | ⟨i :: rest, a, h⟩ => ⟨.inRegion ops (i :: rest) :: k, a, h⟩) := rfl
      rw [hq]
      generalize regQ E true ops nt tm l a h = r at hr
      obtain ⟨rest, a', h'⟩ := r
      cases rest with
      | nil => exact hr.trans (Runs.step rfl (frame_runs n k a' h'))
      | cons i rest => exact hr
    | draw ops l =>
      have hr := draw_runs (E := E) (fn := fn) (nt := nt) (tm := tm) (df := df) (kd := kd) (ro := ro) (cs := cs) (k := k) (ops := ops) l a h
      have hq : frameQ E nt tm (n + 1) (.draw ops l :: k) a h = (match regQ E false ops nt tm l a h with
        | ⟨[], a, h⟩ => frameQ E nt tm n k a h
        | ⟨i :: rest, a, h⟩ => ⟨.draw ops (i :: rest) :: k, a, h⟩) := rfl
      rw [hq]
      generalize regQ E false ops nt tm l a h = r at hr
      obtain ⟨rest, a', h'⟩ := r
      cases rest with
      | nil => exact hr.trans (Runs.step rfl (frame_runs n k a' h'))
      | cons i rest => exact hr
    | _ => exact .refl _ _
end

theorem resultsQ_eq (E : Env) (a : As) (tm : Tr Value) (h : Hp) : ∀ l, resultsQ E a tm h l = resultsX E (a.on tm) h l
  | [] => rfl
  | .tmp t :: l => by
    simp only [resultsQ, resultsX, resultsQ_eq E a tm h l, opd_eq]
    rfl
  | .cell x t :: l => by
    simp only [resultsQ, resultsX, resultsQ_eq E a tm h l, opd_eq]
    rfl

theorem ret_runs {E : Env} {fn : FuncId} {nt : Nat} {a : As} {tm : Tr Value} {df : List Deferred} {kd : CallKind} {ro : Option Nat} {cs : List Fr} {h : Hp} {todo : List It} {s' : St}
    (hx : ∀ o, ro = o → execX E fn nt (a.on tm) todo df kd ro cs h = leaveX E ⟨fn, nt, a.on tm, todo, df, .run, kd, ro⟩ cs h none ∨ execX E fn nt (a.on tm) todo df kd ro cs h = leaveX E ⟨fn, nt, a.on tm, todo, df, .run, kd, ro⟩ cs h (some .ret))
    (e : retQ E fn a tm df kd ro cs h (execX E fn nt (a.on tm) todo df kd ro cs h) = some s') : Runs E ⟨⟨fn, nt, a.on tm, todo, df, .run, kd, ro⟩, cs, h⟩ s' := by
  have other : execX E fn nt (a.on tm) todo df kd ro cs h = some s' → Runs E ⟨⟨fn, nt, a.on tm, todo, df, .run, kd, ro⟩, cs, h⟩ s' := fun e => Runs.step e (.refl _ _)
  unfold retQ at e
  cases ro with
  | some o => exact other e
  | none =>
    cases df with
    | cons d ds => exact other e
    | nil =>
      cases cs with
      | nil => exact other e
      | cons c r =>
        have h1 : execX E fn nt (a.on tm) todo [] kd none (c :: r) h = some ⟨⟨fn, nt, a.on tm, todo, [], .returning, kd, none⟩, c :: r, h⟩ := by
          rcases hx _ rfl with q | q <;> rw [q] <;> rfl
        refine Runs.step h1 (Runs.step ?_ (.refl _ _))
        simp only [resultsQ_eq] at e
        exact e

theorem step_runs {E : Env} {s s' : St} (e : stepQ E s = some s') : Runs E s s' := by
  obtain ⟨⟨fn, nt, tm, todo, df, md, kd, ro⟩, cs, h⟩ := s
  cases md with
  | run =>
    have hr := frame_runs (E := E) (fn := fn) (nt := nt) (tm := tm) (df := df) (kd := kd) (ro := ro) (cs := cs) 60 todo .nil h
    simp only [stepQ] at e
    generalize frameQ E nt tm 60 todo .nil h = r at hr e
    obtain ⟨todo', a, h'⟩ := r
    refine hr.trans ?_
    simp only at e
    cases todo' with
    | nil => exact ret_runs (fun _ _ => .inl rfl) e
    | cons i k =>
      cases i with
      | code c =>
        cases c with
        | ret => exact ret_runs (fun _ _ => .inr rfl) e
        | _ => exact Runs.step e (.refl _ _)
      | _ => exact Runs.step e (.refl _ _)
  | returning => exact Runs.step e (.refl _ _)
  | panicking c => exact Runs.step e (.refl _ _)
theorem run_runs {E : Env} : ∀ (n : Nat) (s : St), Runs E s (runQ E n s)
  | 0, s => .refl _ _
  | n + 1, s => by
    have hq : runQ E (n + 1) s = (match stepQ E s with | some s' => runQ E n s' | none => s) := rfl
    rw [hq]
    cases e : stepQ E s with
    | none => exact .refl _ _
    | some s' => exact (step_runs e).trans (run_runs n s')

theorem truthQ_from {E : Env} {f : FuncId} {n : Nat} {h : Hp} (e : truthQ E f n h = true) : ∃ m, truthFrom E f m h = true := by
  unfold truthQ at e
  split at e
  · rename_i s hs
    obtain ⟨m, hm⟩ := run_runs (E := E) n s
    refine ⟨m, ?_⟩
    unfold truthFrom
    rw [hs]
    simp only [hm]
    exact e
  · cases e
theorem truthQ_X {E : Env} {f : FuncId} {n : Nat} (e : truthQ E f n Hp.empty = true) : ∃ m, truthX E f m = true := by
  obtain ⟨m, hm⟩ := truthQ_from e
  exact ⟨m, hm⟩

end Go.X
